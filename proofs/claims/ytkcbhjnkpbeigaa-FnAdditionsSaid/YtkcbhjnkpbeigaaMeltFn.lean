/- Contracts of the functions that look for the least number, with their function literals. -/
import Derived.Test.YtkcbhjnkpbeigaaMelt
namespace Go.Proofs.Ytkcbhjnkpbeigaa.Ai
open Go Go.Proofs
set_option maxRecDepth 10000
set_option maxHeartbeats 4000000
set_option linter.unusedVariables false

theorem leastNumber_ok (f : FuncId) (c1 c2 : List PV) (p : Int → Bool) (hs : stays p) (hc : ∀ n, 0 ≤ n → n ≤ 1000000 → OkA Try.prog f [.int .i64 n, .iptr c1, .iptr c2] (· = .bool (p n))) :
    OkA Try.prog 77 [.fn f [.iptr c1, .iptr c2]] (· = ib (leastF p)) :=
  fn_intro envOk fieldsOk mixed Try.func77 rfl fun κ X Y L Q m hQ => by
    conv => cbv
    refine r_callB m.sX (hc 1000000 (by omega) (by omega)) (fun h1 => ?_) (fun h1 => ?_) <;> conv => cbv
    · refine r_loopF (α := Int × Int) m 24 [0, 4, 5] [] (fun σ => [(0, .fn f [.iptr c1, .iptr c2]), (4, .int .i64 σ.1), (5, .int .i64 σ.2)]) (fun σ => [])
        (fun σ => 0 ≤ σ.1 ∧ σ.1 ≤ σ.2 ∧ σ.2 ≤ 1000000 ∧ p σ.2 = true ∧ ∀ k, 0 ≤ k → k < σ.1 → p k = false) (fun σ => (σ.2 - σ.1).toNat) (0, 1000000) ?_ ?_ ?_ ?_
      · cbv
      · cbv
      · exact ⟨Int.le_refl _, by dsimp only; omega, Int.le_refl _, h1, fun k h0 hk => by dsimp only at hk; omega⟩
      rintro ⟨low, high⟩ ⟨b1, b2, b3, hp, hn⟩ E hE F hF
      dsimp only at b1 b2 b3 hp hn
      conv => cbv
      refine r_lss m.sX (fun h2 => ?_) (fun h2 => ?_) <;> conv => cbv
      · refine r_addf m.sX (by omega) (by omega) fun r1 hr1 => ?_
        conv => cbv
        refine r_divf m.sX (by omega) (by omega) fun middle hmiddle bmiddle => ?_
        conv => cbv
        refine r_callB m.sX (hc middle (by omega) (by omega)) (fun h3 => ?_) (fun h3 => ?_) <;> conv => cbv
        · refine hE _ (low, middle) ?_ ?_ ⟨b1, by dsimp only; omega, by dsimp only; omega, h3, hn⟩ (by dsimp only; omega)
          · cbv
          · cbv
        · refine r_addf m.sX (by omega) (by omega) fun r2 hr2 => ?_
          conv => cbv
          refine hE _ (r2, high) ?_ ?_ ⟨by dsimp only; omega, by dsimp only; omega, b3, hp, fun k h0 hk => not_before hs (by omega) h3 k h0 (by dsimp only at hk; omega)⟩ (by dsimp only; omega)
          · cbv
          · cbv
      · refine hF _ _ ?_
        conv => cbv
        refine hQ (.tup [.int .i64 low, .bool true]) ?_
        obtain rfl : low = high := by omega
        rw [leastF_some ⟨b1, b3, hp, hn⟩]; rfl
    · refine hQ (.tup [.int .i64 0, .bool false]) ?_
      rw [leastF_none fun n h0 hm => not_before hs (Int.le_refl _) h1 n h0 hm]; rfl

theorem tinC_ok (m_ : Melt) (b : Blend) (hm : okMelt m_ = true) (hb : okBlend b = true) (n : Int) (h0 : 0 ≤ n) (h1 : n ≤ 1000000) : OkA Try.prog 78 [.int .i64 n, .iptr (cMelt m_), .iptr (cBlend b)] (· = .bool (lowP m_.2.1 (gr m_) b.1 n)) := by
  obtain ⟨m_A, m_B, m_C⟩ := m_
  obtain ⟨bA, bB, bC, bD⟩ := b
  have bm := okMelt_spec hm
  have bb2 := okBlend_spec hb
  dsimp only at bm bb2
  exact fn_intro envOk fieldsOk mixed Try.func78 rfl fun κ X Y L Q m hQ => by
    conv => cbv
    refine r_draw m (by kernel_rfl) ?_
    conv => cbv
    conv => cbv
    refine r_addf m.sY (by omega) (by omega) fun r1 hr1 => ?_
    conv => cbv
    refine r_mulf m.sY (by first | omega | (subst_vars; omega)) (by first | omega | (subst_vars; omega)) fun r2 hr2 => ?_
    conv => cbv
    refine r_callFS (PV.int .i64) m.sY (grams_ok (m_A, m_B, m_C) hm) trivial fun all hall => ?_
    conv => cbv
    have ba : 0 ≤ all ∧ all ≤ 3000000 := by rw [hall]; exact gr_bound hm
    refine r_addf m.sY (by omega) (by omega) fun r3 hr3 => ?_
    conv => cbv
    have q1 := mul_bound (a := bA) (A := 1000) (b := r3) (B := 4000000) (by omega) (by omega) (by omega) (by omega)
    refine r_mulf m.sY (by first | omega | (subst_vars; omega)) (by first | omega | (subst_vars; omega)) fun r4 hr4 => ?_
    conv => cbv
    refine r_geq m.sY (fun h2 => ?_) (fun h2 => ?_) <;> conv => cbv
    · exact hQ _ (congrArg PV.bool (by rw [lowP, decide_eq_true (by rw [← hall, ← hr3, ← hr4]; dsimp only; omega)]))
    · exact hQ _ (congrArg PV.bool (by rw [lowP, decide_eq_false (by rw [← hall, ← hr3, ← hr4]; dsimp only; omega)]))
theorem antC_ok (m_ : Melt) (b : Blend) (hm : okMelt m_ = true) (hb : okBlend b = true) (n : Int) (h0 : 0 ≤ n) (h1 : n ≤ 1000000) : OkA Try.prog 83 [.int .i64 n, .iptr (cMelt m_), .iptr (cBlend b)] (· = .bool (lowP m_.2.2 (gr m_) b.2.2.1 n)) := by
  obtain ⟨m_A, m_B, m_C⟩ := m_
  obtain ⟨bA, bB, bC, bD⟩ := b
  have bm := okMelt_spec hm
  have bb2 := okBlend_spec hb
  dsimp only at bm bb2
  exact fn_intro envOk fieldsOk mixed Try.func83 rfl fun κ X Y L Q m hQ => by
    conv => cbv
    refine r_draw m (by kernel_rfl) ?_
    conv => cbv
    conv => cbv
    refine r_addf m.sY (by omega) (by omega) fun r1 hr1 => ?_
    conv => cbv
    refine r_mulf m.sY (by first | omega | (subst_vars; omega)) (by first | omega | (subst_vars; omega)) fun r2 hr2 => ?_
    conv => cbv
    refine r_callFS (PV.int .i64) m.sY (grams_ok (m_A, m_B, m_C) hm) trivial fun all hall => ?_
    conv => cbv
    have ba : 0 ≤ all ∧ all ≤ 3000000 := by rw [hall]; exact gr_bound hm
    refine r_addf m.sY (by omega) (by omega) fun r3 hr3 => ?_
    conv => cbv
    have q1 := mul_bound (a := bC) (A := 1000) (b := r3) (B := 4000000) (by omega) (by omega) (by omega) (by omega)
    refine r_mulf m.sY (by first | omega | (subst_vars; omega)) (by first | omega | (subst_vars; omega)) fun r4 hr4 => ?_
    conv => cbv
    refine r_geq m.sY (fun h2 => ?_) (fun h2 => ?_) <;> conv => cbv
    · exact hQ _ (congrArg PV.bool (by rw [lowP, decide_eq_true (by rw [← hall, ← hr3, ← hr4]; dsimp only; omega)]))
    · exact hQ _ (congrArg PV.bool (by rw [lowP, decide_eq_false (by rw [← hall, ← hr3, ← hr4]; dsimp only; omega)]))
theorem leadC_ok (m_ : Melt) (b : Blend) (hm : okMelt m_ = true) (hb : okBlend b = true) (n : Int) (h0 : 0 ≤ n) (h1 : n ≤ 1000000) : OkA Try.prog 84 [.int .i64 n, .iptr (cMelt m_), .iptr (cBlend b)] (· = .bool (highP m_.2.1 (gr m_) b.2.1 n && highP m_.2.2 (gr m_) b.2.2.2 n)) := by
  obtain ⟨m_A, m_B, m_C⟩ := m_
  obtain ⟨bA, bB, bC, bD⟩ := b
  have bm := okMelt_spec hm
  have bb2 := okBlend_spec hb
  dsimp only at bm bb2
  exact fn_intro envOk fieldsOk mixed Try.func84 rfl fun κ X Y L Q m hQ => by
    conv => cbv
    refine r_callF (PV.int .i64) m.sX (grams_ok (m_A, m_B, m_C) hm) fun all hall => ?_
    conv => cbv
    have ba : 0 ≤ all ∧ all ≤ 3000000 := by rw [hall]; exact gr_bound hm
    refine r_addf m.sX (by omega) (by omega) fun r3 hr3 => ?_
    conv => cbv
    have q1 := mul_bound (a := bB) (A := 1000) (b := r3) (B := 4000000) (by omega) (by omega) (by omega) (by omega)
    have q2 := mul_bound (a := bD) (A := 1000) (b := r3) (B := 4000000) (by omega) (by omega) (by omega) (by omega)
    refine r_mulf m.sX (by first | omega | (subst_vars; omega)) (by first | omega | (subst_vars; omega)) fun r1 hr1 => ?_
    conv => cbv
    refine r_mulf m.sX (by first | omega | (subst_vars; omega)) (by first | omega | (subst_vars; omega)) fun r2 hr2 => ?_
    conv => cbv
    refine r_leq m.sX (fun h2 => ?_) (fun h2 => ?_) <;> conv => cbv
    · refine r_mulf m.sX (by first | omega | (subst_vars; omega)) (by first | omega | (subst_vars; omega)) fun r4 hr4 => ?_
      conv => cbv
      refine r_mulf m.sX (by first | omega | (subst_vars; omega)) (by first | omega | (subst_vars; omega)) fun r5 hr5 => ?_
      conv => cbv
      refine r_leq m.sX (fun h3 => ?_) (fun h3 => ?_) <;> conv => cbv
      · exact hQ _ (congrArg PV.bool (by rw [highP, highP, ← hall, ← hr3, decide_eq_true (by dsimp only; omega), decide_eq_true (by dsimp only; omega)]; rfl))
      · exact hQ _ (congrArg PV.bool (by rw [highP, highP, ← hall, ← hr3, decide_eq_true (by dsimp only; omega), decide_eq_false (by dsimp only; omega)]; rfl))
    · exact hQ _ (congrArg PV.bool (by rw [highP, highP, ← hall, ← hr3, decide_eq_false (by dsimp only; omega)]; rfl))

theorem TinToAdd_ok (m_ : Melt) (b : Blend) : OkA Try.prog 10 [.agg (cMelt m_), .agg (cBlend b)] (· = ib (tinAns m_ b)) := by
  obtain ⟨m_A, m_B, m_C⟩ := m_
  obtain ⟨bA, bB, bC, bD⟩ := b
  exact fn_intro envOk fieldsOk mixed Try.func10 rfl fun κ X Y L Q m hQ => by
    conv => cbv
    refine r_callB m.sX (isMetal_ok (m_A, m_B, m_C)) (fun h1 => ?_) (fun h1 => ?_) <;> conv => cbv
    · refine r_callB m.sX (IsBlend_ok (bA, bB, bC, bD)) (fun h2 => ?_) (fun h2 => ?_) <;> conv => cbv
      · have fm := (okMetal_spec h1).1
        have fb := okBlend_spec h2
        dsimp only at fb
        refine r_callF ib m.sX (leastNumber_ok 78 (cMelt (m_A, m_B, m_C)) (cBlend (bA, bB, bC, bD)) (fun n => lowP m_B (gr (m_A, m_B, m_C)) bA n) (low_stays (by omega)) (tinC_ok (m_A, m_B, m_C) (bA, bB, bC, bD) fm h2)) fun v hv1 => ?_
        obtain ⟨v1, v2⟩ := v
        conv => cbv
        refine hQ (.tup [.int .i64 v1, .bool v2]) (show ib (v1, v2) = ib (tinAns (m_A, m_B, m_C) (bA, bB, bC, bD)) from ?_)
        rw [tinAns, h1, h2]
        exact congrArg ib (hv1.trans (low_least (by omega)).symm)
      · refine hQ (.tup [.int .i64 0, .bool false]) (show ib (0, false) = ib (tinAns (m_A, m_B, m_C) (bA, bB, bC, bD)) from ?_)
        rw [tinAns, h1, h2]; rfl
    · refine hQ (.tup [.int .i64 0, .bool false]) (show ib (0, false) = ib (tinAns (m_A, m_B, m_C) (bA, bB, bC, bD)) from ?_)
      rw [tinAns, h1]; rfl
theorem AntimonyToAdd_ok (m_ : Melt) (b : Blend) : OkA Try.prog 12 [.agg (cMelt m_), .agg (cBlend b)] (· = ib (antAns m_ b)) := by
  obtain ⟨m_A, m_B, m_C⟩ := m_
  obtain ⟨bA, bB, bC, bD⟩ := b
  exact fn_intro envOk fieldsOk mixed Try.func12 rfl fun κ X Y L Q m hQ => by
    conv => cbv
    refine r_callB m.sX (isMetal_ok (m_A, m_B, m_C)) (fun h1 => ?_) (fun h1 => ?_) <;> conv => cbv
    · refine r_callB m.sX (IsBlend_ok (bA, bB, bC, bD)) (fun h2 => ?_) (fun h2 => ?_) <;> conv => cbv
      · have fm := (okMetal_spec h1).1
        have fb := okBlend_spec h2
        dsimp only at fb
        refine r_callF ib m.sX (leastNumber_ok 83 (cMelt (m_A, m_B, m_C)) (cBlend (bA, bB, bC, bD)) (fun n => lowP m_C (gr (m_A, m_B, m_C)) bC n) (low_stays (by omega)) (antC_ok (m_A, m_B, m_C) (bA, bB, bC, bD) fm h2)) fun v hv1 => ?_
        obtain ⟨v1, v2⟩ := v
        conv => cbv
        refine hQ (.tup [.int .i64 v1, .bool v2]) (show ib (v1, v2) = ib (antAns (m_A, m_B, m_C) (bA, bB, bC, bD)) from ?_)
        rw [antAns, h1, h2]
        exact congrArg ib (hv1.trans (low_least (by omega)).symm)
      · refine hQ (.tup [.int .i64 0, .bool false]) (show ib (0, false) = ib (antAns (m_A, m_B, m_C) (bA, bB, bC, bD)) from ?_)
        rw [antAns, h1, h2]; rfl
    · refine hQ (.tup [.int .i64 0, .bool false]) (show ib (0, false) = ib (antAns (m_A, m_B, m_C) (bA, bB, bC, bD)) from ?_)
      rw [antAns, h1]; rfl
theorem LeadToAdd_ok (m_ : Melt) (b : Blend) : OkA Try.prog 14 [.agg (cMelt m_), .agg (cBlend b)] (· = ib (leadAns m_ b)) := by
  obtain ⟨m_A, m_B, m_C⟩ := m_
  obtain ⟨bA, bB, bC, bD⟩ := b
  exact fn_intro envOk fieldsOk mixed Try.func14 rfl fun κ X Y L Q m hQ => by
    conv => cbv
    refine r_callB m.sX (isMetal_ok (m_A, m_B, m_C)) (fun h1 => ?_) (fun h1 => ?_) <;> conv => cbv
    · refine r_callB m.sX (IsBlend_ok (bA, bB, bC, bD)) (fun h2 => ?_) (fun h2 => ?_) <;> conv => cbv
      · have fm := (okMetal_spec h1).1
        have fb := okBlend_spec h2
        dsimp only at fb
        refine r_callF ib m.sX (leastNumber_ok 84 (cMelt (m_A, m_B, m_C)) (cBlend (bA, bB, bC, bD)) (fun n => highP m_B (gr (m_A, m_B, m_C)) bB n && highP m_C (gr (m_A, m_B, m_C)) bD n) (both_stay (high_stays (by omega)) (high_stays (by omega))) (leadC_ok (m_A, m_B, m_C) (bA, bB, bC, bD) fm h2)) fun v hv1 => ?_
        obtain ⟨v1, v2⟩ := v
        conv => cbv
        refine hQ (.tup [.int .i64 v1, .bool v2]) (show ib (v1, v2) = ib (leadAns (m_A, m_B, m_C) (bA, bB, bC, bD)) from ?_)
        rw [leadAns, h1, h2]
        exact congrArg ib hv1
      · refine hQ (.tup [.int .i64 0, .bool false]) (show ib (0, false) = ib (leadAns (m_A, m_B, m_C) (bA, bB, bC, bD)) from ?_)
        rw [leadAns, h1, h2]; rfl
    · refine hQ (.tup [.int .i64 0, .bool false]) (show ib (0, false) = ib (leadAns (m_A, m_B, m_C) (bA, bB, bC, bD)) from ?_)
      rw [leadAns, h1]; rfl
end Go.Proofs.Ytkcbhjnkpbeigaa.Ai
