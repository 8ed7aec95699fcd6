/- Contracts of the functions on cases: boxes, slips, what mends them. -/
import Derived.Test.YtmlojdpfpccgoaaSlipLaw2
import Derived.Test.YtmlojdpfpccgoaaInk
namespace Go.Proofs.Ytmlojdpfpccgoaa.Ai
open Go Go.Proofs
set_option linter.unusedSimpArgs false
set_option maxRecDepth 10000
set_option maxHeartbeats 4000000
set_option linter.unusedVariables false
def cBox (x : Box) : List PV := [.str x.1, .int .i64 x.2.1, .int .i64 x.2.2.1, .int .i64 x.2.2.2]
def cMisput (x : Slip) : List PV := [.str x.1, .str x.2.1, .int .i64 x.2.2]
theorem flat_cBox : ∀ x, ∀ c ∈ cBox x, flat c := fun x c hc => by simp [cBox] at hc; rcases hc with rfl | rfl | rfl | rfl <;> trivial
theorem flat_cMisput : ∀ x, ∀ c ∈ cMisput x, flat c := fun x c hc => by simp [cMisput] at hc; rcases hc with rfl | rfl | rfl <;> trivial
theorem any_drop {α : Type} {p : α → Bool} {l : List α} {i : Nat} {x : α} (h : l[i]? = some x) : (l.drop i).any p = (p x || (l.drop (i + 1)).any p) := by
  have hi := (List.getElem?_eq_some_iff.1 h).1
  rw [List.drop_eq_getElem_cons hi, List.any_cons, (List.getElem?_eq_some_iff.1 h).2]
theorem takenB_drop {l : List Box} {i : Nat} {x : Box} (r c : Int) (h : l[i]? = some x) : takenB (l.drop i) r c = ((decide (x.2.1 = r) && decide (x.2.2.1 = c)) || takenB (l.drop (i + 1)) r c) := any_drop h
theorem boxB_eq {l : List Box} {i : Nat} {b : Box} (h : l[i]? = some b) : boxB l i = ((okBox b && riseB l i b) && !takenB (l.take i) b.2.1 b.2.2.1) := by unfold boxB; rw [h]
theorem rise_zero {l : List Box} {i : Nat} {b : Box} (h : i = 0) : riseB l i b = true := by subst h; rfl
theorem rise_pos {l : List Box} {i : Nat} {b x : Box} (h : 0 < i) (hx : l[i - 1]? = some x) : riseB l i b = Op.bytesLess x.1 b.1 := by
  cases i with
  | zero => omega
  | succ j =>
    have hx' : l[j]? = some x := by simpa using hx
    rw [riseB, hx']
theorem codes_take {a b : List Box} {i : Nat} {x y : Box} (hx : a[i]? = some x) (hy : b[i]? = some y) (h : codesB (a.take i) = codesB (b.take i)) (e : x.1 = y.1) : codesB (a.take (i + 1)) = codesB (b.take (i + 1)) := by
  unfold codesB at h ⊢
  rw [List.take_add_one, List.take_add_one, List.map_append, List.map_append, h, hx, hy]
  simp [e]
theorem codes_ne {a b : List Box} {i : Nat} {x y : Box} (hx : a[i]? = some x) (hy : b[i]? = some y) (e : x.1 ≠ y.1) : codesB a ≠ codesB b := fun h => e (by
  have := congrArg (fun l : List (List UInt8) => l[i]?) h
  simp only [codesB, List.getElem?_map, hx, hy, Option.map_some] at this
  exact Option.some.inj this)
theorem codes_len_ne {a b : List Box} (h : a.length ≠ b.length) : codesB a ≠ codesB b := fun e => h (by have := congrArg List.length e; simpa [codesB] using this)
theorem codes_all {a b : List Box} {i : Nat} (h : codesB (a.take i) = codesB (b.take i)) (h1 : a.length ≤ i) (h2 : b.length ≤ i) : codesB a = codesB b := by
  rwa [List.take_of_length_le h1, List.take_of_length_le h2] at h
theorem all_dropS {p : Slip → Bool} {l : List Slip} {i : Nat} {x : Slip} (h : l[i]? = some x) : (l.drop i).all p = (p x && (l.drop (i + 1)).all p) := by
  have hi := (List.getElem?_eq_some_iff.1 h).1
  rw [List.drop_eq_getElem_cons hi, List.all_cons, (List.getElem?_eq_some_iff.1 h).2]
theorem okSlip_yes {a b : List UInt8} {n : Int} (h1 : (lettersB a && inB a.length 1 3) = true) (h2 : (lettersB b && inB b.length 1 3) = true) (h3 : a ≠ b) (h4 : inB n 1 99 = true) : okSlip (a, b, n) = true := by
  unfold okSlip
  simp only [h1, h2, h4, decide_eq_false h3]; rfl
theorem okSlip_no {a b : List UInt8} {n : Int} (h : (lettersB a && inB a.length 1 3) = false ∨ (lettersB b && inB b.length 1 3) = false ∨ a = b ∨ inB n 1 99 = false) : okSlip (a, b, n) = false := by
  unfold okSlip
  rcases h with h | h | h | h
  · simp only [h]; rfl
  · simp only [h, Bool.and_false, Bool.false_and]
  · simp [h]
  · simp only [h, Bool.and_false]
theorem isPlace_ok (n : Int)  : OkA Try.prog 160 [.int .i64 n] (· = .bool (inB n 0 9)) :=
  fn_intro envOk fieldsOk mixed Try.func160 rfl fun κ X Y L Q m hQ => by
    conv => cbv
    refine r_callB m.sX (within_ok n 0 9) (fun h1 => ?_) (fun h1 => ?_) <;> conv => cbv
    · exact hQ _ (congrArg PV.bool (by exact h1.symm))   -- leaf 1
    · exact hQ _ (congrArg PV.bool (by exact h1.symm))   -- leaf 2

theorem IsBox_ok (b : Box)  : OkA Try.prog 154 [.agg (cBox b)] (· = .bool (okBox b)) := by
  obtain ⟨bA, bB, bC, bD⟩ := b
  try dsimp only at *
  exact fn_intro envOk fieldsOk mixed Try.func154 rfl fun κ X Y L Q m hQ => by
    conv => cbv
    refine r_callB m.sX (isCode_ok bA) (fun h1 => ?_) (fun h1 => ?_) <;> conv => cbv
    · refine r_callB m.sX (isPlace_ok bB) (fun h2 => ?_) (fun h2 => ?_) <;> conv => cbv
      · refine r_callB m.sX (isPlace_ok bC) (fun h3 => ?_) (fun h3 => ?_) <;> conv => cbv
        · refine r_callB m.sX (within_ok bD 0 9999) (fun h4 => ?_) (fun h4 => ?_) <;> conv => cbv
          · exact hQ _ (congrArg PV.bool (by simp [okBox, *]))   -- leaf 1
          · exact hQ _ (congrArg PV.bool (by simp [okBox, *]))   -- leaf 2
        · exact hQ _ (congrArg PV.bool (by simp [okBox, *]))   -- leaf 3
      · exact hQ _ (congrArg PV.bool (by simp [okBox, *]))   -- leaf 4
    · exact hQ _ (congrArg PV.bool (by simp [okBox, *]))   -- leaf 5

theorem isTaken_ok (l : List Box) (row : Int) (column : Int)  : OkA Try.prog 155 [.isl 4 (rows cBox l), .int .i64 row, .int .i64 column] (· = .bool (takenB l row column)) :=
  fn_intro envOk fieldsOk mixed Try.func155 rfl fun κ X Y L Q m hQ => by
    conv => cbv
    refine r_lenR m.sX fun n1 hn1 mn1 => ?_
    conv => cbv
    refine r_loopF (α := Int) m 26 [1, 2, 9, 10, 11] [] (fun σ => [(1, .int .i64 row), (2, .int .i64 column), (9, .isl 4 (rows cBox l)), (10, .int .i64 n1), (11, .int .i64 σ)]) (fun σ => [])
      (fun σ => (0 ≤ σ) ∧ (σ ≤ n1) ∧ (takenB l row column = takenB (l.drop σ.toNat) row column)) (fun σ => (n1 - σ).toNat) 0 ?_ ?_ ?_ ?_
    · cbv
    · cbv
    · exact ⟨(by (try dsimp only); first | omega | (simp only [List.length_nil]; omega) | (simp only [List.length_cons, List.length_nil]; omega)), (by (try dsimp only); first | omega | (simp only [List.length_nil]; omega) | (simp only [List.length_cons, List.length_nil]; omega)), (by (try dsimp only) <;> (rfl))⟩
    rintro i1 ⟨lo1, hi1, q⟩ E hE F hF
    conv => cbv
    refine r_lss m.sX (fun h1 => ?_) (fun h1 => ?_) <;> conv => cbv
    · refine r_index m.sX (by omega) (by omega) fun v hbA => ?_
      obtain ⟨bA, bB, bC, bD⟩ := v
      conv => cbv
      have hb := hbA
      have mb := get_mem hb
      have db := drop_cons hb
      have kb := take_snoc hb
      have jb : (i1 + 1).toNat = Int.toNat i1 + 1 := by omega
      have tb : takenB (l.drop i1.toNat) row column = ((decide (bB = row) && decide (bC = column)) || takenB (l.drop (i1.toNat + 1)) row column) := any_drop hb
      refine r_eql m.sX (fun h2 => ?_) (fun h2 => ?_) <;> conv => cbv
      · refine r_eql m.sX (fun h3 => ?_) (fun h3 => ?_) <;> conv => cbv
        · refine hF _ _ ?_
          conv => cbv
          exact hQ _ (congrArg PV.bool (by rw [q, tb]; simp [*]))   -- leaf 1
        · refine r_addf m.sX (by omega) (by omega) fun r1 hr1 => ?_
          conv => cbv
          try have tr1 : Int.toNat r1 = Int.toNat i1 + 1 := by omega
          refine hE _ r1 ?_ ?_ ⟨(by (try dsimp only); first | omega | (simp only [List.length_nil]; omega) | (simp only [List.length_cons, List.length_nil]; omega)), (by (try dsimp only); first | omega | (simp only [List.length_nil]; omega) | (simp only [List.length_cons, List.length_nil]; omega)), (by (try dsimp only) <;> (rw [q, tb, tr1]; simp [*]))⟩ (by first | omega | (dsimp only; omega))
          · cbv
          · cbv
      · refine r_addf m.sX (by omega) (by omega) fun r2 hr2 => ?_
        conv => cbv
        try have tr2 : Int.toNat r2 = Int.toNat i1 + 1 := by omega
        refine hE _ r2 ?_ ?_ ⟨(by (try dsimp only); first | omega | (simp only [List.length_nil]; omega) | (simp only [List.length_cons, List.length_nil]; omega)), (by (try dsimp only); first | omega | (simp only [List.length_nil]; omega) | (simp only [List.length_cons, List.length_nil]; omega)), (by (try dsimp only) <;> (rw [q, tb, tr2]; simp [*]))⟩ (by first | omega | (dsimp only; omega))
        · cbv
        · cbv
    · have dz_i1 := drop_end (xs := l) (i := Int.toNat i1) (by omega)
      have tz_i1 := take_end (xs := l) (i := Int.toNat i1) (by omega)
      refine hF _ _ ?_
      conv => cbv
      exact hQ _ (congrArg PV.bool (by rw [q, dz_i1]; rfl))   -- leaf 2

theorem IsCase_ok (l : List Box)  : OkA Try.prog 130 [.isl 4 (rows cBox l)] (· = .bool (caseB l)) :=
  fn_intro envOk fieldsOk mixed Try.func130 rfl fun κ X Y L Q m hQ => by
    conv => cbv
    refine r_lenR m.sX fun n1 hn1 mn1 => ?_
    conv => cbv
    refine r_loopF (α := Int) m 44 [0, 5, 6, 7] [] (fun σ => [(0, .isl 4 (rows cBox l)), (5, .isl 4 (rows cBox l)), (6, .int .i64 n1), (7, .int .i64 σ)]) (fun σ => [])
      (fun σ => (0 ≤ σ) ∧ (σ ≤ n1) ∧ (caseT l σ.toNat = true)) (fun σ => (n1 - σ).toNat) 0 ?_ ?_ ?_ ?_
    · cbv
    · cbv
    · exact ⟨(by (try dsimp only); first | omega | (simp only [List.length_nil]; omega) | (simp only [List.length_cons, List.length_nil]; omega)), (by (try dsimp only); first | omega | (simp only [List.length_nil]; omega) | (simp only [List.length_cons, List.length_nil]; omega)), (by (try dsimp only) <;> (rfl))⟩
    rintro i1 ⟨lo1, hi1, q⟩ E hE F hF
    conv => cbv
    refine r_lss m.sX (fun h1 => ?_) (fun h1 => ?_) <;> conv => cbv
    · refine r_index m.sX (by omega) (by omega) fun v hbA => ?_
      obtain ⟨bA, bB, bC, bD⟩ := v
      conv => cbv
      have hb := hbA
      have mb := get_mem hb
      have db := drop_cons hb
      have kb := take_snoc hb
      have jb : (i1 + 1).toNat = Int.toNat i1 + 1 := by omega
      have bq := boxB_eq hb
      try dsimp only at bq
      refine r_draw m (by kernel_rfl) ?_
      conv => cbv
      refine r_callBS m.sY (IsBox_ok (bA, bB, bC, bD)) (fun h2 => ?_) (fun h2 => ?_) <;> conv => cbv
      · refine r_gtr m.sY (fun h3 => ?_) (fun h3 => ?_) <;> conv => cbv
        · refine r_subf m.sY (by omega) (by omega) fun r1 hr1 => ?_
          conv => cbv
          refine r_index m.sY (by omega) (by omega) fun v hx1A => ?_
          obtain ⟨x1A, x1B, x1C, x1D⟩ := v
          conv => cbv
          have hx1 := hx1A
          have mx1 := get_mem hx1
          have rp : riseB l i1.toNat (bA, bB, bC, bD) = Op.bytesLess x1A bA := rise_pos (i := i1.toNat) (by omega) (by rw [show i1.toNat - 1 = r1.toNat from (by omega)]; exact hx1)
          refine r_sgeq m.sY (fun h4 => ?_) (fun h4 => ?_) <;> conv => cbv
          · refine hF _ _ ?_
            conv => cbv
            exact hQ _ (congrArg PV.bool (by exact (caseT_false (n := i1.toNat) (by omega) (by rw [bq, rp, h4]; simp)).symm))   -- leaf 1
          · refine r_islice (i := 0) (j := i1) m.sY (by omega) (by omega) (by omega) fun zs1 hzs1 => ?_   -- zs1 = l[None:i1]
            have lzs1 : (zs1.length : Int) = i1 - 0 := by rw [hzs1]; first | done | (simp; done) | (simp; omega)
            have zt : zs1 = l.take i1.toNat := by rw [hzs1]; simp
            conv => cbv
            refine r_callBS m.sY (isTaken_ok zs1 bB bC) (fun h5 => ?_) (fun h5 => ?_) <;> conv => cbv
            · refine hF _ _ ?_
              conv => cbv
              exact hQ _ (congrArg PV.bool (by exact (caseT_false (n := i1.toNat) (by omega) (by rw [bq, ← zt, h5]; simp)).symm))   -- leaf 2
            · refine r_addf m.sX (by omega) (by omega) fun r2 hr2 => ?_
              conv => cbv
              try have tr2 : Int.toNat r2 = Int.toNat i1 + 1 := by omega
              refine hE _ r2 ?_ ?_ ⟨(by (try dsimp only); first | omega | (simp only [List.length_nil]; omega) | (simp only [List.length_cons, List.length_nil]; omega)), (by (try dsimp only); first | omega | (simp only [List.length_nil]; omega) | (simp only [List.length_cons, List.length_nil]; omega)), (by (try dsimp only) <;> (first | (rw [tr2, caseT_step, q, bq, h2, rp, h4, ← zt, h5]; rfl) | (rw [tr2, caseT_step, q, bq, h2, rz, ← zt, h6]; rfl)))⟩ (by first | omega | (dsimp only; omega))
              · cbv
              · cbv
        · have rz : riseB l i1.toNat (bA, bB, bC, bD) = true := rise_zero (by omega)
          refine r_islice (i := 0) (j := i1) m.sY (by omega) (by omega) (by omega) fun zs2 hzs2 => ?_   -- zs2 = l[None:i1]
          have lzs2 : (zs2.length : Int) = i1 - 0 := by rw [hzs2]; first | done | (simp; done) | (simp; omega)
          have zt : zs2 = l.take i1.toNat := by rw [hzs2]; simp
          conv => cbv
          refine r_callBS m.sY (isTaken_ok zs2 bB bC) (fun h6 => ?_) (fun h6 => ?_) <;> conv => cbv
          · refine hF _ _ ?_
            conv => cbv
            exact hQ _ (congrArg PV.bool (by exact (caseT_false (n := i1.toNat) (by omega) (by rw [bq, ← zt, h6]; simp)).symm))   -- leaf 3
          · refine r_addf m.sX (by omega) (by omega) fun r3 hr3 => ?_
            conv => cbv
            try have tr3 : Int.toNat r3 = Int.toNat i1 + 1 := by omega
            refine hE _ r3 ?_ ?_ ⟨(by (try dsimp only); first | omega | (simp only [List.length_nil]; omega) | (simp only [List.length_cons, List.length_nil]; omega)), (by (try dsimp only); first | omega | (simp only [List.length_nil]; omega) | (simp only [List.length_cons, List.length_nil]; omega)), (by (try dsimp only) <;> (first | (rw [tr3, caseT_step, q, bq, h2, rp, h4, ← zt, h5]; rfl) | (rw [tr3, caseT_step, q, bq, h2, rz, ← zt, h6]; rfl)))⟩ (by first | omega | (dsimp only; omega))
            · cbv
            · cbv
      · refine hF _ _ ?_
        conv => cbv
        exact hQ _ (congrArg PV.bool (by exact (caseT_false (n := i1.toNat) (by omega) (by rw [bq, h2]; rfl)).symm))   -- leaf 4
    · have dz_i1 := drop_end (xs := l) (i := Int.toNat i1) (by omega)
      have tz_i1 := take_end (xs := l) (i := Int.toNat i1) (by omega)
      refine hF _ _ ?_
      conv => cbv
      refine r_lenR m.sX fun n2 hn2 mn2 => ?_
      conv => cbv
      refine r_callB m.sX (within_ok n2 1 32) (fun h7 => ?_) (fun h7 => ?_) <;> conv => cbv
      · exact hQ _ (congrArg PV.bool (by rw [caseB, show caseT l l.length = true by rw [← show i1.toNat = l.length by omega]; exact q, Bool.true_and, ← hn2]; exact h7.symm))   -- leaf 5
      · exact hQ _ (congrArg PV.bool (by rw [caseB, show caseT l l.length = true by rw [← show i1.toNat = l.length by omega]; exact q, Bool.true_and, ← hn2]; exact h7.symm))   -- leaf 6

theorem areAlike_ok (a : List Box) (b : List Box)  : OkA Try.prog 120 [.isl 4 (rows cBox a), .isl 4 (rows cBox b)] (· = .bool (alikeB a b)) :=
  fn_intro envOk fieldsOk mixed Try.func120 rfl fun κ X Y L Q m hQ => by
    conv => cbv
    refine r_callB m.sX (IsCase_ok a) (fun h1 => ?_) (fun h1 => ?_) <;> conv => cbv
    · refine r_callB m.sX (IsCase_ok b) (fun h2 => ?_) (fun h2 => ?_) <;> conv => cbv
      · refine r_lenR m.sX fun n1 hn1 mn1 => ?_
        conv => cbv
        refine r_lenR m.sX fun n2 hn2 mn2 => ?_
        conv => cbv
        refine r_neq m.sX (fun h3 => ?_) (fun h3 => ?_) <;> conv => cbv
        · exact hQ _ (congrArg PV.bool (by rw [alikeB, decide_eq_false (codes_len_ne (by omega)), Bool.and_false]))   -- leaf 1
        · refine r_lenR m.sX fun n3 hn3 mn3 => ?_
          conv => cbv
          refine r_loopF (α := Int) m 38 [1, 22, 23, 24] [] (fun σ => [(1, .isl 4 (rows cBox b)), (22, .isl 4 (rows cBox a)), (23, .int .i64 n3), (24, .int .i64 σ)]) (fun σ => [])
            (fun σ => (0 ≤ σ) ∧ (σ ≤ n3) ∧ (codesB (a.take σ.toNat) = codesB (b.take σ.toNat))) (fun σ => (n3 - σ).toNat) 0 ?_ ?_ ?_ ?_
          · cbv
          · cbv
          · exact ⟨(by (try dsimp only); first | omega | (simp only [List.length_nil]; omega) | (simp only [List.length_cons, List.length_nil]; omega)), (by (try dsimp only); first | omega | (simp only [List.length_nil]; omega) | (simp only [List.length_cons, List.length_nil]; omega)), (by (try dsimp only) <;> (rfl))⟩
          rintro i1 ⟨lo1, hi1, q⟩ E hE F hF
          conv => cbv
          refine r_lss m.sX (fun h4 => ?_) (fun h4 => ?_) <;> conv => cbv
          · refine r_index m.sX (by omega) (by omega) fun v hxA => ?_
            obtain ⟨xA, xB, xC, xD⟩ := v
            conv => cbv
            have hx := hxA
            have mx := get_mem hx
            have dx := drop_cons hx
            have kx := take_snoc hx
            have jx : (i1 + 1).toNat = Int.toNat i1 + 1 := by omega
            refine r_draw m (by kernel_rfl) ?_
            conv => cbv
            refine r_index m.sY (by omega) (by omega) fun v hx1A => ?_
            obtain ⟨x1A, x1B, x1C, x1D⟩ := v
            conv => cbv
            have hx1 := hx1A
            have mx1 := get_mem hx1
            have dx1 := drop_cons hx1
            have kx1 := take_snoc hx1
            have jx1 : (i1 + 1).toNat = Int.toNat i1 + 1 := by omega
            refine r_sneq m.sY (fun h5 => ?_) (fun h5 => ?_) <;> conv => cbv
            · refine hF _ _ ?_
              conv => cbv
              exact hQ _ (congrArg PV.bool (by rw [alikeB, decide_eq_false (codes_ne hx hx1 (fun e => h5 e.symm)), Bool.and_false]))   -- leaf 2
            · refine r_addf m.sX (by omega) (by omega) fun r1 hr1 => ?_
              conv => cbv
              try have tr1 : Int.toNat r1 = Int.toNat i1 + 1 := by omega
              refine hE _ r1 ?_ ?_ ⟨(by (try dsimp only); first | omega | (simp only [List.length_nil]; omega) | (simp only [List.length_cons, List.length_nil]; omega)), (by (try dsimp only); first | omega | (simp only [List.length_nil]; omega) | (simp only [List.length_cons, List.length_nil]; omega)), (by (try dsimp only) <;> (rw [tr1]; exact codes_take hx hx1 q h5.symm))⟩ (by first | omega | (dsimp only; omega))
              · cbv
              · cbv
          · have dz_i1 := drop_end (xs := a) (i := Int.toNat i1) (by omega)
            have tz_i1 := take_end (xs := a) (i := Int.toNat i1) (by omega)
            refine hF _ _ ?_
            conv => cbv
            exact hQ _ (congrArg PV.bool (by rw [alikeB, h1, h2, decide_eq_true (codes_all q (by omega) (by omega))]; rfl))   -- leaf 3
      · exact hQ _ (congrArg PV.bool (by rw [alikeB, h1, h2]; rfl))   -- leaf 4
    · exact hQ _ (congrArg PV.bool (by rw [alikeB, h1]; rfl))   -- leaf 5

theorem difference_ok (a : List Box) (b : List Box) (ca : caseB a = true) (cb : caseB b = true) (hl : a.length = b.length) : OkA Try.prog 128 [.isl 4 (rows cBox a), .isl 4 (rows cBox b)] (· = .fr 3 1 (rows cInt (diffL a b))) :=
  OkA.unnil 3 1 (fn_intro envOk fieldsOk mixed Try.func128 rfl fun κ X Y L Q m hQ => by
    have cl := case_len ca
    conv => cbv
    refine r_lenR m.sX fun n1 hn1 mn1 => ?_
    conv => cbv
    refine r_loopF (α := List Int × Int) m 29 [1, 9, 10, 11] [⟨5, 41, 3, 1, 0⟩] (fun σ => [(1, .isl 4 (rows cBox b)), (5, .osl 41 0), (9, .isl 4 (rows cBox a)), (10, .int .i64 n1), (11, .int .i64 σ.2)]) (fun σ => [(41, 0, .row 3 1 (rows cInt σ.1))])
      (fun σ => (0 ≤ σ.2) ∧ (σ.2 ≤ n1) ∧ (σ.1 = diffT a b σ.2.toNat) ∧ ((σ.1.length : Int) ≤ σ.2)) (fun σ => (n1 - σ.2).toNat) ([], 0) ?_ ?_ ?_ ?_
    · cbv
    · (try dsimp only); (try simp only [rows_cons, rows_nil]); cbv
    · exact ⟨(by (try dsimp only); first | omega | (simp only [List.length_nil]; omega) | (simp only [List.length_cons, List.length_nil]; omega)), (by (try dsimp only); first | omega | (simp only [List.length_nil]; omega) | (simp only [List.length_cons, List.length_nil]; omega)), (by (try dsimp only) <;> (rfl)), (by (try dsimp only) <;> first | omega | rfl | (simp [*]; done))⟩
    rintro ⟨list, i1⟩ ⟨lo1, hi1, q, ll⟩ E hE F hF
    dsimp only at lo1 hi1 q ll
    conv => cbv
    refine r_lss m.sX (fun h1 => ?_) (fun h1 => ?_) <;> conv => cbv
    · refine r_index m.sX (by omega) (by omega) fun v hxA => ?_
      obtain ⟨xA, xB, xC, xD⟩ := v
      conv => cbv
      have hx := hxA
      have mx := get_mem hx
      have dx := drop_cons hx
      have kx := take_snoc hx
      have jx : (i1 + 1).toNat = Int.toNat i1 + 1 := by omega
      have bx := okBox_cnt (case_box ca mx)
      try dsimp only at bx
      refine r_draw m (by kernel_rfl) ?_
      conv => cbv
      refine r_index m.sY (by omega) (by omega) fun v hx1A => ?_
      obtain ⟨x1A, x1B, x1C, x1D⟩ := v
      conv => cbv
      have hx1 := hx1A
      have mx1 := get_mem hx1
      have dx1 := drop_cons hx1
      have kx1 := take_snoc hx1
      have jx1 : (i1 + 1).toNat = Int.toNat i1 + 1 := by omega
      have bx1 := okBox_cnt (case_box cb mx1)
      try dsimp only at bx1
      refine r_subf m.sY (by omega) (by omega) fun r1 hr1 => ?_
      conv => cbv
      refine r_append1 (r1) m.sY rfl (by first | omega | (dsimp only; omega)) (by first | omega | (dsimp only; omega)) fun list_2 hlist_2 => ?_
      conv => cbv
      have llist_2 : (list_2.length : Int) = list.length + 1 := by rw [hlist_2]; first | done | (simp; done) | (simp; omega)
      refine r_addf m.sX (by omega) (by omega) fun r2 hr2 => ?_
      conv => cbv
      try have tr2 : Int.toNat r2 = Int.toNat i1 + 1 := by omega
      refine hE _ (list_2, r2) ?_ ?_ ⟨(by (try dsimp only); first | omega | (simp only [List.length_nil]; omega) | (simp only [List.length_cons, List.length_nil]; omega)), (by (try dsimp only); first | omega | (simp only [List.length_nil]; omega) | (simp only [List.length_cons, List.length_nil]; omega)), (by (try dsimp only) <;> (rw [hlist_2, q, tr2, diffT_step hx hx1, hr1])), (by (try dsimp only) <;> first | omega | rfl | (simp [*]; done) | (rw [ll]; simp [*]; done))⟩ (by first | omega | (dsimp only; omega))
      · cbv
      · cbv
    · have dz_i1 := drop_end (xs := a) (i := Int.toNat i1) (by omega)
      have tz_i1 := take_end (xs := a) (i := Int.toNat i1) (by omega)
      refine hF _ _ ?_
      conv => cbv
      exact hQ (.fr 3 1 (rows cInt list)) (Eq.trans (by first | rfl | (simp only [lb, lbI, rows_cons, rows_nil, unnilT, unnil, unnilTI, unnilI]; done) | (simp only [lb, lbI, rows_cons, rows_nil, unnilT, unnil, unnilTI, unnilI]; rfl)) (congrArg (fun l => PV.fr 3 1 (rows cInt l)) (show list = diffL a b from by rw [q, show i1.toNat = a.length by omega]; rfl))))   -- leaf 1

theorem CaseDifference_ok (a : List Box) (b : List Box)  : OkA Try.prog 60 [.isl 4 (rows cBox a), .isl 4 (rows cBox b)] (· = (lb 3 1 cInt) (diffAns a b)) :=
  OkA.unnil 3 1 (fn_intro envOk fieldsOk mixed Try.func60 rfl fun κ X Y L Q m hQ => by
    conv => cbv
    refine r_callB m.sX (areAlike_ok a b) (fun h1 => ?_) (fun h1 => ?_) <;> conv => cbv
    · obtain ⟨ca, cb, cc, cl⟩ := alikeB_spec h1
      refine r_callF (fun l => PV.fr _ _ (rows _ l)) m.sX (difference_ok a b (by first | rfl | assumption | omega | (simp only [List.length_append, List.length_cons, List.length_nil] at *; omega)) (by first | rfl | assumption | omega | (simp only [List.length_append, List.length_cons, List.length_nil] at *; omega)) (by first | rfl | assumption | omega | (simp only [List.length_append, List.length_cons, List.length_nil] at *; omega))) fun v1 hv1 => ?_
      conv => cbv
      exact hQ (.tup [.fr 3 1 (rows cInt v1), .bool true]) (Eq.trans (by first | rfl | (simp only [lb, lbI, rows_cons, rows_nil, unnilT, unnil, unnilTI, unnilI]; done) | (simp only [lb, lbI, rows_cons, rows_nil, unnilT, unnil, unnilTI, unnilI]; rfl)) (congrArg ((lb 3 1 cInt)) (show (v1, true) = diffAns a b from by rw [diffAns, if_pos h1, hv1])))   -- leaf 1
    · exact hQ (.tup [.fr 3 1 [], .bool false]) (Eq.trans (by first | rfl | (simp only [lb, lbI, rows_cons, rows_nil, unnilT, unnil, unnilTI, unnilI]; done) | (simp only [lb, lbI, rows_cons, rows_nil, unnilT, unnil, unnilTI, unnilI]; rfl)) (congrArg ((lb 3 1 cInt)) (show ([], false) = diffAns a b from by rw [diffAns, if_neg (by rw [h1]; simp)]))))   -- leaf 2

theorem areSlips_ok (slips : List Slip)  : OkA Try.prog 131 [.isl 3 (rows cMisput slips)] (· = .bool (slipsB slips)) :=
  fn_intro envOk fieldsOk mixed Try.func131 rfl fun κ X Y L Q m hQ => by
    conv => cbv
    refine r_lenR m.sX fun n1 hn1 mn1 => ?_
    conv => cbv
    refine r_loopF (α := Int) m 38 [0, 5, 6, 7] [] (fun σ => [(0, .isl 3 (rows cMisput slips)), (5, .isl 3 (rows cMisput slips)), (6, .int .i64 n1), (7, .int .i64 σ)]) (fun σ => [])
      (fun σ => (0 ≤ σ) ∧ (σ ≤ n1) ∧ (slips.all okSlip = (slips.drop σ.toNat).all okSlip)) (fun σ => (n1 - σ).toNat) 0 ?_ ?_ ?_ ?_
    · cbv
    · cbv
    · exact ⟨(by (try dsimp only); first | omega | (simp only [List.length_nil]; omega) | (simp only [List.length_cons, List.length_nil]; omega)), (by (try dsimp only); first | omega | (simp only [List.length_nil]; omega) | (simp only [List.length_cons, List.length_nil]; omega)), (by (try dsimp only) <;> (rfl))⟩
    rintro i1 ⟨lo1, hi1, q⟩ E hE F hF
    conv => cbv
    refine r_lss m.sX (fun h1 => ?_) (fun h1 => ?_) <;> conv => cbv
    · refine r_index m.sX (by omega) (by omega) fun v hxA => ?_
      obtain ⟨xA, xB, xC⟩ := v
      conv => cbv
      have hx := hxA
      have mx := get_mem hx
      have dx := drop_cons hx
      have kx := take_snoc hx
      have jx : (i1 + 1).toNat = Int.toNat i1 + 1 := by omega
      have ad : (slips.drop i1.toNat).all okSlip = (okSlip (xA, xB, xC) && (slips.drop (i1.toNat + 1)).all okSlip) := all_dropS hx
      refine r_callB m.sX (isCode_ok xA) (fun h2 => ?_) (fun h2 => ?_) <;> conv => cbv
      · refine r_callB m.sX (isCode_ok xB) (fun h3 => ?_) (fun h3 => ?_) <;> conv => cbv
        · refine r_seql m.sX (fun h4 => ?_) (fun h4 => ?_) <;> conv => cbv
          · refine hF _ _ ?_
            conv => cbv
            exact hQ _ (congrArg PV.bool (by first | (rw [slipsB, q, ad, okSlip_no (by first | exact .inl (by assumption) | exact .inr (.inl (by assumption)) | exact .inr (.inr (.inl (by assumption))) | exact .inr (.inr (.inr (by assumption))))]; rfl) | (rw [slipsB, q, dz_i1, decide_eq_true (by omega)]; rfl) | (rw [slipsB, q, dz_i1, decide_eq_false (by omega)]; rfl)))   -- leaf 1
          · refine r_callB m.sX (within_ok xC 1 99) (fun h5 => ?_) (fun h5 => ?_) <;> conv => cbv
            · refine r_addf m.sX (by omega) (by omega) fun r1 hr1 => ?_
              conv => cbv
              try have tr1 : Int.toNat r1 = Int.toNat i1 + 1 := by omega
              refine hE _ r1 ?_ ?_ ⟨(by (try dsimp only); first | omega | (simp only [List.length_nil]; omega) | (simp only [List.length_cons, List.length_nil]; omega)), (by (try dsimp only); first | omega | (simp only [List.length_nil]; omega) | (simp only [List.length_cons, List.length_nil]; omega)), (by (try dsimp only) <;> (rw [q, ad, okSlip_yes (by assumption) (by assumption) (by assumption) (by assumption), Bool.true_and, tr1]))⟩ (by first | omega | (dsimp only; omega))
              · cbv
              · cbv
            · refine hF _ _ ?_
              conv => cbv
              exact hQ _ (congrArg PV.bool (by first | (rw [slipsB, q, ad, okSlip_no (by first | exact .inl (by assumption) | exact .inr (.inl (by assumption)) | exact .inr (.inr (.inl (by assumption))) | exact .inr (.inr (.inr (by assumption))))]; rfl) | (rw [slipsB, q, dz_i1, decide_eq_true (by omega)]; rfl) | (rw [slipsB, q, dz_i1, decide_eq_false (by omega)]; rfl)))   -- leaf 2
        · refine hF _ _ ?_
          conv => cbv
          exact hQ _ (congrArg PV.bool (by first | (rw [slipsB, q, ad, okSlip_no (by first | exact .inl (by assumption) | exact .inr (.inl (by assumption)) | exact .inr (.inr (.inl (by assumption))) | exact .inr (.inr (.inr (by assumption))))]; rfl) | (rw [slipsB, q, dz_i1, decide_eq_true (by omega)]; rfl) | (rw [slipsB, q, dz_i1, decide_eq_false (by omega)]; rfl)))   -- leaf 3
      · refine hF _ _ ?_
        conv => cbv
        exact hQ _ (congrArg PV.bool (by first | (rw [slipsB, q, ad, okSlip_no (by first | exact .inl (by assumption) | exact .inr (.inl (by assumption)) | exact .inr (.inr (.inl (by assumption))) | exact .inr (.inr (.inr (by assumption))))]; rfl) | (rw [slipsB, q, dz_i1, decide_eq_true (by omega)]; rfl) | (rw [slipsB, q, dz_i1, decide_eq_false (by omega)]; rfl)))   -- leaf 4
    · have dz_i1 := drop_end (xs := slips) (i := Int.toNat i1) (by omega)
      have tz_i1 := take_end (xs := slips) (i := Int.toNat i1) (by omega)
      refine hF _ _ ?_
      conv => cbv
      refine r_lenR m.sX fun n2 hn2 mn2 => ?_
      conv => cbv
      refine r_leq m.sX (fun h6 => ?_) (fun h6 => ?_) <;> conv => cbv
      · exact hQ _ (congrArg PV.bool (by first | (rw [slipsB, q, ad, okSlip_no (by first | exact .inl (by assumption) | exact .inr (.inl (by assumption)) | exact .inr (.inr (.inl (by assumption))) | exact .inr (.inr (.inr (by assumption))))]; rfl) | (rw [slipsB, q, dz_i1, decide_eq_true (by omega)]; rfl) | (rw [slipsB, q, dz_i1, decide_eq_false (by omega)]; rfl)))   -- leaf 5
      · exact hQ _ (congrArg PV.bool (by first | (rw [slipsB, q, ad, okSlip_no (by first | exact .inl (by assumption) | exact .inr (.inl (by assumption)) | exact .inr (.inr (.inl (by assumption))) | exact .inr (.inr (.inr (by assumption))))]; rfl) | (rw [slipsB, q, dz_i1, decide_eq_true (by omega)]; rfl) | (rw [slipsB, q, dz_i1, decide_eq_false (by omega)]; rfl)))   -- leaf 6

theorem boxAt_ok (l : List Box) (code : List UInt8)  : OkA Try.prog 132 [.isl 4 (rows cBox l), .str code] (· = .int .i64 (findB code l 0)) :=
  fn_intro envOk fieldsOk mixed Try.func132 rfl fun κ X Y L Q m hQ => by
    conv => cbv
    refine r_lenR m.sX fun n1 hn1 mn1 => ?_
    conv => cbv
    refine r_loopF (α := Int) m 20 [1, 7, 8, 9] [] (fun σ => [(1, .str code), (7, .isl 4 (rows cBox l)), (8, .int .i64 n1), (9, .int .i64 σ)]) (fun σ => [])
      (fun σ => (0 ≤ σ) ∧ (σ ≤ n1) ∧ (findB code l 0 = findB code (l.drop σ.toNat) σ)) (fun σ => (n1 - σ).toNat) 0 ?_ ?_ ?_ ?_
    · cbv
    · cbv
    · exact ⟨(by (try dsimp only); first | omega | (simp only [List.length_nil]; omega) | (simp only [List.length_cons, List.length_nil]; omega)), (by (try dsimp only); first | omega | (simp only [List.length_nil]; omega) | (simp only [List.length_cons, List.length_nil]; omega)), (by (try dsimp only) <;> (rfl))⟩
    rintro i1 ⟨lo1, hi1, q⟩ E hE F hF
    conv => cbv
    refine r_lss m.sX (fun h1 => ?_) (fun h1 => ?_) <;> conv => cbv
    · refine r_index m.sX (by omega) (by omega) fun v hbA => ?_
      obtain ⟨bA, bB, bC, bD⟩ := v
      conv => cbv
      have hb := hbA
      have mb := get_mem hb
      have db := drop_cons hb
      have kb := take_snoc hb
      have jb : (i1 + 1).toNat = Int.toNat i1 + 1 := by omega
      have fd := findB_drop (c := code) i1 hb
      try dsimp only at fd
      refine r_seql m.sX (fun h2 => ?_) (fun h2 => ?_) <;> conv => cbv
      · refine hF _ _ ?_
        conv => cbv
        exact hQ (.int .i64 i1) (Eq.trans (by first | rfl | (simp only [lb, lbI, rows_cons, rows_nil, unnilT, unnil, unnilTI, unnilI]; done) | (simp only [lb, lbI, rows_cons, rows_nil, unnilT, unnil, unnilTI, unnilI]; rfl)) (congrArg (PV.int .i64) (show i1 = findB code l 0 from by rw [q, fd, if_pos (by assumption)])))   -- leaf 1
      · refine r_addf m.sX (by omega) (by omega) fun r1 hr1 => ?_
        conv => cbv
        try have tr1 : Int.toNat r1 = Int.toNat i1 + 1 := by omega
        refine hE _ r1 ?_ ?_ ⟨(by (try dsimp only); first | omega | (simp only [List.length_nil]; omega) | (simp only [List.length_cons, List.length_nil]; omega)), (by (try dsimp only); first | omega | (simp only [List.length_nil]; omega) | (simp only [List.length_cons, List.length_nil]; omega)), (by (try dsimp only) <;> (rw [q, fd, if_neg (by assumption), tr1, show r1 = i1 + 1 by omega]))⟩ (by first | omega | (dsimp only; omega))
        · cbv
        · cbv
    · have dz_i1 := drop_end (xs := l) (i := Int.toNat i1) (by omega)
      have tz_i1 := take_end (xs := l) (i := Int.toNat i1) (by omega)
      refine hF _ _ ?_
      conv => cbv
      exact hQ (.int .i64 (-1)) (Eq.trans (by first | rfl | (simp only [lb, lbI, rows_cons, rows_nil, unnilT, unnil, unnilTI, unnilI]; done) | (simp only [lb, lbI, rows_cons, rows_nil, unnilT, unnil, unnilTI, unnilI]; rfl)) (congrArg (PV.int .i64) (show -1 = findB code l 0 from by rw [q, dz_i1]; rfl)))   -- leaf 2

theorem caBox_ok (b : Box)  : OkA Try.prog 157 [.agg (cBox b)] (· = .bool (okBox b)) := by
  obtain ⟨bA, bB, bC, bD⟩ := b
  try dsimp only at *
  exact fn_intro envOk fieldsOk mixed Try.func157 rfl fun κ X Y L Q m hQ => by
    conv => cbv
    refine r_callB m.sX (tyLetters_ok bA 3) (fun h1 => ?_) (fun h1 => ?_) <;> conv => cbv
    · refine r_callB m.sX (l1In_ok bB 0 9) (fun h2 => ?_) (fun h2 => ?_) <;> conv => cbv
      · refine r_callB m.sX (l1In_ok bC 0 9) (fun h3 => ?_) (fun h3 => ?_) <;> conv => cbv
        · refine r_callB m.sX (l1In_ok bD 0 9999) (fun h4 => ?_) (fun h4 => ?_) <;> conv => cbv
          · exact hQ _ (congrArg PV.bool (by simp [okBox, *]))   -- leaf 1
          · exact hQ _ (congrArg PV.bool (by simp [okBox, *]))   -- leaf 2
        · exact hQ _ (congrArg PV.bool (by simp [okBox, *]))   -- leaf 3
      · exact hQ _ (congrArg PV.bool (by simp [okBox, *]))   -- leaf 4
    · exact hQ _ (congrArg PV.bool (by simp [okBox, *]))   -- leaf 5

theorem caGood_ok (l : List Box)  : OkA Try.prog 133 [.isl 4 (rows cBox l)] (· = .bool (caseB l)) :=
  fn_intro envOk fieldsOk mixed Try.func133 rfl fun κ X Y L Q m hQ => by
    conv => cbv
    refine r_lenR m.sX fun n1 hn1 mn1 => ?_
    conv => cbv
    refine r_loopF (α := Int) m 57 [0, 7, 8, 9] [] (fun σ => [(0, .isl 4 (rows cBox l)), (7, .isl 4 (rows cBox l)), (8, .int .i64 n1), (9, .int .i64 σ)]) (fun σ => [])
      (fun σ => (0 ≤ σ) ∧ (σ ≤ n1) ∧ (caseT l σ.toNat = true)) (fun σ => (n1 - σ).toNat) 0 ?_ ?_ ?_ ?_
    · cbv
    · cbv
    · exact ⟨(by (try dsimp only); first | omega | (simp only [List.length_nil]; omega) | (simp only [List.length_cons, List.length_nil]; omega)), (by (try dsimp only); first | omega | (simp only [List.length_nil]; omega) | (simp only [List.length_cons, List.length_nil]; omega)), (by (try dsimp only) <;> (rfl))⟩
    rintro i1 ⟨lo1, hi1, q⟩ E hE F hF
    conv => cbv
    refine r_lss m.sX (fun h1 => ?_) (fun h1 => ?_) <;> conv => cbv
    · refine r_index m.sX (by omega) (by omega) fun v hbA => ?_
      obtain ⟨bA, bB, bC, bD⟩ := v
      conv => cbv
      have hb := hbA
      have mb := get_mem hb
      have db := drop_cons hb
      have kb := take_snoc hb
      have jb : (i1 + 1).toNat = Int.toNat i1 + 1 := by omega
      have bq := boxB_eq hb
      try dsimp only at bq
      refine r_draw m (by kernel_rfl) ?_
      conv => cbv
      refine r_callBS m.sY (caBox_ok (bA, bB, bC, bD)) (fun h2 => ?_) (fun h2 => ?_) <;> conv => cbv
      · refine r_gtr m.sY (fun h3 => ?_) (fun h3 => ?_) <;> conv => cbv
        · refine r_subf m.sY (by omega) (by omega) fun r1 hr1 => ?_
          conv => cbv
          refine r_index m.sY (by omega) (by omega) fun v hx1A => ?_
          obtain ⟨x1A, x1B, x1C, x1D⟩ := v
          conv => cbv
          have hx1 := hx1A
          have mx1 := get_mem hx1
          have rp : riseB l i1.toNat (bA, bB, bC, bD) = Op.bytesLess x1A bA := rise_pos (i := i1.toNat) (by omega) (by rw [show i1.toNat - 1 = r1.toNat from (by omega)]; exact hx1)
          refine r_sgeq m.sY (fun h4 => ?_) (fun h4 => ?_) <;> conv => cbv
          · refine hF _ _ ?_
            conv => cbv
            exact hQ _ (congrArg PV.bool (by exact (caseT_false (n := i1.toNat) (by omega) (by rw [bq, h2, rp, h4]; rfl)).symm))   -- leaf 1
          · refine r_islice (i := 0) (j := i1) m.sX (by omega) (by omega) (by omega) fun zs1 hzs1 => ?_   -- zs1 = l[None:i1]
            have lzs1 : (zs1.length : Int) = i1 - 0 := by rw [hzs1]; first | done | (simp; done) | (simp; omega)
            have zt : zs1 = l.take i1.toNat := by rw [hzs1]; simp
            conv => cbv
            refine r_lenR m.sX fun n2 hn2 mn2 => ?_
            conv => cbv
            refine r_loopF (α := Int) m 57 [0, 7, 8, 9, 34, 35, 36] [⟨4, 33, 0, 0, 0⟩] (fun σ => [(0, .isl 4 (rows cBox l)), (4, .optr 33 0 4 0 0), (7, .isl 4 (rows cBox l)), (8, .int .i64 n1), (9, .int .i64 i1), (34, .isl 4 (rows cBox zs1)), (35, .int .i64 n2), (36, .int .i64 σ)]) (fun σ => [(33, 0, .box [.str bA, .int .i64 bB, .int .i64 bC, .int .i64 bD])])
              (fun σ => (0 ≤ σ) ∧ (σ ≤ n2) ∧ (takenB zs1 bB bC = takenB (zs1.drop σ.toNat) bB bC)) (fun σ => (n2 - σ).toNat) 0 ?_ ?_ ?_ ?_
            · cbv
            · cbv
            · exact ⟨(by (try dsimp only); first | omega | (simp only [List.length_nil]; omega) | (simp only [List.length_cons, List.length_nil]; omega)), (by (try dsimp only); first | omega | (simp only [List.length_nil]; omega) | (simp only [List.length_cons, List.length_nil]; omega)), (by (try dsimp only) <;> (rfl))⟩
            rintro i2 ⟨lo2, hi2, q2⟩ E2 hE2 F2 hF2
            conv => cbv
            refine r_lss m.sX (fun h5 => ?_) (fun h5 => ?_) <;> conv => cbv
            · refine r_index m.sX (by omega) (by omega) fun v hxA => ?_
              obtain ⟨xA, xB, xC, xD⟩ := v
              conv => cbv
              have hx := hxA
              have mx := get_mem hx
              have dx := drop_cons hx
              have kx := take_snoc hx
              have jx : (i2 + 1).toNat = Int.toNat i2 + 1 := by omega
              have tb := takenB_drop bB bC hx
              try dsimp only at tb
              refine r_eql m.sX (fun h6 => ?_) (fun h6 => ?_) <;> conv => cbv
              · refine r_eql m.sX (fun h7 => ?_) (fun h7 => ?_) <;> conv => cbv
                · refine hF2 _ _ ?_
                  conv => cbv
                  refine hF _ _ ?_
                  conv => cbv
                  exact hQ _ (congrArg PV.bool (by exact (caseT_false (n := i1.toNat) (by omega) (by rw [bq, ← zt, q2, tb, decide_eq_true (by assumption), decide_eq_true (by assumption)]; simp)).symm))   -- leaf 2
                · refine r_addf m.sX (by omega) (by omega) fun r2 hr2 => ?_
                  conv => cbv
                  try have tr2 : Int.toNat r2 = Int.toNat i2 + 1 := by omega
                  refine hE2 _ r2 ?_ ?_ ⟨(by (try dsimp only); first | omega | (simp only [List.length_nil]; omega) | (simp only [List.length_cons, List.length_nil]; omega)), (by (try dsimp only); first | omega | (simp only [List.length_nil]; omega) | (simp only [List.length_cons, List.length_nil]; omega)), (by (try dsimp only) <;> (first | (rw [q2, tb, decide_eq_false (by assumption), Bool.false_and, Bool.false_or, tr2]; done) | (rw [q2, tb, decide_eq_true (by assumption), decide_eq_false (by assumption), Bool.and_false, Bool.false_or, tr2]; done)))⟩ (by first | omega | (dsimp only; omega))
                  · cbv
                  · cbv
              · refine r_addf m.sX (by omega) (by omega) fun r3 hr3 => ?_
                conv => cbv
                try have tr3 : Int.toNat r3 = Int.toNat i2 + 1 := by omega
                refine hE2 _ r3 ?_ ?_ ⟨(by (try dsimp only); first | omega | (simp only [List.length_nil]; omega) | (simp only [List.length_cons, List.length_nil]; omega)), (by (try dsimp only); first | omega | (simp only [List.length_nil]; omega) | (simp only [List.length_cons, List.length_nil]; omega)), (by (try dsimp only) <;> (first | (rw [q2, tb, decide_eq_false (by assumption), Bool.false_and, Bool.false_or, tr3]; done) | (rw [q2, tb, decide_eq_true (by assumption), decide_eq_false (by assumption), Bool.and_false, Bool.false_or, tr3]; done)))⟩ (by first | omega | (dsimp only; omega))
                · cbv
                · cbv
            · have dz_i2 := drop_end (xs := zs1) (i := Int.toNat i2) (by omega)
              have tz_i2 := take_end (xs := zs1) (i := Int.toNat i2) (by omega)
              refine hF2 _ _ ?_
              conv => cbv
              refine r_addf m.sX (by omega) (by omega) fun r4 hr4 => ?_
              conv => cbv
              try have tr4 : Int.toNat r4 = Int.toNat i1 + 1 := by omega
              refine hE _ r4 ?_ ?_ ⟨(by (try dsimp only); first | omega | (simp only [List.length_nil]; omega) | (simp only [List.length_cons, List.length_nil]; omega)), (by (try dsimp only); first | omega | (simp only [List.length_nil]; omega) | (simp only [List.length_cons, List.length_nil]; omega)), (by (try dsimp only) <;> (first | (rw [tr4, caseT_step, q, bq, h2, rp, h4, ← zt, q2, dz_i2]; rfl) | (rw [tr4, caseT_step, q, bq, h2, rz, ← zt, q2, dz_i3]; rfl)))⟩ (by first | omega | (dsimp only; omega))
              · cbv
              · cbv
        · have rz : riseB l i1.toNat (bA, bB, bC, bD) = true := rise_zero (by omega)
          refine r_islice (i := 0) (j := i1) m.sX (by omega) (by omega) (by omega) fun zs2 hzs2 => ?_   -- zs2 = l[None:i1]
          have lzs2 : (zs2.length : Int) = i1 - 0 := by rw [hzs2]; first | done | (simp; done) | (simp; omega)
          have zt : zs2 = l.take i1.toNat := by rw [hzs2]; simp
          conv => cbv
          refine r_lenR m.sX fun n3 hn3 mn3 => ?_
          conv => cbv
          refine r_loopF (α := Int) m 57 [0, 7, 8, 9, 34, 35, 36] [⟨4, 33, 0, 0, 0⟩] (fun σ => [(0, .isl 4 (rows cBox l)), (4, .optr 33 0 4 0 0), (7, .isl 4 (rows cBox l)), (8, .int .i64 n1), (9, .int .i64 i1), (34, .isl 4 (rows cBox zs2)), (35, .int .i64 n3), (36, .int .i64 σ)]) (fun σ => [(33, 0, .box [.str bA, .int .i64 bB, .int .i64 bC, .int .i64 bD])])
            (fun σ => (0 ≤ σ) ∧ (σ ≤ n3) ∧ (takenB zs2 bB bC = takenB (zs2.drop σ.toNat) bB bC)) (fun σ => (n3 - σ).toNat) 0 ?_ ?_ ?_ ?_
          · cbv
          · cbv
          · exact ⟨(by (try dsimp only); first | omega | (simp only [List.length_nil]; omega) | (simp only [List.length_cons, List.length_nil]; omega)), (by (try dsimp only); first | omega | (simp only [List.length_nil]; omega) | (simp only [List.length_cons, List.length_nil]; omega)), (by (try dsimp only) <;> (rfl))⟩
          rintro i3 ⟨lo3, hi3, q2⟩ E2 hE2 F2 hF2
          conv => cbv
          refine r_lss m.sX (fun h8 => ?_) (fun h8 => ?_) <;> conv => cbv
          · refine r_index m.sX (by omega) (by omega) fun v hx_2A => ?_
            obtain ⟨x_2A, x_2B, x_2C, x_2D⟩ := v
            conv => cbv
            have hx_2 := hx_2A
            have mx_2 := get_mem hx_2
            have dx_2 := drop_cons hx_2
            have kx_2 := take_snoc hx_2
            have jx_2 : (i3 + 1).toNat = Int.toNat i3 + 1 := by omega
            have tb := takenB_drop bB bC hx_2
            try dsimp only at tb
            refine r_eql m.sX (fun h9 => ?_) (fun h9 => ?_) <;> conv => cbv
            · refine r_eql m.sX (fun h10 => ?_) (fun h10 => ?_) <;> conv => cbv
              · refine hF2 _ _ ?_
                conv => cbv
                refine hF _ _ ?_
                conv => cbv
                exact hQ _ (congrArg PV.bool (by exact (caseT_false (n := i1.toNat) (by omega) (by rw [bq, ← zt, q2, tb, decide_eq_true (by assumption), decide_eq_true (by assumption)]; simp)).symm))   -- leaf 3
              · refine r_addf m.sX (by omega) (by omega) fun r5 hr5 => ?_
                conv => cbv
                try have tr5 : Int.toNat r5 = Int.toNat i3 + 1 := by omega
                refine hE2 _ r5 ?_ ?_ ⟨(by (try dsimp only); first | omega | (simp only [List.length_nil]; omega) | (simp only [List.length_cons, List.length_nil]; omega)), (by (try dsimp only); first | omega | (simp only [List.length_nil]; omega) | (simp only [List.length_cons, List.length_nil]; omega)), (by (try dsimp only) <;> (first | (rw [q2, tb, decide_eq_false (by assumption), Bool.false_and, Bool.false_or, tr5]; done) | (rw [q2, tb, decide_eq_true (by assumption), decide_eq_false (by assumption), Bool.and_false, Bool.false_or, tr5]; done)))⟩ (by first | omega | (dsimp only; omega))
                · cbv
                · cbv
            · refine r_addf m.sX (by omega) (by omega) fun r6 hr6 => ?_
              conv => cbv
              try have tr6 : Int.toNat r6 = Int.toNat i3 + 1 := by omega
              refine hE2 _ r6 ?_ ?_ ⟨(by (try dsimp only); first | omega | (simp only [List.length_nil]; omega) | (simp only [List.length_cons, List.length_nil]; omega)), (by (try dsimp only); first | omega | (simp only [List.length_nil]; omega) | (simp only [List.length_cons, List.length_nil]; omega)), (by (try dsimp only) <;> (first | (rw [q2, tb, decide_eq_false (by assumption), Bool.false_and, Bool.false_or, tr6]; done) | (rw [q2, tb, decide_eq_true (by assumption), decide_eq_false (by assumption), Bool.and_false, Bool.false_or, tr6]; done)))⟩ (by first | omega | (dsimp only; omega))
              · cbv
              · cbv
          · have dz_i3 := drop_end (xs := zs2) (i := Int.toNat i3) (by omega)
            have tz_i3 := take_end (xs := zs2) (i := Int.toNat i3) (by omega)
            refine hF2 _ _ ?_
            conv => cbv
            refine r_addf m.sX (by omega) (by omega) fun r7 hr7 => ?_
            conv => cbv
            try have tr7 : Int.toNat r7 = Int.toNat i1 + 1 := by omega
            refine hE _ r7 ?_ ?_ ⟨(by (try dsimp only); first | omega | (simp only [List.length_nil]; omega) | (simp only [List.length_cons, List.length_nil]; omega)), (by (try dsimp only); first | omega | (simp only [List.length_nil]; omega) | (simp only [List.length_cons, List.length_nil]; omega)), (by (try dsimp only) <;> (first | (rw [tr7, caseT_step, q, bq, h2, rp, h4, ← zt, q2, dz_i2]; rfl) | (rw [tr7, caseT_step, q, bq, h2, rz, ← zt, q2, dz_i3]; rfl)))⟩ (by first | omega | (dsimp only; omega))
            · cbv
            · cbv
      · refine hF _ _ ?_
        conv => cbv
        exact hQ _ (congrArg PV.bool (by exact (caseT_false (n := i1.toNat) (by omega) (by rw [bq, h2]; rfl)).symm))   -- leaf 4
    · have dz_i1 := drop_end (xs := l) (i := Int.toNat i1) (by omega)
      have tz_i1 := take_end (xs := l) (i := Int.toNat i1) (by omega)
      refine hF _ _ ?_
      conv => cbv
      refine r_lenR m.sX fun n4 hn4 mn4 => ?_
      conv => cbv
      refine r_callB m.sX (l1In_ok n4 1 32) (fun h11 => ?_) (fun h11 => ?_) <;> conv => cbv
      · exact hQ _ (congrArg PV.bool (by rw [caseB, show caseT l l.length = true by rw [← show i1.toNat = l.length by omega]; exact q, Bool.true_and, ← hn4]; exact h11.symm))   -- leaf 5
      · exact hQ _ (congrArg PV.bool (by rw [caseB, show caseT l l.length = true by rw [← show i1.toNat = l.length by omega]; exact q, Bool.true_and, ← hn4]; exact h11.symm))   -- leaf 6

theorem diAlike_ok (a : List Box) (b : List Box) (ca : caseB a = true) : OkA Try.prog 137 [.isl 4 (rows cBox a), .isl 4 (rows cBox b)] (· = .bool (decide (codesB a = codesB b))) :=
  fn_intro envOk fieldsOk mixed Try.func137 rfl fun κ X Y L Q m hQ => by
    conv => cbv
    refine r_lenR m.sX fun n1 hn1 mn1 => ?_
    conv => cbv
    refine r_lenR m.sX fun n2 hn2 mn2 => ?_
    conv => cbv
    refine r_neq m.sX (fun h1 => ?_) (fun h1 => ?_) <;> conv => cbv
    · exact hQ _ (congrArg PV.bool (by rw [decide_eq_false (codes_len_ne (by omega))]))   -- leaf 1
    · refine r_lenR m.sX fun n3 hn3 mn3 => ?_
      conv => cbv
      refine r_loopF (α := Int) m 28 [0, 1, 12, 13] [] (fun σ => [(0, .isl 4 (rows cBox a)), (1, .isl 4 (rows cBox b)), (12, .int .i64 n3), (13, .int .i64 σ)]) (fun σ => [])
        (fun σ => (0 ≤ σ) ∧ (σ ≤ n3) ∧ (codesB (a.take σ.toNat) = codesB (b.take σ.toNat))) (fun σ => (n3 - σ).toNat) 0 ?_ ?_ ?_ ?_
      · cbv
      · cbv
      · exact ⟨(by (try dsimp only); first | omega | (simp only [List.length_nil]; omega) | (simp only [List.length_cons, List.length_nil]; omega)), (by (try dsimp only); first | omega | (simp only [List.length_nil]; omega) | (simp only [List.length_cons, List.length_nil]; omega)), (by (try dsimp only) <;> (rfl))⟩
      rintro i1 ⟨lo1, hi1, q⟩ E hE F hF
      conv => cbv
      refine r_lss m.sX (fun h2 => ?_) (fun h2 => ?_) <;> conv => cbv
      · refine r_draw m (by kernel_rfl) ?_
        conv => cbv
        refine r_index m.sY (by omega) (by omega) fun v hx1A => ?_
        obtain ⟨x1A, x1B, x1C, x1D⟩ := v
        conv => cbv
        have hx1 := hx1A
        have mx1 := get_mem hx1
        have dx1 := drop_cons hx1
        have kx1 := take_snoc hx1
        have jx1 : (i1 + 1).toNat = Int.toNat i1 + 1 := by omega
        refine r_index m.sY (by omega) (by omega) fun v hx2A => ?_
        obtain ⟨x2A, x2B, x2C, x2D⟩ := v
        conv => cbv
        have hx2 := hx2A
        have mx2 := get_mem hx2
        have dx2 := drop_cons hx2
        have kx2 := take_snoc hx2
        have jx2 : (i1 + 1).toNat = Int.toNat i1 + 1 := by omega
        refine r_sneq m.sY (fun h3 => ?_) (fun h3 => ?_) <;> conv => cbv
        · refine hF _ _ ?_
          conv => cbv
          exact hQ _ (congrArg PV.bool (by rw [decide_eq_false (codes_ne hx1 hx2 (by assumption))]))   -- leaf 2
        · refine r_addf m.sX (by omega) (by omega) fun r1 hr1 => ?_
          conv => cbv
          try have tr1 : Int.toNat r1 = Int.toNat i1 + 1 := by omega
          refine hE _ r1 ?_ ?_ ⟨(by (try dsimp only); first | omega | (simp only [List.length_nil]; omega) | (simp only [List.length_cons, List.length_nil]; omega)), (by (try dsimp only); first | omega | (simp only [List.length_nil]; omega) | (simp only [List.length_cons, List.length_nil]; omega)), (by (try dsimp only) <;> (rw [tr1]; exact codes_take hx1 hx2 q (by assumption)))⟩ (by first | omega | (dsimp only; omega))
          · cbv
          · cbv
      · have dz_i1 := drop_end (xs := a) (i := Int.toNat i1) (by omega)
        have tz_i1 := take_end (xs := a) (i := Int.toNat i1) (by omega)
        refine hF _ _ ?_
        conv => cbv
        exact hQ _ (congrArg PV.bool (by rw [decide_eq_true (codes_all q (by omega) (by omega))]))   -- leaf 3

theorem diTwo_ok (a : List Box) (b : List Box)  : OkA Try.prog 129 [.isl 4 (rows cBox a), .isl 4 (rows cBox b)] (· = .bool (alikeB a b)) :=
  fn_intro envOk fieldsOk mixed Try.func129 rfl fun κ X Y L Q m hQ => by
    conv => cbv
    refine r_callB m.sX (caGood_ok a) (fun h1 => ?_) (fun h1 => ?_) <;> conv => cbv
    · refine r_callB m.sX (caGood_ok b) (fun h2 => ?_) (fun h2 => ?_) <;> conv => cbv
      · refine r_callB m.sX (diAlike_ok a b (by first | rfl | assumption | omega | (simp only [List.length_append, List.length_cons, List.length_nil] at *; omega))) (fun h3 => ?_) (fun h3 => ?_) <;> conv => cbv
        · exact hQ _ (congrArg PV.bool (by first | (rw [alikeB, h1, h2]; exact h3.symm) | (rw [alikeB, h1, h2]; rfl) | (rw [alikeB, h1]; rfl)))   -- leaf 1
        · exact hQ _ (congrArg PV.bool (by first | (rw [alikeB, h1, h2]; exact h3.symm) | (rw [alikeB, h1, h2]; rfl) | (rw [alikeB, h1]; rfl)))   -- leaf 2
      · exact hQ _ (congrArg PV.bool (by first | (rw [alikeB, h1, h2]; exact h3.symm) | (rw [alikeB, h1, h2]; rfl) | (rw [alikeB, h1]; rfl)))   -- leaf 3
    · exact hQ _ (congrArg PV.bool (by first | (rw [alikeB, h1, h2]; exact h3.symm) | (rw [alikeB, h1, h2]; rfl) | (rw [alikeB, h1]; rfl)))   -- leaf 4

theorem caSum_ok (l : List Box) (cl : caseB l = true) : OkA Try.prog 114 [.isl 4 (rows cBox l)] (· = .int .i64 (cntS l)) :=
  fn_intro envOk fieldsOk mixed Try.func114 rfl fun κ X Y L Q m hQ => by
    have cb := cntS_bound cl
    conv => cbv
    refine r_lenR m.sX fun n1 hn1 mn1 => ?_
    conv => cbv
    refine r_loopF (α := Int × Int) m 18 [3, 6, 7, 8] [] (fun σ => [(3, .int .i64 σ.1), (6, .isl 4 (rows cBox l)), (7, .int .i64 n1), (8, .int .i64 σ.2)]) (fun σ => [])
      (fun σ => (0 ≤ σ.2) ∧ (σ.2 ≤ n1) ∧ (σ.1 = cntS (l.take σ.2.toNat))) (fun σ => (n1 - σ.2).toNat) (0, 0) ?_ ?_ ?_ ?_
    · cbv
    · cbv
    · exact ⟨(by (try dsimp only); first | omega | (simp only [List.length_nil]; omega) | (simp only [List.length_cons, List.length_nil]; omega)), (by (try dsimp only); first | omega | (simp only [List.length_nil]; omega) | (simp only [List.length_cons, List.length_nil]; omega)), (by (try dsimp only) <;> (rfl))⟩
    rintro ⟨sum, i1⟩ ⟨lo1, hi1, q⟩ E hE F hF
    dsimp only at lo1 hi1 q
    have b0 := cb i1.toNat
    conv => cbv
    refine r_lss m.sX (fun h1 => ?_) (fun h1 => ?_) <;> conv => cbv
    · refine r_index m.sX (by omega) (by omega) fun v hbA => ?_
      obtain ⟨bA, bB, bC, bD⟩ := v
      conv => cbv
      have hb := hbA
      have mb := get_mem hb
      have db := drop_cons hb
      have kb := take_snoc hb
      have jb : (i1 + 1).toNat = Int.toNat i1 + 1 := by omega
      have b1 := cb (i1.toNat + 1)
      try dsimp only at b1
      rw [cntS_take hb] at b1
      dsimp only at b1
      refine r_addf m.sX (by omega) (by omega) fun sum_2 hsum_2 => ?_
      conv => cbv
      refine r_addf m.sX (by omega) (by omega) fun r1 hr1 => ?_
      conv => cbv
      try have tr1 : Int.toNat r1 = Int.toNat i1 + 1 := by omega
      refine hE _ (sum_2, r1) ?_ ?_ ⟨(by (try dsimp only); first | omega | (simp only [List.length_nil]; omega) | (simp only [List.length_cons, List.length_nil]; omega)), (by (try dsimp only); first | omega | (simp only [List.length_nil]; omega) | (simp only [List.length_cons, List.length_nil]; omega)), (by (try dsimp only) <;> (rw [tr1, cntS_take hb]; dsimp only; omega))⟩ (by first | omega | (dsimp only; omega))
      · cbv
      · cbv
    · have dz_i1 := drop_end (xs := l) (i := Int.toNat i1) (by omega)
      have tz_i1 := take_end (xs := l) (i := Int.toNat i1) (by omega)
      refine hF _ _ ?_
      conv => cbv
      exact hQ (.int .i64 sum) (Eq.trans (by first | rfl | (simp only [lb, lbI, rows_cons, rows_nil, unnilT, unnil, unnilTI, unnilI]; done) | (simp only [lb, lbI, rows_cons, rows_nil, unnilT, unnil, unnilTI, unnilI]; rfl)) (congrArg (PV.int .i64) (show sum = cntS l from by rw [q, tz_i1])))   -- leaf 1

theorem specCaseDifference_ok (a : List Box) (b : List Box)  : OkA Try.prog 61 [.isl 4 (rows cBox a), .isl 4 (rows cBox b)] (· = (lb 3 1 cInt) (diffAns a b)) :=
  OkA.unnil 3 1 (fn_intro envOk fieldsOk mixed Try.func61 rfl fun κ X Y L Q m hQ => by
    conv => cbv
    refine r_callB m.sX (diTwo_ok a b) (fun h1 => ?_) (fun h1 => ?_) <;> conv => cbv
    · obtain ⟨ca, cb, cc, cl⟩ := alikeB_spec h1
      have cn := case_len ca
      refine r_lenR m.sX fun n1 hn1 mn1 => ?_
      conv => cbv
      refine r_loopF (α := List Int × Int) m 33 [0, 1, 13, 14] [⟨6, 49, 3, 1, 0⟩] (fun σ => [(0, .isl 4 (rows cBox a)), (1, .isl 4 (rows cBox b)), (6, .osl 49 0), (13, .int .i64 n1), (14, .int .i64 σ.2)]) (fun σ => [(49, 0, .row 3 1 (rows cInt σ.1))])
        (fun σ => (0 ≤ σ.2) ∧ (σ.2 ≤ n1) ∧ (σ.1 = diffT a b σ.2.toNat) ∧ ((σ.1.length : Int) ≤ σ.2)) (fun σ => (n1 - σ.2).toNat) ([], 0) ?_ ?_ ?_ ?_
      · cbv
      · (try dsimp only); (try simp only [rows_cons, rows_nil]); cbv
      · exact ⟨(by (try dsimp only); first | omega | (simp only [List.length_nil]; omega) | (simp only [List.length_cons, List.length_nil]; omega)), (by (try dsimp only); first | omega | (simp only [List.length_nil]; omega) | (simp only [List.length_cons, List.length_nil]; omega)), (by (try dsimp only) <;> (rfl)), (by (try dsimp only) <;> first | omega | rfl | (simp [*]; done))⟩
      rintro ⟨out, i1⟩ ⟨lo1, hi1, q, ll⟩ E hE F hF
      dsimp only at lo1 hi1 q ll
      conv => cbv
      refine r_lss m.sX (fun h2 => ?_) (fun h2 => ?_) <;> conv => cbv
      · refine r_draw m (by kernel_rfl) ?_
        conv => cbv
        refine r_index m.sY (by omega) (by omega) fun v hx1A => ?_
        obtain ⟨x1A, x1B, x1C, x1D⟩ := v
        conv => cbv
        have hx1 := hx1A
        have mx1 := get_mem hx1
        have dx1 := drop_cons hx1
        have kx1 := take_snoc hx1
        have jx1 : (i1 + 1).toNat = Int.toNat i1 + 1 := by omega
        have bx := okBox_cnt (case_box cb mx1)
        try dsimp only at bx
        refine r_index m.sY (by omega) (by omega) fun v hx2A => ?_
        obtain ⟨x2A, x2B, x2C, x2D⟩ := v
        conv => cbv
        have hx2 := hx2A
        have mx2 := get_mem hx2
        have dx2 := drop_cons hx2
        have kx2 := take_snoc hx2
        have jx2 : (i1 + 1).toNat = Int.toNat i1 + 1 := by omega
        have bx2 := okBox_cnt (case_box ca mx2)
        try dsimp only at bx2
        refine r_subf m.sY (by omega) (by omega) fun r1 hr1 => ?_
        conv => cbv
        refine r_append1 (r1) m.sY rfl (by first | omega | (dsimp only; omega)) (by first | omega | (dsimp only; omega)) fun out_2 hout_2 => ?_
        conv => cbv
        have lout_2 : (out_2.length : Int) = out.length + 1 := by rw [hout_2]; first | done | (simp; done) | (simp; omega)
        refine r_addf m.sX (by omega) (by omega) fun r2 hr2 => ?_
        conv => cbv
        try have tr2 : Int.toNat r2 = Int.toNat i1 + 1 := by omega
        refine hE _ (out_2, r2) ?_ ?_ ⟨(by (try dsimp only); first | omega | (simp only [List.length_nil]; omega) | (simp only [List.length_cons, List.length_nil]; omega)), (by (try dsimp only); first | omega | (simp only [List.length_nil]; omega) | (simp only [List.length_cons, List.length_nil]; omega)), (by (try dsimp only) <;> (rw [hout_2, q, tr2, diffT_step hx2 hx1, hr1])), (by (try dsimp only) <;> first | omega | rfl | (simp [*]; done) | (rw [ll]; simp [*]; done))⟩ (by first | omega | (dsimp only; omega))
        · cbv
        · cbv
      · have dz_i1 := drop_end (xs := a) (i := Int.toNat i1) (by omega)
        have tz_i1 := take_end (xs := a) (i := Int.toNat i1) (by omega)
        refine hF _ _ ?_
        conv => cbv
        exact hQ (.tup [.fr 3 1 (rows cInt out), .bool true]) (Eq.trans (by first | rfl | (simp only [lb, lbI, rows_cons, rows_nil, unnilT, unnil, unnilTI, unnilI]; done) | (simp only [lb, lbI, rows_cons, rows_nil, unnilT, unnil, unnilTI, unnilI]; rfl)) (congrArg ((lb 3 1 cInt)) (show (out, true) = diffAns a b from by rw [diffAns, if_pos h1, q, show i1.toNat = a.length by omega]; rfl)))   -- leaf 1
    · exact hQ (.tup [.nil, .bool false]) (Eq.trans (by first | rfl | (simp only [lb, lbI, rows_cons, rows_nil, unnilT, unnil, unnilTI, unnilI]; done) | (simp only [lb, lbI, rows_cons, rows_nil, unnilT, unnil, unnilTI, unnilI]; rfl)) (congrArg ((lb 3 1 cInt)) (show ([], false) = diffAns a b from by rw [diffAns, if_neg (by rw [h1]; simp)]))))   -- leaf 2

theorem diSlips_ok (slips : List Slip)  : OkA Try.prog 134 [.isl 3 (rows cMisput slips)] (· = .bool (slipsB slips)) :=
  fn_intro envOk fieldsOk mixed Try.func134 rfl fun κ X Y L Q m hQ => by
    conv => cbv
    refine r_lenR m.sX fun n1 hn1 mn1 => ?_
    conv => cbv
    refine r_loopF (α := Int) m 38 [0, 5, 6, 7] [] (fun σ => [(0, .isl 3 (rows cMisput slips)), (5, .isl 3 (rows cMisput slips)), (6, .int .i64 n1), (7, .int .i64 σ)]) (fun σ => [])
      (fun σ => (0 ≤ σ) ∧ (σ ≤ n1) ∧ (slips.all okSlip = (slips.drop σ.toNat).all okSlip)) (fun σ => (n1 - σ).toNat) 0 ?_ ?_ ?_ ?_
    · cbv
    · cbv
    · exact ⟨(by (try dsimp only); first | omega | (simp only [List.length_nil]; omega) | (simp only [List.length_cons, List.length_nil]; omega)), (by (try dsimp only); first | omega | (simp only [List.length_nil]; omega) | (simp only [List.length_cons, List.length_nil]; omega)), (by (try dsimp only) <;> (rfl))⟩
    rintro i1 ⟨lo1, hi1, q⟩ E hE F hF
    conv => cbv
    refine r_lss m.sX (fun h1 => ?_) (fun h1 => ?_) <;> conv => cbv
    · refine r_index m.sX (by omega) (by omega) fun v hxA => ?_
      obtain ⟨xA, xB, xC⟩ := v
      conv => cbv
      have hx := hxA
      have mx := get_mem hx
      have dx := drop_cons hx
      have kx := take_snoc hx
      have jx : (i1 + 1).toNat = Int.toNat i1 + 1 := by omega
      have ad : (slips.drop i1.toNat).all okSlip = (okSlip (xA, xB, xC) && (slips.drop (i1.toNat + 1)).all okSlip) := all_dropS hx
      refine r_callB m.sX (tyLetters_ok xA 3) (fun h2 => ?_) (fun h2 => ?_) <;> conv => cbv
      · refine r_callB m.sX (tyLetters_ok xB 3) (fun h3 => ?_) (fun h3 => ?_) <;> conv => cbv
        · refine r_seql m.sX (fun h4 => ?_) (fun h4 => ?_) <;> conv => cbv
          · refine hF _ _ ?_
            conv => cbv
            exact hQ _ (congrArg PV.bool (by first | (rw [slipsB, q, ad, okSlip_no (by first | exact .inl (by assumption) | exact .inr (.inl (by assumption)) | exact .inr (.inr (.inl (by assumption))) | exact .inr (.inr (.inr (by assumption))))]; rfl) | (rw [slipsB, q, dz_i1, decide_eq_true (by omega)]; rfl) | (rw [slipsB, q, dz_i1, decide_eq_false (by omega)]; rfl)))   -- leaf 1
          · refine r_callB m.sX (l1In_ok xC 1 99) (fun h5 => ?_) (fun h5 => ?_) <;> conv => cbv
            · refine r_addf m.sX (by omega) (by omega) fun r1 hr1 => ?_
              conv => cbv
              try have tr1 : Int.toNat r1 = Int.toNat i1 + 1 := by omega
              refine hE _ r1 ?_ ?_ ⟨(by (try dsimp only); first | omega | (simp only [List.length_nil]; omega) | (simp only [List.length_cons, List.length_nil]; omega)), (by (try dsimp only); first | omega | (simp only [List.length_nil]; omega) | (simp only [List.length_cons, List.length_nil]; omega)), (by (try dsimp only) <;> (rw [q, ad, okSlip_yes (by assumption) (by assumption) (by assumption) (by assumption), Bool.true_and, tr1]))⟩ (by first | omega | (dsimp only; omega))
              · cbv
              · cbv
            · refine hF _ _ ?_
              conv => cbv
              exact hQ _ (congrArg PV.bool (by first | (rw [slipsB, q, ad, okSlip_no (by first | exact .inl (by assumption) | exact .inr (.inl (by assumption)) | exact .inr (.inr (.inl (by assumption))) | exact .inr (.inr (.inr (by assumption))))]; rfl) | (rw [slipsB, q, dz_i1, decide_eq_true (by omega)]; rfl) | (rw [slipsB, q, dz_i1, decide_eq_false (by omega)]; rfl)))   -- leaf 2
        · refine hF _ _ ?_
          conv => cbv
          exact hQ _ (congrArg PV.bool (by first | (rw [slipsB, q, ad, okSlip_no (by first | exact .inl (by assumption) | exact .inr (.inl (by assumption)) | exact .inr (.inr (.inl (by assumption))) | exact .inr (.inr (.inr (by assumption))))]; rfl) | (rw [slipsB, q, dz_i1, decide_eq_true (by omega)]; rfl) | (rw [slipsB, q, dz_i1, decide_eq_false (by omega)]; rfl)))   -- leaf 3
      · refine hF _ _ ?_
        conv => cbv
        exact hQ _ (congrArg PV.bool (by first | (rw [slipsB, q, ad, okSlip_no (by first | exact .inl (by assumption) | exact .inr (.inl (by assumption)) | exact .inr (.inr (.inl (by assumption))) | exact .inr (.inr (.inr (by assumption))))]; rfl) | (rw [slipsB, q, dz_i1, decide_eq_true (by omega)]; rfl) | (rw [slipsB, q, dz_i1, decide_eq_false (by omega)]; rfl)))   -- leaf 4
    · have dz_i1 := drop_end (xs := slips) (i := Int.toNat i1) (by omega)
      have tz_i1 := take_end (xs := slips) (i := Int.toNat i1) (by omega)
      refine hF _ _ ?_
      conv => cbv
      refine r_lenR m.sX fun n2 hn2 mn2 => ?_
      conv => cbv
      refine r_leq m.sX (fun h6 => ?_) (fun h6 => ?_) <;> conv => cbv
      · exact hQ _ (congrArg PV.bool (by first | (rw [slipsB, q, ad, okSlip_no (by first | exact .inl (by assumption) | exact .inr (.inl (by assumption)) | exact .inr (.inr (.inl (by assumption))) | exact .inr (.inr (.inr (by assumption))))]; rfl) | (rw [slipsB, q, dz_i1, decide_eq_true (by omega)]; rfl) | (rw [slipsB, q, dz_i1, decide_eq_false (by omega)]; rfl)))   -- leaf 5
      · exact hQ _ (congrArg PV.bool (by first | (rw [slipsB, q, ad, okSlip_no (by first | exact .inl (by assumption) | exact .inr (.inl (by assumption)) | exact .inr (.inr (.inl (by assumption))) | exact .inr (.inr (.inr (by assumption))))]; rfl) | (rw [slipsB, q, dz_i1, decide_eq_true (by omega)]; rfl) | (rw [slipsB, q, dz_i1, decide_eq_false (by omega)]; rfl)))   -- leaf 6

theorem caFind_ok (l : List Box) (code : List UInt8)  : OkA Try.prog 122 [.isl 4 (rows cBox l), .str code] (· = .int .i64 (findB code l 0)) :=
  fn_intro envOk fieldsOk mixed Try.func122 rfl fun κ X Y L Q m hQ => by
    conv => cbv
    refine r_lenR m.sX fun n1 hn1 mn1 => ?_
    conv => cbv
    refine r_loopF (α := Int) m 20 [1, 7, 8, 9] [] (fun σ => [(1, .str code), (7, .isl 4 (rows cBox l)), (8, .int .i64 n1), (9, .int .i64 σ)]) (fun σ => [])
      (fun σ => (0 ≤ σ) ∧ (σ ≤ n1) ∧ (findB code l 0 = findB code (l.drop σ.toNat) σ)) (fun σ => (n1 - σ).toNat) 0 ?_ ?_ ?_ ?_
    · cbv
    · cbv
    · exact ⟨(by (try dsimp only); first | omega | (simp only [List.length_nil]; omega) | (simp only [List.length_cons, List.length_nil]; omega)), (by (try dsimp only); first | omega | (simp only [List.length_nil]; omega) | (simp only [List.length_cons, List.length_nil]; omega)), (by (try dsimp only) <;> (rfl))⟩
    rintro i1 ⟨lo1, hi1, q⟩ E hE F hF
    conv => cbv
    refine r_lss m.sX (fun h1 => ?_) (fun h1 => ?_) <;> conv => cbv
    · refine r_index m.sX (by omega) (by omega) fun v hbA => ?_
      obtain ⟨bA, bB, bC, bD⟩ := v
      conv => cbv
      have hb := hbA
      have mb := get_mem hb
      have db := drop_cons hb
      have kb := take_snoc hb
      have jb : (i1 + 1).toNat = Int.toNat i1 + 1 := by omega
      have fd := findB_drop (c := code) i1 hb
      try dsimp only at fd
      refine r_seql m.sX (fun h2 => ?_) (fun h2 => ?_) <;> conv => cbv
      · refine hF _ _ ?_
        conv => cbv
        exact hQ (.int .i64 i1) (Eq.trans (by first | rfl | (simp only [lb, lbI, rows_cons, rows_nil, unnilT, unnil, unnilTI, unnilI]; done) | (simp only [lb, lbI, rows_cons, rows_nil, unnilT, unnil, unnilTI, unnilI]; rfl)) (congrArg (PV.int .i64) (show i1 = findB code l 0 from by rw [q, fd, if_pos (by assumption)])))   -- leaf 1
      · refine r_addf m.sX (by omega) (by omega) fun r1 hr1 => ?_
        conv => cbv
        try have tr1 : Int.toNat r1 = Int.toNat i1 + 1 := by omega
        refine hE _ r1 ?_ ?_ ⟨(by (try dsimp only); first | omega | (simp only [List.length_nil]; omega) | (simp only [List.length_cons, List.length_nil]; omega)), (by (try dsimp only); first | omega | (simp only [List.length_nil]; omega) | (simp only [List.length_cons, List.length_nil]; omega)), (by (try dsimp only) <;> (rw [q, fd, if_neg (by assumption), tr1, show r1 = i1 + 1 by omega]))⟩ (by first | omega | (dsimp only; omega))
        · cbv
        · cbv
    · have dz_i1 := drop_end (xs := l) (i := Int.toNat i1) (by omega)
      have tz_i1 := take_end (xs := l) (i := Int.toNat i1) (by omega)
      refine hF _ _ ?_
      conv => cbv
      exact hQ (.int .i64 (-1)) (Eq.trans (by first | rfl | (simp only [lb, lbI, rows_cons, rows_nil, unnilT, unnil, unnilTI, unnilI]; done) | (simp only [lb, lbI, rows_cons, rows_nil, unnilT, unnil, unnilTI, unnilI]; rfl)) (congrArg (PV.int .i64) (show -1 = findB code l 0 from by rw [q, dz_i1]; rfl)))   -- leaf 2

end Go.Proofs.Ytmlojdpfpccgoaa.Ai
