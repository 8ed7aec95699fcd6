/- Contracts of lines, proofs and states. -/
import Derived.Test.YtngefbdedbbplaaMarkLaw
import Derived.Test.YtngefbdedbbplaaStr
namespace Go.Proofs.Ytngefbdedbbplaa.Ai
open Go Go.Proofs
set_option linter.unusedSimpArgs false
set_option maxRecDepth 10000
set_option maxHeartbeats 4000000
set_option linter.unusedVariables false
theorem isPlainText_ok (s_ : List UInt8) (low : Int) (high : Int)  : OkA Try.prog 69 [.str s_, .int .i64 low, .int .i64 high] (· = .bool (plainB s_ && inB s_.length low high)) :=
  fn_intro envOk fieldsOk mixed Try.func69 rfl fun κ X Y L Q m hQ => by
    conv => cbv
    refine r_loopF (α := Int) m 35 [0, 1, 2, 7] [] (fun σ => [(0, .str s_), (1, .int .i64 low), (2, .int .i64 high), (7, .int .i64 σ)]) (fun σ => [])
      (fun σ => (0 ≤ σ) ∧ (σ ≤ (s_.length : Int)) ∧ (plainB s_ = (s_.drop σ.toNat).all plainC)) (fun σ => ((s_.length : Int) - σ).toNat) 0 ?_ ?_ ?_ ?_
    · cbv
    · cbv
    · exact ⟨(by (try dsimp only); first | omega | (simp only [List.length_nil]; omega) | (simp only [List.length_cons, List.length_nil]; omega)), (by (try dsimp only); first | omega | (simp only [List.length_nil]; omega) | (simp only [List.length_cons, List.length_nil]; omega)), (by (try dsimp only) <;> (rfl))⟩
    rintro i ⟨lo1, hi1, q⟩ E hE F hF
    conv => cbv
    refine r_slen (u := s_) m.sX fun n1 hn1 mn1 => ?_   -- n1 = length of s_
    conv => cbv
    refine r_lss m.sX (fun h1 => ?_) (fun h1 => ?_) <;> conv => cbv
    · refine r_sidx (u := s_) (i := i) m.sX (by omega) (by first | omega | (simp only [List.length_cons, List.length_nil]; omega) | (simp; omega)) fun x1 hx1 c1 hc1 bc1 => ?_   -- x1 = s_[i]
      have dx1 := drop_cons hx1
      have kx1 := take_snoc hx1
      have jx1 : (i + 1).toNat = Int.toNat i + 1 := by omega
      conv => cbv
      refine r_neq m.sX (fun h2 => ?_) (fun h2 => ?_) <;> conv => cbv
      · refine r_sidx (u := s_) (i := i) m.sX (by omega) (by first | omega | (simp only [List.length_cons, List.length_nil]; omega) | (simp; omega)) fun x2 hx2 c2 hc2 bc2 => ?_   -- x2 = s_[i]
        obtain rfl := Option.some.inj (hx1.symm.trans hx2)
        obtain rfl := hc1.trans hc2.symm
        conv => cbv
        refine r_lss m.sX (fun h3 => ?_) (fun h3 => ?_) <;> conv => cbv
        · have lb : plainC x1 = false := plainC_no hc1 h2 (.inl h3)
          refine hF _ _ ?_
          conv => cbv
          exact hQ _ (congrArg PV.bool (by rw [q, all_drop hx1, lb]; rfl))   -- leaf 1
        · refine r_sidx (u := s_) (i := i) m.sX (by omega) (by first | omega | (simp only [List.length_cons, List.length_nil]; omega) | (simp; omega)) fun x3 hx3 c3 hc3 bc3 => ?_   -- x3 = s_[i]
          obtain rfl := Option.some.inj (hx1.symm.trans hx3)
          obtain rfl := hc1.trans hc3.symm
          conv => cbv
          refine r_gtr m.sX (fun h4 => ?_) (fun h4 => ?_) <;> conv => cbv
          · have lb : plainC x1 = false := plainC_no hc1 h2 (.inr h4)
            refine hF _ _ ?_
            conv => cbv
            exact hQ _ (congrArg PV.bool (by rw [q, all_drop hx1, lb]; rfl))   -- leaf 2
          · have lb : plainC x1 = true := plainC_yes hc1 (by omega)
            refine r_addf m.sX (by omega) (by omega) fun i_2 hi_2 => ?_
            conv => cbv
            try have ti_2 : Int.toNat i_2 = Int.toNat i + 1 := by omega
            refine hE _ i_2 ?_ ?_ ⟨(by (try dsimp only); first | omega | (simp only [List.length_nil]; omega) | (simp only [List.length_cons, List.length_nil]; omega)), (by (try dsimp only); first | omega | (simp only [List.length_nil]; omega) | (simp only [List.length_cons, List.length_nil]; omega)), (by (try dsimp only) <;> (rw [q, all_drop hx1, lb, Bool.true_and, ti_2]))⟩ (by first | omega | (dsimp only; omega))
            · cbv
            · cbv
      · have lb : plainC x1 = true := plainC_sp hc1 h2
        refine r_addf m.sX (by omega) (by omega) fun i_3 hi_3 => ?_
        conv => cbv
        try have ti_3 : Int.toNat i_3 = Int.toNat i + 1 := by omega
        refine hE _ i_3 ?_ ?_ ⟨(by (try dsimp only); first | omega | (simp only [List.length_nil]; omega) | (simp only [List.length_cons, List.length_nil]; omega)), (by (try dsimp only); first | omega | (simp only [List.length_nil]; omega) | (simp only [List.length_cons, List.length_nil]; omega)), (by (try dsimp only) <;> (rw [q, all_drop hx1, lb, Bool.true_and, ti_3]))⟩ (by first | omega | (dsimp only; omega))
        · cbv
        · cbv
    · refine hF _ _ ?_
      conv => cbv
      refine r_slen (u := s_) m.sX fun n2 hn2 mn2 => ?_   -- n2 = length of s_
      conv => cbv
      refine r_callB m.sX (within_ok n2 low high) (fun h5 => ?_) (fun h5 => ?_) <;> conv => cbv
      · exact hQ _ (congrArg PV.bool (by rw [q, all_end (by omega), ← hn2, h5]; rfl))   -- leaf 3
      · exact hQ _ (congrArg PV.bool (by rw [q, all_end (by omega), ← hn2, h5]; rfl))   -- leaf 4

theorem pfLetters_ok (s_ : List UInt8) (least : Int) (most : Int)  : OkA Try.prog 70 [.str s_, .int .i64 least, .int .i64 most] (· = .bool (plainB s_ && inB s_.length least most)) :=
  fn_intro envOk fieldsOk mixed Try.func70 rfl fun κ X Y L Q m hQ => by
    conv => cbv
    refine r_loopF (α := Int) m 35 [0, 1, 2, 7] [] (fun σ => [(0, .str s_), (1, .int .i64 least), (2, .int .i64 most), (7, .int .i64 σ)]) (fun σ => [])
      (fun σ => (0 ≤ σ) ∧ (σ ≤ (s_.length : Int)) ∧ (plainB s_ = (s_.drop σ.toNat).all plainC)) (fun σ => ((s_.length : Int) - σ).toNat) 0 ?_ ?_ ?_ ?_
    · cbv
    · cbv
    · exact ⟨(by (try dsimp only); first | omega | (simp only [List.length_nil]; omega) | (simp only [List.length_cons, List.length_nil]; omega)), (by (try dsimp only); first | omega | (simp only [List.length_nil]; omega) | (simp only [List.length_cons, List.length_nil]; omega)), (by (try dsimp only) <;> (rfl))⟩
    rintro i ⟨lo1, hi1, q⟩ E hE F hF
    conv => cbv
    refine r_slen (u := s_) m.sX fun n1 hn1 mn1 => ?_   -- n1 = length of s_
    conv => cbv
    refine r_lss m.sX (fun h1 => ?_) (fun h1 => ?_) <;> conv => cbv
    · refine r_sidx (u := s_) (i := i) m.sX (by omega) (by first | omega | (simp only [List.length_cons, List.length_nil]; omega) | (simp; omega)) fun x1 hx1 c1 hc1 bc1 => ?_   -- x1 = s_[i]
      have dx1 := drop_cons hx1
      have kx1 := take_snoc hx1
      have jx1 : (i + 1).toNat = Int.toNat i + 1 := by omega
      conv => cbv
      refine r_neq m.sX (fun h2 => ?_) (fun h2 => ?_) <;> conv => cbv
      · refine r_sidx (u := s_) (i := i) m.sX (by omega) (by first | omega | (simp only [List.length_cons, List.length_nil]; omega) | (simp; omega)) fun x2 hx2 c2 hc2 bc2 => ?_   -- x2 = s_[i]
        obtain rfl := Option.some.inj (hx1.symm.trans hx2)
        obtain rfl := hc1.trans hc2.symm
        conv => cbv
        refine r_lss m.sX (fun h3 => ?_) (fun h3 => ?_) <;> conv => cbv
        · have lb : plainC x1 = false := plainC_no hc1 h2 (.inl h3)
          refine hF _ _ ?_
          conv => cbv
          exact hQ _ (congrArg PV.bool (by rw [q, all_drop hx1, lb]; rfl))   -- leaf 1
        · refine r_sidx (u := s_) (i := i) m.sX (by omega) (by first | omega | (simp only [List.length_cons, List.length_nil]; omega) | (simp; omega)) fun x3 hx3 c3 hc3 bc3 => ?_   -- x3 = s_[i]
          obtain rfl := Option.some.inj (hx1.symm.trans hx3)
          obtain rfl := hc1.trans hc3.symm
          conv => cbv
          refine r_gtr m.sX (fun h4 => ?_) (fun h4 => ?_) <;> conv => cbv
          · have lb : plainC x1 = false := plainC_no hc1 h2 (.inr h4)
            refine hF _ _ ?_
            conv => cbv
            exact hQ _ (congrArg PV.bool (by rw [q, all_drop hx1, lb]; rfl))   -- leaf 2
          · have lb : plainC x1 = true := plainC_yes hc1 (by omega)
            refine r_addf m.sX (by omega) (by omega) fun i_2 hi_2 => ?_
            conv => cbv
            try have ti_2 : Int.toNat i_2 = Int.toNat i + 1 := by omega
            refine hE _ i_2 ?_ ?_ ⟨(by (try dsimp only); first | omega | (simp only [List.length_nil]; omega) | (simp only [List.length_cons, List.length_nil]; omega)), (by (try dsimp only); first | omega | (simp only [List.length_nil]; omega) | (simp only [List.length_cons, List.length_nil]; omega)), (by (try dsimp only) <;> (rw [q, all_drop hx1, lb, Bool.true_and, ti_2]))⟩ (by first | omega | (dsimp only; omega))
            · cbv
            · cbv
      · have lb : plainC x1 = true := plainC_sp hc1 h2
        refine r_addf m.sX (by omega) (by omega) fun i_3 hi_3 => ?_
        conv => cbv
        try have ti_3 : Int.toNat i_3 = Int.toNat i + 1 := by omega
        refine hE _ i_3 ?_ ?_ ⟨(by (try dsimp only); first | omega | (simp only [List.length_nil]; omega) | (simp only [List.length_cons, List.length_nil]; omega)), (by (try dsimp only); first | omega | (simp only [List.length_nil]; omega) | (simp only [List.length_cons, List.length_nil]; omega)), (by (try dsimp only) <;> (rw [q, all_drop hx1, lb, Bool.true_and, ti_3]))⟩ (by first | omega | (dsimp only; omega))
        · cbv
        · cbv
    · refine hF _ _ ?_
      conv => cbv
      refine r_slen (u := s_) m.sX fun n2 hn2 mn2 => ?_   -- n2 = length of s_
      conv => cbv
      refine r_callB m.sX (l1In_ok n2 least most) (fun h5 => ?_) (fun h5 => ?_) <;> conv => cbv
      · exact hQ _ (congrArg PV.bool (by rw [q, all_end (by omega), ← hn2, h5]; rfl))   -- leaf 3
      · exact hQ _ (congrArg PV.bool (by rw [q, all_end (by omega), ← hn2, h5]; rfl))   -- leaf 4

theorem isProofLine_ok (s_ : List UInt8)  : OkA Try.prog 45 [.str s_] (· = .bool (lineB s_)) :=
  fn_intro envOk fieldsOk mixed Try.func45 rfl fun κ X Y L Q m hQ => by
    conv => cbv
    refine r_callB m.sX (isPlainText_ok s_ 0 40) (fun h1 => ?_) (fun h1 => ?_) <;> conv => cbv
    · exact hQ _ (congrArg PV.bool (by exact h1.symm))   -- leaf 1
    · exact hQ _ (congrArg PV.bool (by exact h1.symm))   -- leaf 2

theorem IsProof_ok (lines : List (List UInt8))  : OkA Try.prog 17 [.isl 1 (rows cStr lines)] (· = .bool (proofB lines)) :=
  fn_intro envOk fieldsOk mixed Try.func17 rfl fun κ X Y L Q m hQ => by
    conv => cbv
    refine r_lenR m.sX fun n1 hn1 mn1 => ?_
    conv => cbv
    refine r_loopF (α := Int) m 18 [0, 5, 6, 7] [] (fun σ => [(0, .isl 1 (rows cStr lines)), (5, .isl 1 (rows cStr lines)), (6, .int .i64 n1), (7, .int .i64 σ)]) (fun σ => [])
      (fun σ => (0 ≤ σ) ∧ (σ ≤ n1) ∧ (lines.all lineB = (lines.drop σ.toNat).all lineB)) (fun σ => (n1 - σ).toNat) 0 ?_ ?_ ?_ ?_
    · cbv
    · cbv
    · exact ⟨(by (try dsimp only); first | omega | (simp only [List.length_nil]; omega) | (simp only [List.length_cons, List.length_nil]; omega)), (by (try dsimp only); first | omega | (simp only [List.length_nil]; omega) | (simp only [List.length_cons, List.length_nil]; omega)), (by (try dsimp only) <;> (rfl))⟩
    rintro i1 ⟨lo1, hi1, q⟩ E hE F hF
    conv => cbv
    refine r_lss m.sX (fun h1 => ?_) (fun h1 => ?_) <;> conv => cbv
    · refine r_index m.sX (by omega) (by omega) fun s_ hs_ => ?_
      conv => cbv
      have ms_ := get_mem hs_
      have ds_ := drop_cons hs_
      have ks_ := take_snoc hs_
      have js_ : (i1 + 1).toNat = Int.toNat i1 + 1 := by omega
      refine r_callB m.sX (isProofLine_ok s_) (fun h2 => ?_) (fun h2 => ?_) <;> conv => cbv
      · refine r_addf m.sX (by omega) (by omega) fun r1 hr1 => ?_
        conv => cbv
        try have tr1 : Int.toNat r1 = Int.toNat i1 + 1 := by omega
        refine hE _ r1 ?_ ?_ ⟨(by (try dsimp only); first | omega | (simp only [List.length_nil]; omega) | (simp only [List.length_cons, List.length_nil]; omega)), (by (try dsimp only); first | omega | (simp only [List.length_nil]; omega) | (simp only [List.length_cons, List.length_nil]; omega)), (by (try dsimp only) <;> (rw [q, allT_drop hs_, h2, Bool.true_and, tr1]))⟩ (by first | omega | (dsimp only; omega))
        · cbv
        · cbv
      · refine hF _ _ ?_
        conv => cbv
        exact hQ _ (congrArg PV.bool (by rw [proofB, q, allT_drop hs_, h2]; rfl))   -- leaf 1
    · have dz_i1 := drop_end (xs := lines) (i := Int.toNat i1) (by omega)
      have tz_i1 := take_end (xs := lines) (i := Int.toNat i1) (by omega)
      refine hF _ _ ?_
      conv => cbv
      refine r_lenR m.sX fun n2 hn2 mn2 => ?_
      conv => cbv
      refine r_callB m.sX (within_ok n2 1 12) (fun h3 => ?_) (fun h3 => ?_) <;> conv => cbv
      · exact hQ _ (congrArg PV.bool (by rw [proofB, q, dz_i1, ← hn2, h3]; rfl))   -- leaf 2
      · exact hQ _ (congrArg PV.bool (by rw [proofB, q, dz_i1, ← hn2, h3]; rfl))   -- leaf 3

theorem pfGood_ok (lines : List (List UInt8))  : OkA Try.prog 47 [.isl 1 (rows cStr lines)] (· = .bool (proofB lines)) :=
  fn_intro envOk fieldsOk mixed Try.func47 rfl fun κ X Y L Q m hQ => by
    conv => cbv
    refine r_lenR m.sX fun n1 hn1 mn1 => ?_
    conv => cbv
    refine r_loopF (α := Int) m 18 [0, 5, 6, 7] [] (fun σ => [(0, .isl 1 (rows cStr lines)), (5, .isl 1 (rows cStr lines)), (6, .int .i64 n1), (7, .int .i64 σ)]) (fun σ => [])
      (fun σ => (0 ≤ σ) ∧ (σ ≤ n1) ∧ (lines.all lineB = (lines.drop σ.toNat).all lineB)) (fun σ => (n1 - σ).toNat) 0 ?_ ?_ ?_ ?_
    · cbv
    · cbv
    · exact ⟨(by (try dsimp only); first | omega | (simp only [List.length_nil]; omega) | (simp only [List.length_cons, List.length_nil]; omega)), (by (try dsimp only); first | omega | (simp only [List.length_nil]; omega) | (simp only [List.length_cons, List.length_nil]; omega)), (by (try dsimp only) <;> (rfl))⟩
    rintro i1 ⟨lo1, hi1, q⟩ E hE F hF
    conv => cbv
    refine r_lss m.sX (fun h1 => ?_) (fun h1 => ?_) <;> conv => cbv
    · refine r_index m.sX (by omega) (by omega) fun s_ hs_ => ?_
      conv => cbv
      have ms_ := get_mem hs_
      have ds_ := drop_cons hs_
      have ks_ := take_snoc hs_
      have js_ : (i1 + 1).toNat = Int.toNat i1 + 1 := by omega
      refine r_callB m.sX (pfLetters_ok s_ 0 40) (fun h2 => ?_) (fun h2 => ?_) <;> conv => cbv
      · have lb : lineB s_ = true := h2
        refine r_addf m.sX (by omega) (by omega) fun r1 hr1 => ?_
        conv => cbv
        try have tr1 : Int.toNat r1 = Int.toNat i1 + 1 := by omega
        refine hE _ r1 ?_ ?_ ⟨(by (try dsimp only); first | omega | (simp only [List.length_nil]; omega) | (simp only [List.length_cons, List.length_nil]; omega)), (by (try dsimp only); first | omega | (simp only [List.length_nil]; omega) | (simp only [List.length_cons, List.length_nil]; omega)), (by (try dsimp only) <;> (rw [q, allT_drop hs_, lb, Bool.true_and, tr1]))⟩ (by first | omega | (dsimp only; omega))
        · cbv
        · cbv
      · have lb : lineB s_ = false := h2
        refine hF _ _ ?_
        conv => cbv
        exact hQ _ (congrArg PV.bool (by rw [proofB, q, allT_drop hs_, lb]; rfl))   -- leaf 1
    · have dz_i1 := drop_end (xs := lines) (i := Int.toNat i1) (by omega)
      have tz_i1 := take_end (xs := lines) (i := Int.toNat i1) (by omega)
      refine hF _ _ ?_
      conv => cbv
      refine r_lenR m.sX fun n2 hn2 mn2 => ?_
      conv => cbv
      refine r_callB m.sX (l1In_ok n2 1 12) (fun h3 => ?_) (fun h3 => ?_) <;> conv => cbv
      · exact hQ _ (congrArg PV.bool (by rw [proofB, q, dz_i1, ← hn2, h3]; rfl))   -- leaf 2
      · exact hQ _ (congrArg PV.bool (by rw [proofB, q, dz_i1, ← hn2, h3]; rfl))   -- leaf 3

theorem AreStates_ok (l : List (List (List UInt8)))  : OkA Try.prog 35 [.isl 1 (rows (cSl 1 cStr) l)] (· = .bool (statesB l)) :=
  fn_intro envOk fieldsOk mixed Try.func35 rfl fun κ X Y L Q m hQ => by
    conv => cbv
    refine r_lenR m.sX fun n1 hn1 mn1 => ?_
    conv => cbv
    refine r_loopF (α := Int) m 27 [0, 5, 6, 7] [] (fun σ => [(0, .isl 1 (rows (cSl 1 cStr) l)), (5, .isl 1 (rows (cSl 1 cStr) l)), (6, .int .i64 n1), (7, .int .i64 σ)]) (fun σ => [])
      (fun σ => (0 ≤ σ) ∧ (σ ≤ n1) ∧ (wideB (headLen l) l = wideB (headLen l) (l.drop σ.toNat))) (fun σ => (n1 - σ).toNat) 0 ?_ ?_ ?_ ?_
    · cbv
    · cbv
    · exact ⟨(by (try dsimp only); first | omega | (simp only [List.length_nil]; omega) | (simp only [List.length_cons, List.length_nil]; omega)), (by (try dsimp only); first | omega | (simp only [List.length_nil]; omega) | (simp only [List.length_cons, List.length_nil]; omega)), (by (try dsimp only) <;> (rfl))⟩
    rintro i1 ⟨lo1, hi1, q⟩ E hE F hF
    conv => cbv
    refine r_lss m.sX (fun h1 => ?_) (fun h1 => ?_) <;> conv => cbv
    · refine r_index m.sX (by omega) (by omega) fun p hp => ?_
      conv => cbv
      have mp := get_mem hp
      have dp := drop_cons hp
      have kp := take_snoc hp
      have jp : (i1 + 1).toNat = Int.toNat i1 + 1 := by omega
      have wd := wideB_drop (n := headLen l) hp
      refine r_callB m.sX (IsProof_ok p) (fun h2 => ?_) (fun h2 => ?_) <;> conv => cbv
      · refine r_lenR m.sX fun n2 hn2 mn2 => ?_
        conv => cbv
        refine r_index m.sX (by omega) (by omega) fun x1 hx1 => ?_
        conv => cbv
        have mx1 := get_mem hx1
        have hl := headLen_some hx1
        refine r_lenR m.sX fun n3 hn3 mn3 => ?_
        conv => cbv
        refine r_neq m.sX (fun h3 => ?_) (fun h3 => ?_) <;> conv => cbv
        · refine hF _ _ ?_
          conv => cbv
          exact hQ _ (congrArg PV.bool (by rw [statesB, q, wd, h2, decide_eq_false (show ¬ (p.length : Int) = headLen l by omega)]; rfl))   -- leaf 1
        · refine r_addf m.sX (by omega) (by omega) fun r1 hr1 => ?_
          conv => cbv
          try have tr1 : Int.toNat r1 = Int.toNat i1 + 1 := by omega
          refine hE _ r1 ?_ ?_ ⟨(by (try dsimp only); first | omega | (simp only [List.length_nil]; omega) | (simp only [List.length_cons, List.length_nil]; omega)), (by (try dsimp only); first | omega | (simp only [List.length_nil]; omega) | (simp only [List.length_cons, List.length_nil]; omega)), (by (try dsimp only) <;> (rw [q, wd, h2, decide_eq_true (show (p.length : Int) = headLen l by omega), Bool.true_and, Bool.true_and, tr1]))⟩ (by first | omega | (dsimp only; omega))
          · cbv
          · cbv
      · refine hF _ _ ?_
        conv => cbv
        exact hQ _ (congrArg PV.bool (by rw [statesB, q, wd, h2]; rfl))   -- leaf 2
    · have dz_i1 := drop_end (xs := l) (i := Int.toNat i1) (by omega)
      have tz_i1 := take_end (xs := l) (i := Int.toNat i1) (by omega)
      refine hF _ _ ?_
      conv => cbv
      refine r_lenR m.sX fun n4 hn4 mn4 => ?_
      conv => cbv
      refine r_callB m.sX (within_ok n4 1 6) (fun h4 => ?_) (fun h4 => ?_) <;> conv => cbv
      · exact hQ _ (congrArg PV.bool (by rw [statesB, q, dz_i1, ← hn4, h4]; rfl))   -- leaf 3
      · exact hQ _ (congrArg PV.bool (by rw [statesB, q, dz_i1, ← hn4, h4]; rfl))   -- leaf 4

theorem rvGood_ok (l : List (List (List UInt8)))  : OkA Try.prog 67 [.isl 1 (rows (cSl 1 cStr) l)] (· = .bool (statesB l)) :=
  fn_intro envOk fieldsOk mixed Try.func67 rfl fun κ X Y L Q m hQ => by
    conv => cbv
    refine r_lenR m.sX fun n1 hn1 mn1 => ?_
    conv => cbv
    refine r_loopF (α := Int) m 27 [0, 5, 6, 7] [] (fun σ => [(0, .isl 1 (rows (cSl 1 cStr) l)), (5, .isl 1 (rows (cSl 1 cStr) l)), (6, .int .i64 n1), (7, .int .i64 σ)]) (fun σ => [])
      (fun σ => (0 ≤ σ) ∧ (σ ≤ n1) ∧ (wideB (headLen l) l = wideB (headLen l) (l.drop σ.toNat))) (fun σ => (n1 - σ).toNat) 0 ?_ ?_ ?_ ?_
    · cbv
    · cbv
    · exact ⟨(by (try dsimp only); first | omega | (simp only [List.length_nil]; omega) | (simp only [List.length_cons, List.length_nil]; omega)), (by (try dsimp only); first | omega | (simp only [List.length_nil]; omega) | (simp only [List.length_cons, List.length_nil]; omega)), (by (try dsimp only) <;> (rfl))⟩
    rintro i1 ⟨lo1, hi1, q⟩ E hE F hF
    conv => cbv
    refine r_lss m.sX (fun h1 => ?_) (fun h1 => ?_) <;> conv => cbv
    · refine r_index m.sX (by omega) (by omega) fun lines hlines => ?_
      conv => cbv
      have mlines := get_mem hlines
      have dlines := drop_cons hlines
      have klines := take_snoc hlines
      have jlines : (i1 + 1).toNat = Int.toNat i1 + 1 := by omega
      have wd := wideB_drop (n := headLen l) hlines
      refine r_callB m.sX (pfGood_ok lines) (fun h2 => ?_) (fun h2 => ?_) <;> conv => cbv
      · refine r_lenR m.sX fun n2 hn2 mn2 => ?_
        conv => cbv
        refine r_index m.sX (by omega) (by omega) fun x1 hx1 => ?_
        conv => cbv
        have mx1 := get_mem hx1
        have hl := headLen_some hx1
        refine r_lenR m.sX fun n3 hn3 mn3 => ?_
        conv => cbv
        refine r_neq m.sX (fun h3 => ?_) (fun h3 => ?_) <;> conv => cbv
        · refine hF _ _ ?_
          conv => cbv
          exact hQ _ (congrArg PV.bool (by rw [statesB, q, wd, h2, decide_eq_false (show ¬ (lines.length : Int) = headLen l by omega)]; rfl))   -- leaf 1
        · refine r_addf m.sX (by omega) (by omega) fun r1 hr1 => ?_
          conv => cbv
          try have tr1 : Int.toNat r1 = Int.toNat i1 + 1 := by omega
          refine hE _ r1 ?_ ?_ ⟨(by (try dsimp only); first | omega | (simp only [List.length_nil]; omega) | (simp only [List.length_cons, List.length_nil]; omega)), (by (try dsimp only); first | omega | (simp only [List.length_nil]; omega) | (simp only [List.length_cons, List.length_nil]; omega)), (by (try dsimp only) <;> (rw [q, wd, h2, decide_eq_true (show (lines.length : Int) = headLen l by omega), Bool.true_and, Bool.true_and, tr1]))⟩ (by first | omega | (dsimp only; omega))
          · cbv
          · cbv
      · refine hF _ _ ?_
        conv => cbv
        exact hQ _ (congrArg PV.bool (by rw [statesB, q, wd, h2]; rfl))   -- leaf 2
    · have dz_i1 := drop_end (xs := l) (i := Int.toNat i1) (by omega)
      have tz_i1 := take_end (xs := l) (i := Int.toNat i1) (by omega)
      refine hF _ _ ?_
      conv => cbv
      refine r_lenR m.sX fun n4 hn4 mn4 => ?_
      conv => cbv
      refine r_callB m.sX (l1In_ok n4 1 6) (fun h4 => ?_) (fun h4 => ?_) <;> conv => cbv
      · exact hQ _ (congrArg PV.bool (by rw [statesB, q, dz_i1, ← hn4, h4]; rfl))   -- leaf 3
      · exact hQ _ (congrArg PV.bool (by rw [statesB, q, dz_i1, ← hn4, h4]; rfl))   -- leaf 4

theorem changedLines_ok (a : List (List UInt8)) (b : List (List UInt8)) (hl : a.length = b.length) (hn : a.length ≤ 1000000) : OkA Try.prog 65 [.isl 1 (rows cStr a), .isl 1 (rows cStr b)] (· = .fr 3 1 (rows cInt (chgF a b a.length))) :=
  OkA.unnil 3 1 (fn_intro envOk fieldsOk mixed Try.func65 rfl fun κ X Y L Q m hQ => by
    conv => cbv
    refine r_lenR m.sX fun n1 hn1 mn1 => ?_
    conv => cbv
    refine r_loopF (α := List Int × Int) m 28 [1, 9, 10, 11] [⟨5, 41, 3, 1, 0⟩] (fun σ => [(1, .isl 1 (rows cStr b)), (5, .osl 41 0), (9, .isl 1 (rows cStr a)), (10, .int .i64 n1), (11, .int .i64 σ.2)]) (fun σ => [(41, 0, .row 3 1 (rows cInt σ.1))])
      (fun σ => (0 ≤ σ.2) ∧ (σ.2 ≤ n1) ∧ (σ.1 = chgF a b σ.2.toNat) ∧ ((σ.1.length : Int) ≤ σ.2)) (fun σ => (n1 - σ.2).toNat) ([], 0) ?_ ?_ ?_ ?_
    · cbv
    · (try dsimp only); (try simp only [rows_cons, rows_nil]); cbv
    · exact ⟨(by (try dsimp only); first | omega | (simp only [List.length_nil]; omega) | (simp only [List.length_cons, List.length_nil]; omega)), (by (try dsimp only); first | omega | (simp only [List.length_nil]; omega) | (simp only [List.length_cons, List.length_nil]; omega)), (by (try dsimp only) <;> (rfl)), (by (try dsimp only) <;> first | omega | rfl | (simp [*]; done))⟩
    rintro ⟨list, i1⟩ ⟨lo1, hi1, q, ll⟩ E hE F hF
    dsimp only at lo1 hi1 q ll
    conv => cbv
    refine r_lss m.sX (fun h1 => ?_) (fun h1 => ?_) <;> conv => cbv
    · refine r_index m.sX (by omega) (by omega) fun s_ hs_ => ?_
      conv => cbv
      have ms_ := get_mem hs_
      have ds_ := drop_cons hs_
      have ks_ := take_snoc hs_
      have js_ : (i1 + 1).toNat = Int.toNat i1 + 1 := by omega
      refine r_index m.sX (by omega) (by omega) fun x1 hx1 => ?_
      conv => cbv
      have mx1 := get_mem hx1
      have dx1 := drop_cons hx1
      have kx1 := take_snoc hx1
      have jx1 : (i1 + 1).toNat = Int.toNat i1 + 1 := by omega
      refine r_sneq m.sX (fun h2 => ?_) (fun h2 => ?_) <;> conv => cbv
      · refine r_append1 (i1) m.sX rfl (by first | omega | (dsimp only; omega)) (by first | omega | (dsimp only; omega)) fun list_2 hlist_2 => ?_
        conv => cbv
        have llist_2 : (list_2.length : Int) = list.length + 1 := by rw [hlist_2]; first | done | (simp; done) | (simp; omega)
        refine r_addf m.sX (by omega) (by omega) fun r1 hr1 => ?_
        conv => cbv
        try have tr1 : Int.toNat r1 = Int.toNat i1 + 1 := by omega
        refine hE _ (list_2, r1) ?_ ?_ ⟨(by (try dsimp only); first | omega | (simp only [List.length_nil]; omega) | (simp only [List.length_cons, List.length_nil]; omega)), (by (try dsimp only); first | omega | (simp only [List.length_nil]; omega) | (simp only [List.length_cons, List.length_nil]; omega)), (by (try dsimp only) <;> (first | (rw [hlist_2, q, tr1, chgF_step, if_neg (by rw [hx1, hs_]; simpa using h2), show ((i1.toNat : Nat) : Int) = i1 by omega]; done) | (rw [q, tr1, chgF_step, if_pos (by rw [hx1, hs_, h2]), List.append_nil]; done))), (by (try dsimp only) <;> first | omega | rfl | (simp [*]; done) | (rw [ll]; simp [*]; done))⟩ (by first | omega | (dsimp only; omega))
        · cbv
        · cbv
      · refine r_addf m.sX (by omega) (by omega) fun r2 hr2 => ?_
        conv => cbv
        try have tr2 : Int.toNat r2 = Int.toNat i1 + 1 := by omega
        refine hE _ (list, r2) ?_ ?_ ⟨(by (try dsimp only); first | omega | (simp only [List.length_nil]; omega) | (simp only [List.length_cons, List.length_nil]; omega)), (by (try dsimp only); first | omega | (simp only [List.length_nil]; omega) | (simp only [List.length_cons, List.length_nil]; omega)), (by (try dsimp only) <;> (first | (rw [hlist_2, q, tr2, chgF_step, if_neg (by rw [hx1, hs_]; simpa using h2), show ((i1.toNat : Nat) : Int) = i1 by omega]; done) | (rw [q, tr2, chgF_step, if_pos (by rw [hx1, hs_, h2]), List.append_nil]; done))), (by (try dsimp only) <;> first | omega | rfl | (simp [*]; done) | (rw [ll]; simp [*]; done))⟩ (by first | omega | (dsimp only; omega))
        · cbv
        · cbv
    · have dz_i1 := drop_end (xs := a) (i := Int.toNat i1) (by omega)
      have tz_i1 := take_end (xs := a) (i := Int.toNat i1) (by omega)
      refine hF _ _ ?_
      conv => cbv
      exact hQ (.fr 3 1 (rows cInt list)) (Eq.trans (by first | rfl | (simp only [lb, lbI, rows_cons, rows_nil, unnilT, unnil, unnilTI, unnilI]; done) | (simp only [lb, lbI, rows_cons, rows_nil, unnilT, unnil, unnilTI, unnilI]; rfl)) (congrArg (fun l => PV.fr 3 1 (rows cInt l)) (show list = chgF a b a.length from by rw [q, show i1.toNat = a.length by omega]))))   -- leaf 1

end Go.Proofs.Ytngefbdedbbplaa.Ai
