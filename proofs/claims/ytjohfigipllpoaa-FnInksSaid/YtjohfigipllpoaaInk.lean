/- Contracts of the functions on fonts and inked lines. -/
import Derived.Test.YtjohfigipllpoaaInkLaw
import Derived.Test.YtjohfigipllpoaaReg
namespace Go.Proofs.Ytjohfigipllpoaa.Ai
open Go Go.Proofs
set_option linter.unusedSimpArgs false
set_option maxRecDepth 10000
set_option maxHeartbeats 4000000
set_option linter.unusedVariables false

-- lacks impl.areLetters
-- lacks impl.isCode
-- lacks impl.IsSort
-- lacks impl.IsFont
theorem isPlainText_ok (s_ : List UInt8) (low : Int) (high : Int)  : OkA Try.prog 25 [.str s_, .int .i64 low, .int .i64 high] (· = .bool (plainB s_ && inB s_.length low high)) :=
  fn_intro envOk fieldsOk mixed Try.func25 rfl fun κ X Y L Q m hQ => by
    conv => cbv
    refine r_loopF (α := Int) m 35 [0, 1, 2, 7] [] (fun σ => [(0, .str s_), (1, .int .i64 low), (2, .int .i64 high), (7, .int .i64 σ)]) (fun σ => [])
      (fun σ => (0 ≤ σ) ∧ (σ ≤ (s_.length : Int)) ∧ (plainB s_ = (s_.drop σ.toNat).all plainC)) (fun σ => ((s_.length : Int) - σ).toNat) 0 ?_ ?_ ?_ ?_
    · cbv
    · cbv
    · exact ⟨(by (try dsimp only); first | omega | (simp only [List.length_nil]; omega) | (simp only [List.length_cons, List.length_nil]; omega)), (by (try dsimp only); first | omega | (simp only [List.length_nil]; omega) | (simp only [List.length_cons, List.length_nil]; omega)), (by (try dsimp only) <;> (rfl))⟩
    rintro i ⟨lo1, hi1, q⟩ E hE F hF
    conv => cbv
    refine r_slen (u := s_) m.sX fun n1 hn1 mn1 => ?_   -- n1 = length of s_
    conv => cbv
    refine r_lss m.sX (fun h1 => ?_) (fun h1 => ?_) <;> conv => cbv
    · refine r_sidx (u := s_) (i := i) m.sX (by omega) (by first | omega | (simp only [List.length_cons, List.length_nil]; omega) | (simp; omega)) fun x1 hx1 c1 hc1 bc1 => ?_   -- x1 = s_[i]
      have dx1 := drop_cons hx1
      have kx1 := take_snoc hx1
      have jx1 : (i + 1).toNat = Int.toNat i + 1 := by omega
      conv => cbv
      refine r_neq m.sX (fun h2 => ?_) (fun h2 => ?_) <;> conv => cbv
      · refine r_sidx (u := s_) (i := i) m.sX (by omega) (by first | omega | (simp only [List.length_cons, List.length_nil]; omega) | (simp; omega)) fun x2 hx2 c2 hc2 bc2 => ?_   -- x2 = s_[i]
        obtain rfl := Option.some.inj (hx1.symm.trans hx2)
        obtain rfl := hc1.trans hc2.symm
        conv => cbv
        refine r_lss m.sX (fun h3 => ?_) (fun h3 => ?_) <;> conv => cbv
        · have lb : plainC x1 = false := plainC_no hc1 h2 (.inl h3)
          refine hF _ _ ?_
          conv => cbv
          exact hQ _ (congrArg PV.bool (by rw [q, all_drop hx1, lb]; rfl))   -- leaf 1
        · refine r_sidx (u := s_) (i := i) m.sX (by omega) (by first | omega | (simp only [List.length_cons, List.length_nil]; omega) | (simp; omega)) fun x3 hx3 c3 hc3 bc3 => ?_   -- x3 = s_[i]
          obtain rfl := Option.some.inj (hx1.symm.trans hx3)
          obtain rfl := hc1.trans hc3.symm
          conv => cbv
          refine r_gtr m.sX (fun h4 => ?_) (fun h4 => ?_) <;> conv => cbv
          · have lb : plainC x1 = false := plainC_no hc1 h2 (.inr h4)
            refine hF _ _ ?_
            conv => cbv
            exact hQ _ (congrArg PV.bool (by rw [q, all_drop hx1, lb]; rfl))   -- leaf 2
          · have lb : plainC x1 = true := plainC_yes hc1 (by omega)
            refine r_addf m.sX (by omega) (by omega) fun i_2 hi_2 => ?_
            conv => cbv
            try have ti_2 : Int.toNat i_2 = Int.toNat i + 1 := by omega
            refine hE _ i_2 ?_ ?_ ⟨(by (try dsimp only); first | omega | (simp only [List.length_nil]; omega) | (simp only [List.length_cons, List.length_nil]; omega)), (by (try dsimp only); first | omega | (simp only [List.length_nil]; omega) | (simp only [List.length_cons, List.length_nil]; omega)), (by (try dsimp only) <;> (rw [q, all_drop hx1, lb, Bool.true_and, ti_2]))⟩ (by first | omega | (dsimp only; omega))
            · cbv
            · cbv
      · have lb : plainC x1 = true := plainC_sp hc1 h2
        refine r_addf m.sX (by omega) (by omega) fun i_3 hi_3 => ?_
        conv => cbv
        try have ti_3 : Int.toNat i_3 = Int.toNat i + 1 := by omega
        refine hE _ i_3 ?_ ?_ ⟨(by (try dsimp only); first | omega | (simp only [List.length_nil]; omega) | (simp only [List.length_cons, List.length_nil]; omega)), (by (try dsimp only); first | omega | (simp only [List.length_nil]; omega) | (simp only [List.length_cons, List.length_nil]; omega)), (by (try dsimp only) <;> (rw [q, all_drop hx1, lb, Bool.true_and, ti_3]))⟩ (by first | omega | (dsimp only; omega))
        · cbv
        · cbv
    · refine hF _ _ ?_
      conv => cbv
      refine r_slen (u := s_) m.sX fun n2 hn2 mn2 => ?_   -- n2 = length of s_
      conv => cbv
      refine r_callB m.sX (within_ok n2 low high) (fun h5 => ?_) (fun h5 => ?_) <;> conv => cbv
      · exact hQ _ (congrArg PV.bool (by rw [q, all_end (by omega), ← hn2, h5]; rfl))   -- leaf 3
      · exact hQ _ (congrArg PV.bool (by rw [q, all_end (by omega), ← hn2, h5]; rfl))   -- leaf 4

theorem IsInked_ok (x : Inked)  : OkA Try.prog 9 [.agg (cInked x)] (· = .bool (okInked x)) := by
  obtain ⟨xA, xB⟩ := x
  try dsimp only at *
  exact fn_intro envOk fieldsOk mixed Try.func9 rfl fun κ X Y L Q m hQ => by
    conv => cbv
    refine r_callB m.sX (isPlainText_ok xA 0 30) (fun h1 => ?_) (fun h1 => ?_) <;> conv => cbv
    · refine r_slen (u := xB) m.sX fun n1 hn1 mn1 => ?_   -- n1 = length of xB
      conv => cbv
      refine r_slen (u := xA) m.sX fun n2 hn2 mn2 => ?_   -- n2 = length of xA
      conv => cbv
      refine r_neq m.sX (fun h2 => ?_) (fun h2 => ?_) <;> conv => cbv
      · exact hQ _ (congrArg PV.bool (by rw [okInked_def, h1, decide_eq_false (by omega)]; rfl))   -- leaf 1
      · refine r_loopF (α := Int) m 43 [3] [⟨1, 9, 0, 0, 0⟩] (fun σ => [(1, .optr 9 0 2 0 0), (3, .int .i64 σ)]) (fun σ => [(9, 0, .box [.str xA, .str xB])])
          (fun σ => (0 ≤ σ) ∧ (σ ≤ (xB.length : Int)) ∧ (inkB xA xB = inkB (xA.drop σ.toNat) (xB.drop σ.toNat))) (fun σ => ((xB.length : Int) - σ).toNat) 0 ?_ ?_ ?_ ?_
        · cbv
        · cbv
        · exact ⟨(by (try dsimp only); first | omega | (simp only [List.length_nil]; omega) | (simp only [List.length_cons, List.length_nil]; omega)), (by (try dsimp only); first | omega | (simp only [List.length_nil]; omega) | (simp only [List.length_cons, List.length_nil]; omega)), (by (try dsimp only) <;> (rfl))⟩
        rintro i ⟨lo1, hi1, q⟩ E hE F hF
        conv => cbv
        refine r_slen (u := xB) m.sX fun n3 hn3 mn3 => ?_   -- n3 = length of xB
        conv => cbv
        refine r_lss m.sX (fun h3 => ?_) (fun h3 => ?_) <;> conv => cbv
        · refine r_sidx (u := xB) (i := i) m.sX (by omega) (by first | omega | (simp only [List.length_cons, List.length_nil]; omega) | (simp; omega)) fun x1 hx1 c1 hc1 bc1 => ?_   -- x1 = xB[i]
          obtain ⟨t0, ht0⟩ := get_ex (xs := xA) (i := i.toNat) (by omega)
          have dx1 := drop_cons hx1
          have kx1 := take_snoc hx1
          have jx1 : (i + 1).toNat = Int.toNat i + 1 := by omega
          conv => cbv
          refine r_neq m.sX (fun h4 => ?_) (fun h4 => ?_) <;> conv => cbv
          · refine r_sidx (u := xB) (i := i) m.sX (by omega) (by first | omega | (simp only [List.length_cons, List.length_nil]; omega) | (simp; omega)) fun x2 hx2 c2 hc2 bc2 => ?_   -- x2 = xB[i]
            obtain rfl := Option.some.inj (hx1.symm.trans hx2)
            obtain rfl := hc1.trans hc2.symm
            conv => cbv
            refine r_neq m.sX (fun h5 => ?_) (fun h5 => ?_) <;> conv => cbv
            · have ib : inkC t0 x1 = false := inkC_n1 t0 hc1 h4 h5
              refine hF _ _ ?_
              conv => cbv
              exact hQ _ (congrArg PV.bool (by rw [okInked_def, h1, decide_eq_true (by omega), q, inkB_drop ht0 hx1, ib]; rfl))   -- leaf 2
            · refine r_sidx (u := xA) (i := i) m.sX (by omega) (by first | omega | (simp only [List.length_cons, List.length_nil]; omega) | (simp; omega)) fun x3 hx3 c3 hc3 bc3 => ?_   -- x3 = xA[i]
              have dx3 := drop_cons hx3
              have kx3 := take_snoc hx3
              have jx3 : (i + 1).toNat = Int.toNat i + 1 := by omega
              conv => cbv
              refine r_eql m.sX (fun h6 => ?_) (fun h6 => ?_) <;> conv => cbv
              · have ib : inkC x3 x1 = false := inkC_n2 hc1 h4 hc3 h6
                refine hF _ _ ?_
                conv => cbv
                exact hQ _ (congrArg PV.bool (by rw [okInked_def, h1, decide_eq_true (by omega), q, inkB_drop hx3 hx1, ib]; rfl))   -- leaf 3
              · have ib : inkC x3 x1 = true := inkC_r hc1 h5 hc3 h6
                refine r_addf m.sX (by omega) (by omega) fun i_2 hi_2 => ?_
                conv => cbv
                try have ti_2 : Int.toNat i_2 = Int.toNat i + 1 := by omega
                refine hE _ i_2 ?_ ?_ ⟨(by (try dsimp only); first | omega | (simp only [List.length_nil]; omega) | (simp only [List.length_cons, List.length_nil]; omega)), (by (try dsimp only); first | omega | (simp only [List.length_nil]; omega) | (simp only [List.length_cons, List.length_nil]; omega)), (by (try dsimp only) <;> (first | rw [q, inkB_drop hx3 hx1, ib, Bool.true_and, ti_2] | rw [q, inkB_drop ht0 hx1, ib, Bool.true_and, ti_2]))⟩ (by first | omega | (dsimp only; omega))
                · cbv
                · cbv
          · have ib : inkC t0 x1 = true := inkC_b t0 hc1 h4
            refine r_addf m.sX (by omega) (by omega) fun i_3 hi_3 => ?_
            conv => cbv
            try have ti_3 : Int.toNat i_3 = Int.toNat i + 1 := by omega
            refine hE _ i_3 ?_ ?_ ⟨(by (try dsimp only); first | omega | (simp only [List.length_nil]; omega) | (simp only [List.length_cons, List.length_nil]; omega)), (by (try dsimp only); first | omega | (simp only [List.length_nil]; omega) | (simp only [List.length_cons, List.length_nil]; omega)), (by (try dsimp only) <;> (first | rw [q, inkB_drop hx3 hx1, ib, Bool.true_and, ti_3] | rw [q, inkB_drop ht0 hx1, ib, Bool.true_and, ti_3]))⟩ (by first | omega | (dsimp only; omega))
            · cbv
            · cbv
        · refine hF _ _ ?_
          conv => cbv
          exact hQ _ (congrArg PV.bool (by rw [okInked_def, h1, decide_eq_true (by omega), q, inkB_end (.inr (by omega))]; rfl))   -- leaf 4
    · exact hQ _ (congrArg PV.bool (by rw [okInked_def, h1]; rfl))   -- leaf 5

theorem isInk_ok (ink : List UInt8)  : OkA Try.prog 26 [.str ink] (· = .bool (isInkB ink)) :=
  fn_intro envOk fieldsOk mixed Try.func26 rfl fun κ X Y L Q m hQ => by
    conv => cbv
    refine r_seql m.sX (fun h1 => ?_) (fun h1 => ?_) <;> conv => cbv
    · exact hQ _ (congrArg PV.bool (by rw [isInkB, decide_eq_true h1]; rfl))   -- leaf 1
    · refine r_seql m.sX (fun h2 => ?_) (fun h2 => ?_) <;> conv => cbv
      · exact hQ _ (congrArg PV.bool (by rw [isInkB, decide_eq_true h2]; simp))   -- leaf 2
      · exact hQ _ (congrArg PV.bool (by rw [isInkB, decide_eq_false h1, decide_eq_false h2]; rfl))   -- leaf 3

-- lacks impl.sortAt
-- lacks impl.BlankUnits
-- lacks impl.SetOfCode
-- lacks spec.tyLetters
-- lacks spec.tySort
-- lacks spec.tyFont
theorem coText_ok (s_ : List UInt8)  : OkA Try.prog 32 [.str s_] (· = .bool (plainB s_ && decide (s_.length ≤ 30))) :=
  fn_intro envOk fieldsOk mixed Try.func32 rfl fun κ X Y L Q m hQ => by
    conv => cbv
    refine r_loopF (α := Int) m 29 [0, 3] [] (fun σ => [(0, .str s_), (3, .int .i64 σ)]) (fun σ => [])
      (fun σ => (0 ≤ σ) ∧ (σ ≤ (s_.length : Int)) ∧ (plainB s_ = (s_.drop σ.toNat).all plainC)) (fun σ => ((s_.length : Int) - σ).toNat) 0 ?_ ?_ ?_ ?_
    · cbv
    · cbv
    · exact ⟨(by (try dsimp only); first | omega | (simp only [List.length_nil]; omega) | (simp only [List.length_cons, List.length_nil]; omega)), (by (try dsimp only); first | omega | (simp only [List.length_nil]; omega) | (simp only [List.length_cons, List.length_nil]; omega)), (by (try dsimp only) <;> (rfl))⟩
    rintro i ⟨lo1, hi1, q⟩ E hE F hF
    conv => cbv
    refine r_slen (u := s_) m.sX fun n1 hn1 mn1 => ?_   -- n1 = length of s_
    conv => cbv
    refine r_lss m.sX (fun h1 => ?_) (fun h1 => ?_) <;> conv => cbv
    · refine r_sidx (u := s_) (i := i) m.sX (by omega) (by first | omega | (simp only [List.length_cons, List.length_nil]; omega) | (simp; omega)) fun x1 hx1 c1 hc1 bc1 => ?_   -- x1 = s_[i]
      have dx1 := drop_cons hx1
      have kx1 := take_snoc hx1
      have jx1 : (i + 1).toNat = Int.toNat i + 1 := by omega
      conv => cbv
      refine r_neq m.sX (fun h2 => ?_) (fun h2 => ?_) <;> conv => cbv
      · refine r_sidx (u := s_) (i := i) m.sX (by omega) (by first | omega | (simp only [List.length_cons, List.length_nil]; omega) | (simp; omega)) fun x2 hx2 c2 hc2 bc2 => ?_   -- x2 = s_[i]
        obtain rfl := Option.some.inj (hx1.symm.trans hx2)
        obtain rfl := hc1.trans hc2.symm
        conv => cbv
        refine r_lss m.sX (fun h3 => ?_) (fun h3 => ?_) <;> conv => cbv
        · have lb : plainC x1 = false := plainC_no hc1 h2 (.inl h3)
          refine hF _ _ ?_
          conv => cbv
          exact hQ _ (congrArg PV.bool (by rw [q, all_drop hx1, lb]; rfl))   -- leaf 1
        · refine r_sidx (u := s_) (i := i) m.sX (by omega) (by first | omega | (simp only [List.length_cons, List.length_nil]; omega) | (simp; omega)) fun x3 hx3 c3 hc3 bc3 => ?_   -- x3 = s_[i]
          obtain rfl := Option.some.inj (hx1.symm.trans hx3)
          obtain rfl := hc1.trans hc3.symm
          conv => cbv
          refine r_gtr m.sX (fun h4 => ?_) (fun h4 => ?_) <;> conv => cbv
          · have lb : plainC x1 = false := plainC_no hc1 h2 (.inr h4)
            refine hF _ _ ?_
            conv => cbv
            exact hQ _ (congrArg PV.bool (by rw [q, all_drop hx1, lb]; rfl))   -- leaf 2
          · have lb : plainC x1 = true := plainC_yes hc1 (by omega)
            refine r_addf m.sX (by omega) (by omega) fun i_2 hi_2 => ?_
            conv => cbv
            try have ti_2 : Int.toNat i_2 = Int.toNat i + 1 := by omega
            refine hE _ i_2 ?_ ?_ ⟨(by (try dsimp only); first | omega | (simp only [List.length_nil]; omega) | (simp only [List.length_cons, List.length_nil]; omega)), (by (try dsimp only); first | omega | (simp only [List.length_nil]; omega) | (simp only [List.length_cons, List.length_nil]; omega)), (by (try dsimp only) <;> (rw [q, all_drop hx1, lb, Bool.true_and, ti_2]))⟩ (by first | omega | (dsimp only; omega))
            · cbv
            · cbv
      · have lb : plainC x1 = true := plainC_sp hc1 h2
        refine r_addf m.sX (by omega) (by omega) fun i_3 hi_3 => ?_
        conv => cbv
        try have ti_3 : Int.toNat i_3 = Int.toNat i + 1 := by omega
        refine hE _ i_3 ?_ ?_ ⟨(by (try dsimp only); first | omega | (simp only [List.length_nil]; omega) | (simp only [List.length_cons, List.length_nil]; omega)), (by (try dsimp only); first | omega | (simp only [List.length_nil]; omega) | (simp only [List.length_cons, List.length_nil]; omega)), (by (try dsimp only) <;> (rw [q, all_drop hx1, lb, Bool.true_and, ti_3]))⟩ (by first | omega | (dsimp only; omega))
        · cbv
        · cbv
    · refine hF _ _ ?_
      conv => cbv
      refine r_slen (u := s_) m.sX fun n2 hn2 mn2 => ?_   -- n2 = length of s_
      conv => cbv
      refine r_leq m.sX (fun h5 => ?_) (fun h5 => ?_) <;> conv => cbv
      · exact hQ _ (congrArg PV.bool (by rw [q, all_end (by omega), decide_eq_true (by omega)]; rfl))   -- leaf 3
      · exact hQ _ (congrArg PV.bool (by rw [q, all_end (by omega), decide_eq_false (by omega)]; rfl))   -- leaf 4

theorem coGood_ok (x : Inked)  : OkA Try.prog 22 [.agg (cInked x)] (· = .bool (okInked x)) := by
  obtain ⟨xA, xB⟩ := x
  try dsimp only at *
  exact fn_intro envOk fieldsOk mixed Try.func22 rfl fun κ X Y L Q m hQ => by
    conv => cbv
    refine r_loopF (α := Int) m 56 [3] [⟨1, 9, 0, 0, 0⟩] (fun σ => [(1, .optr 9 0 2 0 0), (3, .int .i64 σ)]) (fun σ => [(9, 0, .box [.str xA, .str xB])])
      (fun σ => (0 ≤ σ) ∧ (σ ≤ (xB.length : Int)) ∧ (inkB xA xB = inkB (xA.drop σ.toNat) (xB.drop σ.toNat))) (fun σ => ((xB.length : Int) - σ).toNat) 0 ?_ ?_ ?_ ?_
    · cbv
    · cbv
    · exact ⟨(by (try dsimp only); first | omega | (simp only [List.length_nil]; omega) | (simp only [List.length_cons, List.length_nil]; omega)), (by (try dsimp only); first | omega | (simp only [List.length_nil]; omega) | (simp only [List.length_cons, List.length_nil]; omega)), (by (try dsimp only) <;> (rfl))⟩
    rintro i ⟨lo1, hi1, q⟩ E hE F hF
    conv => cbv
    refine r_slen (u := xB) m.sX fun n1 hn1 mn1 => ?_   -- n1 = length of xB
    conv => cbv
    refine r_lss m.sX (fun h1 => ?_) (fun h1 => ?_) <;> conv => cbv
    · refine r_slen (u := xA) m.sX fun n2 hn2 mn2 => ?_   -- n2 = length of xA
      conv => cbv
      refine r_lss m.sX (fun h2 => ?_) (fun h2 => ?_) <;> conv => cbv
      · refine r_sidx (u := xB) (i := i) m.sX (by omega) (by first | omega | (simp only [List.length_cons, List.length_nil]; omega) | (simp; omega)) fun x1 hx1 c1 hc1 bc1 => ?_   -- x1 = xB[i]
        obtain ⟨t0, ht0⟩ := get_ex (xs := xA) (i := i.toNat) (by omega)
        have dx1 := drop_cons hx1
        have kx1 := take_snoc hx1
        have jx1 : (i + 1).toNat = Int.toNat i + 1 := by omega
        conv => cbv
        refine r_neq m.sX (fun h3 => ?_) (fun h3 => ?_) <;> conv => cbv
        · refine r_sidx (u := xB) (i := i) m.sX (by omega) (by first | omega | (simp only [List.length_cons, List.length_nil]; omega) | (simp; omega)) fun x2 hx2 c2 hc2 bc2 => ?_   -- x2 = xB[i]
          obtain rfl := Option.some.inj (hx1.symm.trans hx2)
          obtain rfl := hc1.trans hc2.symm
          conv => cbv
          refine r_neq m.sX (fun h4 => ?_) (fun h4 => ?_) <;> conv => cbv
          · have ib : inkC t0 x1 = false := inkC_n1 t0 hc1 h3 h4
            refine hF _ _ ?_
            conv => cbv
            exact hQ _ (congrArg PV.bool (by rw [okInked_alt, q, inkB_drop ht0 hx1, ib]; simp))   -- leaf 1
          · refine r_sidx (u := xA) (i := i) m.sX (by omega) (by first | omega | (simp only [List.length_cons, List.length_nil]; omega) | (simp; omega)) fun x3 hx3 c3 hc3 bc3 => ?_   -- x3 = xA[i]
            have dx3 := drop_cons hx3
            have kx3 := take_snoc hx3
            have jx3 : (i + 1).toNat = Int.toNat i + 1 := by omega
            conv => cbv
            refine r_eql m.sX (fun h5 => ?_) (fun h5 => ?_) <;> conv => cbv
            · have ib : inkC x3 x1 = false := inkC_n2 hc1 h3 hc3 h5
              refine r_sidx (u := xB) (i := i) m.sX (by omega) (by first | omega | (simp only [List.length_cons, List.length_nil]; omega) | (simp; omega)) fun x4 hx4 c4 hc4 bc4 => ?_   -- x4 = xB[i]
              obtain rfl := Option.some.inj (hx1.symm.trans hx4)
              obtain rfl := hc1.trans hc4.symm
              conv => cbv
              refine r_neq m.sX (fun h6 => ?_) (fun h6 => ?_) <;> conv => cbv
              · refine hF _ _ ?_
                conv => cbv
                exact hQ _ (congrArg PV.bool (by rw [okInked_alt, q, inkB_drop hx3 hx1, ib]; simp))   -- leaf 2
              · refine r_addf m.sX (by omega) (by omega) fun i_2 hi_2 => ?_
                conv => cbv
                try have ti_2 : Int.toNat i_2 = Int.toNat i + 1 := by omega
                refine hE _ i_2 ?_ ?_ ⟨(by (try dsimp only); first | omega | (simp only [List.length_nil]; omega) | (simp only [List.length_cons, List.length_nil]; omega)), (by (try dsimp only); first | omega | (simp only [List.length_nil]; omega) | (simp only [List.length_cons, List.length_nil]; omega)), (by (try dsimp only) <;> (first | (exfalso; omega) | rw [q, inkB_drop hx3 hx1, ib, Bool.true_and, ti_2] | rw [q, inkB_drop ht0 hx1, ib, Bool.true_and, ti_2]))⟩ (by first | omega | (dsimp only; omega))
                · cbv
                · cbv
            · have ib : inkC x3 x1 = true := inkC_r hc1 h4 hc3 h5
              refine r_addf m.sX (by omega) (by omega) fun i_3 hi_3 => ?_
              conv => cbv
              try have ti_3 : Int.toNat i_3 = Int.toNat i + 1 := by omega
              refine hE _ i_3 ?_ ?_ ⟨(by (try dsimp only); first | omega | (simp only [List.length_nil]; omega) | (simp only [List.length_cons, List.length_nil]; omega)), (by (try dsimp only); first | omega | (simp only [List.length_nil]; omega) | (simp only [List.length_cons, List.length_nil]; omega)), (by (try dsimp only) <;> (first | (exfalso; omega) | rw [q, inkB_drop hx3 hx1, ib, Bool.true_and, ti_3] | rw [q, inkB_drop ht0 hx1, ib, Bool.true_and, ti_3]))⟩ (by first | omega | (dsimp only; omega))
              · cbv
              · cbv
        · have ib : inkC t0 x1 = true := inkC_b t0 hc1 h3
          refine r_sidx (u := xA) (i := i) m.sX (by omega) (by first | omega | (simp only [List.length_cons, List.length_nil]; omega) | (simp; omega)) fun x5 hx5 c5 hc5 bc5 => ?_   -- x5 = xA[i]
          have dx5 := drop_cons hx5
          have kx5 := take_snoc hx5
          have jx5 : (i + 1).toNat = Int.toNat i + 1 := by omega
          conv => cbv
          refine r_eql m.sX (fun h7 => ?_) (fun h7 => ?_) <;> conv => cbv
          · refine r_sidx (u := xB) (i := i) m.sX (by omega) (by first | omega | (simp only [List.length_cons, List.length_nil]; omega) | (simp; omega)) fun x6 hx6 c6 hc6 bc6 => ?_   -- x6 = xB[i]
            obtain rfl := Option.some.inj (hx1.symm.trans hx6)
            obtain rfl := hc1.trans hc6.symm
            conv => cbv
            refine r_neq m.sX (fun h8 => ?_) (fun h8 => ?_) <;> conv => cbv
            · refine hF _ _ ?_
              conv => cbv
              exact hQ _ (congrArg PV.bool (by exfalso; omega))   -- leaf 3
            · refine r_addf m.sX (by omega) (by omega) fun i_4 hi_4 => ?_
              conv => cbv
              try have ti_4 : Int.toNat i_4 = Int.toNat i + 1 := by omega
              refine hE _ i_4 ?_ ?_ ⟨(by (try dsimp only); first | omega | (simp only [List.length_nil]; omega) | (simp only [List.length_cons, List.length_nil]; omega)), (by (try dsimp only); first | omega | (simp only [List.length_nil]; omega) | (simp only [List.length_cons, List.length_nil]; omega)), (by (try dsimp only) <;> (first | (exfalso; omega) | rw [q, inkB_drop hx3 hx1, ib, Bool.true_and, ti_4] | rw [q, inkB_drop ht0 hx1, ib, Bool.true_and, ti_4]))⟩ (by first | omega | (dsimp only; omega))
              · cbv
              · cbv
          · refine r_addf m.sX (by omega) (by omega) fun i_5 hi_5 => ?_
            conv => cbv
            try have ti_5 : Int.toNat i_5 = Int.toNat i + 1 := by omega
            refine hE _ i_5 ?_ ?_ ⟨(by (try dsimp only); first | omega | (simp only [List.length_nil]; omega) | (simp only [List.length_cons, List.length_nil]; omega)), (by (try dsimp only); first | omega | (simp only [List.length_nil]; omega) | (simp only [List.length_cons, List.length_nil]; omega)), (by (try dsimp only) <;> (first | (exfalso; omega) | rw [q, inkB_drop hx3 hx1, ib, Bool.true_and, ti_5] | rw [q, inkB_drop ht0 hx1, ib, Bool.true_and, ti_5]))⟩ (by first | omega | (dsimp only; omega))
            · cbv
            · cbv
      · refine hF _ _ ?_
        conv => cbv
        refine r_slen (u := xA) m.sX fun n3 hn3 mn3 => ?_   -- n3 = length of xA
        conv => cbv
        refine r_slen (u := xB) m.sX fun n4 hn4 mn4 => ?_   -- n4 = length of xB
        conv => cbv
        refine r_eql m.sX (fun h9 => ?_) (fun h9 => ?_) <;> conv => cbv
        · refine r_callB m.sX (coText_ok xA) (fun h10 => ?_) (fun h10 => ?_) <;> conv => cbv
          · exact hQ _ (congrArg PV.bool (by rw [okInked_pair, decide_eq_true (by omega), h10, q, inkB_end (.inl (by omega))]; rfl))   -- leaf 4
          · exact hQ _ (congrArg PV.bool (by rw [okInked_pair, decide_eq_true (by omega), h10]; rfl))   -- leaf 5
        · exact hQ _ (congrArg PV.bool (by rw [okInked_pair, decide_eq_false (by omega)]; rfl))   -- leaf 6
    · refine hF _ _ ?_
      conv => cbv
      refine r_slen (u := xA) m.sX fun n5 hn5 mn5 => ?_   -- n5 = length of xA
      conv => cbv
      refine r_slen (u := xB) m.sX fun n6 hn6 mn6 => ?_   -- n6 = length of xB
      conv => cbv
      refine r_eql m.sX (fun h11 => ?_) (fun h11 => ?_) <;> conv => cbv
      · refine r_callB m.sX (coText_ok xA) (fun h12 => ?_) (fun h12 => ?_) <;> conv => cbv
        · exact hQ _ (congrArg PV.bool (by rw [okInked_pair, decide_eq_true (by omega), h12, q, inkB_end (.inr (by omega))]; rfl))   -- leaf 7
        · exact hQ _ (congrArg PV.bool (by rw [okInked_pair, decide_eq_true (by omega), h12]; rfl))   -- leaf 8
      · exact hQ _ (congrArg PV.bool (by rw [okInked_pair, decide_eq_false (by omega)]; rfl))   -- leaf 9

theorem coInk_ok (ink : List UInt8)  : OkA Try.prog 34 [.str ink] (· = .bool (isInkB ink)) :=
  fn_intro envOk fieldsOk mixed Try.func34 rfl fun κ X Y L Q m hQ => by
    conv => cbv
    refine r_seql m.sX (fun h1 => ?_) (fun h1 => ?_) <;> conv => cbv
    · exact hQ _ (congrArg PV.bool (by rw [isInkB, decide_eq_true h1]; rfl))   -- leaf 1
    · refine r_seql m.sX (fun h2 => ?_) (fun h2 => ?_) <;> conv => cbv
      · exact hQ _ (congrArg PV.bool (by rw [isInkB, decide_eq_true h2]; simp))   -- leaf 2
      · exact hQ _ (congrArg PV.bool (by rw [isInkB, decide_eq_false h1, decide_eq_false h2]; rfl))   -- leaf 3

-- lacks spec.tyFind
end Go.Proofs.Ytjohfigipllpoaa.Ai
