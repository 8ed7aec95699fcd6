/- Contracts of the functions on fonts and inked lines. -/
import Derived.Test.YtkdaikliahnenaaInkLaw
import Derived.Test.YtkdaikliahnenaaReg
namespace Go.Proofs.Ytkdaikliahnenaa.Ai
open Go Go.Proofs
set_option maxRecDepth 10000
set_option maxHeartbeats 4000000
set_option linter.unusedVariables false

theorem areLetters_ok (s_ : List UInt8) (low : Int) (high : Int)  : OkA Try.prog 130 [.str s_, .int .i64 low, .int .i64 high] (· = .bool (lettersB s_ && inB s_.length low high)) :=
  fn_intro envOk fieldsOk mixed Try.func130 rfl fun κ X Y L Q m hQ => by
    conv => cbv
    refine r_loopF (α := Int) m 29 [0, 1, 2, 7] [] (fun σ => [(0, .str s_), (1, .int .i64 low), (2, .int .i64 high), (7, .int .i64 σ)]) (fun σ => [])
      (fun σ => (0 ≤ σ) ∧ (σ ≤ (s_.length : Int)) ∧ (lettersB s_ = (s_.drop σ.toNat).all letB)) (fun σ => ((s_.length : Int) - σ).toNat) 0 ?_ ?_ ?_ ?_
    · cbv
    · cbv
    · exact ⟨(by (try dsimp only); first | omega | (simp only [List.length_nil]; omega)), (by (try dsimp only); first | omega | (simp only [List.length_nil]; omega)), (by (try dsimp only) <;> (rfl))⟩
    rintro i ⟨lo1, hi1, q⟩ E hE F hF
    conv => cbv
    refine r_slen (u := s_) m.sX fun n1 hn1 mn1 => ?_   -- n1 = length of s_
    conv => cbv
    refine r_lss m.sX (fun h1 => ?_) (fun h1 => ?_) <;> conv => cbv
    · refine r_sidx (u := s_) (i := i) m.sX (by omega) (by first | omega | (simp only [List.length_cons, List.length_nil]; omega) | (simp; omega)) fun x1 hx1 c1 hc1 bc1 => ?_   -- x1 = s_[i]
      have dx1 := drop_cons hx1
      have kx1 := take_snoc hx1
      have jx1 : (i + 1).toNat = Int.toNat i + 1 := by omega
      conv => cbv
      refine r_lss m.sX (fun h2 => ?_) (fun h2 => ?_) <;> conv => cbv
      · have lb : letB x1 = false := letB_lo hc1 h2
        refine hF _ _ ?_
        conv => cbv
        exact hQ _ (congrArg PV.bool (by rw [q, all_drop hx1, lb]; rfl))   -- leaf 1
      · refine r_sidx (u := s_) (i := i) m.sX (by omega) (by first | omega | (simp only [List.length_cons, List.length_nil]; omega) | (simp; omega)) fun x2 hx2 c2 hc2 bc2 => ?_   -- x2 = s_[i]
        obtain rfl := Option.some.inj (hx1.symm.trans hx2)
        obtain rfl := hc1.trans hc2.symm
        conv => cbv
        refine r_gtr m.sX (fun h3 => ?_) (fun h3 => ?_) <;> conv => cbv
        · have lb : letB x1 = false := letB_hi hc1 h3
          refine hF _ _ ?_
          conv => cbv
          exact hQ _ (congrArg PV.bool (by rw [q, all_drop hx1, lb]; rfl))   -- leaf 2
        · have lb : letB x1 = true := letB_in hc1 (by omega)
          refine r_addf m.sX (by omega) (by omega) fun i_2 hi_2 => ?_
          conv => cbv
          try have ti_2 : Int.toNat i_2 = Int.toNat i + 1 := by omega
          refine hE _ i_2 ?_ ?_ ⟨(by (try dsimp only); first | omega | (simp only [List.length_nil]; omega)), (by (try dsimp only); first | omega | (simp only [List.length_nil]; omega)), (by (try dsimp only) <;> (rw [q, all_drop hx1, lb, Bool.true_and, ti_2]))⟩ (by first | omega | (dsimp only; omega))
          · cbv
          · cbv
    · refine hF _ _ ?_
      conv => cbv
      refine r_slen (u := s_) m.sX fun n2 hn2 mn2 => ?_   -- n2 = length of s_
      conv => cbv
      refine r_callB m.sX (within_ok n2 low high) (fun h4 => ?_) (fun h4 => ?_) <;> conv => cbv
      · exact hQ _ (congrArg PV.bool (by rw [q, all_end (by omega), ← hn2, h4]; rfl))   -- leaf 3
      · exact hQ _ (congrArg PV.bool (by rw [q, all_end (by omega), ← hn2, h4]; rfl))   -- leaf 4

theorem isCode_ok (s_ : List UInt8)  : OkA Try.prog 142 [.str s_] (· = .bool (lettersB s_ && inB s_.length 1 3)) :=
  fn_intro envOk fieldsOk mixed Try.func142 rfl fun κ X Y L Q m hQ => by
    conv => cbv
    refine r_callB m.sX (areLetters_ok s_ 1 3) (fun h1 => ?_) (fun h1 => ?_) <;> conv => cbv
    · exact hQ _ (congrArg PV.bool (by exact h1.symm))   -- leaf 1
    · exact hQ _ (congrArg PV.bool (by exact h1.symm))   -- leaf 2

theorem IsSort_ok (s_ : FSort)  : OkA Try.prog 129 [.agg (cSort s_)] (· = .bool (okSort s_)) := by
  obtain ⟨s_A, s_B⟩ := s_
  try dsimp only at *
  exact fn_intro envOk fieldsOk mixed Try.func129 rfl fun κ X Y L Q m hQ => by
    conv => cbv
    refine r_callB m.sX (isCode_ok s_A) (fun h1 => ?_) (fun h1 => ?_) <;> conv => cbv
    · refine r_callB m.sX (within_ok s_B 1 54) (fun h2 => ?_) (fun h2 => ?_) <;> conv => cbv
      · exact hQ _ (congrArg PV.bool (by rw [okSort, h1, h2]; rfl))   -- leaf 1
      · exact hQ _ (congrArg PV.bool (by rw [okSort, h1, h2]; rfl))   -- leaf 2
    · exact hQ _ (congrArg PV.bool (by rw [okSort, h1]; rfl))   -- leaf 3

theorem IsFont_ok (f : List FSort)  : OkA Try.prog 70 [.isl 2 (rows cSort f)] (· = .bool (okFont f)) :=
  fn_intro envOk fieldsOk mixed Try.func70 rfl fun κ X Y L Q m hQ => by
    conv => cbv
    refine r_lenR m.sX fun n1 hn1 mn1 => ?_
    conv => cbv
    refine r_loopF (α := Int) m 34 [0, 5, 6, 7] [] (fun σ => [(0, .isl 2 (rows cSort f)), (5, .isl 2 (rows cSort f)), (6, .int .i64 n1), (7, .int .i64 σ)]) (fun σ => [])
      (fun σ => (0 ≤ σ) ∧ (σ ≤ n1) ∧ (okFontG none f = okFontG (prevF f σ) (f.drop σ.toNat))) (fun σ => (n1 - σ).toNat) 0 ?_ ?_ ?_ ?_
    · cbv
    · cbv
    · exact ⟨(by (try dsimp only); first | omega | (simp only [List.length_nil]; omega)), (by (try dsimp only); first | omega | (simp only [List.length_nil]; omega)), (by (try dsimp only) <;> (rw [prevF_zero (by omega) (by omega)]; rfl))⟩
    rintro i1 ⟨lo1, hi1, q⟩ E hE F hF
    conv => cbv
    refine r_lss m.sX (fun h1 => ?_) (fun h1 => ?_) <;> conv => cbv
    · refine r_index m.sX (by omega) (by omega) fun v hs_A => ?_
      obtain ⟨s_A, s_B⟩ := v
      conv => cbv
      have hs_ := hs_A
      have ms_ := get_mem hs_
      have ds_ := drop_cons hs_
      have ks_ := take_snoc hs_
      have js_ : (i1 + 1).toNat = Int.toNat i1 + 1 := by omega
      have pn : prevF f (i1 + 1) = some s_A := prevF_some (x := (s_A, s_B)) (by omega) (by rw [show i1 + 1 - 1 = i1 by omega]; exact hs_)
      refine r_draw m (by kernel_rfl) ?_
      conv => cbv
      refine r_callBS m.sY (IsSort_ok (s_A, s_B)) (fun h2 => ?_) (fun h2 => ?_) <;> conv => cbv
      · refine r_gtr m.sY (fun h3 => ?_) (fun h3 => ?_) <;> conv => cbv
        · refine r_subf m.sY (by omega) (by omega) fun r1 hr1 => ?_
          conv => cbv
          refine r_index m.sY (by omega) (by omega) fun v hx1A => ?_
          obtain ⟨x1A, x1B⟩ := v
          conv => cbv
          have hx1 := hx1A
          have mx1 := get_mem hx1
          have pv : prevF f i1 = some x1A := prevF_some (x := (x1A, x1B)) (by omega) (by rw [← hr1]; exact hx1)
          refine r_sgeq m.sY (fun h4 => ?_) (fun h4 => ?_) <;> conv => cbv
          · have sb : lessB (prevF f i1) s_A = false := by rw [pv]; exact h4
            refine hF _ _ ?_
            conv => cbv
            exact hQ _ (congrArg PV.bool (by rw [okFont, q, ds_, okFontG_bad (.inr sb)]; rfl))   -- leaf 1
          · have sp : lessB (prevF f i1) s_A = true := by rw [pv]; exact h4
            refine r_addf m.sX (by omega) (by omega) fun r2 hr2 => ?_
            conv => cbv
            try have tr2 : Int.toNat r2 = Int.toNat i1 + 1 := by omega
            refine hE _ r2 ?_ ?_ ⟨(by (try dsimp only); first | omega | (simp only [List.length_nil]; omega)), (by (try dsimp only); first | omega | (simp only [List.length_nil]; omega)), (by (try dsimp only) <;> (rw [q, ds_, okFontG_step h2 sp, tr2, show r2 = i1 + 1 by omega, pn]))⟩ (by first | omega | (dsimp only; omega))
            · cbv
            · cbv
        · have sp : lessB (prevF f i1) s_A = true := by rw [prevF_zero (by omega) lo1]; rfl
          refine r_addf m.sX (by omega) (by omega) fun r3 hr3 => ?_
          conv => cbv
          try have tr3 : Int.toNat r3 = Int.toNat i1 + 1 := by omega
          refine hE _ r3 ?_ ?_ ⟨(by (try dsimp only); first | omega | (simp only [List.length_nil]; omega)), (by (try dsimp only); first | omega | (simp only [List.length_nil]; omega)), (by (try dsimp only) <;> (rw [q, ds_, okFontG_step h2 sp, tr3, show r3 = i1 + 1 by omega, pn]))⟩ (by first | omega | (dsimp only; omega))
          · cbv
          · cbv
      · refine hF _ _ ?_
        conv => cbv
        exact hQ _ (congrArg PV.bool (by rw [okFont, q, ds_, okFontG_bad (.inl h2)]; rfl))   -- leaf 2
    · have dz_i1 := drop_end (xs := f) (i := Int.toNat i1) (by omega)
      have tz_i1 := take_end (xs := f) (i := Int.toNat i1) (by omega)
      refine hF _ _ ?_
      conv => cbv
      refine r_lenR m.sX fun n2 hn2 mn2 => ?_
      conv => cbv
      refine r_callB m.sX (within_ok n2 1 32) (fun h5 => ?_) (fun h5 => ?_) <;> conv => cbv
      · exact hQ _ (congrArg PV.bool (by rw [okFont, q, dz_i1, ← hn2, h5]; rfl))   -- leaf 3
      · exact hQ _ (congrArg PV.bool (by rw [okFont, q, dz_i1, ← hn2, h5]; rfl))   -- leaf 4

theorem isPlainText_ok (s_ : List UInt8) (low : Int) (high : Int)  : OkA Try.prog 86 [.str s_, .int .i64 low, .int .i64 high] (· = .bool (plainB s_ && inB s_.length low high)) :=
  fn_intro envOk fieldsOk mixed Try.func86 rfl fun κ X Y L Q m hQ => by
    conv => cbv
    refine r_loopF (α := Int) m 35 [0, 1, 2, 7] [] (fun σ => [(0, .str s_), (1, .int .i64 low), (2, .int .i64 high), (7, .int .i64 σ)]) (fun σ => [])
      (fun σ => (0 ≤ σ) ∧ (σ ≤ (s_.length : Int)) ∧ (plainB s_ = (s_.drop σ.toNat).all plainC)) (fun σ => ((s_.length : Int) - σ).toNat) 0 ?_ ?_ ?_ ?_
    · cbv
    · cbv
    · exact ⟨(by (try dsimp only); first | omega | (simp only [List.length_nil]; omega)), (by (try dsimp only); first | omega | (simp only [List.length_nil]; omega)), (by (try dsimp only) <;> (rfl))⟩
    rintro i ⟨lo1, hi1, q⟩ E hE F hF
    conv => cbv
    refine r_slen (u := s_) m.sX fun n1 hn1 mn1 => ?_   -- n1 = length of s_
    conv => cbv
    refine r_lss m.sX (fun h1 => ?_) (fun h1 => ?_) <;> conv => cbv
    · refine r_sidx (u := s_) (i := i) m.sX (by omega) (by first | omega | (simp only [List.length_cons, List.length_nil]; omega) | (simp; omega)) fun x1 hx1 c1 hc1 bc1 => ?_   -- x1 = s_[i]
      have dx1 := drop_cons hx1
      have kx1 := take_snoc hx1
      have jx1 : (i + 1).toNat = Int.toNat i + 1 := by omega
      conv => cbv
      refine r_neq m.sX (fun h2 => ?_) (fun h2 => ?_) <;> conv => cbv
      · refine r_sidx (u := s_) (i := i) m.sX (by omega) (by first | omega | (simp only [List.length_cons, List.length_nil]; omega) | (simp; omega)) fun x2 hx2 c2 hc2 bc2 => ?_   -- x2 = s_[i]
        obtain rfl := Option.some.inj (hx1.symm.trans hx2)
        obtain rfl := hc1.trans hc2.symm
        conv => cbv
        refine r_lss m.sX (fun h3 => ?_) (fun h3 => ?_) <;> conv => cbv
        · have lb : plainC x1 = false := plainC_no hc1 h2 (.inl h3)
          refine hF _ _ ?_
          conv => cbv
          exact hQ _ (congrArg PV.bool (by rw [q, all_drop hx1, lb]; rfl))   -- leaf 1
        · refine r_sidx (u := s_) (i := i) m.sX (by omega) (by first | omega | (simp only [List.length_cons, List.length_nil]; omega) | (simp; omega)) fun x3 hx3 c3 hc3 bc3 => ?_   -- x3 = s_[i]
          obtain rfl := Option.some.inj (hx1.symm.trans hx3)
          obtain rfl := hc1.trans hc3.symm
          conv => cbv
          refine r_gtr m.sX (fun h4 => ?_) (fun h4 => ?_) <;> conv => cbv
          · have lb : plainC x1 = false := plainC_no hc1 h2 (.inr h4)
            refine hF _ _ ?_
            conv => cbv
            exact hQ _ (congrArg PV.bool (by rw [q, all_drop hx1, lb]; rfl))   -- leaf 2
          · have lb : plainC x1 = true := plainC_yes hc1 (by omega)
            refine r_addf m.sX (by omega) (by omega) fun i_2 hi_2 => ?_
            conv => cbv
            try have ti_2 : Int.toNat i_2 = Int.toNat i + 1 := by omega
            refine hE _ i_2 ?_ ?_ ⟨(by (try dsimp only); first | omega | (simp only [List.length_nil]; omega)), (by (try dsimp only); first | omega | (simp only [List.length_nil]; omega)), (by (try dsimp only) <;> (rw [q, all_drop hx1, lb, Bool.true_and, ti_2]))⟩ (by first | omega | (dsimp only; omega))
            · cbv
            · cbv
      · have lb : plainC x1 = true := plainC_sp hc1 h2
        refine r_addf m.sX (by omega) (by omega) fun i_3 hi_3 => ?_
        conv => cbv
        try have ti_3 : Int.toNat i_3 = Int.toNat i + 1 := by omega
        refine hE _ i_3 ?_ ?_ ⟨(by (try dsimp only); first | omega | (simp only [List.length_nil]; omega)), (by (try dsimp only); first | omega | (simp only [List.length_nil]; omega)), (by (try dsimp only) <;> (rw [q, all_drop hx1, lb, Bool.true_and, ti_3]))⟩ (by first | omega | (dsimp only; omega))
        · cbv
        · cbv
    · refine hF _ _ ?_
      conv => cbv
      refine r_slen (u := s_) m.sX fun n2 hn2 mn2 => ?_   -- n2 = length of s_
      conv => cbv
      refine r_callB m.sX (within_ok n2 low high) (fun h5 => ?_) (fun h5 => ?_) <;> conv => cbv
      · exact hQ _ (congrArg PV.bool (by rw [q, all_end (by omega), ← hn2, h5]; rfl))   -- leaf 3
      · exact hQ _ (congrArg PV.bool (by rw [q, all_end (by omega), ← hn2, h5]; rfl))   -- leaf 4

theorem IsInked_ok (x : Inked)  : OkA Try.prog 24 [.agg (cInked x)] (· = .bool (okInked x)) := by
  obtain ⟨xA, xB⟩ := x
  try dsimp only at *
  exact fn_intro envOk fieldsOk mixed Try.func24 rfl fun κ X Y L Q m hQ => by
    conv => cbv
    refine r_callB m.sX (isPlainText_ok xA 0 30) (fun h1 => ?_) (fun h1 => ?_) <;> conv => cbv
    · refine r_slen (u := xB) m.sX fun n1 hn1 mn1 => ?_   -- n1 = length of xB
      conv => cbv
      refine r_slen (u := xA) m.sX fun n2 hn2 mn2 => ?_   -- n2 = length of xA
      conv => cbv
      refine r_neq m.sX (fun h2 => ?_) (fun h2 => ?_) <;> conv => cbv
      · exact hQ _ (congrArg PV.bool (by rw [okInked_def, h1, decide_eq_false (by omega)]; rfl))   -- leaf 1
      · refine r_loopF (α := Int) m 43 [3] [⟨1, 9, 0, 0, 0⟩] (fun σ => [(1, .optr 9 0 2 0 0), (3, .int .i64 σ)]) (fun σ => [(9, 0, .box [.str xA, .str xB])])
          (fun σ => (0 ≤ σ) ∧ (σ ≤ (xB.length : Int)) ∧ (inkB xA xB = inkB (xA.drop σ.toNat) (xB.drop σ.toNat))) (fun σ => ((xB.length : Int) - σ).toNat) 0 ?_ ?_ ?_ ?_
        · cbv
        · cbv
        · exact ⟨(by (try dsimp only); first | omega | (simp only [List.length_nil]; omega)), (by (try dsimp only); first | omega | (simp only [List.length_nil]; omega)), (by (try dsimp only) <;> (rfl))⟩
        rintro i ⟨lo1, hi1, q⟩ E hE F hF
        conv => cbv
        refine r_slen (u := xB) m.sX fun n3 hn3 mn3 => ?_   -- n3 = length of xB
        conv => cbv
        refine r_lss m.sX (fun h3 => ?_) (fun h3 => ?_) <;> conv => cbv
        · refine r_sidx (u := xB) (i := i) m.sX (by omega) (by first | omega | (simp only [List.length_cons, List.length_nil]; omega) | (simp; omega)) fun x1 hx1 c1 hc1 bc1 => ?_   -- x1 = xB[i]
          obtain ⟨t0, ht0⟩ := get_ex (xs := xA) (i := i.toNat) (by omega)
          have dx1 := drop_cons hx1
          have kx1 := take_snoc hx1
          have jx1 : (i + 1).toNat = Int.toNat i + 1 := by omega
          conv => cbv
          refine r_neq m.sX (fun h4 => ?_) (fun h4 => ?_) <;> conv => cbv
          · refine r_sidx (u := xB) (i := i) m.sX (by omega) (by first | omega | (simp only [List.length_cons, List.length_nil]; omega) | (simp; omega)) fun x2 hx2 c2 hc2 bc2 => ?_   -- x2 = xB[i]
            obtain rfl := Option.some.inj (hx1.symm.trans hx2)
            obtain rfl := hc1.trans hc2.symm
            conv => cbv
            refine r_neq m.sX (fun h5 => ?_) (fun h5 => ?_) <;> conv => cbv
            · have ib : inkC t0 x1 = false := inkC_n1 t0 hc1 h4 h5
              refine hF _ _ ?_
              conv => cbv
              exact hQ _ (congrArg PV.bool (by rw [okInked_def, h1, decide_eq_true (by omega), q, inkB_drop ht0 hx1, ib]; rfl))   -- leaf 2
            · refine r_sidx (u := xA) (i := i) m.sX (by omega) (by first | omega | (simp only [List.length_cons, List.length_nil]; omega) | (simp; omega)) fun x3 hx3 c3 hc3 bc3 => ?_   -- x3 = xA[i]
              have dx3 := drop_cons hx3
              have kx3 := take_snoc hx3
              have jx3 : (i + 1).toNat = Int.toNat i + 1 := by omega
              conv => cbv
              refine r_eql m.sX (fun h6 => ?_) (fun h6 => ?_) <;> conv => cbv
              · have ib : inkC x3 x1 = false := inkC_n2 hc1 h4 hc3 h6
                refine hF _ _ ?_
                conv => cbv
                exact hQ _ (congrArg PV.bool (by rw [okInked_def, h1, decide_eq_true (by omega), q, inkB_drop hx3 hx1, ib]; rfl))   -- leaf 3
              · have ib : inkC x3 x1 = true := inkC_r hc1 h5 hc3 h6
                refine r_addf m.sX (by omega) (by omega) fun i_2 hi_2 => ?_
                conv => cbv
                try have ti_2 : Int.toNat i_2 = Int.toNat i + 1 := by omega
                refine hE _ i_2 ?_ ?_ ⟨(by (try dsimp only); first | omega | (simp only [List.length_nil]; omega)), (by (try dsimp only); first | omega | (simp only [List.length_nil]; omega)), (by (try dsimp only) <;> (first | rw [q, inkB_drop hx3 hx1, ib, Bool.true_and, ti_2] | rw [q, inkB_drop ht0 hx1, ib, Bool.true_and, ti_2]))⟩ (by first | omega | (dsimp only; omega))
                · cbv
                · cbv
          · have ib : inkC t0 x1 = true := inkC_b t0 hc1 h4
            refine r_addf m.sX (by omega) (by omega) fun i_3 hi_3 => ?_
            conv => cbv
            try have ti_3 : Int.toNat i_3 = Int.toNat i + 1 := by omega
            refine hE _ i_3 ?_ ?_ ⟨(by (try dsimp only); first | omega | (simp only [List.length_nil]; omega)), (by (try dsimp only); first | omega | (simp only [List.length_nil]; omega)), (by (try dsimp only) <;> (first | rw [q, inkB_drop hx3 hx1, ib, Bool.true_and, ti_3] | rw [q, inkB_drop ht0 hx1, ib, Bool.true_and, ti_3]))⟩ (by first | omega | (dsimp only; omega))
            · cbv
            · cbv
        · refine hF _ _ ?_
          conv => cbv
          exact hQ _ (congrArg PV.bool (by rw [okInked_def, h1, decide_eq_true (by omega), q, inkB_end (.inr (by omega))]; rfl))   -- leaf 4
    · exact hQ _ (congrArg PV.bool (by rw [okInked_def, h1]; rfl))   -- leaf 5

theorem isInk_ok (ink : List UInt8)  : OkA Try.prog 87 [.str ink] (· = .bool (isInkB ink)) :=
  fn_intro envOk fieldsOk mixed Try.func87 rfl fun κ X Y L Q m hQ => by
    conv => cbv
    refine r_seql m.sX (fun h1 => ?_) (fun h1 => ?_) <;> conv => cbv
    · exact hQ _ (congrArg PV.bool (by rw [isInkB, decide_eq_true h1]; rfl))   -- leaf 1
    · refine r_seql m.sX (fun h2 => ?_) (fun h2 => ?_) <;> conv => cbv
      · exact hQ _ (congrArg PV.bool (by rw [isInkB, decide_eq_true h2]; simp))   -- leaf 2
      · exact hQ _ (congrArg PV.bool (by rw [isInkB, decide_eq_false h1, decide_eq_false h2]; rfl))   -- leaf 3

theorem sortAt_ok (f : List FSort) (code : List UInt8)  : OkA Try.prog 81 [.isl 2 (rows cSort f), .str code] (· = .int .i64 (idxF code f 0)) :=
  fn_intro envOk fieldsOk mixed Try.func81 rfl fun κ X Y L Q m hQ => by
    conv => cbv
    refine r_lenR m.sX fun n1 hn1 mn1 => ?_
    conv => cbv
    refine r_loopF (α := Int) m 20 [1, 7, 8, 9] [] (fun σ => [(1, .str code), (7, .isl 2 (rows cSort f)), (8, .int .i64 n1), (9, .int .i64 σ)]) (fun σ => [])
      (fun σ => (0 ≤ σ) ∧ (σ ≤ n1) ∧ (idxF code f 0 = idxF code (f.drop σ.toNat) σ)) (fun σ => (n1 - σ).toNat) 0 ?_ ?_ ?_ ?_
    · cbv
    · cbv
    · exact ⟨(by (try dsimp only); first | omega | (simp only [List.length_nil]; omega)), (by (try dsimp only); first | omega | (simp only [List.length_nil]; omega)), (by (try dsimp only) <;> (rfl))⟩
    rintro i1 ⟨lo1, hi1, q⟩ E hE F hF
    conv => cbv
    refine r_lss m.sX (fun h1 => ?_) (fun h1 => ?_) <;> conv => cbv
    · refine r_index m.sX (by omega) (by omega) fun v hs_A => ?_
      obtain ⟨s_A, s_B⟩ := v
      conv => cbv
      have hs_ := hs_A
      have ms_ := get_mem hs_
      have ds_ := drop_cons hs_
      have ks_ := take_snoc hs_
      have js_ : (i1 + 1).toNat = Int.toNat i1 + 1 := by omega
      refine r_seql m.sX (fun h2 => ?_) (fun h2 => ?_) <;> conv => cbv
      · refine hF _ _ ?_
        conv => cbv
        exact hQ (.int .i64 i1) (Eq.trans (by first | rfl | (simp only [lb, lbI, rows_cons, rows_nil, unnilT, unnil, unnilTI, unnilI]; done) | (simp only [lb, lbI, rows_cons, rows_nil, unnilT, unnil, unnilTI, unnilI]; rfl)) (congrArg (PV.int .i64) (show i1 = idxF code f 0 from by rw [q, idxF_drop _ hs_, if_pos h2])))   -- leaf 1
      · refine r_addf m.sX (by omega) (by omega) fun r1 hr1 => ?_
        conv => cbv
        try have tr1 : Int.toNat r1 = Int.toNat i1 + 1 := by omega
        refine hE _ r1 ?_ ?_ ⟨(by (try dsimp only); first | omega | (simp only [List.length_nil]; omega)), (by (try dsimp only); first | omega | (simp only [List.length_nil]; omega)), (by (try dsimp only) <;> (rw [q, idxF_drop _ hs_, if_neg h2, tr1, show r1 = i1 + 1 by omega]))⟩ (by first | omega | (dsimp only; omega))
        · cbv
        · cbv
    · have dz_i1 := drop_end (xs := f) (i := Int.toNat i1) (by omega)
      have tz_i1 := take_end (xs := f) (i := Int.toNat i1) (by omega)
      refine hF _ _ ?_
      conv => cbv
      exact hQ (.int .i64 (-1)) (Eq.trans (by first | rfl | (simp only [lb, lbI, rows_cons, rows_nil, unnilT, unnil, unnilTI, unnilI]; done) | (simp only [lb, lbI, rows_cons, rows_nil, unnilT, unnil, unnilTI, unnilI]; rfl)) (congrArg (PV.int .i64) (show -1 = idxF code f 0 from by rw [q, dz_i1]; rfl)))   -- leaf 2

-- lacks impl.BlankUnits
theorem SetOfCode_ok (f : List FSort) (code : List UInt8)  : OkA Try.prog 18 [.isl 2 (rows cSort f), .str code] (· = ib (setA f code)) :=
  fn_intro envOk fieldsOk mixed Try.func18 rfl fun κ X Y L Q m hQ => by
    conv => cbv
    refine r_callF (PV.int .i64) m.sX (sortAt_ok f code) fun i hi => ?_
    conv => cbv
    have ib_ := idxF_in code f
    rw [← hi] at ib_
    refine r_callB m.sX (IsFont_ok f) (fun h1 => ?_) (fun h1 => ?_) <;> conv => cbv
    · refine r_lss m.sX (fun h2 => ?_) (fun h2 => ?_) <;> conv => cbv
      · exact hQ (.tup [.int .i64 0, .bool false]) (Eq.trans (by first | rfl | (simp only [lb, lbI, rows_cons, rows_nil, unnilT, unnil, unnilTI, unnilI]; done) | (simp only [lb, lbI, rows_cons, rows_nil, unnilT, unnil, unnilTI, unnilI]; rfl)) (congrArg (ib) (show (0, false) = setA f code from by rw [setA, ← hi, h1, decide_eq_false (by omega)]; rfl)))   -- leaf 1
      · refine r_index m.sX (by omega) (by omega) fun v hx1A => ?_
        obtain ⟨x1A, x1B⟩ := v
        conv => cbv
        have hx1 := hx1A
        have mx1 := get_mem hx1
        exact hQ (.tup [.int .i64 x1B, .bool true]) (Eq.trans (by first | rfl | (simp only [lb, lbI, rows_cons, rows_nil, unnilT, unnil, unnilTI, unnilI]; done) | (simp only [lb, lbI, rows_cons, rows_nil, unnilT, unnil, unnilTI, unnilI]; rfl)) (congrArg (ib) (show (x1B, true) = setA f code from by rw [setA, ← hi, h1, decide_eq_true (by omega), show setAt f i = x1B from setAt_some hx1]; rfl)))   -- leaf 2
    · exact hQ (.tup [.int .i64 0, .bool false]) (Eq.trans (by first | rfl | (simp only [lb, lbI, rows_cons, rows_nil, unnilT, unnil, unnilTI, unnilI]; done) | (simp only [lb, lbI, rows_cons, rows_nil, unnilT, unnil, unnilTI, unnilI]; rfl)) (congrArg (ib) (show (0, false) = setA f code from by rw [setA, h1]; rfl)))   -- leaf 3

theorem tyLetters_ok (s_ : List UInt8) (most : Int)  : OkA Try.prog 144 [.str s_, .int .i64 most] (· = .bool (lettersB s_ && inB s_.length 1 most)) :=
  fn_intro envOk fieldsOk mixed Try.func144 rfl fun κ X Y L Q m hQ => by
    conv => cbv
    refine r_loopF (α := Int) m 26 [0, 1, 5] [] (fun σ => [(0, .str s_), (1, .int .i64 most), (5, .int .i64 σ)]) (fun σ => [])
      (fun σ => (0 ≤ σ) ∧ (σ ≤ (s_.length : Int)) ∧ (lettersB s_ = (s_.drop σ.toNat).all letB)) (fun σ => ((s_.length : Int) - σ).toNat) 0 ?_ ?_ ?_ ?_
    · cbv
    · cbv
    · exact ⟨(by (try dsimp only); first | omega | (simp only [List.length_nil]; omega)), (by (try dsimp only); first | omega | (simp only [List.length_nil]; omega)), (by (try dsimp only) <;> (rfl))⟩
    rintro i ⟨lo1, hi1, q⟩ E hE F hF
    conv => cbv
    refine r_slen (u := s_) m.sX fun n1 hn1 mn1 => ?_   -- n1 = length of s_
    conv => cbv
    refine r_lss m.sX (fun h1 => ?_) (fun h1 => ?_) <;> conv => cbv
    · refine r_sidx (u := s_) (i := i) m.sX (by omega) (by first | omega | (simp only [List.length_cons, List.length_nil]; omega) | (simp; omega)) fun x1 hx1 c1 hc1 bc1 => ?_   -- x1 = s_[i]
      have dx1 := drop_cons hx1
      have kx1 := take_snoc hx1
      have jx1 : (i + 1).toNat = Int.toNat i + 1 := by omega
      conv => cbv
      refine r_lss m.sX (fun h2 => ?_) (fun h2 => ?_) <;> conv => cbv
      · have lb : letB x1 = false := letB_lo hc1 h2
        refine hF _ _ ?_
        conv => cbv
        exact hQ _ (congrArg PV.bool (by rw [q, all_drop hx1, lb]; rfl))   -- leaf 1
      · refine r_sidx (u := s_) (i := i) m.sX (by omega) (by first | omega | (simp only [List.length_cons, List.length_nil]; omega) | (simp; omega)) fun x2 hx2 c2 hc2 bc2 => ?_   -- x2 = s_[i]
        obtain rfl := Option.some.inj (hx1.symm.trans hx2)
        obtain rfl := hc1.trans hc2.symm
        conv => cbv
        refine r_gtr m.sX (fun h3 => ?_) (fun h3 => ?_) <;> conv => cbv
        · have lb : letB x1 = false := letB_hi hc1 h3
          refine hF _ _ ?_
          conv => cbv
          exact hQ _ (congrArg PV.bool (by rw [q, all_drop hx1, lb]; rfl))   -- leaf 2
        · have lb : letB x1 = true := letB_in hc1 (by omega)
          refine r_addf m.sX (by omega) (by omega) fun i_2 hi_2 => ?_
          conv => cbv
          try have ti_2 : Int.toNat i_2 = Int.toNat i + 1 := by omega
          refine hE _ i_2 ?_ ?_ ⟨(by (try dsimp only); first | omega | (simp only [List.length_nil]; omega)), (by (try dsimp only); first | omega | (simp only [List.length_nil]; omega)), (by (try dsimp only) <;> (rw [q, all_drop hx1, lb, Bool.true_and, ti_2]))⟩ (by first | omega | (dsimp only; omega))
          · cbv
          · cbv
    · refine hF _ _ ?_
      conv => cbv
      refine r_slen (u := s_) m.sX fun n2 hn2 mn2 => ?_   -- n2 = length of s_
      conv => cbv
      refine r_callB m.sX (l1In_ok n2 1 most) (fun h4 => ?_) (fun h4 => ?_) <;> conv => cbv
      · exact hQ _ (congrArg PV.bool (by rw [q, all_end (by omega), ← hn2, h4]; rfl))   -- leaf 3
      · exact hQ _ (congrArg PV.bool (by rw [q, all_end (by omega), ← hn2, h4]; rfl))   -- leaf 4

theorem tySort_ok (s_ : FSort)  : OkA Try.prog 143 [.agg (cSort s_)] (· = .bool (okSort s_)) := by
  obtain ⟨s_A, s_B⟩ := s_
  try dsimp only at *
  exact fn_intro envOk fieldsOk mixed Try.func143 rfl fun κ X Y L Q m hQ => by
    conv => cbv
    refine r_callB m.sX (tyLetters_ok s_A 3) (fun h1 => ?_) (fun h1 => ?_) <;> conv => cbv
    · refine r_callB m.sX (l1In_ok s_B 1 54) (fun h2 => ?_) (fun h2 => ?_) <;> conv => cbv
      · exact hQ _ (congrArg PV.bool (by rw [okSort, h1, h2]; rfl))   -- leaf 1
      · exact hQ _ (congrArg PV.bool (by rw [okSort, h1, h2]; rfl))   -- leaf 2
    · exact hQ _ (congrArg PV.bool (by rw [okSort, h1]; rfl))   -- leaf 3

theorem tyFont_ok (f : List FSort)  : OkA Try.prog 131 [.isl 2 (rows cSort f)] (· = .bool (okFont f)) :=
  fn_intro envOk fieldsOk mixed Try.func131 rfl fun κ X Y L Q m hQ => by
    conv => cbv
    refine r_lenR m.sX fun n1 hn1 mn1 => ?_
    conv => cbv
    refine r_loopF (α := Int) m 34 [0, 5, 6, 7] [] (fun σ => [(0, .isl 2 (rows cSort f)), (5, .isl 2 (rows cSort f)), (6, .int .i64 n1), (7, .int .i64 σ)]) (fun σ => [])
      (fun σ => (0 ≤ σ) ∧ (σ ≤ n1) ∧ (okFontG none f = okFontG (prevF f σ) (f.drop σ.toNat))) (fun σ => (n1 - σ).toNat) 0 ?_ ?_ ?_ ?_
    · cbv
    · cbv
    · exact ⟨(by (try dsimp only); first | omega | (simp only [List.length_nil]; omega)), (by (try dsimp only); first | omega | (simp only [List.length_nil]; omega)), (by (try dsimp only) <;> (rw [prevF_zero (by omega) (by omega)]; rfl))⟩
    rintro i1 ⟨lo1, hi1, q⟩ E hE F hF
    conv => cbv
    refine r_lss m.sX (fun h1 => ?_) (fun h1 => ?_) <;> conv => cbv
    · refine r_index m.sX (by omega) (by omega) fun v hs_A => ?_
      obtain ⟨s_A, s_B⟩ := v
      conv => cbv
      have hs_ := hs_A
      have ms_ := get_mem hs_
      have ds_ := drop_cons hs_
      have ks_ := take_snoc hs_
      have js_ : (i1 + 1).toNat = Int.toNat i1 + 1 := by omega
      have pn : prevF f (i1 + 1) = some s_A := prevF_some (x := (s_A, s_B)) (by omega) (by rw [show i1 + 1 - 1 = i1 by omega]; exact hs_)
      refine r_draw m (by kernel_rfl) ?_
      conv => cbv
      refine r_callBS m.sY (tySort_ok (s_A, s_B)) (fun h2 => ?_) (fun h2 => ?_) <;> conv => cbv
      · refine r_gtr m.sY (fun h3 => ?_) (fun h3 => ?_) <;> conv => cbv
        · refine r_subf m.sY (by omega) (by omega) fun r1 hr1 => ?_
          conv => cbv
          refine r_index m.sY (by omega) (by omega) fun v hx1A => ?_
          obtain ⟨x1A, x1B⟩ := v
          conv => cbv
          have hx1 := hx1A
          have mx1 := get_mem hx1
          have pv : prevF f i1 = some x1A := prevF_some (x := (x1A, x1B)) (by omega) (by rw [← hr1]; exact hx1)
          refine r_sgeq m.sY (fun h4 => ?_) (fun h4 => ?_) <;> conv => cbv
          · have sb : lessB (prevF f i1) s_A = false := by rw [pv]; exact h4
            refine hF _ _ ?_
            conv => cbv
            exact hQ _ (congrArg PV.bool (by rw [okFont, q, ds_, okFontG_bad (.inr sb)]; rfl))   -- leaf 1
          · have sp : lessB (prevF f i1) s_A = true := by rw [pv]; exact h4
            refine r_addf m.sX (by omega) (by omega) fun r2 hr2 => ?_
            conv => cbv
            try have tr2 : Int.toNat r2 = Int.toNat i1 + 1 := by omega
            refine hE _ r2 ?_ ?_ ⟨(by (try dsimp only); first | omega | (simp only [List.length_nil]; omega)), (by (try dsimp only); first | omega | (simp only [List.length_nil]; omega)), (by (try dsimp only) <;> (rw [q, ds_, okFontG_step h2 sp, tr2, show r2 = i1 + 1 by omega, pn]))⟩ (by first | omega | (dsimp only; omega))
            · cbv
            · cbv
        · have sp : lessB (prevF f i1) s_A = true := by rw [prevF_zero (by omega) lo1]; rfl
          refine r_addf m.sX (by omega) (by omega) fun r3 hr3 => ?_
          conv => cbv
          try have tr3 : Int.toNat r3 = Int.toNat i1 + 1 := by omega
          refine hE _ r3 ?_ ?_ ⟨(by (try dsimp only); first | omega | (simp only [List.length_nil]; omega)), (by (try dsimp only); first | omega | (simp only [List.length_nil]; omega)), (by (try dsimp only) <;> (rw [q, ds_, okFontG_step h2 sp, tr3, show r3 = i1 + 1 by omega, pn]))⟩ (by first | omega | (dsimp only; omega))
          · cbv
          · cbv
      · refine hF _ _ ?_
        conv => cbv
        exact hQ _ (congrArg PV.bool (by rw [okFont, q, ds_, okFontG_bad (.inl h2)]; rfl))   -- leaf 2
    · have dz_i1 := drop_end (xs := f) (i := Int.toNat i1) (by omega)
      have tz_i1 := take_end (xs := f) (i := Int.toNat i1) (by omega)
      refine hF _ _ ?_
      conv => cbv
      refine r_lenR m.sX fun n2 hn2 mn2 => ?_
      conv => cbv
      refine r_callB m.sX (l1In_ok n2 1 32) (fun h5 => ?_) (fun h5 => ?_) <;> conv => cbv
      · exact hQ _ (congrArg PV.bool (by rw [okFont, q, dz_i1, ← hn2, h5]; rfl))   -- leaf 3
      · exact hQ _ (congrArg PV.bool (by rw [okFont, q, dz_i1, ← hn2, h5]; rfl))   -- leaf 4

theorem coText_ok (s_ : List UInt8)  : OkA Try.prog 93 [.str s_] (· = .bool (plainB s_ && decide (s_.length ≤ 30))) :=
  fn_intro envOk fieldsOk mixed Try.func93 rfl fun κ X Y L Q m hQ => by
    conv => cbv
    refine r_loopF (α := Int) m 29 [0, 3] [] (fun σ => [(0, .str s_), (3, .int .i64 σ)]) (fun σ => [])
      (fun σ => (0 ≤ σ) ∧ (σ ≤ (s_.length : Int)) ∧ (plainB s_ = (s_.drop σ.toNat).all plainC)) (fun σ => ((s_.length : Int) - σ).toNat) 0 ?_ ?_ ?_ ?_
    · cbv
    · cbv
    · exact ⟨(by (try dsimp only); first | omega | (simp only [List.length_nil]; omega)), (by (try dsimp only); first | omega | (simp only [List.length_nil]; omega)), (by (try dsimp only) <;> (rfl))⟩
    rintro i ⟨lo1, hi1, q⟩ E hE F hF
    conv => cbv
    refine r_slen (u := s_) m.sX fun n1 hn1 mn1 => ?_   -- n1 = length of s_
    conv => cbv
    refine r_lss m.sX (fun h1 => ?_) (fun h1 => ?_) <;> conv => cbv
    · refine r_sidx (u := s_) (i := i) m.sX (by omega) (by first | omega | (simp only [List.length_cons, List.length_nil]; omega) | (simp; omega)) fun x1 hx1 c1 hc1 bc1 => ?_   -- x1 = s_[i]
      have dx1 := drop_cons hx1
      have kx1 := take_snoc hx1
      have jx1 : (i + 1).toNat = Int.toNat i + 1 := by omega
      conv => cbv
      refine r_neq m.sX (fun h2 => ?_) (fun h2 => ?_) <;> conv => cbv
      · refine r_sidx (u := s_) (i := i) m.sX (by omega) (by first | omega | (simp only [List.length_cons, List.length_nil]; omega) | (simp; omega)) fun x2 hx2 c2 hc2 bc2 => ?_   -- x2 = s_[i]
        obtain rfl := Option.some.inj (hx1.symm.trans hx2)
        obtain rfl := hc1.trans hc2.symm
        conv => cbv
        refine r_lss m.sX (fun h3 => ?_) (fun h3 => ?_) <;> conv => cbv
        · have lb : plainC x1 = false := plainC_no hc1 h2 (.inl h3)
          refine hF _ _ ?_
          conv => cbv
          exact hQ _ (congrArg PV.bool (by rw [q, all_drop hx1, lb]; rfl))   -- leaf 1
        · refine r_sidx (u := s_) (i := i) m.sX (by omega) (by first | omega | (simp only [List.length_cons, List.length_nil]; omega) | (simp; omega)) fun x3 hx3 c3 hc3 bc3 => ?_   -- x3 = s_[i]
          obtain rfl := Option.some.inj (hx1.symm.trans hx3)
          obtain rfl := hc1.trans hc3.symm
          conv => cbv
          refine r_gtr m.sX (fun h4 => ?_) (fun h4 => ?_) <;> conv => cbv
          · have lb : plainC x1 = false := plainC_no hc1 h2 (.inr h4)
            refine hF _ _ ?_
            conv => cbv
            exact hQ _ (congrArg PV.bool (by rw [q, all_drop hx1, lb]; rfl))   -- leaf 2
          · have lb : plainC x1 = true := plainC_yes hc1 (by omega)
            refine r_addf m.sX (by omega) (by omega) fun i_2 hi_2 => ?_
            conv => cbv
            try have ti_2 : Int.toNat i_2 = Int.toNat i + 1 := by omega
            refine hE _ i_2 ?_ ?_ ⟨(by (try dsimp only); first | omega | (simp only [List.length_nil]; omega)), (by (try dsimp only); first | omega | (simp only [List.length_nil]; omega)), (by (try dsimp only) <;> (rw [q, all_drop hx1, lb, Bool.true_and, ti_2]))⟩ (by first | omega | (dsimp only; omega))
            · cbv
            · cbv
      · have lb : plainC x1 = true := plainC_sp hc1 h2
        refine r_addf m.sX (by omega) (by omega) fun i_3 hi_3 => ?_
        conv => cbv
        try have ti_3 : Int.toNat i_3 = Int.toNat i + 1 := by omega
        refine hE _ i_3 ?_ ?_ ⟨(by (try dsimp only); first | omega | (simp only [List.length_nil]; omega)), (by (try dsimp only); first | omega | (simp only [List.length_nil]; omega)), (by (try dsimp only) <;> (rw [q, all_drop hx1, lb, Bool.true_and, ti_3]))⟩ (by first | omega | (dsimp only; omega))
        · cbv
        · cbv
    · refine hF _ _ ?_
      conv => cbv
      refine r_slen (u := s_) m.sX fun n2 hn2 mn2 => ?_   -- n2 = length of s_
      conv => cbv
      refine r_leq m.sX (fun h5 => ?_) (fun h5 => ?_) <;> conv => cbv
      · exact hQ _ (congrArg PV.bool (by rw [q, all_end (by omega), decide_eq_true (by omega)]; rfl))   -- leaf 3
      · exact hQ _ (congrArg PV.bool (by rw [q, all_end (by omega), decide_eq_false (by omega)]; rfl))   -- leaf 4

theorem coGood_ok (x : Inked)  : OkA Try.prog 83 [.agg (cInked x)] (· = .bool (okInked x)) := by
  obtain ⟨xA, xB⟩ := x
  try dsimp only at *
  exact fn_intro envOk fieldsOk mixed Try.func83 rfl fun κ X Y L Q m hQ => by
    conv => cbv
    refine r_loopF (α := Int) m 56 [3] [⟨1, 9, 0, 0, 0⟩] (fun σ => [(1, .optr 9 0 2 0 0), (3, .int .i64 σ)]) (fun σ => [(9, 0, .box [.str xA, .str xB])])
      (fun σ => (0 ≤ σ) ∧ (σ ≤ (xB.length : Int)) ∧ (inkB xA xB = inkB (xA.drop σ.toNat) (xB.drop σ.toNat))) (fun σ => ((xB.length : Int) - σ).toNat) 0 ?_ ?_ ?_ ?_
    · cbv
    · cbv
    · exact ⟨(by (try dsimp only); first | omega | (simp only [List.length_nil]; omega)), (by (try dsimp only); first | omega | (simp only [List.length_nil]; omega)), (by (try dsimp only) <;> (rfl))⟩
    rintro i ⟨lo1, hi1, q⟩ E hE F hF
    conv => cbv
    refine r_slen (u := xB) m.sX fun n1 hn1 mn1 => ?_   -- n1 = length of xB
    conv => cbv
    refine r_lss m.sX (fun h1 => ?_) (fun h1 => ?_) <;> conv => cbv
    · refine r_slen (u := xA) m.sX fun n2 hn2 mn2 => ?_   -- n2 = length of xA
      conv => cbv
      refine r_lss m.sX (fun h2 => ?_) (fun h2 => ?_) <;> conv => cbv
      · refine r_sidx (u := xB) (i := i) m.sX (by omega) (by first | omega | (simp only [List.length_cons, List.length_nil]; omega) | (simp; omega)) fun x1 hx1 c1 hc1 bc1 => ?_   -- x1 = xB[i]
        obtain ⟨t0, ht0⟩ := get_ex (xs := xA) (i := i.toNat) (by omega)
        have dx1 := drop_cons hx1
        have kx1 := take_snoc hx1
        have jx1 : (i + 1).toNat = Int.toNat i + 1 := by omega
        conv => cbv
        refine r_neq m.sX (fun h3 => ?_) (fun h3 => ?_) <;> conv => cbv
        · refine r_sidx (u := xB) (i := i) m.sX (by omega) (by first | omega | (simp only [List.length_cons, List.length_nil]; omega) | (simp; omega)) fun x2 hx2 c2 hc2 bc2 => ?_   -- x2 = xB[i]
          obtain rfl := Option.some.inj (hx1.symm.trans hx2)
          obtain rfl := hc1.trans hc2.symm
          conv => cbv
          refine r_neq m.sX (fun h4 => ?_) (fun h4 => ?_) <;> conv => cbv
          · have ib : inkC t0 x1 = false := inkC_n1 t0 hc1 h3 h4
            refine hF _ _ ?_
            conv => cbv
            exact hQ _ (congrArg PV.bool (by rw [okInked_alt, q, inkB_drop ht0 hx1, ib]; simp))   -- leaf 1
          · refine r_sidx (u := xA) (i := i) m.sX (by omega) (by first | omega | (simp only [List.length_cons, List.length_nil]; omega) | (simp; omega)) fun x3 hx3 c3 hc3 bc3 => ?_   -- x3 = xA[i]
            have dx3 := drop_cons hx3
            have kx3 := take_snoc hx3
            have jx3 : (i + 1).toNat = Int.toNat i + 1 := by omega
            conv => cbv
            refine r_eql m.sX (fun h5 => ?_) (fun h5 => ?_) <;> conv => cbv
            · have ib : inkC x3 x1 = false := inkC_n2 hc1 h3 hc3 h5
              refine r_sidx (u := xB) (i := i) m.sX (by omega) (by first | omega | (simp only [List.length_cons, List.length_nil]; omega) | (simp; omega)) fun x4 hx4 c4 hc4 bc4 => ?_   -- x4 = xB[i]
              obtain rfl := Option.some.inj (hx1.symm.trans hx4)
              obtain rfl := hc1.trans hc4.symm
              conv => cbv
              refine r_neq m.sX (fun h6 => ?_) (fun h6 => ?_) <;> conv => cbv
              · refine hF _ _ ?_
                conv => cbv
                exact hQ _ (congrArg PV.bool (by rw [okInked_alt, q, inkB_drop hx3 hx1, ib]; simp))   -- leaf 2
              · refine r_addf m.sX (by omega) (by omega) fun i_2 hi_2 => ?_
                conv => cbv
                try have ti_2 : Int.toNat i_2 = Int.toNat i + 1 := by omega
                refine hE _ i_2 ?_ ?_ ⟨(by (try dsimp only); first | omega | (simp only [List.length_nil]; omega)), (by (try dsimp only); first | omega | (simp only [List.length_nil]; omega)), (by (try dsimp only) <;> (first | (exfalso; omega) | rw [q, inkB_drop hx3 hx1, ib, Bool.true_and, ti_2] | rw [q, inkB_drop ht0 hx1, ib, Bool.true_and, ti_2]))⟩ (by first | omega | (dsimp only; omega))
                · cbv
                · cbv
            · have ib : inkC x3 x1 = true := inkC_r hc1 h4 hc3 h5
              refine r_addf m.sX (by omega) (by omega) fun i_3 hi_3 => ?_
              conv => cbv
              try have ti_3 : Int.toNat i_3 = Int.toNat i + 1 := by omega
              refine hE _ i_3 ?_ ?_ ⟨(by (try dsimp only); first | omega | (simp only [List.length_nil]; omega)), (by (try dsimp only); first | omega | (simp only [List.length_nil]; omega)), (by (try dsimp only) <;> (first | (exfalso; omega) | rw [q, inkB_drop hx3 hx1, ib, Bool.true_and, ti_3] | rw [q, inkB_drop ht0 hx1, ib, Bool.true_and, ti_3]))⟩ (by first | omega | (dsimp only; omega))
              · cbv
              · cbv
        · have ib : inkC t0 x1 = true := inkC_b t0 hc1 h3
          refine r_sidx (u := xA) (i := i) m.sX (by omega) (by first | omega | (simp only [List.length_cons, List.length_nil]; omega) | (simp; omega)) fun x5 hx5 c5 hc5 bc5 => ?_   -- x5 = xA[i]
          have dx5 := drop_cons hx5
          have kx5 := take_snoc hx5
          have jx5 : (i + 1).toNat = Int.toNat i + 1 := by omega
          conv => cbv
          refine r_eql m.sX (fun h7 => ?_) (fun h7 => ?_) <;> conv => cbv
          · refine r_sidx (u := xB) (i := i) m.sX (by omega) (by first | omega | (simp only [List.length_cons, List.length_nil]; omega) | (simp; omega)) fun x6 hx6 c6 hc6 bc6 => ?_   -- x6 = xB[i]
            obtain rfl := Option.some.inj (hx1.symm.trans hx6)
            obtain rfl := hc1.trans hc6.symm
            conv => cbv
            refine r_neq m.sX (fun h8 => ?_) (fun h8 => ?_) <;> conv => cbv
            · refine hF _ _ ?_
              conv => cbv
              exact hQ _ (congrArg PV.bool (by exfalso; omega))   -- leaf 3
            · refine r_addf m.sX (by omega) (by omega) fun i_4 hi_4 => ?_
              conv => cbv
              try have ti_4 : Int.toNat i_4 = Int.toNat i + 1 := by omega
              refine hE _ i_4 ?_ ?_ ⟨(by (try dsimp only); first | omega | (simp only [List.length_nil]; omega)), (by (try dsimp only); first | omega | (simp only [List.length_nil]; omega)), (by (try dsimp only) <;> (first | (exfalso; omega) | rw [q, inkB_drop hx3 hx1, ib, Bool.true_and, ti_4] | rw [q, inkB_drop ht0 hx1, ib, Bool.true_and, ti_4]))⟩ (by first | omega | (dsimp only; omega))
              · cbv
              · cbv
          · refine r_addf m.sX (by omega) (by omega) fun i_5 hi_5 => ?_
            conv => cbv
            try have ti_5 : Int.toNat i_5 = Int.toNat i + 1 := by omega
            refine hE _ i_5 ?_ ?_ ⟨(by (try dsimp only); first | omega | (simp only [List.length_nil]; omega)), (by (try dsimp only); first | omega | (simp only [List.length_nil]; omega)), (by (try dsimp only) <;> (first | (exfalso; omega) | rw [q, inkB_drop hx3 hx1, ib, Bool.true_and, ti_5] | rw [q, inkB_drop ht0 hx1, ib, Bool.true_and, ti_5]))⟩ (by first | omega | (dsimp only; omega))
            · cbv
            · cbv
      · refine hF _ _ ?_
        conv => cbv
        refine r_slen (u := xA) m.sX fun n3 hn3 mn3 => ?_   -- n3 = length of xA
        conv => cbv
        refine r_slen (u := xB) m.sX fun n4 hn4 mn4 => ?_   -- n4 = length of xB
        conv => cbv
        refine r_eql m.sX (fun h9 => ?_) (fun h9 => ?_) <;> conv => cbv
        · refine r_callB m.sX (coText_ok xA) (fun h10 => ?_) (fun h10 => ?_) <;> conv => cbv
          · exact hQ _ (congrArg PV.bool (by rw [okInked_pair, decide_eq_true (by omega), h10, q, inkB_end (.inl (by omega))]; rfl))   -- leaf 4
          · exact hQ _ (congrArg PV.bool (by rw [okInked_pair, decide_eq_true (by omega), h10]; rfl))   -- leaf 5
        · exact hQ _ (congrArg PV.bool (by rw [okInked_pair, decide_eq_false (by omega)]; rfl))   -- leaf 6
    · refine hF _ _ ?_
      conv => cbv
      refine r_slen (u := xA) m.sX fun n5 hn5 mn5 => ?_   -- n5 = length of xA
      conv => cbv
      refine r_slen (u := xB) m.sX fun n6 hn6 mn6 => ?_   -- n6 = length of xB
      conv => cbv
      refine r_eql m.sX (fun h11 => ?_) (fun h11 => ?_) <;> conv => cbv
      · refine r_callB m.sX (coText_ok xA) (fun h12 => ?_) (fun h12 => ?_) <;> conv => cbv
        · exact hQ _ (congrArg PV.bool (by rw [okInked_pair, decide_eq_true (by omega), h12, q, inkB_end (.inr (by omega))]; rfl))   -- leaf 7
        · exact hQ _ (congrArg PV.bool (by rw [okInked_pair, decide_eq_true (by omega), h12]; rfl))   -- leaf 8
      · exact hQ _ (congrArg PV.bool (by rw [okInked_pair, decide_eq_false (by omega)]; rfl))   -- leaf 9

theorem coInk_ok (ink : List UInt8)  : OkA Try.prog 95 [.str ink] (· = .bool (isInkB ink)) :=
  fn_intro envOk fieldsOk mixed Try.func95 rfl fun κ X Y L Q m hQ => by
    conv => cbv
    refine r_seql m.sX (fun h1 => ?_) (fun h1 => ?_) <;> conv => cbv
    · exact hQ _ (congrArg PV.bool (by rw [isInkB, decide_eq_true h1]; rfl))   -- leaf 1
    · refine r_seql m.sX (fun h2 => ?_) (fun h2 => ?_) <;> conv => cbv
      · exact hQ _ (congrArg PV.bool (by rw [isInkB, decide_eq_true h2]; simp))   -- leaf 2
      · exact hQ _ (congrArg PV.bool (by rw [isInkB, decide_eq_false h1, decide_eq_false h2]; rfl))   -- leaf 3

theorem tyFind_ok (f : List FSort) (code : List UInt8)  : OkA Try.prog 133 [.isl 2 (rows cSort f), .str code] (· = .int .i64 (idxF code f 0)) :=
  fn_intro envOk fieldsOk mixed Try.func133 rfl fun κ X Y L Q m hQ => by
    conv => cbv
    refine r_lenR m.sX fun n1 hn1 mn1 => ?_
    conv => cbv
    refine r_loopF (α := Int) m 20 [1, 7, 8, 9] [] (fun σ => [(1, .str code), (7, .isl 2 (rows cSort f)), (8, .int .i64 n1), (9, .int .i64 σ)]) (fun σ => [])
      (fun σ => (0 ≤ σ) ∧ (σ ≤ n1) ∧ (idxF code f 0 = idxF code (f.drop σ.toNat) σ)) (fun σ => (n1 - σ).toNat) 0 ?_ ?_ ?_ ?_
    · cbv
    · cbv
    · exact ⟨(by (try dsimp only); first | omega | (simp only [List.length_nil]; omega)), (by (try dsimp only); first | omega | (simp only [List.length_nil]; omega)), (by (try dsimp only) <;> (rfl))⟩
    rintro i1 ⟨lo1, hi1, q⟩ E hE F hF
    conv => cbv
    refine r_lss m.sX (fun h1 => ?_) (fun h1 => ?_) <;> conv => cbv
    · refine r_index m.sX (by omega) (by omega) fun v hs_A => ?_
      obtain ⟨s_A, s_B⟩ := v
      conv => cbv
      have hs_ := hs_A
      have ms_ := get_mem hs_
      have ds_ := drop_cons hs_
      have ks_ := take_snoc hs_
      have js_ : (i1 + 1).toNat = Int.toNat i1 + 1 := by omega
      refine r_seql m.sX (fun h2 => ?_) (fun h2 => ?_) <;> conv => cbv
      · refine hF _ _ ?_
        conv => cbv
        exact hQ (.int .i64 i1) (Eq.trans (by first | rfl | (simp only [lb, lbI, rows_cons, rows_nil, unnilT, unnil, unnilTI, unnilI]; done) | (simp only [lb, lbI, rows_cons, rows_nil, unnilT, unnil, unnilTI, unnilI]; rfl)) (congrArg (PV.int .i64) (show i1 = idxF code f 0 from by rw [q, idxF_drop _ hs_, if_pos h2])))   -- leaf 1
      · refine r_addf m.sX (by omega) (by omega) fun r1 hr1 => ?_
        conv => cbv
        try have tr1 : Int.toNat r1 = Int.toNat i1 + 1 := by omega
        refine hE _ r1 ?_ ?_ ⟨(by (try dsimp only); first | omega | (simp only [List.length_nil]; omega)), (by (try dsimp only); first | omega | (simp only [List.length_nil]; omega)), (by (try dsimp only) <;> (rw [q, idxF_drop _ hs_, if_neg h2, tr1, show r1 = i1 + 1 by omega]))⟩ (by first | omega | (dsimp only; omega))
        · cbv
        · cbv
    · have dz_i1 := drop_end (xs := f) (i := Int.toNat i1) (by omega)
      have tz_i1 := take_end (xs := f) (i := Int.toNat i1) (by omega)
      refine hF _ _ ?_
      conv => cbv
      exact hQ (.int .i64 (-1)) (Eq.trans (by first | rfl | (simp only [lb, lbI, rows_cons, rows_nil, unnilT, unnil, unnilTI, unnilI]; done) | (simp only [lb, lbI, rows_cons, rows_nil, unnilT, unnil, unnilTI, unnilI]; rfl)) (congrArg (PV.int .i64) (show -1 = idxF code f 0 from by rw [q, dz_i1]; rfl)))   -- leaf 2

end Go.Proofs.Ytkdaikliahnenaa.Ai
