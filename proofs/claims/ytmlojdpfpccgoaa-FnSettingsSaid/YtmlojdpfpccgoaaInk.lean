/- Contracts of the functions on fonts and inked lines. -/
import Derived.Test.YtmlojdpfpccgoaaInkLaw
import Derived.Test.YtmlojdpfpccgoaaReg
namespace Go.Proofs.Ytmlojdpfpccgoaa.Ai
open Go Go.Proofs
set_option linter.unusedSimpArgs false
set_option maxRecDepth 10000
set_option maxHeartbeats 4000000
set_option linter.unusedVariables false

theorem areLetters_ok (s_ : List UInt8) (low : Int) (high : Int)  : OkA Try.prog 146 [.str s_, .int .i64 low, .int .i64 high] (· = .bool (lettersB s_ && inB s_.length low high)) :=
  fn_intro envOk fieldsOk mixed Try.func146 rfl fun κ X Y L Q m hQ => by
    conv => cbv
    refine r_loopF (α := Int) m 29 [0, 1, 2, 7] [] (fun σ => [(0, .str s_), (1, .int .i64 low), (2, .int .i64 high), (7, .int .i64 σ)]) (fun σ => [])
      (fun σ => (0 ≤ σ) ∧ (σ ≤ (s_.length : Int)) ∧ (lettersB s_ = (s_.drop σ.toNat).all letB)) (fun σ => ((s_.length : Int) - σ).toNat) 0 ?_ ?_ ?_ ?_
    · cbv
    · cbv
    · exact ⟨(by (try dsimp only); first | omega | (simp only [List.length_nil]; omega) | (simp only [List.length_cons, List.length_nil]; omega)), (by (try dsimp only); first | omega | (simp only [List.length_nil]; omega) | (simp only [List.length_cons, List.length_nil]; omega)), (by (try dsimp only) <;> (rfl))⟩
    rintro i ⟨lo1, hi1, q⟩ E hE F hF
    conv => cbv
    refine r_slen (u := s_) m.sX fun n1 hn1 mn1 => ?_   -- n1 = length of s_
    conv => cbv
    refine r_lss m.sX (fun h1 => ?_) (fun h1 => ?_) <;> conv => cbv
    · refine r_sidx (u := s_) (i := i) m.sX (by omega) (by first | omega | (simp only [List.length_cons, List.length_nil]; omega) | (simp; omega)) fun x1 hx1 c1 hc1 bc1 => ?_   -- x1 = s_[i]
      have dx1 := drop_cons hx1
      have kx1 := take_snoc hx1
      have jx1 : (i + 1).toNat = Int.toNat i + 1 := by omega
      conv => cbv
      refine r_lss m.sX (fun h2 => ?_) (fun h2 => ?_) <;> conv => cbv
      · have lb : letB x1 = false := letB_lo hc1 h2
        refine hF _ _ ?_
        conv => cbv
        exact hQ _ (congrArg PV.bool (by rw [q, all_drop hx1, lb]; rfl))   -- leaf 1
      · refine r_sidx (u := s_) (i := i) m.sX (by omega) (by first | omega | (simp only [List.length_cons, List.length_nil]; omega) | (simp; omega)) fun x2 hx2 c2 hc2 bc2 => ?_   -- x2 = s_[i]
        obtain rfl := Option.some.inj (hx1.symm.trans hx2)
        obtain rfl := hc1.trans hc2.symm
        conv => cbv
        refine r_gtr m.sX (fun h3 => ?_) (fun h3 => ?_) <;> conv => cbv
        · have lb : letB x1 = false := letB_hi hc1 h3
          refine hF _ _ ?_
          conv => cbv
          exact hQ _ (congrArg PV.bool (by rw [q, all_drop hx1, lb]; rfl))   -- leaf 2
        · have lb : letB x1 = true := letB_in hc1 (by omega)
          refine r_addf m.sX (by omega) (by omega) fun i_2 hi_2 => ?_
          conv => cbv
          try have ti_2 : Int.toNat i_2 = Int.toNat i + 1 := by omega
          refine hE _ i_2 ?_ ?_ ⟨(by (try dsimp only); first | omega | (simp only [List.length_nil]; omega) | (simp only [List.length_cons, List.length_nil]; omega)), (by (try dsimp only); first | omega | (simp only [List.length_nil]; omega) | (simp only [List.length_cons, List.length_nil]; omega)), (by (try dsimp only) <;> (rw [q, all_drop hx1, lb, Bool.true_and, ti_2]))⟩ (by first | omega | (dsimp only; omega))
          · cbv
          · cbv
    · refine hF _ _ ?_
      conv => cbv
      refine r_slen (u := s_) m.sX fun n2 hn2 mn2 => ?_   -- n2 = length of s_
      conv => cbv
      refine r_callB m.sX (within_ok n2 low high) (fun h4 => ?_) (fun h4 => ?_) <;> conv => cbv
      · exact hQ _ (congrArg PV.bool (by rw [q, all_end (by omega), ← hn2, h4]; rfl))   -- leaf 3
      · exact hQ _ (congrArg PV.bool (by rw [q, all_end (by omega), ← hn2, h4]; rfl))   -- leaf 4

theorem isCode_ok (s_ : List UInt8)  : OkA Try.prog 156 [.str s_] (· = .bool (lettersB s_ && inB s_.length 1 3)) :=
  fn_intro envOk fieldsOk mixed Try.func156 rfl fun κ X Y L Q m hQ => by
    conv => cbv
    refine r_callB m.sX (areLetters_ok s_ 1 3) (fun h1 => ?_) (fun h1 => ?_) <;> conv => cbv
    · exact hQ _ (congrArg PV.bool (by exact h1.symm))   -- leaf 1
    · exact hQ _ (congrArg PV.bool (by exact h1.symm))   -- leaf 2

theorem IsSort_ok (s_ : FSort)  : OkA Try.prog 145 [.agg (cSort s_)] (· = .bool (okSort s_)) := by
  obtain ⟨s_A, s_B⟩ := s_
  try dsimp only at *
  exact fn_intro envOk fieldsOk mixed Try.func145 rfl fun κ X Y L Q m hQ => by
    conv => cbv
    refine r_callB m.sX (isCode_ok s_A) (fun h1 => ?_) (fun h1 => ?_) <;> conv => cbv
    · refine r_callB m.sX (within_ok s_B 1 54) (fun h2 => ?_) (fun h2 => ?_) <;> conv => cbv
      · exact hQ _ (congrArg PV.bool (by rw [okSort, h1, h2]; rfl))   -- leaf 1
      · exact hQ _ (congrArg PV.bool (by rw [okSort, h1, h2]; rfl))   -- leaf 2
    · exact hQ _ (congrArg PV.bool (by rw [okSort, h1]; rfl))   -- leaf 3

theorem IsFont_ok (f : List FSort)  : OkA Try.prog 107 [.isl 2 (rows cSort f)] (· = .bool (okFont f)) :=
  fn_intro envOk fieldsOk mixed Try.func107 rfl fun κ X Y L Q m hQ => by
    conv => cbv
    refine r_lenR m.sX fun n1 hn1 mn1 => ?_
    conv => cbv
    refine r_loopF (α := Int) m 34 [0, 5, 6, 7] [] (fun σ => [(0, .isl 2 (rows cSort f)), (5, .isl 2 (rows cSort f)), (6, .int .i64 n1), (7, .int .i64 σ)]) (fun σ => [])
      (fun σ => (0 ≤ σ) ∧ (σ ≤ n1) ∧ (okFontG none f = okFontG (prevF f σ) (f.drop σ.toNat))) (fun σ => (n1 - σ).toNat) 0 ?_ ?_ ?_ ?_
    · cbv
    · cbv
    · exact ⟨(by (try dsimp only); first | omega | (simp only [List.length_nil]; omega) | (simp only [List.length_cons, List.length_nil]; omega)), (by (try dsimp only); first | omega | (simp only [List.length_nil]; omega) | (simp only [List.length_cons, List.length_nil]; omega)), (by (try dsimp only) <;> (rw [prevF_zero (by omega) (by omega)]; rfl))⟩
    rintro i1 ⟨lo1, hi1, q⟩ E hE F hF
    conv => cbv
    refine r_lss m.sX (fun h1 => ?_) (fun h1 => ?_) <;> conv => cbv
    · refine r_index m.sX (by omega) (by omega) fun v hs_A => ?_
      obtain ⟨s_A, s_B⟩ := v
      conv => cbv
      have hs_ := hs_A
      have ms_ := get_mem hs_
      have ds_ := drop_cons hs_
      have ks_ := take_snoc hs_
      have js_ : (i1 + 1).toNat = Int.toNat i1 + 1 := by omega
      have pn : prevF f (i1 + 1) = some s_A := prevF_some (x := (s_A, s_B)) (by omega) (by rw [show i1 + 1 - 1 = i1 by omega]; exact hs_)
      refine r_draw m (by kernel_rfl) ?_
      conv => cbv
      refine r_callBS m.sY (IsSort_ok (s_A, s_B)) (fun h2 => ?_) (fun h2 => ?_) <;> conv => cbv
      · refine r_gtr m.sY (fun h3 => ?_) (fun h3 => ?_) <;> conv => cbv
        · refine r_subf m.sY (by omega) (by omega) fun r1 hr1 => ?_
          conv => cbv
          refine r_index m.sY (by omega) (by omega) fun v hx1A => ?_
          obtain ⟨x1A, x1B⟩ := v
          conv => cbv
          have hx1 := hx1A
          have mx1 := get_mem hx1
          have pv : prevF f i1 = some x1A := prevF_some (x := (x1A, x1B)) (by omega) (by rw [← hr1]; exact hx1)
          refine r_sgeq m.sY (fun h4 => ?_) (fun h4 => ?_) <;> conv => cbv
          · have sb : lessB (prevF f i1) s_A = false := by rw [pv]; exact h4
            refine hF _ _ ?_
            conv => cbv
            exact hQ _ (congrArg PV.bool (by rw [okFont, q, ds_, okFontG_bad (.inr sb)]; rfl))   -- leaf 1
          · have sp : lessB (prevF f i1) s_A = true := by rw [pv]; exact h4
            refine r_addf m.sX (by omega) (by omega) fun r2 hr2 => ?_
            conv => cbv
            try have tr2 : Int.toNat r2 = Int.toNat i1 + 1 := by omega
            refine hE _ r2 ?_ ?_ ⟨(by (try dsimp only); first | omega | (simp only [List.length_nil]; omega) | (simp only [List.length_cons, List.length_nil]; omega)), (by (try dsimp only); first | omega | (simp only [List.length_nil]; omega) | (simp only [List.length_cons, List.length_nil]; omega)), (by (try dsimp only) <;> (rw [q, ds_, okFontG_step h2 sp, tr2, show r2 = i1 + 1 by omega, pn]))⟩ (by first | omega | (dsimp only; omega))
            · cbv
            · cbv
        · have sp : lessB (prevF f i1) s_A = true := by rw [prevF_zero (by omega) lo1]; rfl
          refine r_addf m.sX (by omega) (by omega) fun r3 hr3 => ?_
          conv => cbv
          try have tr3 : Int.toNat r3 = Int.toNat i1 + 1 := by omega
          refine hE _ r3 ?_ ?_ ⟨(by (try dsimp only); first | omega | (simp only [List.length_nil]; omega) | (simp only [List.length_cons, List.length_nil]; omega)), (by (try dsimp only); first | omega | (simp only [List.length_nil]; omega) | (simp only [List.length_cons, List.length_nil]; omega)), (by (try dsimp only) <;> (rw [q, ds_, okFontG_step h2 sp, tr3, show r3 = i1 + 1 by omega, pn]))⟩ (by first | omega | (dsimp only; omega))
          · cbv
          · cbv
      · refine hF _ _ ?_
        conv => cbv
        exact hQ _ (congrArg PV.bool (by rw [okFont, q, ds_, okFontG_bad (.inl h2)]; rfl))   -- leaf 2
    · have dz_i1 := drop_end (xs := f) (i := Int.toNat i1) (by omega)
      have tz_i1 := take_end (xs := f) (i := Int.toNat i1) (by omega)
      refine hF _ _ ?_
      conv => cbv
      refine r_lenR m.sX fun n2 hn2 mn2 => ?_
      conv => cbv
      refine r_callB m.sX (within_ok n2 1 32) (fun h5 => ?_) (fun h5 => ?_) <;> conv => cbv
      · exact hQ _ (congrArg PV.bool (by rw [okFont, q, dz_i1, ← hn2, h5]; rfl))   -- leaf 3
      · exact hQ _ (congrArg PV.bool (by rw [okFont, q, dz_i1, ← hn2, h5]; rfl))   -- leaf 4

theorem tyLetters_ok (s_ : List UInt8) (most : Int)  : OkA Try.prog 151 [.str s_, .int .i64 most] (· = .bool (lettersB s_ && inB s_.length 1 most)) :=
  fn_intro envOk fieldsOk mixed Try.func151 rfl fun κ X Y L Q m hQ => by
    conv => cbv
    refine r_loopF (α := Int) m 26 [0, 1, 5] [] (fun σ => [(0, .str s_), (1, .int .i64 most), (5, .int .i64 σ)]) (fun σ => [])
      (fun σ => (0 ≤ σ) ∧ (σ ≤ (s_.length : Int)) ∧ (lettersB s_ = (s_.drop σ.toNat).all letB)) (fun σ => ((s_.length : Int) - σ).toNat) 0 ?_ ?_ ?_ ?_
    · cbv
    · cbv
    · exact ⟨(by (try dsimp only); first | omega | (simp only [List.length_nil]; omega) | (simp only [List.length_cons, List.length_nil]; omega)), (by (try dsimp only); first | omega | (simp only [List.length_nil]; omega) | (simp only [List.length_cons, List.length_nil]; omega)), (by (try dsimp only) <;> (rfl))⟩
    rintro i ⟨lo1, hi1, q⟩ E hE F hF
    conv => cbv
    refine r_slen (u := s_) m.sX fun n1 hn1 mn1 => ?_   -- n1 = length of s_
    conv => cbv
    refine r_lss m.sX (fun h1 => ?_) (fun h1 => ?_) <;> conv => cbv
    · refine r_sidx (u := s_) (i := i) m.sX (by omega) (by first | omega | (simp only [List.length_cons, List.length_nil]; omega) | (simp; omega)) fun x1 hx1 c1 hc1 bc1 => ?_   -- x1 = s_[i]
      have dx1 := drop_cons hx1
      have kx1 := take_snoc hx1
      have jx1 : (i + 1).toNat = Int.toNat i + 1 := by omega
      conv => cbv
      refine r_lss m.sX (fun h2 => ?_) (fun h2 => ?_) <;> conv => cbv
      · have lb : letB x1 = false := letB_lo hc1 h2
        refine hF _ _ ?_
        conv => cbv
        exact hQ _ (congrArg PV.bool (by rw [q, all_drop hx1, lb]; rfl))   -- leaf 1
      · refine r_sidx (u := s_) (i := i) m.sX (by omega) (by first | omega | (simp only [List.length_cons, List.length_nil]; omega) | (simp; omega)) fun x2 hx2 c2 hc2 bc2 => ?_   -- x2 = s_[i]
        obtain rfl := Option.some.inj (hx1.symm.trans hx2)
        obtain rfl := hc1.trans hc2.symm
        conv => cbv
        refine r_gtr m.sX (fun h3 => ?_) (fun h3 => ?_) <;> conv => cbv
        · have lb : letB x1 = false := letB_hi hc1 h3
          refine hF _ _ ?_
          conv => cbv
          exact hQ _ (congrArg PV.bool (by rw [q, all_drop hx1, lb]; rfl))   -- leaf 2
        · have lb : letB x1 = true := letB_in hc1 (by omega)
          refine r_addf m.sX (by omega) (by omega) fun i_2 hi_2 => ?_
          conv => cbv
          try have ti_2 : Int.toNat i_2 = Int.toNat i + 1 := by omega
          refine hE _ i_2 ?_ ?_ ⟨(by (try dsimp only); first | omega | (simp only [List.length_nil]; omega) | (simp only [List.length_cons, List.length_nil]; omega)), (by (try dsimp only); first | omega | (simp only [List.length_nil]; omega) | (simp only [List.length_cons, List.length_nil]; omega)), (by (try dsimp only) <;> (rw [q, all_drop hx1, lb, Bool.true_and, ti_2]))⟩ (by first | omega | (dsimp only; omega))
          · cbv
          · cbv
    · refine hF _ _ ?_
      conv => cbv
      refine r_slen (u := s_) m.sX fun n2 hn2 mn2 => ?_   -- n2 = length of s_
      conv => cbv
      refine r_callB m.sX (l1In_ok n2 1 most) (fun h4 => ?_) (fun h4 => ?_) <;> conv => cbv
      · exact hQ _ (congrArg PV.bool (by rw [q, all_end (by omega), ← hn2, h4]; rfl))   -- leaf 3
      · exact hQ _ (congrArg PV.bool (by rw [q, all_end (by omega), ← hn2, h4]; rfl))   -- leaf 4

theorem tySort_ok (s_ : FSort)  : OkA Try.prog 149 [.agg (cSort s_)] (· = .bool (okSort s_)) := by
  obtain ⟨s_A, s_B⟩ := s_
  try dsimp only at *
  exact fn_intro envOk fieldsOk mixed Try.func149 rfl fun κ X Y L Q m hQ => by
    conv => cbv
    refine r_callB m.sX (tyLetters_ok s_A 3) (fun h1 => ?_) (fun h1 => ?_) <;> conv => cbv
    · refine r_callB m.sX (l1In_ok s_B 1 54) (fun h2 => ?_) (fun h2 => ?_) <;> conv => cbv
      · exact hQ _ (congrArg PV.bool (by rw [okSort, h1, h2]; rfl))   -- leaf 1
      · exact hQ _ (congrArg PV.bool (by rw [okSort, h1, h2]; rfl))   -- leaf 2
    · exact hQ _ (congrArg PV.bool (by rw [okSort, h1]; rfl))   -- leaf 3

theorem tyFont_ok (f : List FSort)  : OkA Try.prog 110 [.isl 2 (rows cSort f)] (· = .bool (okFont f)) :=
  fn_intro envOk fieldsOk mixed Try.func110 rfl fun κ X Y L Q m hQ => by
    conv => cbv
    refine r_lenR m.sX fun n1 hn1 mn1 => ?_
    conv => cbv
    refine r_loopF (α := Int) m 34 [0, 5, 6, 7] [] (fun σ => [(0, .isl 2 (rows cSort f)), (5, .isl 2 (rows cSort f)), (6, .int .i64 n1), (7, .int .i64 σ)]) (fun σ => [])
      (fun σ => (0 ≤ σ) ∧ (σ ≤ n1) ∧ (okFontG none f = okFontG (prevF f σ) (f.drop σ.toNat))) (fun σ => (n1 - σ).toNat) 0 ?_ ?_ ?_ ?_
    · cbv
    · cbv
    · exact ⟨(by (try dsimp only); first | omega | (simp only [List.length_nil]; omega) | (simp only [List.length_cons, List.length_nil]; omega)), (by (try dsimp only); first | omega | (simp only [List.length_nil]; omega) | (simp only [List.length_cons, List.length_nil]; omega)), (by (try dsimp only) <;> (rw [prevF_zero (by omega) (by omega)]; rfl))⟩
    rintro i1 ⟨lo1, hi1, q⟩ E hE F hF
    conv => cbv
    refine r_lss m.sX (fun h1 => ?_) (fun h1 => ?_) <;> conv => cbv
    · refine r_index m.sX (by omega) (by omega) fun v hs_A => ?_
      obtain ⟨s_A, s_B⟩ := v
      conv => cbv
      have hs_ := hs_A
      have ms_ := get_mem hs_
      have ds_ := drop_cons hs_
      have ks_ := take_snoc hs_
      have js_ : (i1 + 1).toNat = Int.toNat i1 + 1 := by omega
      have pn : prevF f (i1 + 1) = some s_A := prevF_some (x := (s_A, s_B)) (by omega) (by rw [show i1 + 1 - 1 = i1 by omega]; exact hs_)
      refine r_draw m (by kernel_rfl) ?_
      conv => cbv
      refine r_callBS m.sY (tySort_ok (s_A, s_B)) (fun h2 => ?_) (fun h2 => ?_) <;> conv => cbv
      · refine r_gtr m.sY (fun h3 => ?_) (fun h3 => ?_) <;> conv => cbv
        · refine r_subf m.sY (by omega) (by omega) fun r1 hr1 => ?_
          conv => cbv
          refine r_index m.sY (by omega) (by omega) fun v hx1A => ?_
          obtain ⟨x1A, x1B⟩ := v
          conv => cbv
          have hx1 := hx1A
          have mx1 := get_mem hx1
          have pv : prevF f i1 = some x1A := prevF_some (x := (x1A, x1B)) (by omega) (by rw [← hr1]; exact hx1)
          refine r_sgeq m.sY (fun h4 => ?_) (fun h4 => ?_) <;> conv => cbv
          · have sb : lessB (prevF f i1) s_A = false := by rw [pv]; exact h4
            refine hF _ _ ?_
            conv => cbv
            exact hQ _ (congrArg PV.bool (by rw [okFont, q, ds_, okFontG_bad (.inr sb)]; rfl))   -- leaf 1
          · have sp : lessB (prevF f i1) s_A = true := by rw [pv]; exact h4
            refine r_addf m.sX (by omega) (by omega) fun r2 hr2 => ?_
            conv => cbv
            try have tr2 : Int.toNat r2 = Int.toNat i1 + 1 := by omega
            refine hE _ r2 ?_ ?_ ⟨(by (try dsimp only); first | omega | (simp only [List.length_nil]; omega) | (simp only [List.length_cons, List.length_nil]; omega)), (by (try dsimp only); first | omega | (simp only [List.length_nil]; omega) | (simp only [List.length_cons, List.length_nil]; omega)), (by (try dsimp only) <;> (rw [q, ds_, okFontG_step h2 sp, tr2, show r2 = i1 + 1 by omega, pn]))⟩ (by first | omega | (dsimp only; omega))
            · cbv
            · cbv
        · have sp : lessB (prevF f i1) s_A = true := by rw [prevF_zero (by omega) lo1]; rfl
          refine r_addf m.sX (by omega) (by omega) fun r3 hr3 => ?_
          conv => cbv
          try have tr3 : Int.toNat r3 = Int.toNat i1 + 1 := by omega
          refine hE _ r3 ?_ ?_ ⟨(by (try dsimp only); first | omega | (simp only [List.length_nil]; omega) | (simp only [List.length_cons, List.length_nil]; omega)), (by (try dsimp only); first | omega | (simp only [List.length_nil]; omega) | (simp only [List.length_cons, List.length_nil]; omega)), (by (try dsimp only) <;> (rw [q, ds_, okFontG_step h2 sp, tr3, show r3 = i1 + 1 by omega, pn]))⟩ (by first | omega | (dsimp only; omega))
          · cbv
          · cbv
      · refine hF _ _ ?_
        conv => cbv
        exact hQ _ (congrArg PV.bool (by rw [okFont, q, ds_, okFontG_bad (.inl h2)]; rfl))   -- leaf 2
    · have dz_i1 := drop_end (xs := f) (i := Int.toNat i1) (by omega)
      have tz_i1 := take_end (xs := f) (i := Int.toNat i1) (by omega)
      refine hF _ _ ?_
      conv => cbv
      refine r_lenR m.sX fun n2 hn2 mn2 => ?_
      conv => cbv
      refine r_callB m.sX (l1In_ok n2 1 32) (fun h5 => ?_) (fun h5 => ?_) <;> conv => cbv
      · exact hQ _ (congrArg PV.bool (by rw [okFont, q, dz_i1, ← hn2, h5]; rfl))   -- leaf 3
      · exact hQ _ (congrArg PV.bool (by rw [okFont, q, dz_i1, ← hn2, h5]; rfl))   -- leaf 4

-- lacks spec.coText
-- lacks spec.coGood
-- lacks spec.coInk
theorem tyFind_ok (f : List FSort) (code : List UInt8)  : OkA Try.prog 159 [.isl 2 (rows cSort f), .str code] (· = .int .i64 (idxF code f 0)) :=
  fn_intro envOk fieldsOk mixed Try.func159 rfl fun κ X Y L Q m hQ => by
    conv => cbv
    refine r_lenR m.sX fun n1 hn1 mn1 => ?_
    conv => cbv
    refine r_loopF (α := Int) m 20 [1, 7, 8, 9] [] (fun σ => [(1, .str code), (7, .isl 2 (rows cSort f)), (8, .int .i64 n1), (9, .int .i64 σ)]) (fun σ => [])
      (fun σ => (0 ≤ σ) ∧ (σ ≤ n1) ∧ (idxF code f 0 = idxF code (f.drop σ.toNat) σ)) (fun σ => (n1 - σ).toNat) 0 ?_ ?_ ?_ ?_
    · cbv
    · cbv
    · exact ⟨(by (try dsimp only); first | omega | (simp only [List.length_nil]; omega) | (simp only [List.length_cons, List.length_nil]; omega)), (by (try dsimp only); first | omega | (simp only [List.length_nil]; omega) | (simp only [List.length_cons, List.length_nil]; omega)), (by (try dsimp only) <;> (rfl))⟩
    rintro i1 ⟨lo1, hi1, q⟩ E hE F hF
    conv => cbv
    refine r_lss m.sX (fun h1 => ?_) (fun h1 => ?_) <;> conv => cbv
    · refine r_index m.sX (by omega) (by omega) fun v hs_A => ?_
      obtain ⟨s_A, s_B⟩ := v
      conv => cbv
      have hs_ := hs_A
      have ms_ := get_mem hs_
      have ds_ := drop_cons hs_
      have ks_ := take_snoc hs_
      have js_ : (i1 + 1).toNat = Int.toNat i1 + 1 := by omega
      refine r_seql m.sX (fun h2 => ?_) (fun h2 => ?_) <;> conv => cbv
      · refine hF _ _ ?_
        conv => cbv
        exact hQ (.int .i64 i1) (Eq.trans (by first | rfl | (simp only [lb, lbI, rows_cons, rows_nil, unnilT, unnil, unnilTI, unnilI]; done) | (simp only [lb, lbI, rows_cons, rows_nil, unnilT, unnil, unnilTI, unnilI]; rfl)) (congrArg (PV.int .i64) (show i1 = idxF code f 0 from by rw [q, idxF_drop _ hs_, if_pos h2])))   -- leaf 1
      · refine r_addf m.sX (by omega) (by omega) fun r1 hr1 => ?_
        conv => cbv
        try have tr1 : Int.toNat r1 = Int.toNat i1 + 1 := by omega
        refine hE _ r1 ?_ ?_ ⟨(by (try dsimp only); first | omega | (simp only [List.length_nil]; omega) | (simp only [List.length_cons, List.length_nil]; omega)), (by (try dsimp only); first | omega | (simp only [List.length_nil]; omega) | (simp only [List.length_cons, List.length_nil]; omega)), (by (try dsimp only) <;> (rw [q, idxF_drop _ hs_, if_neg h2, tr1, show r1 = i1 + 1 by omega]))⟩ (by first | omega | (dsimp only; omega))
        · cbv
        · cbv
    · have dz_i1 := drop_end (xs := f) (i := Int.toNat i1) (by omega)
      have tz_i1 := take_end (xs := f) (i := Int.toNat i1) (by omega)
      refine hF _ _ ?_
      conv => cbv
      exact hQ (.int .i64 (-1)) (Eq.trans (by first | rfl | (simp only [lb, lbI, rows_cons, rows_nil, unnilT, unnil, unnilTI, unnilI]; done) | (simp only [lb, lbI, rows_cons, rows_nil, unnilT, unnil, unnilTI, unnilI]; rfl)) (congrArg (PV.int .i64) (show -1 = idxF code f 0 from by rw [q, dz_i1]; rfl)))   -- leaf 2

end Go.Proofs.Ytmlojdpfpccgoaa.Ai
