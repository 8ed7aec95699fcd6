/- Contracts behind FnCopies: proofs, their states, copies of them. -/
import Derived.Test.YtifkjlpkhfldoaaCopyLaw
import Derived.Test.YtifkjlpkhfldoaaStr
namespace Go.Proofs.Ytifkjlpkhfldoaa.Ai
open Go Go.Proofs
set_option maxRecDepth 10000
set_option maxHeartbeats 4000000
set_option linter.unusedVariables false
theorem hasNumber_ok (l : List Int) (n : Int)  : OkA Try.prog 106 [.isl 1 (rows cInt l), .int .i64 n] (· = .bool (decide (n ∈ l))) :=
  fn_intro envOk fieldsOk mixed Try.func106 rfl fun κ X Y L Q m hQ => by
    conv => cbv
    refine r_lenR m.sX fun n1 hn1 mn1 => ?_
    conv => cbv
    refine r_loopF (α := Int) m 17 [1, 7, 8, 9] [] (fun σ => [(1, .int .i64 n), (7, .isl 1 (rows cInt l)), (8, .int .i64 n1), (9, .int .i64 σ)]) (fun σ => [])
      (fun σ => (0 ≤ σ) ∧ (σ ≤ n1) ∧ (decide (n ∈ l) = decide (n ∈ l.drop σ.toNat))) (fun σ => (n1 - σ).toNat) 0 ?_ ?_ ?_ ?_
    · cbv
    · cbv
    · exact ⟨(by (try dsimp only); first | omega | (simp only [List.length_nil]; omega) | (simp only [List.length_cons, List.length_nil]; omega)), (by (try dsimp only); first | omega | (simp only [List.length_nil]; omega) | (simp only [List.length_cons, List.length_nil]; omega)), (by (try dsimp only) <;> first | omega | rfl | (simp [*]; done))⟩
    rintro i1 ⟨lo1, hi1, q⟩ E hE F hF
    conv => cbv
    refine r_lss m.sX (fun h1 => ?_) (fun h1 => ?_) <;> conv => cbv
    · refine r_index m.sX (by omega) (by omega) fun x hx => ?_
      conv => cbv
      have mx := get_mem hx
      have dx := drop_cons hx
      have kx := take_snoc hx
      have jx : (i1 + 1).toNat = Int.toNat i1 + 1 := by omega
      have vx := nth_some hx
      refine r_eql m.sX (fun h2 => ?_) (fun h2 => ?_) <;> conv => cbv
      · refine hF _ _ ?_
        conv => cbv
        exact hQ _ (congrArg PV.bool (by rw [q]; simp [*]))   -- leaf 1
      · refine r_addf m.sX (by omega) (by omega) fun r1 hr1 => ?_
        conv => cbv
        try have tr1 : Int.toNat r1 = Int.toNat i1 + 1 := by omega
        refine hE _ r1 ?_ ?_ ⟨(by (try dsimp only); first | omega | (simp only [List.length_nil]; omega) | (simp only [List.length_cons, List.length_nil]; omega)), (by (try dsimp only); first | omega | (simp only [List.length_nil]; omega) | (simp only [List.length_cons, List.length_nil]; omega)), (by (try dsimp only) <;> (rw [q, dx, tr1]; simp [Ne.symm h2]))⟩ (by first | omega | (dsimp only; omega))
        · cbv
        · cbv
    · have dz_i1 := drop_end (xs := l) (i := Int.toNat i1) (by omega)
      have tz_i1 := take_end (xs := l) (i := Int.toNat i1) (by omega)
      refine hF _ _ ?_
      conv => cbv
      exact hQ _ (congrArg PV.bool (by rw [q]; simp [*]))   -- leaf 2

theorem isPlainText_ok (s_ : List UInt8) (low : Int) (high : Int)  : OkA Try.prog 181 [.str s_, .int .i64 low, .int .i64 high] (· = .bool (plainB s_ && inB s_.length low high)) :=
  fn_intro envOk fieldsOk mixed Try.func181 rfl fun κ X Y L Q m hQ => by
    conv => cbv
    refine r_loopF (α := Int) m 35 [0, 1, 2, 7] [] (fun σ => [(0, .str s_), (1, .int .i64 low), (2, .int .i64 high), (7, .int .i64 σ)]) (fun σ => [])
      (fun σ => (0 ≤ σ) ∧ (σ ≤ (s_.length : Int)) ∧ (plainB s_ = (s_.drop σ.toNat).all plainC)) (fun σ => ((s_.length : Int) - σ).toNat) 0 ?_ ?_ ?_ ?_
    · cbv
    · cbv
    · exact ⟨(by (try dsimp only); first | omega | (simp only [List.length_nil]; omega) | (simp only [List.length_cons, List.length_nil]; omega)), (by (try dsimp only); first | omega | (simp only [List.length_nil]; omega) | (simp only [List.length_cons, List.length_nil]; omega)), (by (try dsimp only) <;> (rfl))⟩
    rintro i ⟨lo1, hi1, q⟩ E hE F hF
    conv => cbv
    refine r_slen (u := s_) m.sX fun n1 hn1 mn1 => ?_   -- n1 = length of s_
    conv => cbv
    refine r_lss m.sX (fun h1 => ?_) (fun h1 => ?_) <;> conv => cbv
    · refine r_sidx (u := s_) (i := i) m.sX (by omega) (by first | omega | (simp only [List.length_cons, List.length_nil]; omega) | (simp; omega)) fun x1 hx1 c1 hc1 bc1 => ?_   -- x1 = s_[i]
      have dx1 := drop_cons hx1
      have kx1 := take_snoc hx1
      have jx1 : (i + 1).toNat = Int.toNat i + 1 := by omega
      conv => cbv
      refine r_neq m.sX (fun h2 => ?_) (fun h2 => ?_) <;> conv => cbv
      · refine r_sidx (u := s_) (i := i) m.sX (by omega) (by first | omega | (simp only [List.length_cons, List.length_nil]; omega) | (simp; omega)) fun x2 hx2 c2 hc2 bc2 => ?_   -- x2 = s_[i]
        obtain rfl := Option.some.inj (hx1.symm.trans hx2)
        obtain rfl := hc1.trans hc2.symm
        conv => cbv
        refine r_lss m.sX (fun h3 => ?_) (fun h3 => ?_) <;> conv => cbv
        · have lb : plainC x1 = false := plainC_no hc1 h2 (.inl h3)
          refine hF _ _ ?_
          conv => cbv
          exact hQ _ (congrArg PV.bool (by rw [q, all_drop hx1, lb]; rfl))   -- leaf 1
        · refine r_sidx (u := s_) (i := i) m.sX (by omega) (by first | omega | (simp only [List.length_cons, List.length_nil]; omega) | (simp; omega)) fun x3 hx3 c3 hc3 bc3 => ?_   -- x3 = s_[i]
          obtain rfl := Option.some.inj (hx1.symm.trans hx3)
          obtain rfl := hc1.trans hc3.symm
          conv => cbv
          refine r_gtr m.sX (fun h4 => ?_) (fun h4 => ?_) <;> conv => cbv
          · have lb : plainC x1 = false := plainC_no hc1 h2 (.inr h4)
            refine hF _ _ ?_
            conv => cbv
            exact hQ _ (congrArg PV.bool (by rw [q, all_drop hx1, lb]; rfl))   -- leaf 2
          · have lb : plainC x1 = true := plainC_yes hc1 (by omega)
            refine r_addf m.sX (by omega) (by omega) fun i_2 hi_2 => ?_
            conv => cbv
            try have ti_2 : Int.toNat i_2 = Int.toNat i + 1 := by omega
            refine hE _ i_2 ?_ ?_ ⟨(by (try dsimp only); first | omega | (simp only [List.length_nil]; omega) | (simp only [List.length_cons, List.length_nil]; omega)), (by (try dsimp only); first | omega | (simp only [List.length_nil]; omega) | (simp only [List.length_cons, List.length_nil]; omega)), (by (try dsimp only) <;> (rw [q, all_drop hx1, lb, Bool.true_and, ti_2]))⟩ (by first | omega | (dsimp only; omega))
            · cbv
            · cbv
      · have lb : plainC x1 = true := plainC_sp hc1 h2
        refine r_addf m.sX (by omega) (by omega) fun i_3 hi_3 => ?_
        conv => cbv
        try have ti_3 : Int.toNat i_3 = Int.toNat i + 1 := by omega
        refine hE _ i_3 ?_ ?_ ⟨(by (try dsimp only); first | omega | (simp only [List.length_nil]; omega) | (simp only [List.length_cons, List.length_nil]; omega)), (by (try dsimp only); first | omega | (simp only [List.length_nil]; omega) | (simp only [List.length_cons, List.length_nil]; omega)), (by (try dsimp only) <;> (rw [q, all_drop hx1, lb, Bool.true_and, ti_3]))⟩ (by first | omega | (dsimp only; omega))
        · cbv
        · cbv
    · refine hF _ _ ?_
      conv => cbv
      refine r_slen (u := s_) m.sX fun n2 hn2 mn2 => ?_   -- n2 = length of s_
      conv => cbv
      refine r_callB m.sX (within_ok n2 low high) (fun h5 => ?_) (fun h5 => ?_) <;> conv => cbv
      · exact hQ _ (congrArg PV.bool (by rw [q, all_end (by omega), ← hn2, h5]; rfl))   -- leaf 3
      · exact hQ _ (congrArg PV.bool (by rw [q, all_end (by omega), ← hn2, h5]; rfl))   -- leaf 4

theorem pfLetters_ok (s_ : List UInt8) (least : Int) (most : Int)  : OkA Try.prog 158 [.str s_, .int .i64 least, .int .i64 most] (· = .bool (plainB s_ && inB s_.length least most)) :=
  fn_intro envOk fieldsOk mixed Try.func158 rfl fun κ X Y L Q m hQ => by
    conv => cbv
    refine r_loopF (α := Int) m 35 [0, 1, 2, 7] [] (fun σ => [(0, .str s_), (1, .int .i64 least), (2, .int .i64 most), (7, .int .i64 σ)]) (fun σ => [])
      (fun σ => (0 ≤ σ) ∧ (σ ≤ (s_.length : Int)) ∧ (plainB s_ = (s_.drop σ.toNat).all plainC)) (fun σ => ((s_.length : Int) - σ).toNat) 0 ?_ ?_ ?_ ?_
    · cbv
    · cbv
    · exact ⟨(by (try dsimp only); first | omega | (simp only [List.length_nil]; omega) | (simp only [List.length_cons, List.length_nil]; omega)), (by (try dsimp only); first | omega | (simp only [List.length_nil]; omega) | (simp only [List.length_cons, List.length_nil]; omega)), (by (try dsimp only) <;> (rfl))⟩
    rintro i ⟨lo1, hi1, q⟩ E hE F hF
    conv => cbv
    refine r_slen (u := s_) m.sX fun n1 hn1 mn1 => ?_   -- n1 = length of s_
    conv => cbv
    refine r_lss m.sX (fun h1 => ?_) (fun h1 => ?_) <;> conv => cbv
    · refine r_sidx (u := s_) (i := i) m.sX (by omega) (by first | omega | (simp only [List.length_cons, List.length_nil]; omega) | (simp; omega)) fun x1 hx1 c1 hc1 bc1 => ?_   -- x1 = s_[i]
      have dx1 := drop_cons hx1
      have kx1 := take_snoc hx1
      have jx1 : (i + 1).toNat = Int.toNat i + 1 := by omega
      conv => cbv
      refine r_neq m.sX (fun h2 => ?_) (fun h2 => ?_) <;> conv => cbv
      · refine r_sidx (u := s_) (i := i) m.sX (by omega) (by first | omega | (simp only [List.length_cons, List.length_nil]; omega) | (simp; omega)) fun x2 hx2 c2 hc2 bc2 => ?_   -- x2 = s_[i]
        obtain rfl := Option.some.inj (hx1.symm.trans hx2)
        obtain rfl := hc1.trans hc2.symm
        conv => cbv
        refine r_lss m.sX (fun h3 => ?_) (fun h3 => ?_) <;> conv => cbv
        · have lb : plainC x1 = false := plainC_no hc1 h2 (.inl h3)
          refine hF _ _ ?_
          conv => cbv
          exact hQ _ (congrArg PV.bool (by rw [q, all_drop hx1, lb]; rfl))   -- leaf 1
        · refine r_sidx (u := s_) (i := i) m.sX (by omega) (by first | omega | (simp only [List.length_cons, List.length_nil]; omega) | (simp; omega)) fun x3 hx3 c3 hc3 bc3 => ?_   -- x3 = s_[i]
          obtain rfl := Option.some.inj (hx1.symm.trans hx3)
          obtain rfl := hc1.trans hc3.symm
          conv => cbv
          refine r_gtr m.sX (fun h4 => ?_) (fun h4 => ?_) <;> conv => cbv
          · have lb : plainC x1 = false := plainC_no hc1 h2 (.inr h4)
            refine hF _ _ ?_
            conv => cbv
            exact hQ _ (congrArg PV.bool (by rw [q, all_drop hx1, lb]; rfl))   -- leaf 2
          · have lb : plainC x1 = true := plainC_yes hc1 (by omega)
            refine r_addf m.sX (by omega) (by omega) fun i_2 hi_2 => ?_
            conv => cbv
            try have ti_2 : Int.toNat i_2 = Int.toNat i + 1 := by omega
            refine hE _ i_2 ?_ ?_ ⟨(by (try dsimp only); first | omega | (simp only [List.length_nil]; omega) | (simp only [List.length_cons, List.length_nil]; omega)), (by (try dsimp only); first | omega | (simp only [List.length_nil]; omega) | (simp only [List.length_cons, List.length_nil]; omega)), (by (try dsimp only) <;> (rw [q, all_drop hx1, lb, Bool.true_and, ti_2]))⟩ (by first | omega | (dsimp only; omega))
            · cbv
            · cbv
      · have lb : plainC x1 = true := plainC_sp hc1 h2
        refine r_addf m.sX (by omega) (by omega) fun i_3 hi_3 => ?_
        conv => cbv
        try have ti_3 : Int.toNat i_3 = Int.toNat i + 1 := by omega
        refine hE _ i_3 ?_ ?_ ⟨(by (try dsimp only); first | omega | (simp only [List.length_nil]; omega) | (simp only [List.length_cons, List.length_nil]; omega)), (by (try dsimp only); first | omega | (simp only [List.length_nil]; omega) | (simp only [List.length_cons, List.length_nil]; omega)), (by (try dsimp only) <;> (rw [q, all_drop hx1, lb, Bool.true_and, ti_3]))⟩ (by first | omega | (dsimp only; omega))
        · cbv
        · cbv
    · refine hF _ _ ?_
      conv => cbv
      refine r_slen (u := s_) m.sX fun n2 hn2 mn2 => ?_   -- n2 = length of s_
      conv => cbv
      refine r_callB m.sX (l1In_ok n2 least most) (fun h5 => ?_) (fun h5 => ?_) <;> conv => cbv
      · exact hQ _ (congrArg PV.bool (by rw [q, all_end (by omega), ← hn2, h5]; rfl))   -- leaf 3
      · exact hQ _ (congrArg PV.bool (by rw [q, all_end (by omega), ← hn2, h5]; rfl))   -- leaf 4

theorem isProofLine_ok (s_ : List UInt8)  : OkA Try.prog 176 [.str s_] (· = .bool (lineB s_)) :=
  fn_intro envOk fieldsOk mixed Try.func176 rfl fun κ X Y L Q m hQ => by
    conv => cbv
    refine r_callB m.sX (isPlainText_ok s_ 0 40) (fun h1 => ?_) (fun h1 => ?_) <;> conv => cbv
    · exact hQ _ (congrArg PV.bool (by exact h1.symm))   -- leaf 1
    · exact hQ _ (congrArg PV.bool (by exact h1.symm))   -- leaf 2

theorem IsProof_ok (lines : List (List UInt8))  : OkA Try.prog 156 [.isl 1 (rows cStr lines)] (· = .bool (proofB lines)) :=
  fn_intro envOk fieldsOk mixed Try.func156 rfl fun κ X Y L Q m hQ => by
    conv => cbv
    refine r_lenR m.sX fun n1 hn1 mn1 => ?_
    conv => cbv
    refine r_loopF (α := Int) m 18 [0, 5, 6, 7] [] (fun σ => [(0, .isl 1 (rows cStr lines)), (5, .isl 1 (rows cStr lines)), (6, .int .i64 n1), (7, .int .i64 σ)]) (fun σ => [])
      (fun σ => (0 ≤ σ) ∧ (σ ≤ n1) ∧ (lines.all lineB = (lines.drop σ.toNat).all lineB)) (fun σ => (n1 - σ).toNat) 0 ?_ ?_ ?_ ?_
    · cbv
    · cbv
    · exact ⟨(by (try dsimp only); first | omega | (simp only [List.length_nil]; omega) | (simp only [List.length_cons, List.length_nil]; omega)), (by (try dsimp only); first | omega | (simp only [List.length_nil]; omega) | (simp only [List.length_cons, List.length_nil]; omega)), (by (try dsimp only) <;> (rfl))⟩
    rintro i1 ⟨lo1, hi1, q⟩ E hE F hF
    conv => cbv
    refine r_lss m.sX (fun h1 => ?_) (fun h1 => ?_) <;> conv => cbv
    · refine r_index m.sX (by omega) (by omega) fun s_ hs_ => ?_
      conv => cbv
      have ms_ := get_mem hs_
      have ds_ := drop_cons hs_
      have ks_ := take_snoc hs_
      have js_ : (i1 + 1).toNat = Int.toNat i1 + 1 := by omega
      refine r_callB m.sX (isProofLine_ok s_) (fun h2 => ?_) (fun h2 => ?_) <;> conv => cbv
      · refine r_addf m.sX (by omega) (by omega) fun r1 hr1 => ?_
        conv => cbv
        try have tr1 : Int.toNat r1 = Int.toNat i1 + 1 := by omega
        refine hE _ r1 ?_ ?_ ⟨(by (try dsimp only); first | omega | (simp only [List.length_nil]; omega) | (simp only [List.length_cons, List.length_nil]; omega)), (by (try dsimp only); first | omega | (simp only [List.length_nil]; omega) | (simp only [List.length_cons, List.length_nil]; omega)), (by (try dsimp only) <;> (rw [q, allT_drop hs_, h2, Bool.true_and, tr1]))⟩ (by first | omega | (dsimp only; omega))
        · cbv
        · cbv
      · refine hF _ _ ?_
        conv => cbv
        exact hQ _ (congrArg PV.bool (by rw [proofB, q, allT_drop hs_, h2]; rfl))   -- leaf 1
    · have dz_i1 := drop_end (xs := lines) (i := Int.toNat i1) (by omega)
      have tz_i1 := take_end (xs := lines) (i := Int.toNat i1) (by omega)
      refine hF _ _ ?_
      conv => cbv
      refine r_lenR m.sX fun n2 hn2 mn2 => ?_
      conv => cbv
      refine r_callB m.sX (within_ok n2 1 12) (fun h3 => ?_) (fun h3 => ?_) <;> conv => cbv
      · exact hQ _ (congrArg PV.bool (by rw [proofB, q, dz_i1, ← hn2, h3]; rfl))   -- leaf 2
      · exact hQ _ (congrArg PV.bool (by rw [proofB, q, dz_i1, ← hn2, h3]; rfl))   -- leaf 3

theorem pfGood_ok (lines : List (List UInt8))  : OkA Try.prog 104 [.isl 1 (rows cStr lines)] (· = .bool (proofB lines)) :=
  fn_intro envOk fieldsOk mixed Try.func104 rfl fun κ X Y L Q m hQ => by
    conv => cbv
    refine r_lenR m.sX fun n1 hn1 mn1 => ?_
    conv => cbv
    refine r_loopF (α := Int) m 18 [0, 5, 6, 7] [] (fun σ => [(0, .isl 1 (rows cStr lines)), (5, .isl 1 (rows cStr lines)), (6, .int .i64 n1), (7, .int .i64 σ)]) (fun σ => [])
      (fun σ => (0 ≤ σ) ∧ (σ ≤ n1) ∧ (lines.all lineB = (lines.drop σ.toNat).all lineB)) (fun σ => (n1 - σ).toNat) 0 ?_ ?_ ?_ ?_
    · cbv
    · cbv
    · exact ⟨(by (try dsimp only); first | omega | (simp only [List.length_nil]; omega) | (simp only [List.length_cons, List.length_nil]; omega)), (by (try dsimp only); first | omega | (simp only [List.length_nil]; omega) | (simp only [List.length_cons, List.length_nil]; omega)), (by (try dsimp only) <;> (rfl))⟩
    rintro i1 ⟨lo1, hi1, q⟩ E hE F hF
    conv => cbv
    refine r_lss m.sX (fun h1 => ?_) (fun h1 => ?_) <;> conv => cbv
    · refine r_index m.sX (by omega) (by omega) fun s_ hs_ => ?_
      conv => cbv
      have ms_ := get_mem hs_
      have ds_ := drop_cons hs_
      have ks_ := take_snoc hs_
      have js_ : (i1 + 1).toNat = Int.toNat i1 + 1 := by omega
      refine r_callB m.sX (pfLetters_ok s_ 0 40) (fun h2 => ?_) (fun h2 => ?_) <;> conv => cbv
      · have lb : lineB s_ = true := h2
        refine r_addf m.sX (by omega) (by omega) fun r1 hr1 => ?_
        conv => cbv
        try have tr1 : Int.toNat r1 = Int.toNat i1 + 1 := by omega
        refine hE _ r1 ?_ ?_ ⟨(by (try dsimp only); first | omega | (simp only [List.length_nil]; omega) | (simp only [List.length_cons, List.length_nil]; omega)), (by (try dsimp only); first | omega | (simp only [List.length_nil]; omega) | (simp only [List.length_cons, List.length_nil]; omega)), (by (try dsimp only) <;> (rw [q, allT_drop hs_, lb, Bool.true_and, tr1]))⟩ (by first | omega | (dsimp only; omega))
        · cbv
        · cbv
      · have lb : lineB s_ = false := h2
        refine hF _ _ ?_
        conv => cbv
        exact hQ _ (congrArg PV.bool (by rw [proofB, q, allT_drop hs_, lb]; rfl))   -- leaf 1
    · have dz_i1 := drop_end (xs := lines) (i := Int.toNat i1) (by omega)
      have tz_i1 := take_end (xs := lines) (i := Int.toNat i1) (by omega)
      refine hF _ _ ?_
      conv => cbv
      refine r_lenR m.sX fun n2 hn2 mn2 => ?_
      conv => cbv
      refine r_callB m.sX (l1In_ok n2 1 12) (fun h3 => ?_) (fun h3 => ?_) <;> conv => cbv
      · exact hQ _ (congrArg PV.bool (by rw [proofB, q, dz_i1, ← hn2, h3]; rfl))   -- leaf 2
      · exact hQ _ (congrArg PV.bool (by rw [proofB, q, dz_i1, ← hn2, h3]; rfl))   -- leaf 3

theorem AreStates_ok (l : List (List (List UInt8)))  : OkA Try.prog 112 [.isl 1 (rows (cSl 1 cStr) l)] (· = .bool (statesB l)) :=
  fn_intro envOk fieldsOk mixed Try.func112 rfl fun κ X Y L Q m hQ => by
    conv => cbv
    refine r_lenR m.sX fun n1 hn1 mn1 => ?_
    conv => cbv
    refine r_loopF (α := Int) m 27 [0, 5, 6, 7] [] (fun σ => [(0, .isl 1 (rows (cSl 1 cStr) l)), (5, .isl 1 (rows (cSl 1 cStr) l)), (6, .int .i64 n1), (7, .int .i64 σ)]) (fun σ => [])
      (fun σ => (0 ≤ σ) ∧ (σ ≤ n1) ∧ (wideB (headLen l) l = wideB (headLen l) (l.drop σ.toNat))) (fun σ => (n1 - σ).toNat) 0 ?_ ?_ ?_ ?_
    · cbv
    · cbv
    · exact ⟨(by (try dsimp only); first | omega | (simp only [List.length_nil]; omega) | (simp only [List.length_cons, List.length_nil]; omega)), (by (try dsimp only); first | omega | (simp only [List.length_nil]; omega) | (simp only [List.length_cons, List.length_nil]; omega)), (by (try dsimp only) <;> (rfl))⟩
    rintro i1 ⟨lo1, hi1, q⟩ E hE F hF
    conv => cbv
    refine r_lss m.sX (fun h1 => ?_) (fun h1 => ?_) <;> conv => cbv
    · refine r_index m.sX (by omega) (by omega) fun p hp => ?_
      conv => cbv
      have mp := get_mem hp
      have dp := drop_cons hp
      have kp := take_snoc hp
      have jp : (i1 + 1).toNat = Int.toNat i1 + 1 := by omega
      have wd := wideB_drop (n := headLen l) hp
      refine r_callB m.sX (IsProof_ok p) (fun h2 => ?_) (fun h2 => ?_) <;> conv => cbv
      · refine r_lenR m.sX fun n2 hn2 mn2 => ?_
        conv => cbv
        refine r_index m.sX (by omega) (by omega) fun x1 hx1 => ?_
        conv => cbv
        have mx1 := get_mem hx1
        have hl := headLen_some hx1
        refine r_lenR m.sX fun n3 hn3 mn3 => ?_
        conv => cbv
        refine r_neq m.sX (fun h3 => ?_) (fun h3 => ?_) <;> conv => cbv
        · refine hF _ _ ?_
          conv => cbv
          exact hQ _ (congrArg PV.bool (by rw [statesB, q, wd, h2, decide_eq_false (show ¬ (p.length : Int) = headLen l by omega)]; rfl))   -- leaf 1
        · refine r_addf m.sX (by omega) (by omega) fun r1 hr1 => ?_
          conv => cbv
          try have tr1 : Int.toNat r1 = Int.toNat i1 + 1 := by omega
          refine hE _ r1 ?_ ?_ ⟨(by (try dsimp only); first | omega | (simp only [List.length_nil]; omega) | (simp only [List.length_cons, List.length_nil]; omega)), (by (try dsimp only); first | omega | (simp only [List.length_nil]; omega) | (simp only [List.length_cons, List.length_nil]; omega)), (by (try dsimp only) <;> (rw [q, wd, h2, decide_eq_true (show (p.length : Int) = headLen l by omega), Bool.true_and, Bool.true_and, tr1]))⟩ (by first | omega | (dsimp only; omega))
          · cbv
          · cbv
      · refine hF _ _ ?_
        conv => cbv
        exact hQ _ (congrArg PV.bool (by rw [statesB, q, wd, h2]; rfl))   -- leaf 2
    · have dz_i1 := drop_end (xs := l) (i := Int.toNat i1) (by omega)
      have tz_i1 := take_end (xs := l) (i := Int.toNat i1) (by omega)
      refine hF _ _ ?_
      conv => cbv
      refine r_lenR m.sX fun n4 hn4 mn4 => ?_
      conv => cbv
      refine r_callB m.sX (within_ok n4 1 6) (fun h4 => ?_) (fun h4 => ?_) <;> conv => cbv
      · exact hQ _ (congrArg PV.bool (by rw [statesB, q, dz_i1, ← hn4, h4]; rfl))   -- leaf 3
      · exact hQ _ (congrArg PV.bool (by rw [statesB, q, dz_i1, ← hn4, h4]; rfl))   -- leaf 4

theorem rvGood_ok (l : List (List (List UInt8)))  : OkA Try.prog 103 [.isl 1 (rows (cSl 1 cStr) l)] (· = .bool (statesB l)) :=
  fn_intro envOk fieldsOk mixed Try.func103 rfl fun κ X Y L Q m hQ => by
    conv => cbv
    refine r_lenR m.sX fun n1 hn1 mn1 => ?_
    conv => cbv
    refine r_loopF (α := Int) m 27 [0, 5, 6, 7] [] (fun σ => [(0, .isl 1 (rows (cSl 1 cStr) l)), (5, .isl 1 (rows (cSl 1 cStr) l)), (6, .int .i64 n1), (7, .int .i64 σ)]) (fun σ => [])
      (fun σ => (0 ≤ σ) ∧ (σ ≤ n1) ∧ (wideB (headLen l) l = wideB (headLen l) (l.drop σ.toNat))) (fun σ => (n1 - σ).toNat) 0 ?_ ?_ ?_ ?_
    · cbv
    · cbv
    · exact ⟨(by (try dsimp only); first | omega | (simp only [List.length_nil]; omega) | (simp only [List.length_cons, List.length_nil]; omega)), (by (try dsimp only); first | omega | (simp only [List.length_nil]; omega) | (simp only [List.length_cons, List.length_nil]; omega)), (by (try dsimp only) <;> (rfl))⟩
    rintro i1 ⟨lo1, hi1, q⟩ E hE F hF
    conv => cbv
    refine r_lss m.sX (fun h1 => ?_) (fun h1 => ?_) <;> conv => cbv
    · refine r_index m.sX (by omega) (by omega) fun lines hlines => ?_
      conv => cbv
      have mlines := get_mem hlines
      have dlines := drop_cons hlines
      have klines := take_snoc hlines
      have jlines : (i1 + 1).toNat = Int.toNat i1 + 1 := by omega
      have wd := wideB_drop (n := headLen l) hlines
      refine r_callB m.sX (pfGood_ok lines) (fun h2 => ?_) (fun h2 => ?_) <;> conv => cbv
      · refine r_lenR m.sX fun n2 hn2 mn2 => ?_
        conv => cbv
        refine r_index m.sX (by omega) (by omega) fun x1 hx1 => ?_
        conv => cbv
        have mx1 := get_mem hx1
        have hl := headLen_some hx1
        refine r_lenR m.sX fun n3 hn3 mn3 => ?_
        conv => cbv
        refine r_neq m.sX (fun h3 => ?_) (fun h3 => ?_) <;> conv => cbv
        · refine hF _ _ ?_
          conv => cbv
          exact hQ _ (congrArg PV.bool (by rw [statesB, q, wd, h2, decide_eq_false (show ¬ (lines.length : Int) = headLen l by omega)]; rfl))   -- leaf 1
        · refine r_addf m.sX (by omega) (by omega) fun r1 hr1 => ?_
          conv => cbv
          try have tr1 : Int.toNat r1 = Int.toNat i1 + 1 := by omega
          refine hE _ r1 ?_ ?_ ⟨(by (try dsimp only); first | omega | (simp only [List.length_nil]; omega) | (simp only [List.length_cons, List.length_nil]; omega)), (by (try dsimp only); first | omega | (simp only [List.length_nil]; omega) | (simp only [List.length_cons, List.length_nil]; omega)), (by (try dsimp only) <;> (rw [q, wd, h2, decide_eq_true (show (lines.length : Int) = headLen l by omega), Bool.true_and, Bool.true_and, tr1]))⟩ (by first | omega | (dsimp only; omega))
          · cbv
          · cbv
      · refine hF _ _ ?_
        conv => cbv
        exact hQ _ (congrArg PV.bool (by rw [statesB, q, wd, h2]; rfl))   -- leaf 2
    · have dz_i1 := drop_end (xs := l) (i := Int.toNat i1) (by omega)
      have tz_i1 := take_end (xs := l) (i := Int.toNat i1) (by omega)
      refine hF _ _ ?_
      conv => cbv
      refine r_lenR m.sX fun n4 hn4 mn4 => ?_
      conv => cbv
      refine r_callB m.sX (l1In_ok n4 1 6) (fun h4 => ?_) (fun h4 => ?_) <;> conv => cbv
      · exact hQ _ (congrArg PV.bool (by rw [statesB, q, dz_i1, ← hn4, h4]; rfl))   -- leaf 3
      · exact hQ _ (congrArg PV.bool (by rw [statesB, q, dz_i1, ← hn4, h4]; rfl))   -- leaf 4

theorem isCopyOf_ok (l : List (List (List UInt8))) (lines : List (List UInt8))  : OkA Try.prog 101 [.isl 1 (rows (cSl 1 cStr) l), .isl 1 (rows cStr lines)] (· = .bool (copyB l lines)) :=
  fn_intro envOk fieldsOk mixed Try.func101 rfl fun κ X Y L Q m hQ => by
    conv => cbv
    refine r_callB m.sX (AreStates_ok l) (fun h1 => ?_) (fun h1 => ?_) <;> conv => cbv
    · refine r_callB m.sX (IsProof_ok lines) (fun h2 => ?_) (fun h2 => ?_) <;> conv => cbv
      · exact hQ _ (congrArg PV.bool (by first | (rw [copyB, h1, h2]; rfl) | (rw [copyB, h1]; rfl)))   -- leaf 1
      · exact hQ _ (congrArg PV.bool (by first | (rw [copyB, h1, h2]; rfl) | (rw [copyB, h1]; rfl)))   -- leaf 2
    · exact hQ _ (congrArg PV.bool (by first | (rw [copyB, h1, h2]; rfl) | (rw [copyB, h1]; rfl)))   -- leaf 3

theorem changedLines_ok (a : List (List UInt8)) (b : List (List UInt8)) (hl : a.length = b.length) (hn : a.length ≤ 1000000) : OkA Try.prog 177 [.isl 1 (rows cStr a), .isl 1 (rows cStr b)] (· = .fr 3 1 (rows cInt (chgF a b a.length))) :=
  OkA.unnil 3 1 (fn_intro envOk fieldsOk mixed Try.func177 rfl fun κ X Y L Q m hQ => by
    conv => cbv
    refine r_lenR m.sX fun n1 hn1 mn1 => ?_
    conv => cbv
    refine r_loopF (α := List Int × Int) m 28 [1, 9, 10, 11] [⟨5, 41, 3, 1, 0⟩] (fun σ => [(1, .isl 1 (rows cStr b)), (5, .osl 41 0), (9, .isl 1 (rows cStr a)), (10, .int .i64 n1), (11, .int .i64 σ.2)]) (fun σ => [(41, 0, .row 3 1 (rows cInt σ.1))])
      (fun σ => (0 ≤ σ.2) ∧ (σ.2 ≤ n1) ∧ (σ.1 = chgF a b σ.2.toNat) ∧ ((σ.1.length : Int) ≤ σ.2)) (fun σ => (n1 - σ.2).toNat) ([], 0) ?_ ?_ ?_ ?_
    · cbv
    · (try dsimp only); simp only [rows_cons, rows_nil]; cbv
    · exact ⟨(by (try dsimp only); first | omega | (simp only [List.length_nil]; omega) | (simp only [List.length_cons, List.length_nil]; omega)), (by (try dsimp only); first | omega | (simp only [List.length_nil]; omega) | (simp only [List.length_cons, List.length_nil]; omega)), (by (try dsimp only) <;> (rfl)), (by (try dsimp only) <;> first | omega | rfl | (simp [*]; done))⟩
    rintro ⟨list, i1⟩ ⟨lo1, hi1, q, ll⟩ E hE F hF
    dsimp only at lo1 hi1 q ll
    conv => cbv
    refine r_lss m.sX (fun h1 => ?_) (fun h1 => ?_) <;> conv => cbv
    · refine r_index m.sX (by omega) (by omega) fun s_ hs_ => ?_
      conv => cbv
      have ms_ := get_mem hs_
      have ds_ := drop_cons hs_
      have ks_ := take_snoc hs_
      have js_ : (i1 + 1).toNat = Int.toNat i1 + 1 := by omega
      refine r_index m.sX (by omega) (by omega) fun x1 hx1 => ?_
      conv => cbv
      have mx1 := get_mem hx1
      have dx1 := drop_cons hx1
      have kx1 := take_snoc hx1
      have jx1 : (i1 + 1).toNat = Int.toNat i1 + 1 := by omega
      refine r_sneq m.sX (fun h2 => ?_) (fun h2 => ?_) <;> conv => cbv
      · refine r_append1 (i1) m.sX rfl (by first | omega | (dsimp only; omega)) (by first | omega | (dsimp only; omega)) fun list_2 hlist_2 => ?_
        conv => cbv
        have llist_2 : (list_2.length : Int) = list.length + 1 := by rw [hlist_2]; first | done | (simp; done) | (simp; omega)
        refine r_addf m.sX (by omega) (by omega) fun r1 hr1 => ?_
        conv => cbv
        try have tr1 : Int.toNat r1 = Int.toNat i1 + 1 := by omega
        refine hE _ (list_2, r1) ?_ ?_ ⟨(by (try dsimp only); first | omega | (simp only [List.length_nil]; omega) | (simp only [List.length_cons, List.length_nil]; omega)), (by (try dsimp only); first | omega | (simp only [List.length_nil]; omega) | (simp only [List.length_cons, List.length_nil]; omega)), (by (try dsimp only) <;> (first | (rw [hlist_2, q, tr1, chgF_step, if_neg (by rw [hx1, hs_]; simpa using h2), show ((i1.toNat : Nat) : Int) = i1 by omega]; done) | (rw [q, tr1, chgF_step, if_pos (by rw [hx1, hs_, h2]), List.append_nil]; done))), (by (try dsimp only) <;> first | omega | rfl | (simp [*]; done) | (rw [ll]; simp [*]; done))⟩ (by first | omega | (dsimp only; omega))
        · cbv
        · cbv
      · refine r_addf m.sX (by omega) (by omega) fun r2 hr2 => ?_
        conv => cbv
        try have tr2 : Int.toNat r2 = Int.toNat i1 + 1 := by omega
        refine hE _ (list, r2) ?_ ?_ ⟨(by (try dsimp only); first | omega | (simp only [List.length_nil]; omega) | (simp only [List.length_cons, List.length_nil]; omega)), (by (try dsimp only); first | omega | (simp only [List.length_nil]; omega) | (simp only [List.length_cons, List.length_nil]; omega)), (by (try dsimp only) <;> (first | (rw [hlist_2, q, tr2, chgF_step, if_neg (by rw [hx1, hs_]; simpa using h2), show ((i1.toNat : Nat) : Int) = i1 by omega]; done) | (rw [q, tr2, chgF_step, if_pos (by rw [hx1, hs_, h2]), List.append_nil]; done))), (by (try dsimp only) <;> first | omega | rfl | (simp [*]; done) | (rw [ll]; simp [*]; done))⟩ (by first | omega | (dsimp only; omega))
        · cbv
        · cbv
    · have dz_i1 := drop_end (xs := a) (i := Int.toNat i1) (by omega)
      have tz_i1 := take_end (xs := a) (i := Int.toNat i1) (by omega)
      refine hF _ _ ?_
      conv => cbv
      exact hQ (.fr 3 1 (rows cInt list)) (Eq.trans (by first | rfl | (simp only [lb, lbI, rows_cons, rows_nil, unnilT, unnil, unnilTI, unnilI]; done) | (simp only [lb, lbI, rows_cons, rows_nil, unnilT, unnil, unnilTI, unnilI]; rfl)) (congrArg (fun l => PV.fr 3 1 (rows cInt l)) (show list = chgF a b a.length from by rw [q, show i1.toNat = a.length by omega]))))   -- leaf 1

theorem areEqual_ok (a : List (List UInt8)) (b : List (List UInt8)) (hn : a.length ≤ 1000000) : OkA Try.prog 157 [.isl 1 (rows cStr a), .isl 1 (rows cStr b)] (· = .bool (decide (a = b))) :=
  fn_intro envOk fieldsOk mixed Try.func157 rfl fun κ X Y L Q m hQ => by
    conv => cbv
    refine r_lenR m.sX fun n1 hn1 mn1 => ?_
    conv => cbv
    refine r_lenR m.sX fun n2 hn2 mn2 => ?_
    conv => cbv
    refine r_eql m.sX (fun h1 => ?_) (fun h1 => ?_) <;> conv => cbv
    · refine r_callF (fun l => PV.fr _ _ (rows _ l)) m.sX (changedLines_ok a b (by first | rfl | assumption | omega | (simp only [List.length_append, List.length_cons, List.length_nil] at *; omega)) (by first | rfl | assumption | omega | (simp only [List.length_append, List.length_cons, List.length_nil] at *; omega))) fun v1 hv1 => ?_
      conv => cbv
      refine r_lenR m.sX fun n3 hn3 mn3 => ?_
      conv => cbv
      refine r_eql m.sX (fun h2 => ?_) (fun h2 => ?_) <;> conv => cbv
      · exact hQ _ (congrArg PV.bool (by exact (decide_eq_true ((chgF_nil (by omega)).1 (by rw [← hv1]; omega))).symm))   -- leaf 1
      · exact hQ _ (congrArg PV.bool (by exact (decide_eq_false fun e => h2 (by rw [hn3, hv1, (chgF_nil (by omega)).2 e]; rfl)).symm))   -- leaf 2
    · exact hQ _ (congrArg PV.bool (by exact (decide_eq_false fun e => h1 (by rw [hn1, hn2, e])).symm))   -- leaf 3

theorem rvSame_ok (a : List (List UInt8)) (b : List (List UInt8))  : OkA Try.prog 115 [.isl 1 (rows cStr a), .isl 1 (rows cStr b)] (· = .bool (decide (a = b))) :=
  fn_intro envOk fieldsOk mixed Try.func115 rfl fun κ X Y L Q m hQ => by
    conv => cbv
    refine r_lenR m.sX fun n1 hn1 mn1 => ?_
    conv => cbv
    refine r_lenR m.sX fun n2 hn2 mn2 => ?_
    conv => cbv
    refine r_neq m.sX (fun h1 => ?_) (fun h1 => ?_) <;> conv => cbv
    · exact hQ _ (congrArg PV.bool (by exact (decide_eq_false fun e => by rw [e] at hn1; omega).symm))   -- leaf 1
    · refine r_lenR m.sX fun n3 hn3 mn3 => ?_
      conv => cbv
      refine r_loopF (α := Int) m 26 [1, 12, 13, 14] [] (fun σ => [(1, .isl 1 (rows cStr b)), (12, .isl 1 (rows cStr a)), (13, .int .i64 n3), (14, .int .i64 σ)]) (fun σ => [])
        (fun σ => (0 ≤ σ) ∧ (σ ≤ n3) ∧ (a.take σ.toNat = b.take σ.toNat)) (fun σ => (n3 - σ).toNat) 0 ?_ ?_ ?_ ?_
      · cbv
      · cbv
      · exact ⟨(by (try dsimp only); first | omega | (simp only [List.length_nil]; omega) | (simp only [List.length_cons, List.length_nil]; omega)), (by (try dsimp only); first | omega | (simp only [List.length_nil]; omega) | (simp only [List.length_cons, List.length_nil]; omega)), (by (try dsimp only) <;> (rfl))⟩
      rintro i1 ⟨lo1, hi1, q⟩ E hE F hF
      conv => cbv
      refine r_lss m.sX (fun h2 => ?_) (fun h2 => ?_) <;> conv => cbv
      · refine r_index m.sX (by omega) (by omega) fun s_ hs_ => ?_
        conv => cbv
        have ms_ := get_mem hs_
        have ds_ := drop_cons hs_
        have ks_ := take_snoc hs_
        have js_ : (i1 + 1).toNat = Int.toNat i1 + 1 := by omega
        refine r_index m.sX (by omega) (by omega) fun x1 hx1 => ?_
        conv => cbv
        have mx1 := get_mem hx1
        have dx1 := drop_cons hx1
        have kx1 := take_snoc hx1
        have jx1 : (i1 + 1).toNat = Int.toNat i1 + 1 := by omega
        refine r_sneq m.sX (fun h3 => ?_) (fun h3 => ?_) <;> conv => cbv
        · refine hF _ _ ?_
          conv => cbv
          exact hQ _ (congrArg PV.bool (by exact (decide_eq_false fun e => by rw [e] at hs_; exact h3 (Option.some.inj (hs_.symm.trans hx1))).symm))   -- leaf 2
        · refine r_addf m.sX (by omega) (by omega) fun r1 hr1 => ?_
          conv => cbv
          try have tr1 : Int.toNat r1 = Int.toNat i1 + 1 := by omega
          refine hE _ r1 ?_ ?_ ⟨(by (try dsimp only); first | omega | (simp only [List.length_nil]; omega) | (simp only [List.length_cons, List.length_nil]; omega)), (by (try dsimp only); first | omega | (simp only [List.length_nil]; omega) | (simp only [List.length_cons, List.length_nil]; omega)), (by (try dsimp only) <;> (rw [tr1, ks_, kx1, q, show s_ = x1 from by assumption]))⟩ (by first | omega | (dsimp only; omega))
          · cbv
          · cbv
      · have dz_i1 := drop_end (xs := a) (i := Int.toNat i1) (by omega)
        have tz_i1 := take_end (xs := a) (i := Int.toNat i1) (by omega)
        refine hF _ _ ?_
        conv => cbv
        exact hQ _ (congrArg PV.bool (by exact (decide_eq_true (eq_of_takes (by omega) q (by omega))).symm))   -- leaf 3

theorem stateOf_ok (l : List (List (List UInt8))) (lines : List (List UInt8)) (hw : ∀ p ∈ l, p.length ≤ 1000000) : OkA Try.prog 102 [.isl 1 (rows (cSl 1 cStr) l), .isl 1 (rows cStr lines)] (· = .int .i64 (stateF l lines)) :=
  fn_intro envOk fieldsOk mixed Try.func102 rfl fun κ X Y L Q m hQ => by
    conv => cbv
    refine r_lenR m.sX fun n1 hn1 mn1 => ?_
    conv => cbv
    refine r_loopF (α := Int) m 19 [1, 7, 8, 9] [] (fun σ => [(1, .isl 1 (rows cStr lines)), (7, .isl 1 (rows (cSl 1 cStr) l)), (8, .int .i64 n1), (9, .int .i64 σ)]) (fun σ => [])
      (fun σ => (0 ≤ σ) ∧ (σ ≤ n1) ∧ (stateF l lines = firstAt (fun q => decide (q = lines)) (l.drop σ.toNat) σ)) (fun σ => (n1 - σ).toNat) 0 ?_ ?_ ?_ ?_
    · cbv
    · cbv
    · exact ⟨(by (try dsimp only); first | omega | (simp only [List.length_nil]; omega) | (simp only [List.length_cons, List.length_nil]; omega)), (by (try dsimp only); first | omega | (simp only [List.length_nil]; omega) | (simp only [List.length_cons, List.length_nil]; omega)), (by (try dsimp only) <;> (rfl))⟩
    rintro i1 ⟨lo1, hi1, q⟩ E hE F hF
    conv => cbv
    refine r_lss m.sX (fun h1 => ?_) (fun h1 => ?_) <;> conv => cbv
    · refine r_index m.sX (by omega) (by omega) fun p hp => ?_
      conv => cbv
      have mp := get_mem hp
      have dp := drop_cons hp
      have kp := take_snoc hp
      have jp : (i1 + 1).toNat = Int.toNat i1 + 1 := by omega
      have pw := hw p mp
      have fd := firstAt_drop (f := fun q => decide (q = lines)) i1 hp
      refine r_callB m.sX (areEqual_ok p lines (by first | rfl | assumption | omega | (simp only [List.length_append, List.length_cons, List.length_nil] at *; omega))) (fun h2 => ?_) (fun h2 => ?_) <;> conv => cbv
      · refine hF _ _ ?_
        conv => cbv
        exact hQ (.int .i64 i1) (Eq.trans (by first | rfl | (simp only [lb, lbI, rows_cons, rows_nil, unnilT, unnil, unnilTI, unnilI]; done) | (simp only [lb, lbI, rows_cons, rows_nil, unnilT, unnil, unnilTI, unnilI]; rfl)) (congrArg (PV.int .i64) (show i1 = stateF l lines from by rw [q, fd, if_pos h2])))   -- leaf 1
      · refine r_addf m.sX (by omega) (by omega) fun r1 hr1 => ?_
        conv => cbv
        try have tr1 : Int.toNat r1 = Int.toNat i1 + 1 := by omega
        refine hE _ r1 ?_ ?_ ⟨(by (try dsimp only); first | omega | (simp only [List.length_nil]; omega) | (simp only [List.length_cons, List.length_nil]; omega)), (by (try dsimp only); first | omega | (simp only [List.length_nil]; omega) | (simp only [List.length_cons, List.length_nil]; omega)), (by (try dsimp only) <;> (rw [q, fd, if_neg (by rw [h2]; simp), tr1, show r1 = i1 + 1 by omega]))⟩ (by first | omega | (dsimp only; omega))
        · cbv
        · cbv
    · have dz_i1 := drop_end (xs := l) (i := Int.toNat i1) (by omega)
      have tz_i1 := take_end (xs := l) (i := Int.toNat i1) (by omega)
      refine hF _ _ ?_
      conv => cbv
      exact hQ (.int .i64 (-1)) (Eq.trans (by first | rfl | (simp only [lb, lbI, rows_cons, rows_nil, unnilT, unnil, unnilTI, unnilI]; done) | (simp only [lb, lbI, rows_cons, rows_nil, unnilT, unnil, unnilTI, unnilI]; rfl)) (congrArg (PV.int .i64) (show -1 = stateF l lines from by rw [q, firstAt_end _ (by omega)])))   -- leaf 2

theorem rvState_ok (l : List (List (List UInt8))) (lines : List (List UInt8))  : OkA Try.prog 105 [.isl 1 (rows (cSl 1 cStr) l), .isl 1 (rows cStr lines)] (· = .int .i64 (stateF l lines)) :=
  fn_intro envOk fieldsOk mixed Try.func105 rfl fun κ X Y L Q m hQ => by
    conv => cbv
    refine r_lenR m.sX fun n1 hn1 mn1 => ?_
    conv => cbv
    refine r_loopF (α := Int) m 19 [1, 7, 8, 9] [] (fun σ => [(1, .isl 1 (rows cStr lines)), (7, .isl 1 (rows (cSl 1 cStr) l)), (8, .int .i64 n1), (9, .int .i64 σ)]) (fun σ => [])
      (fun σ => (0 ≤ σ) ∧ (σ ≤ n1) ∧ (stateF l lines = firstAt (fun q => decide (q = lines)) (l.drop σ.toNat) σ)) (fun σ => (n1 - σ).toNat) 0 ?_ ?_ ?_ ?_
    · cbv
    · cbv
    · exact ⟨(by (try dsimp only); first | omega | (simp only [List.length_nil]; omega) | (simp only [List.length_cons, List.length_nil]; omega)), (by (try dsimp only); first | omega | (simp only [List.length_nil]; omega) | (simp only [List.length_cons, List.length_nil]; omega)), (by (try dsimp only) <;> (rfl))⟩
    rintro i1 ⟨lo1, hi1, q⟩ E hE F hF
    conv => cbv
    refine r_lss m.sX (fun h1 => ?_) (fun h1 => ?_) <;> conv => cbv
    · refine r_index m.sX (by omega) (by omega) fun state hstate => ?_
      conv => cbv
      have mstate := get_mem hstate
      have dstate := drop_cons hstate
      have kstate := take_snoc hstate
      have jstate : (i1 + 1).toNat = Int.toNat i1 + 1 := by omega
      have fd := firstAt_drop (f := fun q => decide (q = lines)) i1 hstate
      refine r_callB m.sX (rvSame_ok state lines) (fun h2 => ?_) (fun h2 => ?_) <;> conv => cbv
      · refine hF _ _ ?_
        conv => cbv
        exact hQ (.int .i64 i1) (Eq.trans (by first | rfl | (simp only [lb, lbI, rows_cons, rows_nil, unnilT, unnil, unnilTI, unnilI]; done) | (simp only [lb, lbI, rows_cons, rows_nil, unnilT, unnil, unnilTI, unnilI]; rfl)) (congrArg (PV.int .i64) (show i1 = stateF l lines from by rw [q, fd, if_pos h2])))   -- leaf 1
      · refine r_addf m.sX (by omega) (by omega) fun r1 hr1 => ?_
        conv => cbv
        try have tr1 : Int.toNat r1 = Int.toNat i1 + 1 := by omega
        refine hE _ r1 ?_ ?_ ⟨(by (try dsimp only); first | omega | (simp only [List.length_nil]; omega) | (simp only [List.length_cons, List.length_nil]; omega)), (by (try dsimp only); first | omega | (simp only [List.length_nil]; omega) | (simp only [List.length_cons, List.length_nil]; omega)), (by (try dsimp only) <;> (rw [q, fd, if_neg (by rw [h2]; simp), tr1, show r1 = i1 + 1 by omega]))⟩ (by first | omega | (dsimp only; omega))
        · cbv
        · cbv
    · have dz_i1 := drop_end (xs := l) (i := Int.toNat i1) (by omega)
      have tz_i1 := take_end (xs := l) (i := Int.toNat i1) (by omega)
      refine hF _ _ ?_
      conv => cbv
      exact hQ (.int .i64 (-1)) (Eq.trans (by first | rfl | (simp only [lb, lbI, rows_cons, rows_nil, unnilT, unnil, unnilTI, unnilI]; done) | (simp only [lb, lbI, rows_cons, rows_nil, unnilT, unnil, unnilTI, unnilI]; rfl)) (congrArg (PV.int .i64) (show -1 = stateF l lines from by rw [q, firstAt_end _ (by omega)])))   -- leaf 2

theorem StateOfCopy_ok (l : List (List (List UInt8))) (lines : List (List UInt8))  : OkA Try.prog 31 [.isl 1 (rows (cSl 1 cStr) l), .isl 1 (rows cStr lines)] (· = ib (stateAns l lines)) :=
  fn_intro envOk fieldsOk mixed Try.func31 rfl fun κ X Y L Q m hQ => by
    conv => cbv
    refine r_callB m.sX (isCopyOf_ok l lines) (fun h1 => ?_) (fun h1 => ?_) <;> conv => cbv
    · have hw := copyB_small h1
      refine r_callF (PV.int .i64) m.sX (stateOf_ok l lines (by first | rfl | assumption | omega | (simp only [List.length_append, List.length_cons, List.length_nil] at *; omega))) fun i hi => ?_
      conv => cbv
      refine r_max m.sX fun r1 hr1 => ?_
      conv => cbv
      refine r_geq m.sX (fun h2 => ?_) (fun h2 => ?_) <;> conv => cbv
      · exact hQ (.tup [.int .i64 r1, .bool true]) (Eq.trans (by first | rfl | (simp only [lb, lbI, rows_cons, rows_nil, unnilT, unnil, unnilTI, unnilI]; done) | (simp only [lb, lbI, rows_cons, rows_nil, unnilT, unnil, unnilTI, unnilI]; rfl)) (congrArg (ib) (show (r1, true) = stateAns l lines from by rw [stateAns, if_pos h1, ← hi, hr1, decide_eq_true h2])))   -- leaf 1
      · exact hQ (.tup [.int .i64 r1, .bool false]) (Eq.trans (by first | rfl | (simp only [lb, lbI, rows_cons, rows_nil, unnilT, unnil, unnilTI, unnilI]; done) | (simp only [lb, lbI, rows_cons, rows_nil, unnilT, unnil, unnilTI, unnilI]; rfl)) (congrArg (ib) (show (r1, false) = stateAns l lines from by rw [stateAns, if_pos h1, ← hi, hr1, decide_eq_false (by omega)])))   -- leaf 2
    · exact hQ (.tup [.int .i64 0, .bool false]) (Eq.trans (by first | rfl | (simp only [lb, lbI, rows_cons, rows_nil, unnilT, unnil, unnilTI, unnilI]; done) | (simp only [lb, lbI, rows_cons, rows_nil, unnilT, unnil, unnilTI, unnilI]; rfl)) (congrArg (ib) (show (0, false) = stateAns l lines from by rw [stateAns, if_neg (by rw [h1]; simp)])))   -- leaf 3

theorem specStateOfCopy_ok (l : List (List (List UInt8))) (lines : List (List UInt8))  : OkA Try.prog 32 [.isl 1 (rows (cSl 1 cStr) l), .isl 1 (rows cStr lines)] (· = ib (stateAns l lines)) :=
  fn_intro envOk fieldsOk mixed Try.func32 rfl fun κ X Y L Q m hQ => by
    conv => cbv
    refine r_callB m.sX (rvGood_ok l) (fun h1 => ?_) (fun h1 => ?_) <;> conv => cbv
    · refine r_callB m.sX (pfGood_ok lines) (fun h2 => ?_) (fun h2 => ?_) <;> conv => cbv
      · refine r_callF (PV.int .i64) m.sX (rvState_ok l lines) fun r1 hr1 => ?_
        conv => cbv
        have rb := stateF_in l lines
        refine r_lss m.sX (fun h3 => ?_) (fun h3 => ?_) <;> conv => cbv
        · exact hQ (.tup [.int .i64 0, .bool false]) (Eq.trans (by first | rfl | (simp only [lb, lbI, rows_cons, rows_nil, unnilT, unnil, unnilTI, unnilI]; done) | (simp only [lb, lbI, rows_cons, rows_nil, unnilT, unnil, unnilTI, unnilI]; rfl)) (congrArg (ib) (show (0, false) = stateAns l lines from by rw [stateAns, copyB, h1, h2, Bool.and_self, if_pos rfl, ← hr1, decide_eq_false (by omega), show max 0 r1 = 0 by omega])))   -- leaf 1
        · refine r_callF (PV.int .i64) m.sX (rvState_ok l lines) fun y1 hy1 => ?_
          obtain rfl := hr1.trans hy1.symm
          clear hy1
          conv => cbv
          exact hQ (.tup [.int .i64 r1, .bool true]) (Eq.trans (by first | rfl | (simp only [lb, lbI, rows_cons, rows_nil, unnilT, unnil, unnilTI, unnilI]; done) | (simp only [lb, lbI, rows_cons, rows_nil, unnilT, unnil, unnilTI, unnilI]; rfl)) (congrArg (ib) (show (r1, true) = stateAns l lines from by rw [stateAns, copyB, h1, h2, Bool.and_self, if_pos rfl, ← hr1, decide_eq_true (by omega), show max 0 r1 = r1 by omega])))   -- leaf 2
      · exact hQ (.tup [.int .i64 0, .bool false]) (Eq.trans (by first | rfl | (simp only [lb, lbI, rows_cons, rows_nil, unnilT, unnil, unnilTI, unnilI]; done) | (simp only [lb, lbI, rows_cons, rows_nil, unnilT, unnil, unnilTI, unnilI]; rfl)) (congrArg (ib) (show (0, false) = stateAns l lines from by rw [stateAns, copyB, h1, h2]; rfl)))   -- leaf 3
    · exact hQ (.tup [.int .i64 0, .bool false]) (Eq.trans (by first | rfl | (simp only [lb, lbI, rows_cons, rows_nil, unnilT, unnil, unnilTI, unnilI]; done) | (simp only [lb, lbI, rows_cons, rows_nil, unnilT, unnil, unnilTI, unnilI]; rfl)) (congrArg (ib) (show (0, false) = stateAns l lines from by rw [stateAns, copyB, h1]; rfl)))   -- leaf 4

theorem StatesOfLines_ok (l : List (List (List UInt8))) (lines : List (List UInt8))  : OkA Try.prog 35 [.isl 1 (rows (cSl 1 cStr) l), .isl 1 (rows cStr lines)] (· = (lb 3 1 cInt) (linesAns l lines)) :=
  OkA.unnil 3 1 (fn_intro envOk fieldsOk mixed Try.func35 rfl fun κ X Y L Q m hQ => by
    conv => cbv
    refine r_callB m.sX (isCopyOf_ok l lines) (fun h1 => ?_) (fun h1 => ?_) <;> conv => cbv
    · have cb := copyB_spec h1
      have pb := proofB_len cb.2.2
      refine r_lenR m.sX fun n1 hn1 mn1 => ?_
      conv => cbv
      refine r_index m.sX (by omega) (by omega) fun x1 hx1 => ?_
      conv => cbv
      have mx1 := get_mem hx1
      have hl := headLen_some hx1
      refine r_lenR m.sX fun n2 hn2 mn2 => ?_
      conv => cbv
      refine r_neq m.sX (fun h2 => ?_) (fun h2 => ?_) <;> conv => cbv
      · exact hQ (.tup [.fr 3 1 [], .bool false]) (Eq.trans (by first | rfl | (simp only [lb, lbI, rows_cons, rows_nil, unnilT, unnil, unnilTI, unnilI]; done) | (simp only [lb, lbI, rows_cons, rows_nil, unnilT, unnil, unnilTI, unnilI]; rfl)) (congrArg ((lb 3 1 cInt)) (show ([], false) = linesAns l lines from by rw [linesAns, bothB, h1, decide_eq_false (by omega)]; rfl)))   -- leaf 1
      · refine r_lenR m.sX fun n3 hn3 mn3 => ?_
        conv => cbv
        refine r_loopF (α := List Int × Int) m 55 [0, 27, 28, 29] [⟨6, 49, 3, 1, 0⟩] (fun σ => [(0, .isl 1 (rows (cSl 1 cStr) l)), (6, .osl 49 0), (27, .isl 1 (rows cStr lines)), (28, .int .i64 n3), (29, .int .i64 σ.2)]) (fun σ => [(49, 0, .row 3 1 (rows cInt σ.1))])
          (fun σ => (0 ≤ σ.2) ∧ (σ.2 ≤ n3) ∧ (σ.1 = linesT l lines σ.2.toNat) ∧ ((σ.1.length : Int) ≤ σ.2)) (fun σ => (n3 - σ.2).toNat) ([], 0) ?_ ?_ ?_ ?_
        · cbv
        · (try dsimp only); simp only [rows_cons, rows_nil]; cbv
        · exact ⟨(by (try dsimp only); first | omega | (simp only [List.length_nil]; omega) | (simp only [List.length_cons, List.length_nil]; omega)), (by (try dsimp only); first | omega | (simp only [List.length_nil]; omega) | (simp only [List.length_cons, List.length_nil]; omega)), (by (try dsimp only) <;> (rfl)), (by (try dsimp only) <;> first | omega | rfl | (simp [*]; done))⟩
        rintro ⟨list, i1⟩ ⟨lo1, hi1, q, ll⟩ E hE F hF
        dsimp only at lo1 hi1 q ll
        conv => cbv
        refine r_lss m.sX (fun h3 => ?_) (fun h3 => ?_) <;> conv => cbv
        · refine r_index m.sX (by omega) (by omega) fun s_ hs_ => ?_
          conv => cbv
          have ms_ := get_mem hs_
          have ds_ := drop_cons hs_
          have ks_ := take_snoc hs_
          have js_ : (i1 + 1).toNat = Int.toNat i1 + 1 := by omega
          refine r_lenR m.sX fun n4 hn4 mn4 => ?_
          conv => cbv
          refine r_loopF (α := Int × Int) m 55 [0, 7, 8, 9, 27, 28, 29, 34, 35, 36] [⟨6, 49, 3, 1, 0⟩] (fun σ => [(0, .isl 1 (rows (cSl 1 cStr) l)), (6, .osl 49 0), (7, .int .i64 i1), (8, .str s_), (9, .int .i64 σ.1), (27, .isl 1 (rows cStr lines)), (28, .int .i64 n3), (29, .int .i64 i1), (34, .isl 1 (rows (cSl 1 cStr) l)), (35, .int .i64 n4), (36, .int .i64 σ.2)]) (fun σ => [(49, 0, .row 3 1 (rows cInt list))])
            (fun σ => (0 ≤ σ.2) ∧ (σ.2 ≤ n4) ∧ (σ.1 = -1) ∧ (lineAt l i1.toNat s_ = firstAt (fun q => decide (q[i1.toNat]? = some s_)) (l.drop σ.2.toNat) σ.2)) (fun σ => (n4 - σ.2).toNat) (-1, 0) ?_ ?_ ?_ ?_
          · cbv
          · cbv
          · exact ⟨(by (try dsimp only); first | omega | (simp only [List.length_nil]; omega) | (simp only [List.length_cons, List.length_nil]; omega)), (by (try dsimp only); first | omega | (simp only [List.length_nil]; omega) | (simp only [List.length_cons, List.length_nil]; omega)), (by (try dsimp only) <;> first | omega | rfl | (simp [*]; done)), (by (try dsimp only) <;> (rfl))⟩
          rintro ⟨first, i2⟩ ⟨lo2, hi2, fi, q2⟩ E2 hE2 F2 hF2
          dsimp only at lo2 hi2 fi q2
          conv => cbv
          refine r_lss m.sX (fun h4 => ?_) (fun h4 => ?_) <;> conv => cbv
          · refine r_index m.sX (by omega) (by omega) fun p hp => ?_
            conv => cbv
            have mp := get_mem hp
            have dp := drop_cons hp
            have kp := take_snoc hp
            have jp : (i2 + 1).toNat = Int.toNat i2 + 1 := by omega
            have pl := cb.1 p mp
            have fd := firstAt_drop (f := fun q => decide (q[i1.toNat]? = some s_)) i2 hp
            refine r_index m.sX (by omega) (by omega) fun x2 hx2 => ?_
            conv => cbv
            have mx2 := get_mem hx2
            have dx2 := drop_cons hx2
            have kx2 := take_snoc hx2
            have jx2 : (i1 + 1).toNat = Int.toNat i1 + 1 := by omega
            refine r_seql m.sX (fun h5 => ?_) (fun h5 => ?_) <;> conv => cbv
            · refine hF2 _ _ ?_
              conv => cbv
              refine r_append1 (i2) m.sX rfl (by first | omega | (dsimp only; omega)) (by first | omega | (dsimp only; omega)) fun list_2 hlist_2 => ?_
              conv => cbv
              have llist_2 : (list_2.length : Int) = list.length + 1 := by rw [hlist_2]; first | done | (simp; done) | (simp; omega)
              refine r_addf m.sX (by omega) (by omega) fun r1 hr1 => ?_
              conv => cbv
              try have tr1 : Int.toNat r1 = Int.toNat i1 + 1 := by omega
              refine hE _ (list_2, r1) ?_ ?_ ⟨(by (try dsimp only); first | omega | (simp only [List.length_nil]; omega) | (simp only [List.length_cons, List.length_nil]; omega)), (by (try dsimp only); first | omega | (simp only [List.length_nil]; omega) | (simp only [List.length_cons, List.length_nil]; omega)), (by (try dsimp only) <;> (first | (rw [hlist_2, q, tr1, linesT_step hs_, q2, fd, if_pos (by rw [hx2, h5]; simp)]; done) | (rw [hlist_3, q, tr1, linesT_step hs_, q2, firstAt_end _ (by omega), fi]; done))), (by (try dsimp only) <;> first | omega | rfl | (simp [*]; done) | (rw [ll]; simp [*]; done))⟩ (by first | omega | (dsimp only; omega))
              · cbv
              · cbv
            · refine r_addf m.sX (by omega) (by omega) fun r2 hr2 => ?_
              conv => cbv
              try have tr2 : Int.toNat r2 = Int.toNat i2 + 1 := by omega
              refine hE2 _ (first, r2) ?_ ?_ ⟨(by (try dsimp only); first | omega | (simp only [List.length_nil]; omega) | (simp only [List.length_cons, List.length_nil]; omega)), (by (try dsimp only); first | omega | (simp only [List.length_nil]; omega) | (simp only [List.length_cons, List.length_nil]; omega)), (by (try dsimp only) <;> first | omega | rfl | (simp [*]; done) | (rw [fi]; simp [*]; done)), (by (try dsimp only) <;> (rw [q2, fd, if_neg (by rw [hx2]; simpa using h5), tr2, show r2 = i2 + 1 by omega]))⟩ (by first | omega | (dsimp only; omega))
              · cbv
              · cbv
          · have dz_i2 := drop_end (xs := l) (i := Int.toNat i2) (by omega)
            have tz_i2 := take_end (xs := l) (i := Int.toNat i2) (by omega)
            refine hF2 _ _ ?_
            conv => cbv
            refine r_append1 (first) m.sX rfl (by first | omega | (dsimp only; omega)) (by first | omega | (dsimp only; omega)) fun list_3 hlist_3 => ?_
            conv => cbv
            have llist_3 : (list_3.length : Int) = list.length + 1 := by rw [hlist_3]; first | done | (simp; done) | (simp; omega)
            refine r_addf m.sX (by omega) (by omega) fun r3 hr3 => ?_
            conv => cbv
            try have tr3 : Int.toNat r3 = Int.toNat i1 + 1 := by omega
            refine hE _ (list_3, r3) ?_ ?_ ⟨(by (try dsimp only); first | omega | (simp only [List.length_nil]; omega) | (simp only [List.length_cons, List.length_nil]; omega)), (by (try dsimp only); first | omega | (simp only [List.length_nil]; omega) | (simp only [List.length_cons, List.length_nil]; omega)), (by (try dsimp only) <;> (first | (rw [hlist_2, q, tr3, linesT_step hs_, q2, fd, if_pos (by rw [hx2, h5]; simp)]; done) | (rw [hlist_3, q, tr3, linesT_step hs_, q2, firstAt_end _ (by omega), fi]; done))), (by (try dsimp only) <;> first | omega | rfl | (simp [*]; done) | (rw [ll]; simp [*]; done))⟩ (by first | omega | (dsimp only; omega))
            · cbv
            · cbv
        · have dz_i1 := drop_end (xs := lines) (i := Int.toNat i1) (by omega)
          have tz_i1 := take_end (xs := lines) (i := Int.toNat i1) (by omega)
          refine hF _ _ ?_
          conv => cbv
          exact hQ (.tup [.fr 3 1 (rows cInt list), .bool true]) (Eq.trans (by first | rfl | (simp only [lb, lbI, rows_cons, rows_nil, unnilT, unnil, unnilTI, unnilI]; done) | (simp only [lb, lbI, rows_cons, rows_nil, unnilT, unnil, unnilTI, unnilI]; rfl)) (congrArg ((lb 3 1 cInt)) (show (list, true) = linesAns l lines from by rw [linesAns, bothB, h1, decide_eq_true (by omega), q, show i1.toNat = lines.length by omega]; rfl)))   -- leaf 2
    · exact hQ (.tup [.fr 3 1 [], .bool false]) (Eq.trans (by first | rfl | (simp only [lb, lbI, rows_cons, rows_nil, unnilT, unnil, unnilTI, unnilI]; done) | (simp only [lb, lbI, rows_cons, rows_nil, unnilT, unnil, unnilTI, unnilI]; rfl)) (congrArg ((lb 3 1 cInt)) (show ([], false) = linesAns l lines from by rw [linesAns, bothB, h1]; rfl))))   -- leaf 3

theorem rvBoth_ok (l : List (List (List UInt8))) (lines : List (List UInt8))  : OkA Try.prog 107 [.isl 1 (rows (cSl 1 cStr) l), .isl 1 (rows cStr lines)] (· = .bool (bothB l lines)) :=
  fn_intro envOk fieldsOk mixed Try.func107 rfl fun κ X Y L Q m hQ => by
    conv => cbv
    refine r_callB m.sX (rvGood_ok l) (fun h1 => ?_) (fun h1 => ?_) <;> conv => cbv
    · refine r_callB m.sX (pfGood_ok lines) (fun h2 => ?_) (fun h2 => ?_) <;> conv => cbv
      · have cb : copyB l lines = true := (by rw [copyB, h1, h2]; rfl)
        have sl := (copyB_spec cb).2.1
        refine r_lenR m.sX fun n1 hn1 mn1 => ?_
        conv => cbv
        refine r_index m.sX (by omega) (by omega) fun x1 hx1 => ?_
        conv => cbv
        have mx1 := get_mem hx1
        have hl := headLen_some hx1
        refine r_lenR m.sX fun n2 hn2 mn2 => ?_
        conv => cbv
        refine r_eql m.sX (fun h3 => ?_) (fun h3 => ?_) <;> conv => cbv
        · exact hQ _ (congrArg PV.bool (by first | (rw [bothB, cb]; first | (rw [decide_eq_true (by omega)]; rfl) | (rw [decide_eq_false (by omega)]; rfl)) | (rw [bothB, copyB, h1, h2]; rfl) | (rw [bothB, copyB, h1]; rfl)))   -- leaf 1
        · exact hQ _ (congrArg PV.bool (by first | (rw [bothB, cb]; first | (rw [decide_eq_true (by omega)]; rfl) | (rw [decide_eq_false (by omega)]; rfl)) | (rw [bothB, copyB, h1, h2]; rfl) | (rw [bothB, copyB, h1]; rfl)))   -- leaf 2
      · exact hQ _ (congrArg PV.bool (by first | (rw [bothB, cb]; first | (rw [decide_eq_true (by omega)]; rfl) | (rw [decide_eq_false (by omega)]; rfl)) | (rw [bothB, copyB, h1, h2]; rfl) | (rw [bothB, copyB, h1]; rfl)))   -- leaf 3
    · exact hQ _ (congrArg PV.bool (by first | (rw [bothB, cb]; first | (rw [decide_eq_true (by omega)]; rfl) | (rw [decide_eq_false (by omega)]; rfl)) | (rw [bothB, copyB, h1, h2]; rfl) | (rw [bothB, copyB, h1]; rfl)))   -- leaf 4

theorem rvLines_ok (l : List (List (List UInt8))) (lines : List (List UInt8)) (hw : ∀ q ∈ l, q.length = lines.length) (hl : l.length ≤ 6) (hn : lines.length ≤ 12) : OkA Try.prog 108 [.isl 1 (rows (cSl 1 cStr) l), .isl 1 (rows cStr lines)] (· = .fr 3 1 (rows cInt (linesF l lines))) :=
  OkA.unnil 3 1 (fn_intro envOk fieldsOk mixed Try.func108 rfl fun κ X Y L Q m hQ => by
    conv => cbv
    refine r_lenR m.sX fun n1 hn1 mn1 => ?_
    conv => cbv
    refine r_loopF (α := List Int × Int) m 40 [0, 10, 11, 12] [⟨5, 41, 3, 1, 0⟩] (fun σ => [(0, .isl 1 (rows (cSl 1 cStr) l)), (5, .osl 41 0), (10, .isl 1 (rows cStr lines)), (11, .int .i64 n1), (12, .int .i64 σ.2)]) (fun σ => [(41, 0, .row 3 1 (rows cInt σ.1))])
      (fun σ => (0 ≤ σ.2) ∧ (σ.2 ≤ n1) ∧ (σ.1 = linesT l lines σ.2.toNat) ∧ ((σ.1.length : Int) ≤ σ.2)) (fun σ => (n1 - σ.2).toNat) ([], 0) ?_ ?_ ?_ ?_
    · cbv
    · (try dsimp only); simp only [rows_cons, rows_nil]; cbv
    · exact ⟨(by (try dsimp only); first | omega | (simp only [List.length_nil]; omega) | (simp only [List.length_cons, List.length_nil]; omega)), (by (try dsimp only); first | omega | (simp only [List.length_nil]; omega) | (simp only [List.length_cons, List.length_nil]; omega)), (by (try dsimp only) <;> (rfl)), (by (try dsimp only) <;> first | omega | rfl | (simp [*]; done))⟩
    rintro ⟨out, i1⟩ ⟨lo1, hi1, q, ll⟩ E hE F hF
    dsimp only at lo1 hi1 q ll
    conv => cbv
    refine r_lss m.sX (fun h1 => ?_) (fun h1 => ?_) <;> conv => cbv
    · refine r_index m.sX (by omega) (by omega) fun s_ hs_ => ?_
      conv => cbv
      have ms_ := get_mem hs_
      have ds_ := drop_cons hs_
      have ks_ := take_snoc hs_
      have js_ : (i1 + 1).toNat = Int.toNat i1 + 1 := by omega
      refine r_lenR m.sX fun n2 hn2 mn2 => ?_
      conv => cbv
      refine r_subf m.sX (by omega) (by omega) fun i hi => ?_
      conv => cbv
      refine r_loopF (α := Int × Int) m 40 [0, 6, 7, 8, 9, 10, 11, 12] [⟨5, 41, 3, 1, 0⟩] (fun σ => [(0, .isl 1 (rows (cSl 1 cStr) l)), (5, .osl 41 0), (6, .int .i64 i1), (7, .str s_), (8, .int .i64 σ.1), (9, .int .i64 σ.2), (10, .isl 1 (rows cStr lines)), (11, .int .i64 n1), (12, .int .i64 i1)]) (fun σ => [(41, 0, .row 3 1 (rows cInt out))])
        (fun σ => (-1 ≤ σ.2 ∧ σ.2 < l.length) ∧ (σ.1 = firstAt (fun q => decide (q[i1.toNat]? = some s_)) (l.drop (σ.2 + 1).toNat) (σ.2 + 1))) (fun σ => (σ.2 + 1).toNat) (-1, i) ?_ ?_ ?_ ?_
      · cbv
      · cbv
      · exact ⟨(by (try dsimp only) <;> first | omega | rfl | (simp [*]; done)), (by (try dsimp only) <;> (rw [firstAt_end _ (by omega)]))⟩
      rintro ⟨first, i_2⟩ ⟨fb, fq⟩ E2 hE2 F2 hF2
      dsimp only at fb fq
      conv => cbv
      refine r_geq m.sX (fun h2 => ?_) (fun h2 => ?_) <;> conv => cbv
      · refine r_index m.sX (by omega) (by omega) fun x1 hx1 => ?_
        conv => cbv
        have mx1 := get_mem hx1
        have pl := hw x1 mx1
        have fd := firstAt_drop (f := fun q => decide (q[i1.toNat]? = some s_)) i_2 hx1
        refine r_index m.sX (by omega) (by omega) fun x2 hx2 => ?_
        conv => cbv
        have mx2 := get_mem hx2
        have dx2 := drop_cons hx2
        have kx2 := take_snoc hx2
        have jx2 : (i1 + 1).toNat = Int.toNat i1 + 1 := by omega
        refine r_seql m.sX (fun h3 => ?_) (fun h3 => ?_) <;> conv => cbv
        · refine r_subf m.sX (by omega) (by omega) fun i_3 hi_3 => ?_
          conv => cbv
          refine hE2 _ (i_2, i_3) ?_ ?_ ⟨(by (try dsimp only) <;> first | omega | rfl | (simp [*]; done) | (rw [fb]; simp [*]; done)), (by (try dsimp only) <;> (first | (rw [show (i_3 + 1).toNat = i_2.toNat by omega, show i_3 + 1 = i_2 by omega, fd, if_pos (by rw [hx2, h3]; simp)]; done) | (rw [show (i_4 + 1).toNat = i_2.toNat by omega, show i_4 + 1 = i_2 by omega, fd, if_neg (by rw [hx2]; simpa using h3), fq, show (i_2 + 1).toNat = i_2.toNat + 1 by omega]; done)))⟩ (by first | omega | (dsimp only; omega))
          · cbv
          · cbv
        · refine r_subf m.sX (by omega) (by omega) fun i_4 hi_4 => ?_
          conv => cbv
          refine hE2 _ (first, i_4) ?_ ?_ ⟨(by (try dsimp only) <;> first | omega | rfl | (simp [*]; done) | (rw [fb]; simp [*]; done)), (by (try dsimp only) <;> (first | (rw [show (i_3 + 1).toNat = i_2.toNat by omega, show i_3 + 1 = i_2 by omega, fd, if_pos (by rw [hx2, h3]; simp)]; done) | (rw [show (i_4 + 1).toNat = i_2.toNat by omega, show i_4 + 1 = i_2 by omega, fd, if_neg (by rw [hx2]; simpa using h3), fq, show (i_2 + 1).toNat = i_2.toNat + 1 by omega]; done)))⟩ (by first | omega | (dsimp only; omega))
          · cbv
          · cbv
      · refine hF2 _ _ ?_
        conv => cbv
        refine r_append1 (first) m.sX rfl (by first | omega | (dsimp only; omega)) (by first | omega | (dsimp only; omega)) fun out_2 hout_2 => ?_
        conv => cbv
        have lout_2 : (out_2.length : Int) = out.length + 1 := by rw [hout_2]; first | done | (simp; done) | (simp; omega)
        refine r_addf m.sX (by omega) (by omega) fun r1 hr1 => ?_
        conv => cbv
        try have tr1 : Int.toNat r1 = Int.toNat i1 + 1 := by omega
        refine hE _ (out_2, r1) ?_ ?_ ⟨(by (try dsimp only); first | omega | (simp only [List.length_nil]; omega) | (simp only [List.length_cons, List.length_nil]; omega)), (by (try dsimp only); first | omega | (simp only [List.length_nil]; omega) | (simp only [List.length_cons, List.length_nil]; omega)), (by (try dsimp only) <;> (rw [hout_2, q, tr1, linesT_step hs_, fq, show (i_2 + 1).toNat = 0 by omega, show i_2 + 1 = 0 by omega]; rfl)), (by (try dsimp only) <;> first | omega | rfl | (simp [*]; done) | (rw [ll]; simp [*]; done))⟩ (by first | omega | (dsimp only; omega))
        · cbv
        · cbv
    · have dz_i1 := drop_end (xs := lines) (i := Int.toNat i1) (by omega)
      have tz_i1 := take_end (xs := lines) (i := Int.toNat i1) (by omega)
      refine hF _ _ ?_
      conv => cbv
      exact hQ (.fr 3 1 (rows cInt out)) (Eq.trans (by first | rfl | (simp only [lb, lbI, rows_cons, rows_nil, unnilT, unnil, unnilTI, unnilI]; done) | (simp only [lb, lbI, rows_cons, rows_nil, unnilT, unnil, unnilTI, unnilI]; rfl)) (congrArg (fun l => PV.fr 3 1 (rows cInt l)) (show out = linesF l lines from by rw [q, show i1.toNat = lines.length by omega]; rfl))))   -- leaf 1

theorem specStatesOfLines_ok (l : List (List (List UInt8))) (lines : List (List UInt8))  : OkA Try.prog 36 [.isl 1 (rows (cSl 1 cStr) l), .isl 1 (rows cStr lines)] (· = (lb 3 1 cInt) (linesAns l lines)) :=
  OkA.unnil 3 1 (fn_intro envOk fieldsOk mixed Try.func36 rfl fun κ X Y L Q m hQ => by
    conv => cbv
    refine r_callB m.sX (rvBoth_ok l lines) (fun h1 => ?_) (fun h1 => ?_) <;> conv => cbv
    · obtain ⟨w1, w2, w3⟩ := bothB_spec h1
      refine r_callF (fun l => PV.fr _ _ (rows _ l)) m.sX (rvLines_ok l lines (by first | rfl | assumption | omega | (simp only [List.length_append, List.length_cons, List.length_nil] at *; omega)) (by first | rfl | assumption | omega | (simp only [List.length_append, List.length_cons, List.length_nil] at *; omega)) (by first | rfl | assumption | omega | (simp only [List.length_append, List.length_cons, List.length_nil] at *; omega))) fun v1 hv1 => ?_
      conv => cbv
      exact hQ (.tup [.fr 3 1 (rows cInt v1), .bool true]) (Eq.trans (by first | rfl | (simp only [lb, lbI, rows_cons, rows_nil, unnilT, unnil, unnilTI, unnilI]; done) | (simp only [lb, lbI, rows_cons, rows_nil, unnilT, unnil, unnilTI, unnilI]; rfl)) (congrArg ((lb 3 1 cInt)) (show (v1, true) = linesAns l lines from by first | (rw [linesAns, if_pos h1, hv1]; done) | (rw [linesAns, if_neg (by rw [h1]; simp)]; done))))   -- leaf 1
    · exact hQ (.tup [.nil, .bool false]) (Eq.trans (by first | rfl | (simp only [lb, lbI, rows_cons, rows_nil, unnilT, unnil, unnilTI, unnilI]; done) | (simp only [lb, lbI, rows_cons, rows_nil, unnilT, unnil, unnilTI, unnilI]; rfl)) (congrArg ((lb 3 1 cInt)) (show ([], false) = linesAns l lines from by first | (rw [linesAns, if_pos h1, hv1]; done) | (rw [linesAns, if_neg (by rw [h1]; simp)]; done)))))   -- leaf 2

theorem greatest_ok (row : List Int)  : OkA Try.prog 90 [.isl 1 (rows cInt row)] (· = .int .i64 (maxL row)) :=
  fn_intro envOk fieldsOk mixed Try.func90 rfl fun κ X Y L Q m hQ => by
    conv => cbv
    refine r_lenR m.sX fun n1 hn1 mn1 => ?_
    conv => cbv
    refine r_loopF (α := Int × Int) m 17 [3, 6, 7, 8] [] (fun σ => [(3, .int .i64 σ.1), (6, .isl 1 (rows cInt row)), (7, .int .i64 n1), (8, .int .i64 σ.2)]) (fun σ => [])
      (fun σ => (0 ≤ σ.2) ∧ (σ.2 ≤ n1) ∧ (σ.1 = maxL (row.take σ.2.toNat))) (fun σ => (n1 - σ.2).toNat) (0, 0) ?_ ?_ ?_ ?_
    · cbv
    · cbv
    · exact ⟨(by (try dsimp only); first | omega | (simp only [List.length_nil]; omega) | (simp only [List.length_cons, List.length_nil]; omega)), (by (try dsimp only); first | omega | (simp only [List.length_nil]; omega) | (simp only [List.length_cons, List.length_nil]; omega)), (by (try dsimp only) <;> (rfl))⟩
    rintro ⟨most, i1⟩ ⟨lo1, hi1, q⟩ E hE F hF
    dsimp only at lo1 hi1 q
    conv => cbv
    refine r_lss m.sX (fun h1 => ?_) (fun h1 => ?_) <;> conv => cbv
    · refine r_index m.sX (by omega) (by omega) fun n hn => ?_
      conv => cbv
      have mn := get_mem hn
      have dn := drop_cons hn
      have kn := take_snoc hn
      have jn : (i1 + 1).toNat = Int.toNat i1 + 1 := by omega
      have vn := nth_some hn
      refine r_max m.sX fun most_2 hmost_2 => ?_
      conv => cbv
      refine r_addf m.sX (by omega) (by omega) fun r1 hr1 => ?_
      conv => cbv
      try have tr1 : Int.toNat r1 = Int.toNat i1 + 1 := by omega
      refine hE _ (most_2, r1) ?_ ?_ ⟨(by (try dsimp only); first | omega | (simp only [List.length_nil]; omega) | (simp only [List.length_cons, List.length_nil]; omega)), (by (try dsimp only); first | omega | (simp only [List.length_nil]; omega) | (simp only [List.length_cons, List.length_nil]; omega)), (by (try dsimp only) <;> (rw [hmost_2, q, tr1, maxL_take hn]))⟩ (by first | omega | (dsimp only; omega))
      · cbv
      · cbv
    · have dz_i1 := drop_end (xs := row) (i := Int.toNat i1) (by omega)
      have tz_i1 := take_end (xs := row) (i := Int.toNat i1) (by omega)
      refine hF _ _ ?_
      conv => cbv
      exact hQ (.int .i64 most) (Eq.trans (by first | rfl | (simp only [lb, lbI, rows_cons, rows_nil, unnilT, unnil, unnilTI, unnilI]; done) | (simp only [lb, lbI, rows_cons, rows_nil, unnilT, unnil, unnilTI, unnilI]; rfl)) (congrArg (PV.int .i64) (show most = maxL row from by rw [q, tz_i1])))   -- leaf 1

end Go.Proofs.Ytifkjlpkhfldoaa.Ai
