/- Contracts of the functions on strikes. -/
import Derived.Test.YtnanackogloioaaStrikeLaw
namespace Go.Proofs.Ytnanackogloioaa.Ai
open Go Go.Proofs
set_option maxRecDepth 10000
set_option maxHeartbeats 4000000
set_option linter.unusedVariables false

theorem parts_ok (s_ : Strike)  : OkA Try.prog 208 [.agg (cStrike s_)] (· = .fr 3 1 (rows cInt (partsL s_))) := by
  obtain ⟨s_A, s_B, s_C, s_D, s_E⟩ := s_
  try dsimp only at *
  exact OkA.unnil 3 1 (fn_intro envOk fieldsOk mixed Try.func208 rfl fun κ X Y L Q m hQ => by
    conv => cbv
    exact hQ (.fr 3 1 [[.int .i64 s_A], [.int .i64 s_B], [.int .i64 s_C], [.int .i64 s_D], [.int .i64 s_E]]) (Eq.trans (by first | rfl | (simp only [lb, lbI, rows_cons, rows_nil, unnilT, unnil, unnilTI, unnilI]; done) | (simp only [lb, lbI, rows_cons, rows_nil, unnilT, unnil, unnilTI, unnilI]; rfl)) (congrArg (fun l => PV.fr 3 1 (rows cInt l)) (show [s_A, s_B, s_C, s_D, s_E] = partsL (s_A, s_B, s_C, s_D, s_E) from by rfl))))   -- leaf 1

theorem maParts_ok (s_ : Strike)  : OkA Try.prog 119 [.agg (cStrike s_)] (· = .fr 3 1 (rows cInt (partsL s_))) := by
  obtain ⟨s_A, s_B, s_C, s_D, s_E⟩ := s_
  try dsimp only at *
  exact OkA.unnil 3 1 (fn_intro envOk fieldsOk mixed Try.func119 rfl fun κ X Y L Q m hQ => by
    conv => cbv
    exact hQ (.fr 3 1 [[.int .i64 s_A], [.int .i64 s_B], [.int .i64 s_C], [.int .i64 s_D], [.int .i64 s_E]]) (Eq.trans (by first | rfl | (simp only [lb, lbI, rows_cons, rows_nil, unnilT, unnil, unnilTI, unnilI]; done) | (simp only [lb, lbI, rows_cons, rows_nil, unnilT, unnil, unnilTI, unnilI]; rfl)) (congrArg (fun l => PV.fr 3 1 (rows cInt l)) (show [s_A, s_B, s_C, s_D, s_E] = partsL (s_A, s_B, s_C, s_D, s_E) from by rfl))))   -- leaf 1

theorem IsStrike_ok (s_ : Strike)  : OkA Try.prog 122 [.agg (cStrike s_)] (· = .bool (okStr s_)) := by
  obtain ⟨s_A, s_B, s_C, s_D, s_E⟩ := s_
  try dsimp only at *
  exact fn_intro envOk fieldsOk mixed Try.func122 rfl fun κ X Y L Q m hQ => by
    conv => cbv
    refine r_callF (fun l => PV.fr _ _ (rows _ l)) m.sX (parts_ok (s_A, s_B, s_C, s_D, s_E)) fun v1 hv1 => ?_
    conv => cbv
    try dsimp only at hv1
    refine r_lenR m.sX fun n1 hn1 mn1 => ?_
    conv => cbv
    refine r_loopF (α := Int) m 16 [7, 8] [⟨6, 49, 3, 1, 0⟩] (fun σ => [(6, .osl 49 0), (7, .int .i64 n1), (8, .int .i64 σ)]) (fun σ => [(49, 0, .row 3 1 (rows cInt v1))])
      (fun σ => (0 ≤ σ) ∧ (σ ≤ n1) ∧ (allB v1 1 999 = allB (v1.drop σ.toNat) 1 999)) (fun σ => (n1 - σ).toNat) 0 ?_ ?_ ?_ ?_
    · cbv
    · cbv
    · exact ⟨(by (try dsimp only); first | omega | (simp only [List.length_nil]; omega)), (by (try dsimp only); first | omega | (simp only [List.length_nil]; omega)), (by (try dsimp only) <;> first | omega | rfl | (simp [*]; done))⟩
    rintro i1 ⟨lo1, hi1, q⟩ E hE F hF
    conv => cbv
    refine r_lss m.sX (fun h1 => ?_) (fun h1 => ?_) <;> conv => cbv
    · refine r_oindex m.sX (by omega) (by omega) ?_
      conv => cbv
      obtain ⟨n, hn⟩ := get_ex (xs := v1) (i := Int.toNat i1) (by omega)
      have mn := get_mem hn
      have dn := drop_cons hn
      have kn := take_snoc hn
      have jn : (i1 + 1).toNat = Int.toNat i1 + 1 := by omega
      have vn := nth_some hn
      refine r_oload m.sX hn (Nat.le_of_ble_eq_true rfl) ?_
      conv => cbv
      refine r_callB m.sX (within_ok n 1 999) (fun h2 => ?_) (fun h2 => ?_) <;> conv => cbv
      · refine r_addf m.sX (by omega) (by omega) fun r1 hr1 => ?_
        conv => cbv
        have tr1 : Int.toNat r1 = Int.toNat i1 + 1 := by omega
        refine hE _ r1 ?_ ?_ ⟨(by (try dsimp only); first | omega | (simp only [List.length_nil]; omega)), (by (try dsimp only); first | omega | (simp only [List.length_nil]; omega)), (by (try dsimp only) <;> (rw [q, dn, tr1, allB_cons, h2]; rfl))⟩ (by first | omega | (dsimp only; omega))
        · cbv
        · cbv
      · refine hF _ _ ?_
        conv => cbv
        exact hQ _ (congrArg PV.bool (by rw [okStr, ← hv1, q, dn, allB_cons, h2]; rfl))   -- leaf 1
    · have dz_i1 := drop_end (xs := v1) (i := Int.toNat i1) (by omega)
      have tz_i1 := take_end (xs := v1) (i := Int.toNat i1) (by omega)
      refine hF _ _ ?_
      conv => cbv
      exact hQ _ (congrArg PV.bool (by rw [okStr, ← hv1, q, dz_i1]; rfl))   -- leaf 2

theorem maGood_ok (s_ : Strike)  : OkA Try.prog 127 [.agg (cStrike s_)] (· = .bool (okStr s_)) := by
  obtain ⟨s_A, s_B, s_C, s_D, s_E⟩ := s_
  try dsimp only at *
  exact fn_intro envOk fieldsOk mixed Try.func127 rfl fun κ X Y L Q m hQ => by
    conv => cbv
    refine r_callF (fun l => PV.fr _ _ (rows _ l)) m.sX (maParts_ok (s_A, s_B, s_C, s_D, s_E)) fun v1 hv1 => ?_
    conv => cbv
    try dsimp only at hv1
    refine .inl (r_callBO m.sX ((l1All_ok v1 1 999).ok flat_bool) (fun h1 => ?_) (fun h1 => ?_)) <;> conv => cbv
    · exact hQ _ (congrArg PV.bool (by rw [okStr, ← hv1]; exact h1.symm))   -- leaf 1
    · exact hQ _ (congrArg PV.bool (by rw [okStr, ← hv1]; exact h1.symm))   -- leaf 2

theorem areStrikes_ok (l : List Strike)  : OkA Try.prog 117 [.isl 5 (rows cStrike l)] (· = .bool (okStrs l)) :=
  fn_intro envOk fieldsOk mixed Try.func117 rfl fun κ X Y L Q m hQ => by
    conv => cbv
    refine r_lenR m.sX fun n1 hn1 mn1 => ?_
    conv => cbv
    refine r_loopF (α := Int) m 18 [0, 5, 6, 7] [] (fun σ => [(0, .isl 5 (rows cStrike l)), (5, .isl 5 (rows cStrike l)), (6, .int .i64 n1), (7, .int .i64 σ)]) (fun σ => [])
      (fun σ => (0 ≤ σ) ∧ (σ ≤ n1) ∧ (l.all okStr = (l.drop σ.toNat).all okStr)) (fun σ => (n1 - σ).toNat) 0 ?_ ?_ ?_ ?_
    · cbv
    · cbv
    · exact ⟨(by (try dsimp only); first | omega | (simp only [List.length_nil]; omega)), (by (try dsimp only); first | omega | (simp only [List.length_nil]; omega)), (by (try dsimp only) <;> first | omega | rfl | (simp [*]; done))⟩
    rintro i1 ⟨lo1, hi1, q⟩ E hE F hF
    conv => cbv
    refine r_lss m.sX (fun h1 => ?_) (fun h1 => ?_) <;> conv => cbv
    · refine r_index m.sX (by omega) (by omega) fun v hs_A => ?_
      obtain ⟨s_A, s_B, s_C, s_D, s_E⟩ := v
      conv => cbv
      have hs_ := hs_A
      have ms_ := get_mem hs_
      have ds_ := drop_cons hs_
      have ks_ := take_snoc hs_
      have js_ : (i1 + 1).toNat = Int.toNat i1 + 1 := by omega
      refine r_callB m.sX (IsStrike_ok (s_A, s_B, s_C, s_D, s_E)) (fun h2 => ?_) (fun h2 => ?_) <;> conv => cbv
      · refine r_addf m.sX (by omega) (by omega) fun r1 hr1 => ?_
        conv => cbv
        have tr1 : Int.toNat r1 = Int.toNat i1 + 1 := by omega
        refine hE _ r1 ?_ ?_ ⟨(by (try dsimp only); first | omega | (simp only [List.length_nil]; omega)), (by (try dsimp only); first | omega | (simp only [List.length_nil]; omega)), (by (try dsimp only) <;> first | omega | rfl | (simp [*]; done) | (rw [q]; simp [*]; done))⟩ (by first | omega | (dsimp only; omega))
        · cbv
        · cbv
      · refine hF _ _ ?_
        conv => cbv
        exact hQ _ (congrArg PV.bool (by rw [okStrs, q]; simp [*] <;> omega))   -- leaf 1
    · have dz_i1 := drop_end (xs := l) (i := Int.toNat i1) (by omega)
      have tz_i1 := take_end (xs := l) (i := Int.toNat i1) (by omega)
      refine hF _ _ ?_
      conv => cbv
      refine r_lenR m.sX fun n2 hn2 mn2 => ?_
      conv => cbv
      refine r_leq m.sX (fun h3 => ?_) (fun h3 => ?_) <;> conv => cbv
      · exact hQ _ (congrArg PV.bool (by rw [okStrs, q]; simp [*] <;> omega))   -- leaf 2
      · exact hQ _ (congrArg PV.bool (by rw [okStrs, q]; simp [*] <;> omega))   -- leaf 3

theorem maList_ok (l : List Strike)  : OkA Try.prog 118 [.isl 5 (rows cStrike l)] (· = .bool (okStrs l)) :=
  fn_intro envOk fieldsOk mixed Try.func118 rfl fun κ X Y L Q m hQ => by
    conv => cbv
    refine r_lenR m.sX fun n1 hn1 mn1 => ?_
    conv => cbv
    refine r_loopF (α := Int) m 18 [0, 5, 6, 7] [] (fun σ => [(0, .isl 5 (rows cStrike l)), (5, .isl 5 (rows cStrike l)), (6, .int .i64 n1), (7, .int .i64 σ)]) (fun σ => [])
      (fun σ => (0 ≤ σ) ∧ (σ ≤ n1) ∧ (l.all okStr = (l.drop σ.toNat).all okStr)) (fun σ => (n1 - σ).toNat) 0 ?_ ?_ ?_ ?_
    · cbv
    · cbv
    · exact ⟨(by (try dsimp only); first | omega | (simp only [List.length_nil]; omega)), (by (try dsimp only); first | omega | (simp only [List.length_nil]; omega)), (by (try dsimp only) <;> first | omega | rfl | (simp [*]; done))⟩
    rintro i1 ⟨lo1, hi1, q⟩ E hE F hF
    conv => cbv
    refine r_lss m.sX (fun h1 => ?_) (fun h1 => ?_) <;> conv => cbv
    · refine r_index m.sX (by omega) (by omega) fun v hs_A => ?_
      obtain ⟨s_A, s_B, s_C, s_D, s_E⟩ := v
      conv => cbv
      have hs_ := hs_A
      have ms_ := get_mem hs_
      have ds_ := drop_cons hs_
      have ks_ := take_snoc hs_
      have js_ : (i1 + 1).toNat = Int.toNat i1 + 1 := by omega
      refine r_callB m.sX (maGood_ok (s_A, s_B, s_C, s_D, s_E)) (fun h2 => ?_) (fun h2 => ?_) <;> conv => cbv
      · refine r_addf m.sX (by omega) (by omega) fun r1 hr1 => ?_
        conv => cbv
        have tr1 : Int.toNat r1 = Int.toNat i1 + 1 := by omega
        refine hE _ r1 ?_ ?_ ⟨(by (try dsimp only); first | omega | (simp only [List.length_nil]; omega)), (by (try dsimp only); first | omega | (simp only [List.length_nil]; omega)), (by (try dsimp only) <;> first | omega | rfl | (simp [*]; done) | (rw [q]; simp [*]; done))⟩ (by first | omega | (dsimp only; omega))
        · cbv
        · cbv
      · refine hF _ _ ?_
        conv => cbv
        exact hQ _ (congrArg PV.bool (by rw [okStrs, q]; simp [*] <;> omega))   -- leaf 1
    · have dz_i1 := drop_end (xs := l) (i := Int.toNat i1) (by omega)
      have tz_i1 := take_end (xs := l) (i := Int.toNat i1) (by omega)
      refine hF _ _ ?_
      conv => cbv
      refine r_lenR m.sX fun n2 hn2 mn2 => ?_
      conv => cbv
      refine r_leq m.sX (fun h3 => ?_) (fun h3 => ?_) <;> conv => cbv
      · exact hQ _ (congrArg PV.bool (by rw [okStrs, q]; simp [*] <;> omega))   -- leaf 2
      · exact hQ _ (congrArg PV.bool (by rw [okStrs, q]; simp [*] <;> omega))   -- leaf 3

theorem filings_ok (s_ : Strike) (standard : Strike) (hs : okStr s_ = true) (ht : okStr standard = true) : OkA Try.prog 123 [.agg (cStrike s_), .agg (cStrike standard)] (· = (lb 3 1 cInt) ((filL s_ standard, canS s_ standard))) := by
  obtain ⟨s_A, s_B, s_C, s_D, s_E⟩ := s_
  obtain ⟨standardA, standardB, standardC, standardD, standardE⟩ := standard
  try dsimp only at *
  exact OkA.unnil 3 1 (fn_intro envOk fieldsOk mixed Try.func123 rfl fun κ X Y L Q m hQ => by
    conv => cbv
    refine r_callF (fun l => PV.fr _ _ (rows _ l)) m.sX (parts_ok (standardA, standardB, standardC, standardD, standardE)) fun wanted hwanted => ?_
    conv => cbv
    try dsimp only at hwanted
    have l2 : wanted.length = 5 := by rw [hwanted]; rfl
    refine r_eql m.sX (fun h1 => ?_) (fun h1 => ?_) <;> conv => cbv
    · refine r_callF (fun l => PV.fr _ _ (rows _ l)) m.sX (parts_ok (s_A, s_B, s_C, s_D, s_E)) fun v1 hv1 => ?_
      conv => cbv
      try dsimp only at hv1
      have l1 : v1.length = 5 := by rw [hv1]; rfl
      refine r_lenR m.sX fun n1 hn1 mn1 => ?_
      conv => cbv
      refine r_loopF (α := List Int × Bool × Int) m 48 [8, 21, 22] [⟨6, 49, 3, 1, 0⟩, ⟨7, 57, 3, 1, 0⟩, ⟨20, 161, 3, 1, 0⟩] (fun σ => [(6, .osl 49 0), (7, .osl 57 0), (8, .bool σ.2.1), (20, .osl 161 0), (21, .int .i64 n1), (22, .int .i64 σ.2.2)]) (fun σ => [(49, 0, .row 3 1 (rows cInt σ.1)), (57, 0, .row 3 1 (rows cInt wanted)), (161, 0, .row 3 1 (rows cInt v1))])
        (fun σ => (0 ≤ σ.2.2) ∧ (σ.2.2 ≤ n1) ∧ (filL (s_A, s_B, s_C, s_D, s_E) (standardA, standardB, standardC, standardD, standardE) = σ.1 ++ subL (v1.drop σ.2.2.toNat) (wanted.drop σ.2.2.toNat)) ∧ (canS (s_A, s_B, s_C, s_D, s_E) (standardA, standardB, standardC, standardD, standardE) = (σ.2.1 && geL (v1.drop σ.2.2.toNat) (wanted.drop σ.2.2.toNat))) ∧ ((σ.1.length : Int) = σ.2.2)) (fun σ => (n1 - σ.2.2).toNat) ([], true, 0) ?_ ?_ ?_ ?_
      · cbv
      · (try dsimp only); simp only [rows_cons, rows_nil]; cbv
      · exact ⟨(by (try dsimp only); first | omega | (simp only [List.length_nil]; omega)), (by (try dsimp only); first | omega | (simp only [List.length_nil]; omega)), (by (try dsimp only) <;> (rw [filL, ← hv1, ← hwanted]; rfl)), (by (try dsimp only) <;> (rw [canS, ← hv1, ← hwanted]; dsimp only; rw [decide_eq_true h1]; rfl)), (by (try dsimp only) <;> first | omega | rfl | (simp [*]; done))⟩
      rintro ⟨list, ok, i1⟩ ⟨lo1, hi1, q, k, ln⟩ E hE F hF
      dsimp only at lo1 hi1 q k ln
      conv => cbv
      refine r_lss m.sX (fun h2 => ?_) (fun h2 => ?_) <;> conv => cbv
      · refine r_oindex m.sX (by omega) (by omega) ?_
        conv => cbv
        obtain ⟨n, hn⟩ := get_ex (xs := v1) (i := Int.toNat i1) (by omega)
        have mn := get_mem hn
        have dn := drop_cons hn
        have kn := take_snoc hn
        have jn : (i1 + 1).toNat = Int.toNat i1 + 1 := by omega
        have vn := nth_some hn
        have bn := okStr_parts hs n (hv1 ▸ mn)
        try dsimp only at bn
        refine r_oload m.sX hn (Nat.le_of_ble_eq_true rfl) ?_
        conv => cbv
        refine r_oindex m.sX (by omega) (by omega) ?_
        conv => cbv
        obtain ⟨x1, hx1⟩ := get_ex (xs := wanted) (i := Int.toNat i1) (by omega)
        have mx1 := get_mem hx1
        have dx1 := drop_cons hx1
        have kx1 := take_snoc hx1
        have jx1 : (i1 + 1).toNat = Int.toNat i1 + 1 := by omega
        have vx1 := nth_some hx1
        have bx := okStr_parts ht x1 (hwanted ▸ mx1)
        try dsimp only at bx
        refine r_oload m.sX hx1 (Nat.le_of_ble_eq_true rfl) ?_
        conv => cbv
        refine r_subf m.sX (by omega) (by omega) fun r1 hr1 => ?_
        conv => cbv
        refine r_append1 (r1) m.sX rfl (by first | omega | (dsimp only; omega)) (by first | omega | (dsimp only; omega)) fun list_2 hlist_2 => ?_
        conv => cbv
        have llist_2 : (list_2.length : Int) = list.length + 1 := by rw [hlist_2]; first | done | (simp; done) | (simp; omega)
        rcases Bool.eq_false_or_eq_true ok with rfl | rfl <;> conv => cbv
        · refine r_oindex m.sX (by omega) (by omega) ?_
          conv => cbv
          obtain ⟨x2, hx2⟩ := get_ex (xs := wanted) (i := Int.toNat i1) (by omega)
          have mx2 := get_mem hx2
          have dx2 := drop_cons hx2
          have kx2 := take_snoc hx2
          have jx2 : (i1 + 1).toNat = Int.toNat i1 + 1 := by omega
          have vx2 := nth_some hx2
          obtain rfl : x1 = x2 := Option.some.inj (hx1.symm.trans hx2)
          refine r_oload m.sX hx2 (Nat.le_of_ble_eq_true rfl) ?_
          conv => cbv
          refine r_geq m.sX (fun h3 => ?_) (fun h3 => ?_) <;> conv => cbv
          · refine r_addf m.sX (by omega) (by omega) fun r2 hr2 => ?_
            conv => cbv
            have tr2 : Int.toNat r2 = Int.toNat i1 + 1 := by omega
            refine hE _ (list_2, true, r2) ?_ ?_ ⟨(by (try dsimp only); first | omega | (simp only [List.length_nil]; omega)), (by (try dsimp only); first | omega | (simp only [List.length_nil]; omega)), (by (try dsimp only) <;> (rw [q, dn, dx1, tr2, subL, hlist_2, hr1]; simp)), (by (try dsimp only) <;> (rw [k, dn, dx1, tr2, geL]; first | rfl | (rw [decide_eq_true (by omega)]; rfl) | (rw [decide_eq_false (by omega)]; rfl))), (by (try dsimp only) <;> first | omega | rfl | (simp [*]; done) | (rw [ln]; simp [*]; done))⟩ (by first | omega | (dsimp only; omega))
            · cbv
            · cbv
          · refine r_addf m.sX (by omega) (by omega) fun r3 hr3 => ?_
            conv => cbv
            have tr3 : Int.toNat r3 = Int.toNat i1 + 1 := by omega
            refine hE _ (list_2, false, r3) ?_ ?_ ⟨(by (try dsimp only); first | omega | (simp only [List.length_nil]; omega)), (by (try dsimp only); first | omega | (simp only [List.length_nil]; omega)), (by (try dsimp only) <;> (rw [q, dn, dx1, tr3, subL, hlist_2, hr1]; simp)), (by (try dsimp only) <;> (rw [k, dn, dx1, tr3, geL]; first | rfl | (rw [decide_eq_true (by omega)]; rfl) | (rw [decide_eq_false (by omega)]; rfl))), (by (try dsimp only) <;> first | omega | rfl | (simp [*]; done) | (rw [ln]; simp [*]; done))⟩ (by first | omega | (dsimp only; omega))
            · cbv
            · cbv
        · refine r_addf m.sX (by omega) (by omega) fun r4 hr4 => ?_
          conv => cbv
          have tr4 : Int.toNat r4 = Int.toNat i1 + 1 := by omega
          refine hE _ (list_2, false, r4) ?_ ?_ ⟨(by (try dsimp only); first | omega | (simp only [List.length_nil]; omega)), (by (try dsimp only); first | omega | (simp only [List.length_nil]; omega)), (by (try dsimp only) <;> (rw [q, dn, dx1, tr4, subL, hlist_2, hr1]; simp)), (by (try dsimp only) <;> (rw [k, dn, dx1, tr4, geL]; first | rfl | (rw [decide_eq_true (by omega)]; rfl) | (rw [decide_eq_false (by omega)]; rfl))), (by (try dsimp only) <;> first | omega | rfl | (simp [*]; done) | (rw [ln]; simp [*]; done))⟩ (by first | omega | (dsimp only; omega))
          · cbv
          · cbv
      · have dz_i1 := drop_end (xs := v1) (i := Int.toNat i1) (by omega)
        have tz_i1 := take_end (xs := v1) (i := Int.toNat i1) (by omega)
        refine hF _ _ ?_
        conv => cbv
        exact hQ (.tup [.fr 3 1 (rows cInt list), .bool ok]) (Eq.trans (by first | rfl | (simp only [lb, lbI, rows_cons, rows_nil, unnilT, unnil, unnilTI, unnilI]; done) | (simp only [lb, lbI, rows_cons, rows_nil, unnilT, unnil, unnilTI, unnilI]; rfl)) (congrArg ((lb 3 1 cInt)) (show (list, ok) = (filL (s_A, s_B, s_C, s_D, s_E) (standardA, standardB, standardC, standardD, standardE), canS (s_A, s_B, s_C, s_D, s_E) (standardA, standardB, standardC, standardD, standardE)) from by rw [q, k, dz_i1, drop_end (xs := wanted) (by omega)]; simp [subL, geL])))   -- leaf 1
    · refine r_callF (fun l => PV.fr _ _ (rows _ l)) m.sX (parts_ok (s_A, s_B, s_C, s_D, s_E)) fun v2 hv2 => ?_
      conv => cbv
      try dsimp only at hv2
      have l1 : v2.length = 5 := by rw [hv2]; rfl
      refine r_lenR m.sX fun n2 hn2 mn2 => ?_
      conv => cbv
      refine r_loopF (α := List Int × Bool × Int) m 48 [8, 21, 22] [⟨6, 49, 3, 1, 0⟩, ⟨7, 57, 3, 1, 0⟩, ⟨20, 161, 3, 1, 0⟩] (fun σ => [(6, .osl 49 0), (7, .osl 57 0), (8, .bool σ.2.1), (20, .osl 161 0), (21, .int .i64 n2), (22, .int .i64 σ.2.2)]) (fun σ => [(49, 0, .row 3 1 (rows cInt σ.1)), (57, 0, .row 3 1 (rows cInt wanted)), (161, 0, .row 3 1 (rows cInt v2))])
        (fun σ => (0 ≤ σ.2.2) ∧ (σ.2.2 ≤ n2) ∧ (filL (s_A, s_B, s_C, s_D, s_E) (standardA, standardB, standardC, standardD, standardE) = σ.1 ++ subL (v2.drop σ.2.2.toNat) (wanted.drop σ.2.2.toNat)) ∧ (canS (s_A, s_B, s_C, s_D, s_E) (standardA, standardB, standardC, standardD, standardE) = (σ.2.1 && geL (v2.drop σ.2.2.toNat) (wanted.drop σ.2.2.toNat))) ∧ ((σ.1.length : Int) = σ.2.2)) (fun σ => (n2 - σ.2.2).toNat) ([], false, 0) ?_ ?_ ?_ ?_
      · cbv
      · (try dsimp only); simp only [rows_cons, rows_nil]; cbv
      · exact ⟨(by (try dsimp only); first | omega | (simp only [List.length_nil]; omega)), (by (try dsimp only); first | omega | (simp only [List.length_nil]; omega)), (by (try dsimp only) <;> (rw [filL, ← hv2, ← hwanted]; rfl)), (by (try dsimp only) <;> (rw [canS, ← hv2, ← hwanted]; dsimp only; rw [decide_eq_false h1]; rfl)), (by (try dsimp only) <;> first | omega | rfl | (simp [*]; done))⟩
      rintro ⟨list_3, ok_2, i2⟩ ⟨lo2, hi2, q, k, ln⟩ E hE F hF
      dsimp only at lo2 hi2 q k ln
      conv => cbv
      refine r_lss m.sX (fun h4 => ?_) (fun h4 => ?_) <;> conv => cbv
      · refine r_oindex m.sX (by omega) (by omega) ?_
        conv => cbv
        obtain ⟨n_2, hn_2⟩ := get_ex (xs := v2) (i := Int.toNat i2) (by omega)
        have mn_2 := get_mem hn_2
        have dn_2 := drop_cons hn_2
        have kn_2 := take_snoc hn_2
        have jn_2 : (i2 + 1).toNat = Int.toNat i2 + 1 := by omega
        have vn_2 := nth_some hn_2
        have bn := okStr_parts hs n_2 (hv2 ▸ mn_2)
        try dsimp only at bn
        refine r_oload m.sX hn_2 (Nat.le_of_ble_eq_true rfl) ?_
        conv => cbv
        refine r_oindex m.sX (by omega) (by omega) ?_
        conv => cbv
        obtain ⟨x3, hx3⟩ := get_ex (xs := wanted) (i := Int.toNat i2) (by omega)
        have mx3 := get_mem hx3
        have dx3 := drop_cons hx3
        have kx3 := take_snoc hx3
        have jx3 : (i2 + 1).toNat = Int.toNat i2 + 1 := by omega
        have vx3 := nth_some hx3
        have bx := okStr_parts ht x3 (hwanted ▸ mx3)
        try dsimp only at bx
        refine r_oload m.sX hx3 (Nat.le_of_ble_eq_true rfl) ?_
        conv => cbv
        refine r_subf m.sX (by omega) (by omega) fun r5 hr5 => ?_
        conv => cbv
        refine r_append1 (r5) m.sX rfl (by first | omega | (dsimp only; omega)) (by first | omega | (dsimp only; omega)) fun list_4 hlist_4 => ?_
        conv => cbv
        have llist_4 : (list_4.length : Int) = list_3.length + 1 := by rw [hlist_4]; first | done | (simp; done) | (simp; omega)
        rcases Bool.eq_false_or_eq_true ok_2 with rfl | rfl <;> conv => cbv
        · refine r_oindex m.sX (by omega) (by omega) ?_
          conv => cbv
          obtain ⟨x4, hx4⟩ := get_ex (xs := wanted) (i := Int.toNat i2) (by omega)
          have mx4 := get_mem hx4
          have dx4 := drop_cons hx4
          have kx4 := take_snoc hx4
          have jx4 : (i2 + 1).toNat = Int.toNat i2 + 1 := by omega
          have vx4 := nth_some hx4
          obtain rfl : x3 = x4 := Option.some.inj (hx3.symm.trans hx4)
          refine r_oload m.sX hx4 (Nat.le_of_ble_eq_true rfl) ?_
          conv => cbv
          refine r_geq m.sX (fun h5 => ?_) (fun h5 => ?_) <;> conv => cbv
          · refine r_addf m.sX (by omega) (by omega) fun r6 hr6 => ?_
            conv => cbv
            have tr6 : Int.toNat r6 = Int.toNat i2 + 1 := by omega
            refine hE _ (list_4, true, r6) ?_ ?_ ⟨(by (try dsimp only); first | omega | (simp only [List.length_nil]; omega)), (by (try dsimp only); first | omega | (simp only [List.length_nil]; omega)), (by (try dsimp only) <;> (rw [q, dn_2, dx3, tr6, subL, hlist_4, hr5]; simp)), (by (try dsimp only) <;> (rw [k, dn_2, dx3, tr6, geL]; first | rfl | (rw [decide_eq_true (by omega)]; rfl) | (rw [decide_eq_false (by omega)]; rfl))), (by (try dsimp only) <;> first | omega | rfl | (simp [*]; done) | (rw [ln]; simp [*]; done))⟩ (by first | omega | (dsimp only; omega))
            · cbv
            · cbv
          · refine r_addf m.sX (by omega) (by omega) fun r7 hr7 => ?_
            conv => cbv
            have tr7 : Int.toNat r7 = Int.toNat i2 + 1 := by omega
            refine hE _ (list_4, false, r7) ?_ ?_ ⟨(by (try dsimp only); first | omega | (simp only [List.length_nil]; omega)), (by (try dsimp only); first | omega | (simp only [List.length_nil]; omega)), (by (try dsimp only) <;> (rw [q, dn_2, dx3, tr7, subL, hlist_4, hr5]; simp)), (by (try dsimp only) <;> (rw [k, dn_2, dx3, tr7, geL]; first | rfl | (rw [decide_eq_true (by omega)]; rfl) | (rw [decide_eq_false (by omega)]; rfl))), (by (try dsimp only) <;> first | omega | rfl | (simp [*]; done) | (rw [ln]; simp [*]; done))⟩ (by first | omega | (dsimp only; omega))
            · cbv
            · cbv
        · refine r_addf m.sX (by omega) (by omega) fun r8 hr8 => ?_
          conv => cbv
          have tr8 : Int.toNat r8 = Int.toNat i2 + 1 := by omega
          refine hE _ (list_4, false, r8) ?_ ?_ ⟨(by (try dsimp only); first | omega | (simp only [List.length_nil]; omega)), (by (try dsimp only); first | omega | (simp only [List.length_nil]; omega)), (by (try dsimp only) <;> (rw [q, dn_2, dx3, tr8, subL, hlist_4, hr5]; simp)), (by (try dsimp only) <;> (rw [k, dn_2, dx3, tr8, geL]; first | rfl | (rw [decide_eq_true (by omega)]; rfl) | (rw [decide_eq_false (by omega)]; rfl))), (by (try dsimp only) <;> first | omega | rfl | (simp [*]; done) | (rw [ln]; simp [*]; done))⟩ (by first | omega | (dsimp only; omega))
          · cbv
          · cbv
      · have dz_i2 := drop_end (xs := v2) (i := Int.toNat i2) (by omega)
        have tz_i2 := take_end (xs := v2) (i := Int.toNat i2) (by omega)
        refine hF _ _ ?_
        conv => cbv
        exact hQ (.tup [.fr 3 1 (rows cInt list_3), .bool ok_2]) (Eq.trans (by first | rfl | (simp only [lb, lbI, rows_cons, rows_nil, unnilT, unnil, unnilTI, unnilI]; done) | (simp only [lb, lbI, rows_cons, rows_nil, unnilT, unnil, unnilTI, unnilI]; rfl)) (congrArg ((lb 3 1 cInt)) (show (list_3, ok_2) = (filL (s_A, s_B, s_C, s_D, s_E) (standardA, standardB, standardC, standardD, standardE), canS (s_A, s_B, s_C, s_D, s_E) (standardA, standardB, standardC, standardD, standardE)) from by rw [q, k, dz_i2, drop_end (xs := wanted) (by omega)]; simp [subL, geL]))))   -- leaf 2

theorem maCan_ok (s_ : Strike) (standard : Strike)  : OkA Try.prog 128 [.agg (cStrike s_), .agg (cStrike standard)] (· = .bool (canS s_ standard)) := by
  obtain ⟨s_A, s_B, s_C, s_D, s_E⟩ := s_
  obtain ⟨standardA, standardB, standardC, standardD, standardE⟩ := standard
  try dsimp only at *
  exact fn_intro envOk fieldsOk mixed Try.func128 rfl fun κ X Y L Q m hQ => by
    conv => cbv
    refine r_callF (fun l => PV.fr _ _ (rows _ l)) m.sX (maParts_ok (standardA, standardB, standardC, standardD, standardE)) fun want hwant => ?_
    conv => cbv
    try dsimp only at hwant
    have l2 : want.length = 5 := by rw [hwant]; rfl
    refine r_callF (fun l => PV.fr _ _ (rows _ l)) m.sX (maParts_ok (s_A, s_B, s_C, s_D, s_E)) fun v1 hv1 => ?_
    conv => cbv
    try dsimp only at hv1
    have l1 : v1.length = 5 := by rw [hv1]; rfl
    refine r_lenR m.sX fun n1 hn1 mn1 => ?_
    conv => cbv
    refine r_loopF (α := Int) m 30 [12, 13] [⟨2, 17, 0, 0, 0⟩, ⟨3, 25, 0, 0, 0⟩, ⟨5, 41, 3, 1, 0⟩, ⟨11, 89, 3, 1, 0⟩] (fun σ => [(2, .optr 17 0 5 0 0), (3, .optr 25 0 5 0 0), (5, .osl 41 0), (11, .osl 89 0), (12, .int .i64 n1), (13, .int .i64 σ)]) (fun σ => [(17, 0, .box [.int .i64 s_A, .int .i64 s_B, .int .i64 s_C, .int .i64 s_D, .int .i64 s_E]), (25, 0, .box [.int .i64 standardA, .int .i64 standardB, .int .i64 standardC, .int .i64 standardD, .int .i64 standardE]), (41, 0, .row 3 1 (rows cInt want)), (89, 0, .row 3 1 (rows cInt v1))])
      (fun σ => (0 ≤ σ) ∧ (σ ≤ n1) ∧ (geL v1 want = geL (v1.drop σ.toNat) (want.drop σ.toNat))) (fun σ => (n1 - σ).toNat) 0 ?_ ?_ ?_ ?_
    · cbv
    · cbv
    · exact ⟨(by (try dsimp only); first | omega | (simp only [List.length_nil]; omega)), (by (try dsimp only); first | omega | (simp only [List.length_nil]; omega)), (by (try dsimp only) <;> first | omega | rfl | (simp [*]; done))⟩
    rintro i1 ⟨lo1, hi1, k⟩ E hE F hF
    conv => cbv
    refine r_lss m.sX (fun h1 => ?_) (fun h1 => ?_) <;> conv => cbv
    · refine r_oindex m.sX (by omega) (by omega) ?_
      conv => cbv
      obtain ⟨n, hn⟩ := get_ex (xs := v1) (i := Int.toNat i1) (by omega)
      have mn := get_mem hn
      have dn := drop_cons hn
      have kn := take_snoc hn
      have jn : (i1 + 1).toNat = Int.toNat i1 + 1 := by omega
      have vn := nth_some hn
      refine r_oload m.sX hn (Nat.le_of_ble_eq_true rfl) ?_
      conv => cbv
      refine r_oindex m.sX (by omega) (by omega) ?_
      conv => cbv
      obtain ⟨x1, hx1⟩ := get_ex (xs := want) (i := Int.toNat i1) (by omega)
      have mx1 := get_mem hx1
      have dx1 := drop_cons hx1
      have kx1 := take_snoc hx1
      have jx1 : (i1 + 1).toNat = Int.toNat i1 + 1 := by omega
      have vx1 := nth_some hx1
      refine r_oload m.sX hx1 (Nat.le_of_ble_eq_true rfl) ?_
      conv => cbv
      refine r_lss m.sX (fun h2 => ?_) (fun h2 => ?_) <;> conv => cbv
      · refine hF _ _ ?_
        conv => cbv
        exact hQ _ (congrArg PV.bool (by rw [canS, ← hv1, ← hwant, k, dn, dx1, geL, decide_eq_false (show ¬ x1 ≤ n by omega)]; simp))   -- leaf 1
      · refine r_addf m.sX (by omega) (by omega) fun r1 hr1 => ?_
        conv => cbv
        have tr1 : Int.toNat r1 = Int.toNat i1 + 1 := by omega
        refine hE _ r1 ?_ ?_ ⟨(by (try dsimp only); first | omega | (simp only [List.length_nil]; omega)), (by (try dsimp only); first | omega | (simp only [List.length_nil]; omega)), (by (try dsimp only) <;> (rw [k, dn, dx1, tr1, geL, decide_eq_true (by omega)]; rfl))⟩ (by first | omega | (dsimp only; omega))
        · cbv
        · cbv
    · have dz_i1 := drop_end (xs := v1) (i := Int.toNat i1) (by omega)
      have tz_i1 := take_end (xs := v1) (i := Int.toNat i1) (by omega)
      refine hF _ _ ?_
      conv => cbv
      refine r_eql m.sX (fun h3 => ?_) (fun h3 => ?_) <;> conv => cbv
      · exact hQ _ (congrArg PV.bool (by rw [canS, ← hv1, ← hwant, k, dz_i1]; dsimp only; rw [decide_eq_true h3]; rfl))   -- leaf 2
      · exact hQ _ (congrArg PV.bool (by rw [canS, ← hv1, ← hwant, k, dz_i1]; dsimp only; rw [decide_eq_false h3]; rfl))   -- leaf 3

theorem maFilings_ok (s_ : Strike) (standard : Strike) (hs : okStr s_ = true) (ht : okStr standard = true) : OkA Try.prog 129 [.agg (cStrike s_), .agg (cStrike standard)] (· = .fr 3 1 (rows cInt (filL s_ standard))) := by
  obtain ⟨s_A, s_B, s_C, s_D, s_E⟩ := s_
  obtain ⟨standardA, standardB, standardC, standardD, standardE⟩ := standard
  try dsimp only at *
  exact OkA.unnil 3 1 (fn_intro envOk fieldsOk mixed Try.func129 rfl fun κ X Y L Q m hQ => by
    conv => cbv
    refine r_callF (fun l => PV.fr _ _ (rows _ l)) m.sX (maParts_ok (standardA, standardB, standardC, standardD, standardE)) fun want hwant => ?_
    conv => cbv
    try dsimp only at hwant
    have l2 : want.length = 5 := by rw [hwant]; rfl
    refine r_callF (fun l => PV.fr _ _ (rows _ l)) m.sX (maParts_ok (s_A, s_B, s_C, s_D, s_E)) fun v1 hv1 => ?_
    conv => cbv
    try dsimp only at hv1
    have l1 : v1.length = 5 := by rw [hv1]; rfl
    refine r_lenR m.sX fun n1 hn1 mn1 => ?_
    conv => cbv
    refine r_loopF (α := List Int × Int) m 30 [13, 14] [⟨5, 41, 3, 1, 0⟩, ⟨6, 49, 3, 1, 0⟩, ⟨12, 97, 3, 1, 0⟩] (fun σ => [(5, .osl 41 0), (6, .osl 49 0), (12, .osl 97 0), (13, .int .i64 n1), (14, .int .i64 σ.2)]) (fun σ => [(41, 0, .row 3 1 (rows cInt σ.1)), (49, 0, .row 3 1 (rows cInt want)), (97, 0, .row 3 1 (rows cInt v1))])
      (fun σ => (0 ≤ σ.2) ∧ (σ.2 ≤ n1) ∧ (filL (s_A, s_B, s_C, s_D, s_E) (standardA, standardB, standardC, standardD, standardE) = σ.1 ++ subL (v1.drop σ.2.toNat) (want.drop σ.2.toNat)) ∧ ((σ.1.length : Int) = σ.2)) (fun σ => (n1 - σ.2).toNat) ([], 0) ?_ ?_ ?_ ?_
    · cbv
    · (try dsimp only); simp only [rows_cons, rows_nil]; cbv
    · exact ⟨(by (try dsimp only); first | omega | (simp only [List.length_nil]; omega)), (by (try dsimp only); first | omega | (simp only [List.length_nil]; omega)), (by (try dsimp only) <;> (rw [filL, ← hv1, ← hwant]; rfl)), (by (try dsimp only) <;> first | omega | rfl | (simp [*]; done))⟩
    rintro ⟨out, i1⟩ ⟨lo1, hi1, q, ln⟩ E hE F hF
    dsimp only at lo1 hi1 q ln
    conv => cbv
    refine r_lss m.sX (fun h1 => ?_) (fun h1 => ?_) <;> conv => cbv
    · refine r_oindex m.sX (by omega) (by omega) ?_
      conv => cbv
      obtain ⟨n, hn⟩ := get_ex (xs := v1) (i := Int.toNat i1) (by omega)
      have mn := get_mem hn
      have dn := drop_cons hn
      have kn := take_snoc hn
      have jn : (i1 + 1).toNat = Int.toNat i1 + 1 := by omega
      have vn := nth_some hn
      have bn := okStr_parts hs n (hv1 ▸ mn)
      try dsimp only at bn
      refine r_oload m.sX hn (Nat.le_of_ble_eq_true rfl) ?_
      conv => cbv
      refine r_oindex m.sX (by omega) (by omega) ?_
      conv => cbv
      obtain ⟨x1, hx1⟩ := get_ex (xs := want) (i := Int.toNat i1) (by omega)
      have mx1 := get_mem hx1
      have dx1 := drop_cons hx1
      have kx1 := take_snoc hx1
      have jx1 : (i1 + 1).toNat = Int.toNat i1 + 1 := by omega
      have vx1 := nth_some hx1
      have bx := okStr_parts ht x1 (hwant ▸ mx1)
      try dsimp only at bx
      refine r_oload m.sX hx1 (Nat.le_of_ble_eq_true rfl) ?_
      conv => cbv
      refine r_subf m.sX (by omega) (by omega) fun r1 hr1 => ?_
      conv => cbv
      refine r_append1 (r1) m.sX rfl (by first | omega | (dsimp only; omega)) (by first | omega | (dsimp only; omega)) fun out_2 hout_2 => ?_
      conv => cbv
      have lout_2 : (out_2.length : Int) = out.length + 1 := by rw [hout_2]; first | done | (simp; done) | (simp; omega)
      refine r_addf m.sX (by omega) (by omega) fun r2 hr2 => ?_
      conv => cbv
      have tr2 : Int.toNat r2 = Int.toNat i1 + 1 := by omega
      refine hE _ (out_2, r2) ?_ ?_ ⟨(by (try dsimp only); first | omega | (simp only [List.length_nil]; omega)), (by (try dsimp only); first | omega | (simp only [List.length_nil]; omega)), (by (try dsimp only) <;> (rw [q, dn, dx1, tr2, subL, hout_2, hr1]; simp)), (by (try dsimp only) <;> first | omega | rfl | (simp [*]; done) | (rw [ln]; simp [*]; done))⟩ (by first | omega | (dsimp only; omega))
      · cbv
      · cbv
    · have dz_i1 := drop_end (xs := v1) (i := Int.toNat i1) (by omega)
      have tz_i1 := take_end (xs := v1) (i := Int.toNat i1) (by omega)
      refine hF _ _ ?_
      conv => cbv
      exact hQ (.fr 3 1 (rows cInt out)) (Eq.trans (by first | rfl | (simp only [lb, lbI, rows_cons, rows_nil, unnilT, unnil, unnilTI, unnilI]; done) | (simp only [lb, lbI, rows_cons, rows_nil, unnilT, unnil, unnilTI, unnilI]; rfl)) (congrArg (fun l => PV.fr 3 1 (rows cInt l)) (show out = filL (s_A, s_B, s_C, s_D, s_E) (standardA, standardB, standardC, standardD, standardE) from by rw [q, dz_i1]; simp [subL]))))   -- leaf 1

theorem FilingsFor_ok (s_ : Strike) (standard : Strike)  : OkA Try.prog 28 [.agg (cStrike s_), .agg (cStrike standard)] (· = (lb 3 1 cInt) (filAns s_ standard)) := by
  obtain ⟨s_A, s_B, s_C, s_D, s_E⟩ := s_
  obtain ⟨standardA, standardB, standardC, standardD, standardE⟩ := standard
  try dsimp only at *
  exact OkA.unnil 3 1 (fn_intro envOk fieldsOk mixed Try.func28 rfl fun κ X Y L Q m hQ => by
    conv => cbv
    refine r_callB m.sX (IsStrike_ok (s_A, s_B, s_C, s_D, s_E)) (fun h1 => ?_) (fun h1 => ?_) <;> conv => cbv
    · refine r_callB m.sX (IsStrike_ok (standardA, standardB, standardC, standardD, standardE)) (fun h2 => ?_) (fun h2 => ?_) <;> conv => cbv
      · refine r_callF (lb 3 1 cInt) m.sX (filings_ok (s_A, s_B, s_C, s_D, s_E) (standardA, standardB, standardC, standardD, standardE) (by first | rfl | assumption | omega | (simp only [List.length_append, List.length_cons, List.length_nil] at *; omega)) (by first | rfl | assumption | omega | (simp only [List.length_append, List.length_cons, List.length_nil] at *; omega))) fun v hlist => ?_
        obtain ⟨list, ok⟩ := v
        conv => cbv
        try dsimp only at hlist
        obtain ⟨e1, e2⟩ := Prod.mk.inj hlist
        rcases Bool.eq_false_or_eq_true ok with rfl | rfl <;> conv => cbv
        · exact hQ (.tup [.fr 3 1 (rows cInt list), .bool true]) (Eq.trans (by first | rfl | (simp only [lb, lbI, rows_cons, rows_nil, unnilT, unnil, unnilTI, unnilI]; done) | (simp only [lb, lbI, rows_cons, rows_nil, unnilT, unnil, unnilTI, unnilI]; rfl)) (congrArg ((lb 3 1 cInt)) (show (list, true) = filAns (s_A, s_B, s_C, s_D, s_E) (standardA, standardB, standardC, standardD, standardE) from by rw [filAns, h1, h2, ← e2, e1]; rfl)))   -- leaf 1
        · exact hQ (.tup [.fr 3 1 [], .bool false]) (Eq.trans (by first | rfl | (simp only [lb, lbI, rows_cons, rows_nil, unnilT, unnil, unnilTI, unnilI]; done) | (simp only [lb, lbI, rows_cons, rows_nil, unnilT, unnil, unnilTI, unnilI]; rfl)) (congrArg ((lb 3 1 cInt)) (show ([], false) = filAns (s_A, s_B, s_C, s_D, s_E) (standardA, standardB, standardC, standardD, standardE) from by rw [filAns, h1, h2, ← e2]; rfl)))   -- leaf 2
      · exact hQ (.tup [.fr 3 1 [], .bool false]) (Eq.trans (by first | rfl | (simp only [lb, lbI, rows_cons, rows_nil, unnilT, unnil, unnilTI, unnilI]; done) | (simp only [lb, lbI, rows_cons, rows_nil, unnilT, unnil, unnilTI, unnilI]; rfl)) (congrArg ((lb 3 1 cInt)) (show ([], false) = filAns (s_A, s_B, s_C, s_D, s_E) (standardA, standardB, standardC, standardD, standardE) from by simp [filAns, *])))   -- leaf 3
    · exact hQ (.tup [.fr 3 1 [], .bool false]) (Eq.trans (by first | rfl | (simp only [lb, lbI, rows_cons, rows_nil, unnilT, unnil, unnilTI, unnilI]; done) | (simp only [lb, lbI, rows_cons, rows_nil, unnilT, unnil, unnilTI, unnilI]; rfl)) (congrArg ((lb 3 1 cInt)) (show ([], false) = filAns (s_A, s_B, s_C, s_D, s_E) (standardA, standardB, standardC, standardD, standardE) from by simp [filAns, *]))))   -- leaf 4

theorem specFilingsFor_ok (s_ : Strike) (standard : Strike)  : OkA Try.prog 29 [.agg (cStrike s_), .agg (cStrike standard)] (· = (lb 3 1 cInt) (filAns s_ standard)) := by
  obtain ⟨s_A, s_B, s_C, s_D, s_E⟩ := s_
  obtain ⟨standardA, standardB, standardC, standardD, standardE⟩ := standard
  try dsimp only at *
  exact OkA.unnil 3 1 (fn_intro envOk fieldsOk mixed Try.func29 rfl fun κ X Y L Q m hQ => by
    conv => cbv
    refine r_callB m.sX (maGood_ok (s_A, s_B, s_C, s_D, s_E)) (fun h1 => ?_) (fun h1 => ?_) <;> conv => cbv
    · refine r_callB m.sX (maGood_ok (standardA, standardB, standardC, standardD, standardE)) (fun h2 => ?_) (fun h2 => ?_) <;> conv => cbv
      · refine r_callB m.sX (maCan_ok (s_A, s_B, s_C, s_D, s_E) (standardA, standardB, standardC, standardD, standardE)) (fun h3 => ?_) (fun h3 => ?_) <;> conv => cbv
        · refine r_callF (fun l => PV.fr _ _ (rows _ l)) m.sX (maFilings_ok (s_A, s_B, s_C, s_D, s_E) (standardA, standardB, standardC, standardD, standardE) (by first | rfl | assumption | omega | (simp only [List.length_append, List.length_cons, List.length_nil] at *; omega)) (by first | rfl | assumption | omega | (simp only [List.length_append, List.length_cons, List.length_nil] at *; omega))) fun v1 hv1 => ?_
          conv => cbv
          try dsimp only at hv1
          exact hQ (.tup [.fr 3 1 (rows cInt v1), .bool true]) (Eq.trans (by first | rfl | (simp only [lb, lbI, rows_cons, rows_nil, unnilT, unnil, unnilTI, unnilI]; done) | (simp only [lb, lbI, rows_cons, rows_nil, unnilT, unnil, unnilTI, unnilI]; rfl)) (congrArg ((lb 3 1 cInt)) (show (v1, true) = filAns (s_A, s_B, s_C, s_D, s_E) (standardA, standardB, standardC, standardD, standardE) from by first | rfl | omega | (simp [filAns, *]; done) | (subst_vars; simp [filAns, *]; done))))   -- leaf 1
        · exact hQ (.tup [.nil, .bool false]) (Eq.trans (by first | rfl | (simp only [lb, lbI, rows_cons, rows_nil, unnilT, unnil, unnilTI, unnilI]; done) | (simp only [lb, lbI, rows_cons, rows_nil, unnilT, unnil, unnilTI, unnilI]; rfl)) (congrArg ((lb 3 1 cInt)) (show ([], false) = filAns (s_A, s_B, s_C, s_D, s_E) (standardA, standardB, standardC, standardD, standardE) from by first | rfl | omega | (simp [filAns, *]; done) | (subst_vars; simp [filAns, *]; done))))   -- leaf 2
      · exact hQ (.tup [.nil, .bool false]) (Eq.trans (by first | rfl | (simp only [lb, lbI, rows_cons, rows_nil, unnilT, unnil, unnilTI, unnilI]; done) | (simp only [lb, lbI, rows_cons, rows_nil, unnilT, unnil, unnilTI, unnilI]; rfl)) (congrArg ((lb 3 1 cInt)) (show ([], false) = filAns (s_A, s_B, s_C, s_D, s_E) (standardA, standardB, standardC, standardD, standardE) from by first | rfl | omega | (simp [filAns, *]; done) | (subst_vars; simp [filAns, *]; done))))   -- leaf 3
    · exact hQ (.tup [.nil, .bool false]) (Eq.trans (by first | rfl | (simp only [lb, lbI, rows_cons, rows_nil, unnilT, unnil, unnilTI, unnilI]; done) | (simp only [lb, lbI, rows_cons, rows_nil, unnilT, unnil, unnilTI, unnilI]; rfl)) (congrArg ((lb 3 1 cInt)) (show ([], false) = filAns (s_A, s_B, s_C, s_D, s_E) (standardA, standardB, standardC, standardD, standardE) from by first | rfl | omega | (simp [filAns, *]; done) | (subst_vars; simp [filAns, *]; done)))))   -- leaf 4

theorem CanBeJustified_ok (s_ : Strike) (standard : Strike)  : OkA Try.prog 24 [.agg (cStrike s_), .agg (cStrike standard)] (· = bb (canAns s_ standard)) := by
  obtain ⟨s_A, s_B, s_C, s_D, s_E⟩ := s_
  obtain ⟨standardA, standardB, standardC, standardD, standardE⟩ := standard
  try dsimp only at *
  exact fn_intro envOk fieldsOk mixed Try.func24 rfl fun κ X Y L Q m hQ => by
    conv => cbv
    refine r_callB m.sX (IsStrike_ok (s_A, s_B, s_C, s_D, s_E)) (fun h1 => ?_) (fun h1 => ?_) <;> conv => cbv
    · refine r_callB m.sX (IsStrike_ok (standardA, standardB, standardC, standardD, standardE)) (fun h2 => ?_) (fun h2 => ?_) <;> conv => cbv
      · refine r_callF (lb 3 1 cInt) m.sX (filings_ok (s_A, s_B, s_C, s_D, s_E) (standardA, standardB, standardC, standardD, standardE) (by first | rfl | assumption | omega | (simp only [List.length_append, List.length_cons, List.length_nil] at *; omega)) (by first | rfl | assumption | omega | (simp only [List.length_append, List.length_cons, List.length_nil] at *; omega))) fun v hv1 => ?_
        obtain ⟨v1, ok⟩ := v
        conv => cbv
        try dsimp only at hv1
        obtain ⟨e1, e2⟩ := Prod.mk.inj hv1
        exact hQ (.tup [.bool ok, .bool true]) (Eq.trans (by first | rfl | (simp only [lb, lbI, rows_cons, rows_nil, unnilT, unnil, unnilTI, unnilI]; done) | (simp only [lb, lbI, rows_cons, rows_nil, unnilT, unnil, unnilTI, unnilI]; rfl)) (congrArg (bb) (show (ok, true) = canAns (s_A, s_B, s_C, s_D, s_E) (standardA, standardB, standardC, standardD, standardE) from by rw [canAns, h1, h2, e2]; rfl)))   -- leaf 1
      · exact hQ (.tup [.bool false, .bool false]) (Eq.trans (by first | rfl | (simp only [lb, lbI, rows_cons, rows_nil, unnilT, unnil, unnilTI, unnilI]; done) | (simp only [lb, lbI, rows_cons, rows_nil, unnilT, unnil, unnilTI, unnilI]; rfl)) (congrArg (bb) (show (false, false) = canAns (s_A, s_B, s_C, s_D, s_E) (standardA, standardB, standardC, standardD, standardE) from by simp [canAns, *])))   -- leaf 2
    · exact hQ (.tup [.bool false, .bool false]) (Eq.trans (by first | rfl | (simp only [lb, lbI, rows_cons, rows_nil, unnilT, unnil, unnilTI, unnilI]; done) | (simp only [lb, lbI, rows_cons, rows_nil, unnilT, unnil, unnilTI, unnilI]; rfl)) (congrArg (bb) (show (false, false) = canAns (s_A, s_B, s_C, s_D, s_E) (standardA, standardB, standardC, standardD, standardE) from by simp [canAns, *])))   -- leaf 3

theorem StandardFor_ok (l : List Strike)  : OkA Try.prog 22 [.isl 5 (rows cStrike l)] (· = stdPV (stdF l)) :=
  fn_intro envOk fieldsOk mixed Try.func22 rfl fun κ X Y L Q m hQ => by
    conv => cbv
    refine r_callB m.sX (areStrikes_ok l) (fun h1 => ?_) (fun h1 => ?_) <;> conv => cbv
    · refine r_lenR m.sX fun n1 hn1 mn1 => ?_
      conv => cbv
      refine r_eql m.sX (fun h2 => ?_) (fun h2 => ?_) <;> conv => cbv
      · exact hQ (.tup [.agg [.int .i64 0, .int .i64 0, .int .i64 0, .int .i64 0, .int .i64 0], .bool false]) (Eq.trans (by first | rfl | (simp only [lb, lbI, rows_cons, rows_nil, unnilT, unnil, unnilTI, unnilI]; done) | (simp only [lb, lbI, rows_cons, rows_nil, unnilT, unnil, unnilTI, unnilI]; rfl)) (congrArg (stdPV) (show ((0, 0, 0, 0, 0), false) = stdF l from by rw [List.eq_nil_of_length_eq_zero (show l.length = 0 by omega)]; rfl)))   -- leaf 1
      · refine r_index m.sX (by omega) (by omega) fun v hxA => ?_
        obtain ⟨xA, xB, xC, xD, xE⟩ := v
        conv => cbv
        have hx := hxA
        have mx := get_mem hx
        refine r_lenR m.sX fun n2 hn2 mn2 => ?_
        conv => cbv
        refine r_loopF (α := Int × Int × Int × Int × Int × Int × Int × Int × Int × Int × Int) m 56 [19, 20, 21] [⟨2, 17, 0, 0, 0⟩, ⟨4, 33, 0, 0, 0⟩] (fun σ => [(2, .optr 17 0 5 0 0), (4, .optr 33 0 5 0 0), (19, .isl 5 (rows cStrike l)), (20, .int .i64 n2), (21, .int .i64 σ.2.2.2.2.2.2.2.2.2.2)]) (fun σ => [(17, 0, .box [.int .i64 σ.1, .int .i64 σ.2.1, .int .i64 σ.2.2.1, .int .i64 σ.2.2.2.1, .int .i64 σ.2.2.2.2.1]), (33, 0, .box [.int .i64 σ.2.2.2.2.2.1, .int .i64 σ.2.2.2.2.2.2.1, .int .i64 σ.2.2.2.2.2.2.2.1, .int .i64 σ.2.2.2.2.2.2.2.2.1, .int .i64 σ.2.2.2.2.2.2.2.2.2.1])])
          (fun σ => (0 ≤ σ.2.2.2.2.2.2.2.2.2.2) ∧ (σ.2.2.2.2.2.2.2.2.2.2 ≤ n2) ∧ (stdG (xA, xB, xC, xD, xE) l = stdG (σ.2.2.2.2.2.1, σ.2.2.2.2.2.2.1, σ.2.2.2.2.2.2.2.1, σ.2.2.2.2.2.2.2.2.1, σ.2.2.2.2.2.2.2.2.2.1) (l.drop σ.2.2.2.2.2.2.2.2.2.2.toNat))) (fun σ => (n2 - σ.2.2.2.2.2.2.2.2.2.2).toNat) (0, 0, 0, 0, 0, xA, xB, xC, xD, xE, 0) ?_ ?_ ?_ ?_
        · cbv
        · cbv
        · exact ⟨(by (try dsimp only); first | omega | (simp only [List.length_nil]; omega)), (by (try dsimp only); first | omega | (simp only [List.length_nil]; omega)), (by (try dsimp only) <;> first | omega | rfl | (simp [*]; done))⟩
        rintro ⟨f1, f2, f3, f4, f5, f6, f7, f8, f9, f10, i1⟩ ⟨lo1, hi1, q⟩ E hE F hF
        dsimp only at lo1 hi1 q
        conv => cbv
        refine r_lss m.sX (fun h3 => ?_) (fun h3 => ?_) <;> conv => cbv
        · refine r_index m.sX (by omega) (by omega) fun v hs_A => ?_
          obtain ⟨s_A, s_B, s_C, s_D, s_E⟩ := v
          conv => cbv
          have hs_ := hs_A
          have ms_ := get_mem hs_
          have ds_ := drop_cons hs_
          have ks_ := take_snoc hs_
          have js_ : (i1 + 1).toNat = Int.toNat i1 + 1 := by omega
          refine r_neq m.sX (fun h4 => ?_) (fun h4 => ?_) <;> conv => cbv
          · refine hF _ _ ?_
            conv => cbv
            exact hQ (.tup [.agg [.int .i64 0, .int .i64 0, .int .i64 0, .int .i64 0, .int .i64 0], .bool false]) (Eq.trans (by first | rfl | (simp only [lb, lbI, rows_cons, rows_nil, unnilT, unnil, unnilTI, unnilI]; done) | (simp only [lb, lbI, rows_cons, rows_nil, unnilT, unnil, unnilTI, unnilI]; rfl)) (congrArg (stdPV) (show ((0, 0, 0, 0, 0), false) = stdF l from by rw [stdF_of hx h1, q, ds_, stdG]; dsimp only; rw [if_neg (by omega)])))   -- leaf 2
          · refine r_min m.sX fun r1 hr1 => ?_
            conv => cbv
            refine r_min m.sX fun r2 hr2 => ?_
            conv => cbv
            refine r_min m.sX fun r3 hr3 => ?_
            conv => cbv
            refine r_min m.sX fun r4 hr4 => ?_
            conv => cbv
            refine r_addf m.sX (by omega) (by omega) fun r5 hr5 => ?_
            conv => cbv
            have tr5 : Int.toNat r5 = Int.toNat i1 + 1 := by omega
            refine hE _ (f1, f2, f3, f4, f5, r1, r2, f8, r3, r4, r5) ?_ ?_ ⟨(by (try dsimp only); first | omega | (simp only [List.length_nil]; omega)), (by (try dsimp only); first | omega | (simp only [List.length_nil]; omega)), (by (try dsimp only) <;> (rw [q, ds_, stdG]; dsimp only; rw [if_pos (by omega), tr5, minS, hr1, hr2, hr3, hr4]))⟩ (by first | omega | (dsimp only; omega))
            · cbv
            · cbv
        · have dz_i1 := drop_end (xs := l) (i := Int.toNat i1) (by omega)
          have tz_i1 := take_end (xs := l) (i := Int.toNat i1) (by omega)
          refine hF _ _ ?_
          conv => cbv
          exact hQ (.tup [.agg [.int .i64 f6, .int .i64 f7, .int .i64 f8, .int .i64 f9, .int .i64 f10], .bool true]) (Eq.trans (by first | rfl | (simp only [lb, lbI, rows_cons, rows_nil, unnilT, unnil, unnilTI, unnilI]; done) | (simp only [lb, lbI, rows_cons, rows_nil, unnilT, unnil, unnilTI, unnilI]; rfl)) (congrArg (stdPV) (show ((f6, f7, f8, f9, f10), true) = stdF l from by rw [stdF_of hx h1, q, dz_i1]; rfl)))   -- leaf 3
    · exact hQ (.tup [.agg [.int .i64 0, .int .i64 0, .int .i64 0, .int .i64 0, .int .i64 0], .bool false]) (Eq.trans (by first | rfl | (simp only [lb, lbI, rows_cons, rows_nil, unnilT, unnil, unnilTI, unnilI]; done) | (simp only [lb, lbI, rows_cons, rows_nil, unnilT, unnil, unnilTI, unnilI]; rfl)) (congrArg (stdPV) (show ((0, 0, 0, 0, 0), false) = stdF l from by exact (stdF_bad h1).symm)))   -- leaf 4

theorem maOf_ok (l : List Int) (hl : l.length = 5) : OkA Try.prog 121 [.isl 1 (rows cInt l)] (· = strPV (ofL l)) :=
  fn_intro envOk fieldsOk mixed Try.func121 rfl fun κ X Y L Q m hQ => by
    conv => cbv
    refine r_draw m (by kernel_rfl) ?_
    conv => cbv
    refine r_index m.sY (by omega) (by omega) fun x1 hx1 => ?_
    conv => cbv
    have mx1 := get_mem hx1
    have vx1 := nth_some hx1
    refine r_index m.sY (by omega) (by omega) fun x2 hx2 => ?_
    conv => cbv
    have mx2 := get_mem hx2
    have vx2 := nth_some hx2
    refine r_index m.sY (by omega) (by omega) fun x3 hx3 => ?_
    conv => cbv
    have mx3 := get_mem hx3
    have vx3 := nth_some hx3
    refine r_index m.sY (by omega) (by omega) fun x4 hx4 => ?_
    conv => cbv
    have mx4 := get_mem hx4
    have vx4 := nth_some hx4
    refine r_index m.sY (by omega) (by omega) fun x5 hx5 => ?_
    conv => cbv
    have mx5 := get_mem hx5
    have vx5 := nth_some hx5
    exact hQ (.agg [.int .i64 x1, .int .i64 x2, .int .i64 x3, .int .i64 x4, .int .i64 x5]) (Eq.trans (by first | rfl | (simp only [lb, lbI, rows_cons, rows_nil, unnilT, unnil, unnilTI, unnilI]; done) | (simp only [lb, lbI, rows_cons, rows_nil, unnilT, unnil, unnilTI, unnilI]; rfl)) (congrArg (strPV) (show (x1, x2, x3, x4, x5) = ofL l from by rw [ofL, ← vx1, ← vx2, ← vx3, ← vx4, ← vx5]; rfl)))   -- leaf 1

theorem specStandardFor_ok (l : List Strike)  : OkA Try.prog 23 [.isl 5 (rows cStrike l)] (· = stdPV (stdF l)) :=
  fn_intro envOk fieldsOk mixed Try.func23 rfl fun κ X Y L Q m hQ => by
    conv => cbv
    refine r_callB m.sX (maList_ok l) (fun h1 => ?_) (fun h1 => ?_) <;> conv => cbv
    · refine r_lenR m.sX fun n1 hn1 mn1 => ?_
      conv => cbv
      refine r_eql m.sX (fun h2 => ?_) (fun h2 => ?_) <;> conv => cbv
      · exact hQ (.tup [.agg [.int .i64 0, .int .i64 0, .int .i64 0, .int .i64 0, .int .i64 0], .bool false]) (Eq.trans (by first | rfl | (simp only [lb, lbI, rows_cons, rows_nil, unnilT, unnil, unnilTI, unnilI]; done) | (simp only [lb, lbI, rows_cons, rows_nil, unnilT, unnil, unnilTI, unnilI]; rfl)) (congrArg (stdPV) (show ((0, 0, 0, 0, 0), false) = stdF l from by rw [List.eq_nil_of_length_eq_zero (show l.length = 0 by omega)]; rfl)))   -- leaf 1
      · refine r_index m.sX (by omega) (by omega) fun v hx1A => ?_
        obtain ⟨x1A, x1B, x1C, x1D, x1E⟩ := v
        conv => cbv
        have hx1 := hx1A
        have mx1 := get_mem hx1
        refine r_callF (fun l => PV.fr _ _ (rows _ l)) m.sX (maParts_ok (x1A, x1B, x1C, x1D, x1E)) fun parts hparts => ?_
        conv => cbv
        try dsimp only at hparts
        refine r_lenR m.sX fun n2 hn2 mn2 => ?_
        conv => cbv
        refine r_loopF (α := Int × Int × Int × Int × Int × List Int × Int) m 57 [0, 22, 23, 24] [⟨2, 17, 0, 0, 0⟩, ⟨4, 33, 3, 1, 0⟩] (fun σ => [(0, .isl 5 (rows cStrike l)), (2, .optr 17 0 5 0 0), (4, .osl 33 0), (22, .isl 5 (rows cStrike l)), (23, .int .i64 n2), (24, .int .i64 σ.2.2.2.2.2.2)]) (fun σ => [(17, 0, .box [.int .i64 σ.1, .int .i64 σ.2.1, .int .i64 σ.2.2.1, .int .i64 σ.2.2.2.1, .int .i64 σ.2.2.2.2.1]), (33, 0, .row 3 1 (rows cInt σ.2.2.2.2.2.1))])
          (fun σ => (0 ≤ σ.2.2.2.2.2.2) ∧ (σ.2.2.2.2.2.2 ≤ n2) ∧ (stdG (x1A, x1B, x1C, x1D, x1E) l = stdG (ofL σ.2.2.2.2.2.1) (l.drop σ.2.2.2.2.2.2.toNat)) ∧ (nth σ.2.2.2.2.2.1 2 = x1C) ∧ (σ.2.2.2.2.2.1.length = 5)) (fun σ => (n2 - σ.2.2.2.2.2.2).toNat) (0, 0, 0, 0, 0, parts, 0) ?_ ?_ ?_ ?_
        · cbv
        · cbv
        · exact ⟨(by (try dsimp only); first | omega | (simp only [List.length_nil]; omega)), (by (try dsimp only); first | omega | (simp only [List.length_nil]; omega)), (by (try dsimp only) <;> (rw [hparts, ofL_parts]; rfl)), (by (try dsimp only) <;> (rw [hparts]; rfl)), (by (try dsimp only) <;> (rw [hparts]; rfl))⟩
        rintro ⟨f1, f2, f3, f4, f5, parts_2, i1⟩ ⟨lo1, hi1, q, f, ln⟩ E hE F hF
        dsimp only at lo1 hi1 q f ln
        conv => cbv
        refine r_lss m.sX (fun h3 => ?_) (fun h3 => ?_) <;> conv => cbv
        · refine r_index m.sX (by omega) (by omega) fun v hs_A => ?_
          obtain ⟨s_A, s_B, s_C, s_D, s_E⟩ := v
          conv => cbv
          have hs_ := hs_A
          have ms_ := get_mem hs_
          have ds_ := drop_cons hs_
          have ks_ := take_snoc hs_
          have js_ : (i1 + 1).toNat = Int.toNat i1 + 1 := by omega
          refine r_draw m (by kernel_rfl) ?_
          conv => cbv
          refine r_index m.sY (by omega) (by omega) fun v hx2A => ?_
          obtain ⟨x2A, x2B, x2C, x2D, x2E⟩ := v
          conv => cbv
          have hx2 := hx2A
          have mx2 := get_mem hx2
          obtain ⟨rfl, rfl, rfl, rfl, rfl⟩ : x1A = x2A ∧ x1B = x2B ∧ x1C = x2C ∧ x1D = x2D ∧ x1E = x2E := by have := Option.some.inj (hx1.symm.trans hx2); simpa using this
          refine r_neq m.sY (fun h4 => ?_) (fun h4 => ?_) <;> conv => cbv
          · refine hF _ _ ?_
            conv => cbv
            exact hQ (.tup [.agg [.int .i64 0, .int .i64 0, .int .i64 0, .int .i64 0, .int .i64 0], .bool false]) (Eq.trans (by first | rfl | (simp only [lb, lbI, rows_cons, rows_nil, unnilT, unnil, unnilTI, unnilI]; done) | (simp only [lb, lbI, rows_cons, rows_nil, unnilT, unnil, unnilTI, unnilI]; rfl)) (congrArg (stdPV) (show ((0, 0, 0, 0, 0), false) = stdF l from by rw [stdF_of hx1 h1, q, ds_, stdG_ne (show (s_A, s_B, s_C, s_D, s_E).2.2.1 ≠ (ofL parts_2).2.2.1 from show ¬ s_C = nth parts_2 2 by omega)])))   -- leaf 2
          · refine r_callF (fun l => PV.fr _ _ (rows _ l)) m.sX (maParts_ok (s_A, s_B, s_C, s_D, s_E)) fun v1 hv1 => ?_
            conv => cbv
            try dsimp only at hv1
            have lv : v1.length = 5 := by rw [hv1]; rfl
            refine r_lenR m.sX fun n3 hn3 mn3 => ?_
            conv => cbv
            refine r_loopF (α := List Int × Int) m 57 [0, 22, 23, 24, 38, 39] [⟨2, 17, 0, 0, 0⟩, ⟨4, 33, 3, 1, 0⟩, ⟨37, 297, 3, 1, 0⟩] (fun σ => [(0, .isl 5 (rows cStrike l)), (2, .optr 17 0 5 0 0), (4, .osl 33 0), (22, .isl 5 (rows cStrike l)), (23, .int .i64 n2), (24, .int .i64 i1), (37, .osl 297 0), (38, .int .i64 n3), (39, .int .i64 σ.2)]) (fun σ => [(17, 0, .box [.int .i64 f1, .int .i64 f2, .int .i64 f3, .int .i64 f4, .int .i64 f5]), (33, 0, .row 3 1 (rows cInt σ.1)), (297, 0, .row 3 1 (rows cInt v1))])
              (fun σ => (0 ≤ σ.2) ∧ (σ.2 ≤ n3) ∧ (σ.1 = (minL parts_2 v1).take σ.2.toNat ++ parts_2.drop σ.2.toNat)) (fun σ => (n3 - σ.2).toNat) (parts_2, 0) ?_ ?_ ?_ ?_
            · cbv
            · cbv
            · exact ⟨(by (try dsimp only); first | omega | (simp only [List.length_nil]; omega)), (by (try dsimp only); first | omega | (simp only [List.length_nil]; omega)), (by (try dsimp only) <;> (rfl))⟩
            rintro ⟨parts_3, i2⟩ ⟨lo2, hi2, p⟩ E2 hE2 F2 hF2
            dsimp only at lo2 hi2 p
            have l3 : parts_3.length = 5 := by rw [p]; simp only [List.length_append, List.length_take, List.length_drop, minL_length (show parts_2.length = v1.length by omega)]; omega
            conv => cbv
            refine r_lss m.sX (fun h5 => ?_) (fun h5 => ?_) <;> conv => cbv
            · refine r_oindex m.sX (by omega) (by omega) ?_
              conv => cbv
              obtain ⟨n, hn⟩ := get_ex (xs := v1) (i := Int.toNat i2) (by omega)
              have mn := get_mem hn
              have dn := drop_cons hn
              have kn := take_snoc hn
              have jn : (i2 + 1).toNat = Int.toNat i2 + 1 := by omega
              have vn := nth_some hn
              refine r_oload m.sX hn (Nat.le_of_ble_eq_true rfl) ?_
              conv => cbv
              refine r_oindex m.sX (by omega) (by omega) ?_
              conv => cbv
              obtain ⟨x3, hx3⟩ := get_ex (xs := parts_3) (i := Int.toNat i2) (by omega)
              have mx3 := get_mem hx3
              have dx3 := drop_cons hx3
              have kx3 := take_snoc hx3
              have jx3 : (i2 + 1).toNat = Int.toNat i2 + 1 := by omega
              have vx3 := nth_some hx3
              rw [min_at (by omega) p (by omega)] at vx3
              refine r_oload m.sX hx3 (Nat.le_of_ble_eq_true rfl) ?_
              conv => cbv
              refine r_callF (PV.int .i64) m.sX (l1Least_ok x3 n) fun r1 hr1 => ?_
              conv => cbv
              try dsimp only at hr1
              refine r_oindex m.sX (by omega) (by omega) ?_
              conv => cbv
              obtain ⟨y1, hy1⟩ := get_ex (xs := parts_3) (i := Int.toNat i2) (by omega)
              refine r_ostore (l := Int.toNat i2) r1 m.sX hy1 (Nat.le_of_ble_eq_true rfl) rfl fun parts_4 hparts_4 => ?_   -- parts_4 = parts_3.set i2 r1
              have lparts_4 : (parts_4.length : Int) = parts_3.length := by rw [hparts_4]; first | done | (simp; done) | (simp; omega)
              conv => cbv
              refine r_addf m.sX (by omega) (by omega) fun r2 hr2 => ?_
              conv => cbv
              have tr2 : Int.toNat r2 = Int.toNat i2 + 1 := by omega
              refine hE2 _ (parts_4, r2) ?_ ?_ ⟨(by (try dsimp only); first | omega | (simp only [List.length_nil]; omega)), (by (try dsimp only); first | omega | (simp only [List.length_nil]; omega)), (by (try dsimp only) <;> (rw [hparts_4, tr2]; exact min_step (by omega) p (by omega) (by rw [hr1, vx3, vn])))⟩ (by first | omega | (dsimp only; omega))
              · cbv
              · cbv
            · have dz_i2 := drop_end (xs := v1) (i := Int.toNat i2) (by omega)
              have tz_i2 := take_end (xs := v1) (i := Int.toNat i2) (by omega)
              refine hF2 _ _ ?_
              conv => cbv
              refine r_addf m.sX (by omega) (by omega) fun r3 hr3 => ?_
              conv => cbv
              have tr3 : Int.toNat r3 = Int.toNat i1 + 1 := by omega
              refine hE _ (f1, f2, f3, f4, f5, parts_3, r3) ?_ ?_ ⟨(by (try dsimp only); first | omega | (simp only [List.length_nil]; omega)), (by (try dsimp only); first | omega | (simp only [List.length_nil]; omega)), (by (try dsimp only) <;> (rw [drop_end (xs := parts_2) (by omega), take_end (by rw [minL_length (by omega)]; omega), List.append_nil, hv1] at p; rw [q, ds_, stdG_eq (show (s_A, s_B, s_C, s_D, s_E).2.2.1 = (ofL parts_2).2.2.1 from show s_C = nth parts_2 2 by omega), p, ofL_min ln (show nth parts_2 2 = s_C by omega), tr3])), (by (try dsimp only) <;> (rw [drop_end (xs := parts_2) (by omega), take_end (by rw [minL_length (by omega)]; omega), List.append_nil, hv1] at p; rw [p, min_face ln (show nth parts_2 2 = s_C by omega)]; exact f)), (by (try dsimp only) <;> first | omega | rfl | (simp [*]; done) | (rw [ln]; simp [*]; done))⟩ (by first | omega | (dsimp only; omega))
              · cbv
              · cbv
        · have dz_i1 := drop_end (xs := l) (i := Int.toNat i1) (by omega)
          have tz_i1 := take_end (xs := l) (i := Int.toNat i1) (by omega)
          refine hF _ _ ?_
          conv => cbv
          refine .inl (r_callFO strPV m.sX ((maOf_ok parts_2 (by first | rfl | assumption | omega | (simp only [List.length_append, List.length_cons, List.length_nil] at *; omega))).ok flat_strPV) fun v hv2A => ?_)
          obtain ⟨v2A, v2B, v2C, v2D, v2E⟩ := v
          conv => cbv
          try dsimp only at hv2
          have hv2 := hv2A
          exact hQ (.tup [.agg [.int .i64 v2A, .int .i64 v2B, .int .i64 v2C, .int .i64 v2D, .int .i64 v2E], .bool true]) (Eq.trans (by first | rfl | (simp only [lb, lbI, rows_cons, rows_nil, unnilT, unnil, unnilTI, unnilI]; done) | (simp only [lb, lbI, rows_cons, rows_nil, unnilT, unnil, unnilTI, unnilI]; rfl)) (congrArg (stdPV) (show ((v2A, v2B, v2C, v2D, v2E), true) = stdF l from by rw [stdF_of hx1 h1, q, dz_i1, hv2]; rfl)))   -- leaf 3
    · exact hQ (.tup [.agg [.int .i64 0, .int .i64 0, .int .i64 0, .int .i64 0, .int .i64 0], .bool false]) (Eq.trans (by first | rfl | (simp only [lb, lbI, rows_cons, rows_nil, unnilT, unnil, unnilTI, unnilI]; done) | (simp only [lb, lbI, rows_cons, rows_nil, unnilT, unnil, unnilTI, unnilI]; rfl)) (congrArg (stdPV) (show ((0, 0, 0, 0, 0), false) = stdF l from by exact (stdF_bad h1).symm)))   -- leaf 4

theorem abs_ok (n : Int) (hn : -1000000 ≤ n ∧ n ≤ 1000000) : OkA Try.prog 132 [.int .i64 n] (· = .int .i64 (max n (-n))) :=
  fn_intro envOk fieldsOk mixed Try.func132 rfl fun κ X Y L Q m hQ => by
    conv => cbv
    refine r_neg m.sX fun r1 hr1 => ?_   -- r1 = wrap (-n)
    rw [wrap64 (by omega) (by omega)] at hr1
    conv => cbv
    refine r_max m.sX fun r2 hr2 => ?_
    conv => cbv
    exact hQ (.int .i64 r2) (Eq.trans (by first | rfl | (simp only [lb, lbI, rows_cons, rows_nil, unnilT, unnil, unnilTI, unnilI]; done) | (simp only [lb, lbI, rows_cons, rows_nil, unnilT, unnil, unnilTI, unnilI]; rfl)) (congrArg (PV.int .i64) (show r2 = max n (-n) from by omega)))   -- leaf 1

theorem OffStandard_ok (l : List Strike) (standard : Strike) (most : Int)  : OkA Try.prog 33 [.isl 5 (rows cStrike l), .agg (cStrike standard), .int .i64 most] (· = (lb 3 1 cInt) (offAns l standard most)) := by
  obtain ⟨standardA, standardB, standardC, standardD, standardE⟩ := standard
  try dsimp only at *
  exact OkA.unnil 3 1 (fn_intro envOk fieldsOk mixed Try.func33 rfl fun κ X Y L Q m hQ => by
    conv => cbv
    refine r_callB m.sX (areStrikes_ok l) (fun h1 => ?_) (fun h1 => ?_) <;> conv => cbv
    · have tt := okStrs_spec h1
      try dsimp only at tt
      refine r_callB m.sX (IsStrike_ok (standardA, standardB, standardC, standardD, standardE)) (fun h2 => ?_) (fun h2 => ?_) <;> conv => cbv
      · refine r_callB m.sX (within_ok most 0 999) (fun h3 => ?_) (fun h3 => ?_) <;> conv => cbv
        · have bm := inB_spec h3
          try dsimp only at bm
          refine r_lenR m.sX fun n1 hn1 mn1 => ?_
          conv => cbv
          refine r_loopF (α := List Int × Int) m 65 [2, 31, 32, 33] [⟨4, 33, 0, 0, 0⟩, ⟨8, 65, 3, 1, 0⟩] (fun σ => [(2, .int .i64 most), (4, .optr 33 0 5 0 0), (8, .osl 65 0), (31, .isl 5 (rows cStrike l)), (32, .int .i64 n1), (33, .int .i64 σ.2)]) (fun σ => [(33, 0, .box [.int .i64 standardA, .int .i64 standardB, .int .i64 standardC, .int .i64 standardD, .int .i64 standardE]), (65, 0, .row 3 1 (rows cInt σ.1))])
            (fun σ => (0 ≤ σ.2) ∧ (σ.2 ≤ n1) ∧ (offL (standardA, standardB, standardC, standardD, standardE) most 0 l = σ.1 ++ offL (standardA, standardB, standardC, standardD, standardE) most σ.2 (l.drop σ.2.toNat)) ∧ ((σ.1.length : Int) ≤ σ.2)) (fun σ => (n1 - σ.2).toNat) ([], 0) ?_ ?_ ?_ ?_
          · cbv
          · (try dsimp only); simp only [rows_cons, rows_nil]; cbv
          · exact ⟨(by (try dsimp only); first | omega | (simp only [List.length_nil]; omega)), (by (try dsimp only); first | omega | (simp only [List.length_nil]; omega)), (by (try dsimp only) <;> first | omega | rfl | (simp [*]; done)), (by (try dsimp only) <;> first | omega | rfl | (simp [*]; done))⟩
          rintro ⟨list, i1⟩ ⟨lo1, hi1, q, ln⟩ E hE F hF
          dsimp only at lo1 hi1 q ln
          conv => cbv
          refine r_lss m.sX (fun h4 => ?_) (fun h4 => ?_) <;> conv => cbv
          · refine r_index m.sX (by omega) (by omega) fun v hs_A => ?_
            obtain ⟨s_A, s_B, s_C, s_D, s_E⟩ := v
            conv => cbv
            have hs_ := hs_A
            have ms_ := get_mem hs_
            have ds_ := drop_cons hs_
            have ks_ := take_snoc hs_
            have js_ : (i1 + 1).toNat = Int.toNat i1 + 1 := by omega
            have os := tt.1 _ ms_
            try dsimp only at os
            refine r_callF (lb 3 1 cInt) m.sX (filings_ok (s_A, s_B, s_C, s_D, s_E) (standardA, standardB, standardC, standardD, standardE) (by first | rfl | assumption | omega | (simp only [List.length_append, List.length_cons, List.length_nil] at *; omega)) (by first | rfl | assumption | omega | (simp only [List.length_append, List.length_cons, List.length_nil] at *; omega))) fun v hdifferences => ?_
            obtain ⟨differences, v1⟩ := v
            conv => cbv
            try dsimp only at hdifferences
            obtain ⟨e1, e2⟩ := Prod.mk.inj hdifferences
            refine r_lenR m.sX fun n2 hn2 mn2 => ?_
            conv => cbv
            refine r_loopF (α := Bool × Int) m 65 [2, 9, 11, 31, 32, 33, 45, 46] [⟨4, 33, 0, 0, 0⟩, ⟨8, 65, 3, 1, 0⟩, ⟨44, 353, 3, 1, 0⟩] (fun σ => [(2, .int .i64 most), (4, .optr 33 0 5 0 0), (8, .osl 65 0), (9, .int .i64 i1), (11, .bool σ.1), (31, .isl 5 (rows cStrike l)), (32, .int .i64 n1), (33, .int .i64 i1), (44, .osl 353 0), (45, .int .i64 n2), (46, .int .i64 σ.2)]) (fun σ => [(33, 0, .box [.int .i64 standardA, .int .i64 standardB, .int .i64 standardC, .int .i64 standardD, .int .i64 standardE]), (65, 0, .row 3 1 (rows cInt list)), (353, 0, .row 3 1 (rows cInt differences))])
              (fun σ => (0 ≤ σ.2) ∧ (σ.2 ≤ n2) ∧ (offS (standardA, standardB, standardC, standardD, standardE) most (s_A, s_B, s_C, s_D, s_E) = (σ.1 || !allB (differences.drop σ.2.toNat) (-most) most))) (fun σ => (n2 - σ.2).toNat) (false, 0) ?_ ?_ ?_ ?_
            · cbv
            · cbv
            · exact ⟨(by (try dsimp only); first | omega | (simp only [List.length_nil]; omega)), (by (try dsimp only); first | omega | (simp only [List.length_nil]; omega)), (by (try dsimp only) <;> (rw [offS, ← e1]; rfl))⟩
            rintro ⟨off, i2⟩ ⟨lo2, hi2, o⟩ E2 hE2 F2 hF2
            dsimp only at lo2 hi2 o
            conv => cbv
            refine r_lss m.sX (fun h5 => ?_) (fun h5 => ?_) <;> conv => cbv
            · refine r_oindex m.sX (by omega) (by omega) ?_
              conv => cbv
              obtain ⟨n, hn⟩ := get_ex (xs := differences) (i := Int.toNat i2) (by omega)
              have mn := get_mem hn
              have dn := drop_cons hn
              have kn := take_snoc hn
              have jn : (i2 + 1).toNat = Int.toNat i2 + 1 := by omega
              have vn := nth_some hn
              have bn := filL_mem os h2 n (e1 ▸ mn)
              try dsimp only at bn
              refine r_oload m.sX hn (Nat.le_of_ble_eq_true rfl) ?_
              conv => cbv
              rcases Bool.eq_false_or_eq_true off with rfl | rfl <;> conv => cbv
              · refine r_addf m.sX (by omega) (by omega) fun r1 hr1 => ?_
                conv => cbv
                have tr1 : Int.toNat r1 = Int.toNat i2 + 1 := by omega
                refine hE2 _ (true, r1) ?_ ?_ ⟨(by (try dsimp only); first | omega | (simp only [List.length_nil]; omega)), (by (try dsimp only); first | omega | (simp only [List.length_nil]; omega)), (by (try dsimp only) <;> (rw [o, dn, tr1, allB_cons]; first | rfl | (rw [show inB n (-most) most = false by simp [inB]; omega]; rfl) | (rw [show inB n (-most) most = true by simp [inB]; omega]; rfl)))⟩ (by first | omega | (dsimp only; omega))
                · cbv
                · cbv
              · refine r_callF (PV.int .i64) m.sX (abs_ok n (by first | rfl | assumption | omega | (simp only [List.length_append, List.length_cons, List.length_nil] at *; omega))) fun r2 hr2 => ?_
                conv => cbv
                try dsimp only at hr2
                refine r_gtr m.sX (fun h6 => ?_) (fun h6 => ?_) <;> conv => cbv
                · refine r_addf m.sX (by omega) (by omega) fun r3 hr3 => ?_
                  conv => cbv
                  have tr3 : Int.toNat r3 = Int.toNat i2 + 1 := by omega
                  refine hE2 _ (true, r3) ?_ ?_ ⟨(by (try dsimp only); first | omega | (simp only [List.length_nil]; omega)), (by (try dsimp only); first | omega | (simp only [List.length_nil]; omega)), (by (try dsimp only) <;> (rw [o, dn, tr3, allB_cons]; first | rfl | (rw [show inB n (-most) most = false by simp [inB]; omega]; rfl) | (rw [show inB n (-most) most = true by simp [inB]; omega]; rfl)))⟩ (by first | omega | (dsimp only; omega))
                  · cbv
                  · cbv
                · refine r_addf m.sX (by omega) (by omega) fun r4 hr4 => ?_
                  conv => cbv
                  have tr4 : Int.toNat r4 = Int.toNat i2 + 1 := by omega
                  refine hE2 _ (false, r4) ?_ ?_ ⟨(by (try dsimp only); first | omega | (simp only [List.length_nil]; omega)), (by (try dsimp only); first | omega | (simp only [List.length_nil]; omega)), (by (try dsimp only) <;> (rw [o, dn, tr4, allB_cons]; first | rfl | (rw [show inB n (-most) most = false by simp [inB]; omega]; rfl) | (rw [show inB n (-most) most = true by simp [inB]; omega]; rfl)))⟩ (by first | omega | (dsimp only; omega))
                  · cbv
                  · cbv
            · have dz_i2 := drop_end (xs := differences) (i := Int.toNat i2) (by omega)
              have tz_i2 := take_end (xs := differences) (i := Int.toNat i2) (by omega)
              refine hF2 _ _ ?_
              conv => cbv
              rcases Bool.eq_false_or_eq_true off with rfl | rfl <;> conv => cbv
              · refine r_append1 (i1) m.sX rfl (by first | omega | (dsimp only; omega)) (by first | omega | (dsimp only; omega)) fun list_2 hlist_2 => ?_
                conv => cbv
                have llist_2 : (list_2.length : Int) = list.length + 1 := by rw [hlist_2]; first | done | (simp; done) | (simp; omega)
                refine r_addf m.sX (by omega) (by omega) fun r5 hr5 => ?_
                conv => cbv
                have tr5 : Int.toNat r5 = Int.toNat i1 + 1 := by omega
                refine hE _ (list_2, r5) ?_ ?_ ⟨(by (try dsimp only); first | omega | (simp only [List.length_nil]; omega)), (by (try dsimp only); first | omega | (simp only [List.length_nil]; omega)), (by (try dsimp only) <;> (rw [dz_i2] at o; rw [q, ds_, tr5, offL, o, show i1 + 1 = r5 by omega]; simp [allB_nil, *])), (by (try dsimp only) <;> first | omega | rfl | (simp [*]; done) | (rw [ln]; simp [*]; done))⟩ (by first | omega | (dsimp only; omega))
                · cbv
                · cbv
              · refine r_addf m.sX (by omega) (by omega) fun r6 hr6 => ?_
                conv => cbv
                have tr6 : Int.toNat r6 = Int.toNat i1 + 1 := by omega
                refine hE _ (list, r6) ?_ ?_ ⟨(by (try dsimp only); first | omega | (simp only [List.length_nil]; omega)), (by (try dsimp only); first | omega | (simp only [List.length_nil]; omega)), (by (try dsimp only) <;> (rw [dz_i2] at o; rw [q, ds_, tr6, offL, o, show i1 + 1 = r6 by omega]; simp [allB_nil, *])), (by (try dsimp only) <;> first | omega | rfl | (simp [*]; done) | (rw [ln]; simp [*]; done))⟩ (by first | omega | (dsimp only; omega))
                · cbv
                · cbv
          · have dz_i1 := drop_end (xs := l) (i := Int.toNat i1) (by omega)
            have tz_i1 := take_end (xs := l) (i := Int.toNat i1) (by omega)
            refine hF _ _ ?_
            conv => cbv
            exact hQ (.tup [.fr 3 1 (rows cInt list), .bool true]) (Eq.trans (by first | rfl | (simp only [lb, lbI, rows_cons, rows_nil, unnilT, unnil, unnilTI, unnilI]; done) | (simp only [lb, lbI, rows_cons, rows_nil, unnilT, unnil, unnilTI, unnilI]; rfl)) (congrArg ((lb 3 1 cInt)) (show (list, true) = offAns l (standardA, standardB, standardC, standardD, standardE) most from by rw [offAns, h1, h2, h3, q, dz_i1]; simp [offL])))   -- leaf 1
        · exact hQ (.tup [.fr 3 1 [], .bool false]) (Eq.trans (by first | rfl | (simp only [lb, lbI, rows_cons, rows_nil, unnilT, unnil, unnilTI, unnilI]; done) | (simp only [lb, lbI, rows_cons, rows_nil, unnilT, unnil, unnilTI, unnilI]; rfl)) (congrArg ((lb 3 1 cInt)) (show ([], false) = offAns l (standardA, standardB, standardC, standardD, standardE) most from by simp [offAns, *])))   -- leaf 2
      · exact hQ (.tup [.fr 3 1 [], .bool false]) (Eq.trans (by first | rfl | (simp only [lb, lbI, rows_cons, rows_nil, unnilT, unnil, unnilTI, unnilI]; done) | (simp only [lb, lbI, rows_cons, rows_nil, unnilT, unnil, unnilTI, unnilI]; rfl)) (congrArg ((lb 3 1 cInt)) (show ([], false) = offAns l (standardA, standardB, standardC, standardD, standardE) most from by simp [offAns, *])))   -- leaf 3
    · exact hQ (.tup [.fr 3 1 [], .bool false]) (Eq.trans (by first | rfl | (simp only [lb, lbI, rows_cons, rows_nil, unnilT, unnil, unnilTI, unnilI]; done) | (simp only [lb, lbI, rows_cons, rows_nil, unnilT, unnil, unnilTI, unnilI]; rfl)) (congrArg ((lb 3 1 cInt)) (show ([], false) = offAns l (standardA, standardB, standardC, standardD, standardE) most from by simp [offAns, *]))))   -- leaf 4

theorem specOffStandard_ok (l : List Strike) (standard : Strike) (most : Int)  : OkA Try.prog 34 [.isl 5 (rows cStrike l), .agg (cStrike standard), .int .i64 most] (· = (lb 3 1 cInt) (offAns l standard most)) := by
  obtain ⟨standardA, standardB, standardC, standardD, standardE⟩ := standard
  try dsimp only at *
  exact OkA.unnil 3 1 (fn_intro envOk fieldsOk mixed Try.func34 rfl fun κ X Y L Q m hQ => by
    conv => cbv
    refine r_callB m.sX (maList_ok l) (fun h1 => ?_) (fun h1 => ?_) <;> conv => cbv
    · have tt := okStrs_spec h1
      try dsimp only at tt
      refine r_callB m.sX (maGood_ok (standardA, standardB, standardC, standardD, standardE)) (fun h2 => ?_) (fun h2 => ?_) <;> conv => cbv
      · refine r_callB m.sX (l1In_ok most 0 999) (fun h3 => ?_) (fun h3 => ?_) <;> conv => cbv
        · have bm := inB_spec h3
          try dsimp only at bm
          refine r_lenR m.sX fun n1 hn1 mn1 => ?_
          conv => cbv
          refine r_loopF (α := List Int × Int) m 45 [2, 24, 25, 26] [⟨4, 33, 0, 0, 0⟩, ⟨8, 65, 3, 1, 0⟩] (fun σ => [(2, .int .i64 most), (4, .optr 33 0 5 0 0), (8, .osl 65 0), (24, .isl 5 (rows cStrike l)), (25, .int .i64 n1), (26, .int .i64 σ.2)]) (fun σ => [(33, 0, .box [.int .i64 standardA, .int .i64 standardB, .int .i64 standardC, .int .i64 standardD, .int .i64 standardE]), (65, 0, .row 3 1 (rows cInt σ.1))])
            (fun σ => (0 ≤ σ.2) ∧ (σ.2 ≤ n1) ∧ (offL (standardA, standardB, standardC, standardD, standardE) most 0 l = σ.1 ++ offL (standardA, standardB, standardC, standardD, standardE) most σ.2 (l.drop σ.2.toNat)) ∧ ((σ.1.length : Int) ≤ σ.2)) (fun σ => (n1 - σ.2).toNat) ([], 0) ?_ ?_ ?_ ?_
          · cbv
          · (try dsimp only); simp only [rows_cons, rows_nil]; cbv
          · exact ⟨(by (try dsimp only); first | omega | (simp only [List.length_nil]; omega)), (by (try dsimp only); first | omega | (simp only [List.length_nil]; omega)), (by (try dsimp only) <;> first | omega | rfl | (simp [*]; done)), (by (try dsimp only) <;> first | omega | rfl | (simp [*]; done))⟩
          rintro ⟨out, i1⟩ ⟨lo1, hi1, q, ln⟩ E hE F hF
          dsimp only at lo1 hi1 q ln
          conv => cbv
          refine r_lss m.sX (fun h4 => ?_) (fun h4 => ?_) <;> conv => cbv
          · refine r_index m.sX (by omega) (by omega) fun v hs_A => ?_
            obtain ⟨s_A, s_B, s_C, s_D, s_E⟩ := v
            conv => cbv
            have hs_ := hs_A
            have ms_ := get_mem hs_
            have ds_ := drop_cons hs_
            have ks_ := take_snoc hs_
            have js_ : (i1 + 1).toNat = Int.toNat i1 + 1 := by omega
            have os := tt.1 _ ms_
            try dsimp only at os
            refine r_callF (fun l => PV.fr _ _ (rows _ l)) m.sX (maFilings_ok (s_A, s_B, s_C, s_D, s_E) (standardA, standardB, standardC, standardD, standardE) (by first | rfl | assumption | omega | (simp only [List.length_append, List.length_cons, List.length_nil] at *; omega)) (by first | rfl | assumption | omega | (simp only [List.length_append, List.length_cons, List.length_nil] at *; omega))) fun v1 hv1 => ?_
            conv => cbv
            try dsimp only at hv1
            refine r_neg m.sX fun r1 hr1 => ?_   -- r1 = wrap (-most)
            rw [wrap64 (by omega) (by omega)] at hr1
            conv => cbv
            refine .inl (r_callBO m.sX ((l1All_ok v1 r1 most).ok flat_bool) (fun h5 => ?_) (fun h5 => ?_)) <;> conv => cbv
            · refine r_addf m.sX (by omega) (by omega) fun r2 hr2 => ?_
              conv => cbv
              have tr2 : Int.toNat r2 = Int.toNat i1 + 1 := by omega
              refine hE _ (out, r2) ?_ ?_ ⟨(by (try dsimp only); first | omega | (simp only [List.length_nil]; omega)), (by (try dsimp only); first | omega | (simp only [List.length_nil]; omega)), (by (try dsimp only) <;> (rw [q, ds_, tr2, offL, offS, ← hv1, ← hr1, h5, show i1 + 1 = r2 by omega]; simp [*])), (by (try dsimp only) <;> first | omega | rfl | (simp [*]; done) | (rw [ln]; simp [*]; done))⟩ (by first | omega | (dsimp only; omega))
              · cbv
              · cbv
            · refine r_append1 (i1) m.sX rfl (by first | omega | (dsimp only; omega)) (by first | omega | (dsimp only; omega)) fun out_2 hout_2 => ?_
              conv => cbv
              have lout_2 : (out_2.length : Int) = out.length + 1 := by rw [hout_2]; first | done | (simp; done) | (simp; omega)
              refine r_addf m.sX (by omega) (by omega) fun r3 hr3 => ?_
              conv => cbv
              have tr3 : Int.toNat r3 = Int.toNat i1 + 1 := by omega
              refine hE _ (out_2, r3) ?_ ?_ ⟨(by (try dsimp only); first | omega | (simp only [List.length_nil]; omega)), (by (try dsimp only); first | omega | (simp only [List.length_nil]; omega)), (by (try dsimp only) <;> (rw [q, ds_, tr3, offL, offS, ← hv1, ← hr1, h5, show i1 + 1 = r3 by omega]; simp [*])), (by (try dsimp only) <;> first | omega | rfl | (simp [*]; done) | (rw [ln]; simp [*]; done))⟩ (by first | omega | (dsimp only; omega))
              · cbv
              · cbv
          · have dz_i1 := drop_end (xs := l) (i := Int.toNat i1) (by omega)
            have tz_i1 := take_end (xs := l) (i := Int.toNat i1) (by omega)
            refine hF _ _ ?_
            conv => cbv
            exact hQ (.tup [.fr 3 1 (rows cInt out), .bool true]) (Eq.trans (by first | rfl | (simp only [lb, lbI, rows_cons, rows_nil, unnilT, unnil, unnilTI, unnilI]; done) | (simp only [lb, lbI, rows_cons, rows_nil, unnilT, unnil, unnilTI, unnilI]; rfl)) (congrArg ((lb 3 1 cInt)) (show (out, true) = offAns l (standardA, standardB, standardC, standardD, standardE) most from by rw [offAns, h1, h2, h3, q, dz_i1]; simp [offL])))   -- leaf 1
        · exact hQ (.tup [.nil, .bool false]) (Eq.trans (by first | rfl | (simp only [lb, lbI, rows_cons, rows_nil, unnilT, unnil, unnilTI, unnilI]; done) | (simp only [lb, lbI, rows_cons, rows_nil, unnilT, unnil, unnilTI, unnilI]; rfl)) (congrArg ((lb 3 1 cInt)) (show ([], false) = offAns l (standardA, standardB, standardC, standardD, standardE) most from by simp [offAns, *])))   -- leaf 2
      · exact hQ (.tup [.nil, .bool false]) (Eq.trans (by first | rfl | (simp only [lb, lbI, rows_cons, rows_nil, unnilT, unnil, unnilTI, unnilI]; done) | (simp only [lb, lbI, rows_cons, rows_nil, unnilT, unnil, unnilTI, unnilI]; rfl)) (congrArg ((lb 3 1 cInt)) (show ([], false) = offAns l (standardA, standardB, standardC, standardD, standardE) most from by simp [offAns, *])))   -- leaf 3
    · exact hQ (.tup [.nil, .bool false]) (Eq.trans (by first | rfl | (simp only [lb, lbI, rows_cons, rows_nil, unnilT, unnil, unnilTI, unnilI]; done) | (simp only [lb, lbI, rows_cons, rows_nil, unnilT, unnil, unnilTI, unnilI]; rfl)) (congrArg ((lb 3 1 cInt)) (show ([], false) = offAns l (standardA, standardB, standardC, standardD, standardE) most from by simp [offAns, *]))))   -- leaf 4

theorem LeastFiled_ok (l : List Strike) (standard : Strike)  : OkA Try.prog 26 [.isl 5 (rows cStrike l), .agg (cStrike standard)] (· = iib (leastAns l standard)) := by
  obtain ⟨standardA, standardB, standardC, standardD, standardE⟩ := standard
  try dsimp only at *
  exact fn_intro envOk fieldsOk mixed Try.func26 rfl fun κ X Y L Q m hQ => by
    conv => cbv
    refine r_callB m.sX (areStrikes_ok l) (fun h1 => ?_) (fun h1 => ?_) <;> conv => cbv
    · have tt := okStrs_spec h1
      try dsimp only at tt
      refine r_callB m.sX (IsStrike_ok (standardA, standardB, standardC, standardD, standardE)) (fun h2 => ?_) (fun h2 => ?_) <;> conv => cbv
      · refine r_lenR m.sX fun n1 hn1 mn1 => ?_
        conv => cbv
        refine r_loopF (α := Int × Int × Int) m 53 [7, 8, 21, 22, 23] [⟨3, 25, 0, 0, 0⟩] (fun σ => [(3, .optr 25 0 5 0 0), (7, .int .i64 σ.1), (8, .int .i64 σ.2.1), (21, .isl 5 (rows cStrike l)), (22, .int .i64 n1), (23, .int .i64 σ.2.2)]) (fun σ => [(25, 0, .box [.int .i64 standardA, .int .i64 standardB, .int .i64 standardC, .int .i64 standardD, .int .i64 standardE])])
          (fun σ => (0 ≤ σ.2.2) ∧ (σ.2.2 ≤ n1) ∧ (leastG (standardA, standardB, standardC, standardD, standardE) 0 (-1) 0 l = leastG (standardA, standardB, standardC, standardD, standardE) σ.2.2 σ.1 σ.2.1 (l.drop σ.2.2.toNat))) (fun σ => (n1 - σ.2.2).toNat) (-1, 0, 0) ?_ ?_ ?_ ?_
        · cbv
        · cbv
        · exact ⟨(by (try dsimp only); first | omega | (simp only [List.length_nil]; omega)), (by (try dsimp only); first | omega | (simp only [List.length_nil]; omega)), (by (try dsimp only) <;> first | omega | rfl | (simp [*]; done))⟩
        rintro ⟨best, least, i1⟩ ⟨lo1, hi1, q⟩ E hE F hF
        dsimp only at lo1 hi1 q
        conv => cbv
        refine r_lss m.sX (fun h3 => ?_) (fun h3 => ?_) <;> conv => cbv
        · refine r_index m.sX (by omega) (by omega) fun v hs_A => ?_
          obtain ⟨s_A, s_B, s_C, s_D, s_E⟩ := v
          conv => cbv
          have hs_ := hs_A
          have ms_ := get_mem hs_
          have ds_ := drop_cons hs_
          have ks_ := take_snoc hs_
          have js_ : (i1 + 1).toNat = Int.toNat i1 + 1 := by omega
          have os := tt.1 _ ms_
          try dsimp only at os
          refine r_callF (lb 3 1 cInt) m.sX (filings_ok (s_A, s_B, s_C, s_D, s_E) (standardA, standardB, standardC, standardD, standardE) (by first | rfl | assumption | omega | (simp only [List.length_append, List.length_cons, List.length_nil] at *; omega)) (by first | rfl | assumption | omega | (simp only [List.length_append, List.length_cons, List.length_nil] at *; omega))) fun v hlist => ?_
          obtain ⟨list, ok⟩ := v
          conv => cbv
          try dsimp only at hlist
          obtain ⟨e1, e2⟩ := Prod.mk.inj hlist
          have wf : SumFits list := e1 ▸ filL_fits os h2
          rcases Bool.eq_false_or_eq_true ok with rfl | rfl <;> conv => cbv
          · refine r_lss m.sX (fun h4 => ?_) (fun h4 => ?_) <;> conv => cbv
            · refine .inl (r_callFO intPV m.sX ((sum_ok list (by first | rfl | assumption | omega | (simp only [List.length_append, List.length_cons, List.length_nil] at *; omega))).ok flat_int) fun least_2 hleast_2 => ?_)
              conv => cbv
              try dsimp only at hleast_2
              refine r_addf m.sX (by omega) (by omega) fun r1 hr1 => ?_
              conv => cbv
              have tr1 : Int.toNat r1 = Int.toNat i1 + 1 := by omega
              refine hE _ (i1, least_2, r1) ?_ ?_ ⟨(by (try dsimp only); first | omega | (simp only [List.length_nil]; omega)), (by (try dsimp only); first | omega | (simp only [List.length_nil]; omega)), (by (try dsimp only) <;> (rw [q, ds_, tr1, leastG, ← e2, ← e1, show i1 + 1 = r1 by omega]; first | (rw [if_pos (by simp only [Bool.true_and, Bool.or_eq_true, decide_eq_true_eq]; omega)]; first | rw [hleast_2] | rw [hleast_3]) | rw [if_neg (by simp only [Bool.true_and, Bool.or_eq_true, decide_eq_true_eq]; omega)] | rw [if_neg (by simp)]))⟩ (by first | omega | (dsimp only; omega))
              · cbv
              · cbv
            · refine .inl (r_callFO intPV m.sX ((sum_ok list (by first | rfl | assumption | omega | (simp only [List.length_append, List.length_cons, List.length_nil] at *; omega))).ok flat_int) fun r2 hr2 => ?_)
              conv => cbv
              try dsimp only at hr2
              refine r_lss m.sX (fun h5 => ?_) (fun h5 => ?_) <;> conv => cbv
              · refine .inl (r_callFO intPV m.sX ((sum_ok list (by first | rfl | assumption | omega | (simp only [List.length_append, List.length_cons, List.length_nil] at *; omega))).ok flat_int) fun least_3 hleast_3 => ?_)
                conv => cbv
                try dsimp only at hleast_3
                refine r_addf m.sX (by omega) (by omega) fun r3 hr3 => ?_
                conv => cbv
                have tr3 : Int.toNat r3 = Int.toNat i1 + 1 := by omega
                refine hE _ (i1, least_3, r3) ?_ ?_ ⟨(by (try dsimp only); first | omega | (simp only [List.length_nil]; omega)), (by (try dsimp only); first | omega | (simp only [List.length_nil]; omega)), (by (try dsimp only) <;> (rw [q, ds_, tr3, leastG, ← e2, ← e1, show i1 + 1 = r3 by omega]; first | (rw [if_pos (by simp only [Bool.true_and, Bool.or_eq_true, decide_eq_true_eq]; omega)]; first | rw [hleast_2] | rw [hleast_3]) | rw [if_neg (by simp only [Bool.true_and, Bool.or_eq_true, decide_eq_true_eq]; omega)] | rw [if_neg (by simp)]))⟩ (by first | omega | (dsimp only; omega))
                · cbv
                · cbv
              · refine r_addf m.sX (by omega) (by omega) fun r4 hr4 => ?_
                conv => cbv
                have tr4 : Int.toNat r4 = Int.toNat i1 + 1 := by omega
                refine hE _ (best, least, r4) ?_ ?_ ⟨(by (try dsimp only); first | omega | (simp only [List.length_nil]; omega)), (by (try dsimp only); first | omega | (simp only [List.length_nil]; omega)), (by (try dsimp only) <;> (rw [q, ds_, tr4, leastG, ← e2, ← e1, show i1 + 1 = r4 by omega]; first | (rw [if_pos (by simp only [Bool.true_and, Bool.or_eq_true, decide_eq_true_eq]; omega)]; first | rw [hleast_2] | rw [hleast_3]) | rw [if_neg (by simp only [Bool.true_and, Bool.or_eq_true, decide_eq_true_eq]; omega)] | rw [if_neg (by simp)]))⟩ (by first | omega | (dsimp only; omega))
                · cbv
                · cbv
          · refine r_addf m.sX (by omega) (by omega) fun r5 hr5 => ?_
            conv => cbv
            have tr5 : Int.toNat r5 = Int.toNat i1 + 1 := by omega
            refine hE _ (best, least, r5) ?_ ?_ ⟨(by (try dsimp only); first | omega | (simp only [List.length_nil]; omega)), (by (try dsimp only); first | omega | (simp only [List.length_nil]; omega)), (by (try dsimp only) <;> (rw [q, ds_, tr5, leastG, ← e2, ← e1, show i1 + 1 = r5 by omega]; first | (rw [if_pos (by simp only [Bool.true_and, Bool.or_eq_true, decide_eq_true_eq]; omega)]; first | rw [hleast_2] | rw [hleast_3]) | rw [if_neg (by simp only [Bool.true_and, Bool.or_eq_true, decide_eq_true_eq]; omega)] | rw [if_neg (by simp)]))⟩ (by first | omega | (dsimp only; omega))
            · cbv
            · cbv
        · have dz_i1 := drop_end (xs := l) (i := Int.toNat i1) (by omega)
          have tz_i1 := take_end (xs := l) (i := Int.toNat i1) (by omega)
          refine hF _ _ ?_
          conv => cbv
          refine r_lss m.sX (fun h6 => ?_) (fun h6 => ?_) <;> conv => cbv
          · exact hQ (.tup [.int .i64 0, .int .i64 0, .bool false]) (Eq.trans (by first | rfl | (simp only [lb, lbI, rows_cons, rows_nil, unnilT, unnil, unnilTI, unnilI]; done) | (simp only [lb, lbI, rows_cons, rows_nil, unnilT, unnil, unnilTI, unnilI]; rfl)) (congrArg (iib) (show (0, 0, false) = leastAns l (standardA, standardB, standardC, standardD, standardE) from by rw [leastAns, h1, h2, q, dz_i1, leastG]; simp only [Bool.and_self, if_true]; rw [if_pos h6])))   -- leaf 1
          · exact hQ (.tup [.int .i64 best, .int .i64 least, .bool true]) (Eq.trans (by first | rfl | (simp only [lb, lbI, rows_cons, rows_nil, unnilT, unnil, unnilTI, unnilI]; done) | (simp only [lb, lbI, rows_cons, rows_nil, unnilT, unnil, unnilTI, unnilI]; rfl)) (congrArg (iib) (show (best, least, true) = leastAns l (standardA, standardB, standardC, standardD, standardE) from by rw [leastAns, h1, h2, q, dz_i1, leastG]; simp only [Bool.and_self, if_true]; rw [if_neg (by omega)])))   -- leaf 2
      · exact hQ (.tup [.int .i64 0, .int .i64 0, .bool false]) (Eq.trans (by first | rfl | (simp only [lb, lbI, rows_cons, rows_nil, unnilT, unnil, unnilTI, unnilI]; done) | (simp only [lb, lbI, rows_cons, rows_nil, unnilT, unnil, unnilTI, unnilI]; rfl)) (congrArg (iib) (show (0, 0, false) = leastAns l (standardA, standardB, standardC, standardD, standardE) from by rw [leastAns, h1, h2]; rfl)))   -- leaf 3
    · exact hQ (.tup [.int .i64 0, .int .i64 0, .bool false]) (Eq.trans (by first | rfl | (simp only [lb, lbI, rows_cons, rows_nil, unnilT, unnil, unnilTI, unnilI]; done) | (simp only [lb, lbI, rows_cons, rows_nil, unnilT, unnil, unnilTI, unnilI]; rfl)) (congrArg (iib) (show (0, 0, false) = leastAns l (standardA, standardB, standardC, standardD, standardE) from by rw [leastAns, h1]; rfl)))   -- leaf 4

theorem specLeastFiled_ok (l : List Strike) (standard : Strike)  : OkA Try.prog 27 [.isl 5 (rows cStrike l), .agg (cStrike standard)] (· = iib (leastAns l standard)) := by
  obtain ⟨standardA, standardB, standardC, standardD, standardE⟩ := standard
  try dsimp only at *
  exact fn_intro envOk fieldsOk mixed Try.func27 rfl fun κ X Y L Q m hQ => by
    conv => cbv
    refine r_callB m.sX (maList_ok l) (fun h1 => ?_) (fun h1 => ?_) <;> conv => cbv
    · have tt := okStrs_spec h1
      try dsimp only at tt
      refine r_callB m.sX (maGood_ok (standardA, standardB, standardC, standardD, standardE)) (fun h2 => ?_) (fun h2 => ?_) <;> conv => cbv
      · refine r_lenR m.sX fun n1 hn1 mn1 => ?_
        conv => cbv
        refine r_loopF (α := Int × Int × Int) m 59 [7, 8, 22, 23, 24] [⟨3, 25, 0, 0, 0⟩] (fun σ => [(3, .optr 25 0 5 0 0), (7, .int .i64 σ.1), (8, .int .i64 σ.2.1), (22, .isl 5 (rows cStrike l)), (23, .int .i64 n1), (24, .int .i64 σ.2.2)]) (fun σ => [(25, 0, .box [.int .i64 standardA, .int .i64 standardB, .int .i64 standardC, .int .i64 standardD, .int .i64 standardE])])
          (fun σ => (0 ≤ σ.2.2) ∧ (σ.2.2 ≤ n1) ∧ (leastG (standardA, standardB, standardC, standardD, standardE) 0 (-1) 0 l = leastG (standardA, standardB, standardC, standardD, standardE) σ.2.2 σ.1 σ.2.1 (l.drop σ.2.2.toNat))) (fun σ => (n1 - σ.2.2).toNat) (-1, 0, 0) ?_ ?_ ?_ ?_
        · cbv
        · cbv
        · exact ⟨(by (try dsimp only); first | omega | (simp only [List.length_nil]; omega)), (by (try dsimp only); first | omega | (simp only [List.length_nil]; omega)), (by (try dsimp only) <;> first | omega | rfl | (simp [*]; done))⟩
        rintro ⟨best, least, i1⟩ ⟨lo1, hi1, q⟩ E hE F hF
        dsimp only at lo1 hi1 q
        conv => cbv
        refine r_lss m.sX (fun h3 => ?_) (fun h3 => ?_) <;> conv => cbv
        · refine r_index m.sX (by omega) (by omega) fun v hs_A => ?_
          obtain ⟨s_A, s_B, s_C, s_D, s_E⟩ := v
          conv => cbv
          have hs_ := hs_A
          have ms_ := get_mem hs_
          have ds_ := drop_cons hs_
          have ks_ := take_snoc hs_
          have js_ : (i1 + 1).toNat = Int.toNat i1 + 1 := by omega
          have os := tt.1 _ ms_
          try dsimp only at os
          refine r_callB m.sX (maCan_ok (s_A, s_B, s_C, s_D, s_E) (standardA, standardB, standardC, standardD, standardE)) (fun h4 => ?_) (fun h4 => ?_) <;> conv => cbv
          · refine r_callF (fun l => PV.fr _ _ (rows _ l)) m.sX (maFilings_ok (s_A, s_B, s_C, s_D, s_E) (standardA, standardB, standardC, standardD, standardE) (by first | rfl | assumption | omega | (simp only [List.length_append, List.length_cons, List.length_nil] at *; omega)) (by first | rfl | assumption | omega | (simp only [List.length_append, List.length_cons, List.length_nil] at *; omega))) fun v1 hv1 => ?_
            conv => cbv
            try dsimp only at hv1
            have wf : SumFits v1 := hv1 ▸ filL_fits os h2
            refine r_lenR m.sX fun n2 hn2 mn2 => ?_
            conv => cbv
            refine r_loopF (α := Int × Int) m 59 [7, 8, 9, 11, 22, 23, 24, 36, 37] [⟨3, 25, 0, 0, 0⟩, ⟨35, 281, 3, 1, 0⟩] (fun σ => [(3, .optr 25 0 5 0 0), (7, .int .i64 best), (8, .int .i64 least), (9, .int .i64 i1), (11, .int .i64 σ.1), (22, .isl 5 (rows cStrike l)), (23, .int .i64 n1), (24, .int .i64 i1), (35, .osl 281 0), (36, .int .i64 n2), (37, .int .i64 σ.2)]) (fun σ => [(25, 0, .box [.int .i64 standardA, .int .i64 standardB, .int .i64 standardC, .int .i64 standardD, .int .i64 standardE]), (281, 0, .row 3 1 (rows cInt v1))])
              (fun σ => (0 ≤ σ.2) ∧ (σ.2 ≤ n2) ∧ (σ.1 = (v1.take σ.2.toNat).sum)) (fun σ => (n2 - σ.2).toNat) (0, 0) ?_ ?_ ?_ ?_
            · cbv
            · cbv
            · exact ⟨(by (try dsimp only); first | omega | (simp only [List.length_nil]; omega)), (by (try dsimp only); first | omega | (simp only [List.length_nil]; omega)), (by (try dsimp only) <;> first | omega | rfl | (simp [*]; done))⟩
            rintro ⟨sum, i2⟩ ⟨lo2, hi2, s⟩ E2 hE2 F2 hF2
            dsimp only at lo2 hi2 s
            have bq := wf (Int.toNat i2)
            try dsimp only at bq
            conv => cbv
            refine r_lss m.sX (fun h5 => ?_) (fun h5 => ?_) <;> conv => cbv
            · refine r_oindex m.sX (by omega) (by omega) ?_
              conv => cbv
              obtain ⟨n, hn⟩ := get_ex (xs := v1) (i := Int.toNat i2) (by omega)
              have mn := get_mem hn
              have dn := drop_cons hn
              have kn := take_snoc hn
              have jn : (i2 + 1).toNat = Int.toNat i2 + 1 := by omega
              have vn := nth_some hn
              have bn := wf (Int.toNat i2 + 1)
              try dsimp only at bn
              rw [sum_take hn] at bn
              refine r_oload m.sX hn (Nat.le_of_ble_eq_true rfl) ?_
              conv => cbv
              refine r_addf m.sX (by omega) (by omega) fun sum_2 hsum_2 => ?_
              conv => cbv
              refine r_addf m.sX (by omega) (by omega) fun r1 hr1 => ?_
              conv => cbv
              have tr1 : Int.toNat r1 = Int.toNat i2 + 1 := by omega
              refine hE2 _ (sum_2, r1) ?_ ?_ ⟨(by (try dsimp only); first | omega | (simp only [List.length_nil]; omega)), (by (try dsimp only); first | omega | (simp only [List.length_nil]; omega)), (by (try dsimp only) <;> (rw [tr1, sum_take hn]; omega))⟩ (by first | omega | (dsimp only; omega))
              · cbv
              · cbv
            · have dz_i2 := drop_end (xs := v1) (i := Int.toNat i2) (by omega)
              have tz_i2 := take_end (xs := v1) (i := Int.toNat i2) (by omega)
              refine hF2 _ _ ?_
              conv => cbv
              refine r_lss m.sX (fun h6 => ?_) (fun h6 => ?_) <;> conv => cbv
              · refine r_addf m.sX (by omega) (by omega) fun r2 hr2 => ?_
                conv => cbv
                have tr2 : Int.toNat r2 = Int.toNat i1 + 1 := by omega
                refine hE _ (i1, sum, r2) ?_ ?_ ⟨(by (try dsimp only); first | omega | (simp only [List.length_nil]; omega)), (by (try dsimp only); first | omega | (simp only [List.length_nil]; omega)), (by (try dsimp only) <;> (rw [q, ds_, tr2, leastG, h4, show i1 + 1 = r2 by omega]; first | (rw [tz_i2] at s; rw [← hv1, ← s]; first | rw [if_pos (by simp only [Bool.true_and, Bool.or_eq_true, decide_eq_true_eq]; omega)] | rw [if_neg (by simp only [Bool.true_and, Bool.or_eq_true, decide_eq_true_eq]; omega)]) | rw [if_neg (by simp)]))⟩ (by first | omega | (dsimp only; omega))
                · cbv
                · cbv
              · refine r_lss m.sX (fun h7 => ?_) (fun h7 => ?_) <;> conv => cbv
                · refine r_addf m.sX (by omega) (by omega) fun r3 hr3 => ?_
                  conv => cbv
                  have tr3 : Int.toNat r3 = Int.toNat i1 + 1 := by omega
                  refine hE _ (i1, sum, r3) ?_ ?_ ⟨(by (try dsimp only); first | omega | (simp only [List.length_nil]; omega)), (by (try dsimp only); first | omega | (simp only [List.length_nil]; omega)), (by (try dsimp only) <;> (rw [q, ds_, tr3, leastG, h4, show i1 + 1 = r3 by omega]; first | (rw [tz_i2] at s; rw [← hv1, ← s]; first | rw [if_pos (by simp only [Bool.true_and, Bool.or_eq_true, decide_eq_true_eq]; omega)] | rw [if_neg (by simp only [Bool.true_and, Bool.or_eq_true, decide_eq_true_eq]; omega)]) | rw [if_neg (by simp)]))⟩ (by first | omega | (dsimp only; omega))
                  · cbv
                  · cbv
                · refine r_addf m.sX (by omega) (by omega) fun r4 hr4 => ?_
                  conv => cbv
                  have tr4 : Int.toNat r4 = Int.toNat i1 + 1 := by omega
                  refine hE _ (best, least, r4) ?_ ?_ ⟨(by (try dsimp only); first | omega | (simp only [List.length_nil]; omega)), (by (try dsimp only); first | omega | (simp only [List.length_nil]; omega)), (by (try dsimp only) <;> (rw [q, ds_, tr4, leastG, h4, show i1 + 1 = r4 by omega]; first | (rw [tz_i2] at s; rw [← hv1, ← s]; first | rw [if_pos (by simp only [Bool.true_and, Bool.or_eq_true, decide_eq_true_eq]; omega)] | rw [if_neg (by simp only [Bool.true_and, Bool.or_eq_true, decide_eq_true_eq]; omega)]) | rw [if_neg (by simp)]))⟩ (by first | omega | (dsimp only; omega))
                  · cbv
                  · cbv
          · refine r_addf m.sX (by omega) (by omega) fun r5 hr5 => ?_
            conv => cbv
            have tr5 : Int.toNat r5 = Int.toNat i1 + 1 := by omega
            refine hE _ (best, least, r5) ?_ ?_ ⟨(by (try dsimp only); first | omega | (simp only [List.length_nil]; omega)), (by (try dsimp only); first | omega | (simp only [List.length_nil]; omega)), (by (try dsimp only) <;> (rw [q, ds_, tr5, leastG, h4, show i1 + 1 = r5 by omega]; first | (rw [tz_i2] at s; rw [← hv1, ← s]; first | rw [if_pos (by simp only [Bool.true_and, Bool.or_eq_true, decide_eq_true_eq]; omega)] | rw [if_neg (by simp only [Bool.true_and, Bool.or_eq_true, decide_eq_true_eq]; omega)]) | rw [if_neg (by simp)]))⟩ (by first | omega | (dsimp only; omega))
            · cbv
            · cbv
        · have dz_i1 := drop_end (xs := l) (i := Int.toNat i1) (by omega)
          have tz_i1 := take_end (xs := l) (i := Int.toNat i1) (by omega)
          refine hF _ _ ?_
          conv => cbv
          refine r_lss m.sX (fun h8 => ?_) (fun h8 => ?_) <;> conv => cbv
          · exact hQ (.tup [.int .i64 0, .int .i64 0, .bool false]) (Eq.trans (by first | rfl | (simp only [lb, lbI, rows_cons, rows_nil, unnilT, unnil, unnilTI, unnilI]; done) | (simp only [lb, lbI, rows_cons, rows_nil, unnilT, unnil, unnilTI, unnilI]; rfl)) (congrArg (iib) (show (0, 0, false) = leastAns l (standardA, standardB, standardC, standardD, standardE) from by rw [leastAns, h1, h2, q, dz_i1, leastG]; simp only [Bool.and_self, if_true]; rw [if_pos h8])))   -- leaf 1
          · exact hQ (.tup [.int .i64 best, .int .i64 least, .bool true]) (Eq.trans (by first | rfl | (simp only [lb, lbI, rows_cons, rows_nil, unnilT, unnil, unnilTI, unnilI]; done) | (simp only [lb, lbI, rows_cons, rows_nil, unnilT, unnil, unnilTI, unnilI]; rfl)) (congrArg (iib) (show (best, least, true) = leastAns l (standardA, standardB, standardC, standardD, standardE) from by rw [leastAns, h1, h2, q, dz_i1, leastG]; simp only [Bool.and_self, if_true]; rw [if_neg (by omega)])))   -- leaf 2
      · exact hQ (.tup [.int .i64 0, .int .i64 0, .bool false]) (Eq.trans (by first | rfl | (simp only [lb, lbI, rows_cons, rows_nil, unnilT, unnil, unnilTI, unnilI]; done) | (simp only [lb, lbI, rows_cons, rows_nil, unnilT, unnil, unnilTI, unnilI]; rfl)) (congrArg (iib) (show (0, 0, false) = leastAns l (standardA, standardB, standardC, standardD, standardE) from by rw [leastAns, h1, h2]; rfl)))   -- leaf 3
    · exact hQ (.tup [.int .i64 0, .int .i64 0, .bool false]) (Eq.trans (by first | rfl | (simp only [lb, lbI, rows_cons, rows_nil, unnilT, unnil, unnilTI, unnilI]; done) | (simp only [lb, lbI, rows_cons, rows_nil, unnilT, unnil, unnilTI, unnilI]; rfl)) (congrArg (iib) (show (0, 0, false) = leastAns l (standardA, standardB, standardC, standardD, standardE) from by rw [leastAns, h1]; rfl)))   -- leaf 4

end Go.Proofs.Ytnanackogloioaa.Ai
