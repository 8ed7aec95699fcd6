/- Contracts of the functions on margins and creeps. -/
import Derived.Test.YtnanackogloioaaCreepLaw
namespace Go.Proofs.Ytnanackogloioaa.Ai
open Go Go.Proofs
set_option maxRecDepth 10000
set_option maxHeartbeats 4000000
set_option linter.unusedVariables false


theorem greatest_ok (row : List Int)  : OkA Try.prog 140 [.isl 1 (rows cInt row)] (· = .int .i64 (maxL 0 row)) :=
  fn_intro envOk fieldsOk mixed Try.func140 rfl fun κ X Y L Q m hQ => by
    conv => cbv
    refine r_lenR m.sX fun n1 hn1 mn1 => ?_
    conv => cbv
    refine r_loopF (α := Int × Int) m 17 [3, 6, 7, 8] [] (fun σ => [(3, .int .i64 σ.1), (6, .isl 1 (rows cInt row)), (7, .int .i64 n1), (8, .int .i64 σ.2)]) (fun σ => [])
      (fun σ => (0 ≤ σ.2) ∧ (σ.2 ≤ n1) ∧ (maxL 0 row = maxL σ.1 (row.drop σ.2.toNat))) (fun σ => (n1 - σ.2).toNat) (0, 0) ?_ ?_ ?_ ?_
    · cbv
    · cbv
    · exact ⟨(by (try dsimp only); first | omega | (simp only [List.length_nil]; omega)), (by (try dsimp only); first | omega | (simp only [List.length_nil]; omega)), (by (try dsimp only) <;> first | omega | rfl | (simp [*]; done))⟩
    rintro ⟨most, i1⟩ ⟨lo1, hi1, q⟩ E hE F hF
    dsimp only at lo1 hi1 q
    conv => cbv
    refine r_lss m.sX (fun h1 => ?_) (fun h1 => ?_) <;> conv => cbv
    · refine r_index m.sX (by omega) (by omega) fun n hn => ?_
      conv => cbv
      have mn := get_mem hn
      have dn := drop_cons hn
      have kn := take_snoc hn
      have jn : (i1 + 1).toNat = Int.toNat i1 + 1 := by omega
      have vn := nth_some hn
      refine r_max m.sX fun most_2 hmost_2 => ?_
      conv => cbv
      refine r_addf m.sX (by omega) (by omega) fun r1 hr1 => ?_
      conv => cbv
      have tr1 : Int.toNat r1 = Int.toNat i1 + 1 := by omega
      refine hE _ (most_2, r1) ?_ ?_ ⟨(by (try dsimp only); first | omega | (simp only [List.length_nil]; omega)), (by (try dsimp only); first | omega | (simp only [List.length_nil]; omega)), (by (try dsimp only) <;> (rw [q, dn, maxL, tr1, hmost_2]))⟩ (by first | omega | (dsimp only; omega))
      · cbv
      · cbv
    · have dz_i1 := drop_end (xs := row) (i := Int.toNat i1) (by omega)
      have tz_i1 := take_end (xs := row) (i := Int.toNat i1) (by omega)
      refine hF _ _ ?_
      conv => cbv
      exact hQ (.int .i64 most) (Eq.trans (by first | rfl | (simp only [lb, lbI, rows_cons, rows_nil, unnilT, unnil, unnilTI, unnilI]; done) | (simp only [lb, lbI, rows_cons, rows_nil, unnilT, unnil, unnilTI, unnilI]; rfl)) (congrArg (PV.int .i64) (show most = maxL 0 row from by rw [q, dz_i1]; rfl)))   -- leaf 1

theorem isPageSize_ok (n : Int)  : OkA Try.prog 152 [.int .i64 n] (· = .bool (inB n 60 2000)) :=
  fn_intro envOk fieldsOk mixed Try.func152 rfl fun κ X Y L Q m hQ => by
    conv => cbv
    refine r_callB m.sX (within_ok n 60 2000) (fun h1 => ?_) (fun h1 => ?_) <;> conv => cbv
    · exact hQ _ (congrArg PV.bool (by exact h1.symm))   -- leaf 1
    · exact hQ _ (congrArg PV.bool (by exact h1.symm))   -- leaf 2

theorem areMargins_ok (m_ : Margins)  : OkA Try.prog 139 [.agg (cMargins m_)] (· = .bool (okMarg m_)) := by
  obtain ⟨m_A, m_B, m_C, m_D⟩ := m_
  try dsimp only at *
  exact fn_intro envOk fieldsOk mixed Try.func139 rfl fun κ X Y L Q m hQ => by
    conv => cbv
    refine r_callB m.sX (within_ok m_A 0 300) (fun h1 => ?_) (fun h1 => ?_) <;> conv => cbv
    · refine r_callB m.sX (within_ok m_B 0 300) (fun h2 => ?_) (fun h2 => ?_) <;> conv => cbv
      · refine r_callB m.sX (within_ok m_C 0 300) (fun h3 => ?_) (fun h3 => ?_) <;> conv => cbv
        · refine r_callB m.sX (within_ok m_D 0 300) (fun h4 => ?_) (fun h4 => ?_) <;> conv => cbv
          · exact hQ _ (congrArg PV.bool (by first | rfl | omega | (simp [okMarg, margL, allB, *]; done) | (subst_vars; simp [okMarg, margL, allB, *]; done)))   -- leaf 1
          · exact hQ _ (congrArg PV.bool (by first | rfl | omega | (simp [okMarg, margL, allB, *]; done) | (subst_vars; simp [okMarg, margL, allB, *]; done)))   -- leaf 2
        · exact hQ _ (congrArg PV.bool (by first | rfl | omega | (simp [okMarg, margL, allB, *]; done) | (subst_vars; simp [okMarg, margL, allB, *]; done)))   -- leaf 3
      · exact hQ _ (congrArg PV.bool (by first | rfl | omega | (simp [okMarg, margL, allB, *]; done) | (subst_vars; simp [okMarg, margL, allB, *]; done)))   -- leaf 4
    · exact hQ _ (congrArg PV.bool (by first | rfl | omega | (simp [okMarg, margL, allB, *]; done) | (subst_vars; simp [okMarg, margL, allB, *]; done)))   -- leaf 5

theorem mgParts_ok (m_ : Margins)  : OkA Try.prog 210 [.agg (cMargins m_)] (· = .fr 3 1 (rows cInt (margL m_))) := by
  obtain ⟨m_A, m_B, m_C, m_D⟩ := m_
  try dsimp only at *
  exact OkA.unnil 3 1 (fn_intro envOk fieldsOk mixed Try.func210 rfl fun κ X Y L Q m hQ => by
    conv => cbv
    exact hQ (.fr 3 1 [[.int .i64 m_A], [.int .i64 m_B], [.int .i64 m_C], [.int .i64 m_D]]) (Eq.trans (by first | rfl | (simp only [lb, lbI, rows_cons, rows_nil, unnilT, unnil, unnilTI, unnilI]; done) | (simp only [lb, lbI, rows_cons, rows_nil, unnilT, unnil, unnilTI, unnilI]; rfl)) (congrArg (fun l => PV.fr 3 1 (rows cInt l)) (show [m_A, m_B, m_C, m_D] = margL (m_A, m_B, m_C, m_D) from by rfl))))   -- leaf 1

theorem mgGood_ok (m_ : Margins)  : OkA Try.prog 143 [.agg (cMargins m_)] (· = .bool (okMarg m_)) := by
  obtain ⟨m_A, m_B, m_C, m_D⟩ := m_
  try dsimp only at *
  exact fn_intro envOk fieldsOk mixed Try.func143 rfl fun κ X Y L Q m hQ => by
    conv => cbv
    refine r_callF (fun l => PV.fr _ _ (rows _ l)) m.sX (mgParts_ok (m_A, m_B, m_C, m_D)) fun v1 hv1 => ?_
    conv => cbv
    try dsimp only at hv1
    refine .inl (r_callBO m.sX ((l1All_ok v1 0 300).ok flat_bool) (fun h1 => ?_) (fun h1 => ?_)) <;> conv => cbv
    · exact hQ _ (congrArg PV.bool (by rw [okMarg, ← hv1]; exact h1.symm))   -- leaf 1
    · exact hQ _ (congrArg PV.bool (by rw [okMarg, ← hv1]; exact h1.symm))   -- leaf 2

theorem mgPage_ok (w : Int) (h_ : Int)  : OkA Try.prog 211 [.int .i64 w, .int .i64 h_] (· = .bool (pageB w h_)) :=
  fn_intro envOk fieldsOk mixed Try.func211 rfl fun κ X Y L Q m hQ => by
    conv => cbv
    refine r_callB m.sX (l1In_ok w 60 2000) (fun h1 => ?_) (fun h1 => ?_) <;> conv => cbv
    · refine r_callB m.sX (l1In_ok h_ 60 2000) (fun h2 => ?_) (fun h2 => ?_) <;> conv => cbv
      · exact hQ _ (congrArg PV.bool (by first | rfl | omega | (simp [pageB, *]; done) | (subst_vars; simp [pageB, *]; done)))   -- leaf 1
      · exact hQ _ (congrArg PV.bool (by first | rfl | omega | (simp [pageB, *]; done) | (subst_vars; simp [pageB, *]; done)))   -- leaf 2
    · exact hQ _ (congrArg PV.bool (by first | rfl | omega | (simp [pageB, *]; done) | (subst_vars; simp [pageB, *]; done)))   -- leaf 3

theorem isThick_ok (folds : List Fold) (thick : Int)  : OkA Try.prog 138 [.isl 2 (rows cFold folds), .int .i64 thick] (· = .bool (thickB folds thick)) :=
  fn_intro envOk fieldsOk mixed Try.func138 rfl fun κ X Y L Q m hQ => by
    conv => cbv
    refine r_callB m.sX (AreFolds_ok folds) (fun h1 => ?_) (fun h1 => ?_) <;> conv => cbv
    · refine r_callB m.sX (within_ok thick 0 500) (fun h2 => ?_) (fun h2 => ?_) <;> conv => cbv
      · exact hQ _ (congrArg PV.bool (by first | rfl | omega | (simp [thickB, *]; done) | (subst_vars; simp [thickB, *]; done)))   -- leaf 1
      · exact hQ _ (congrArg PV.bool (by first | rfl | omega | (simp [thickB, *]; done) | (subst_vars; simp [thickB, *]; done)))   -- leaf 2
    · exact hQ _ (congrArg PV.bool (by first | rfl | omega | (simp [thickB, *]; done) | (subst_vars; simp [thickB, *]; done)))   -- leaf 3

theorem creep_ok (folds : List Fold) (thick : Int) (page : Int) (hg : goodF folds = true) (hk : 1 ≤ page ∧ page ≤ pgs folds) (ht : 0 ≤ thick ∧ thick ≤ 500) : OkA Try.prog 149 [.isl 2 (rows cFold folds), .int .i64 thick, .int .i64 page] (· = .int .i64 (crp (pgs folds) thick page)) :=
  fn_intro envOk fieldsOk mixed Try.func149 rfl fun κ X Y L Q m hQ => by
    have bp := pgs_bound hg
    have ev := pgs_even folds
    conv => cbv
    refine r_subf m.sX (by omega) (by omega) fun r1 hr1 => ?_
    conv => cbv
    refine r_divf m.sX (by omega) (by omega) fun i hi bi => ?_
    conv => cbv
    refine r_callF (PV.int .i64) m.sX (pageCount_ok folds (by assumption)) fun r2 hr2 => ?_
    conv => cbv
    refine r_divf m.sX (by omega) (by omega) fun n hn bn => ?_
    conv => cbv
    refine r_subf m.sX (by omega) (by omega) fun r3 hr3 => ?_
    conv => cbv
    refine r_subf m.sX (by omega) (by omega) fun r4 hr4 => ?_
    conv => cbv
    refine r_min m.sX fun r5 hr5 => ?_
    conv => cbv
    have b5 : 0 ≤ r5 ∧ r5 ≤ 16 := by omega
    have g1 := mul_bound b5.1 b5.2 ht.1 ht.2
    refine r_mulf m.sX (by omega) (by omega) fun r6 hr6 => ?_
    conv => cbv
    refine r_divf m.sX (by omega) (by omega) fun r7 hr7 br7 => ?_
    conv => cbv
    exact hQ (.int .i64 r7) (Eq.trans (by first | rfl | (simp only [lb, lbI, rows_cons, rows_nil, unnilT, unnil, unnilTI, unnilI]; done) | (simp only [lb, lbI, rows_cons, rows_nil, unnilT, unnil, unnilTI, unnilI]; rfl)) (congrArg (PV.int .i64) (show r7 = crp (pgs folds) thick page from by rw [hr7, hr6, hr5, hr4, hr3, hn, hr2, hi, hr1]; rfl)))   -- leaf 1

theorem CreepOf_ok (folds : List Fold) (thick : Int) (page : Int)  : OkA Try.prog 42 [.isl 2 (rows cFold folds), .int .i64 thick, .int .i64 page] (· = ib (crpAns folds thick page)) :=
  fn_intro envOk fieldsOk mixed Try.func42 rfl fun κ X Y L Q m hQ => by
    conv => cbv
    refine r_callB m.sX (isThick_ok folds thick) (fun h1 => ?_) (fun h1 => ?_) <;> conv => cbv
    · obtain ⟨t1, t2⟩ := thick_spec h1
      refine r_callB m.sX (isPageOf_ok folds page) (fun h2 => ?_) (fun h2 => ?_) <;> conv => cbv
      · have k3 : inB page 1 (pgs folds) = true := by rw [t1] at h2; exact h2
        have k2 := inB_spec k3
        refine r_callF (PV.int .i64) m.sX (creep_ok folds thick page (by first | rfl | assumption | omega | (simp only [List.length_append, List.length_cons, List.length_nil] at *; omega)) (by first | rfl | assumption | omega | (simp only [List.length_append, List.length_cons, List.length_nil] at *; omega)) (by first | rfl | assumption | omega | (simp only [List.length_append, List.length_cons, List.length_nil] at *; omega))) fun r1 hr1 => ?_
        conv => cbv
        exact hQ (.tup [.int .i64 r1, .bool true]) (Eq.trans (by first | rfl | (simp only [lb, lbI, rows_cons, rows_nil, unnilT, unnil, unnilTI, unnilI]; done) | (simp only [lb, lbI, rows_cons, rows_nil, unnilT, unnil, unnilTI, unnilI]; rfl)) (congrArg (ib) (show (r1, true) = crpAns folds thick page from by rw [crpAns, h1, k3, hr1]; rfl)))   -- leaf 1
      · have k3 : inB page 1 (pgs folds) = false := by rw [t1] at h2; exact h2
        exact hQ (.tup [.int .i64 0, .bool false]) (Eq.trans (by first | rfl | (simp only [lb, lbI, rows_cons, rows_nil, unnilT, unnil, unnilTI, unnilI]; done) | (simp only [lb, lbI, rows_cons, rows_nil, unnilT, unnil, unnilTI, unnilI]; rfl)) (congrArg (ib) (show (0, false) = crpAns folds thick page from by rw [crpAns, h1, k3]; rfl)))   -- leaf 2
    · exact hQ (.tup [.int .i64 0, .bool false]) (Eq.trans (by first | rfl | (simp only [lb, lbI, rows_cons, rows_nil, unnilT, unnil, unnilTI, unnilI]; done) | (simp only [lb, lbI, rows_cons, rows_nil, unnilT, unnil, unnilTI, unnilI]; rfl)) (congrArg (ib) (show (0, false) = crpAns folds thick page from by rw [crpAns, h1]; rfl)))   -- leaf 3

theorem creeps_ok (folds : List Fold) (thick : Int) (hg : goodF folds = true) (ht : 0 ≤ thick ∧ thick ≤ 500) : OkA Try.prog 141 [.isl 2 (rows cFold folds), .int .i64 thick] (· = .fr 3 1 (rows cInt (crpL (pgs folds) thick))) :=
  OkA.unnil 3 1 (fn_intro envOk fieldsOk mixed Try.func141 rfl fun κ X Y L Q m hQ => by
    have bp := pgs_bound hg
    conv => cbv
    refine r_loopF (α := List Int × Int) m 22 [0, 1, 6] [⟨5, 41, 3, 1, 0⟩] (fun σ => [(0, .isl 2 (rows cFold folds)), (1, .int .i64 thick), (5, .osl 41 0), (6, .int .i64 σ.2)]) (fun σ => [(41, 0, .row 3 1 (rows cInt σ.1))])
      (fun σ => (1 ≤ σ.2 ∧ σ.2 ≤ pgs folds + 1) ∧ (σ.1 = (List.range (σ.2 - 1).toNat).map fun i : Nat => crp (pgs folds) thick ((i : Int) + 1))) (fun σ => (pgs folds + 1 - σ.2).toNat) ([], 1) ?_ ?_ ?_ ?_
    · cbv
    · (try dsimp only); simp only [rows_cons, rows_nil]; cbv
    · exact ⟨(by (try dsimp only) <;> first | omega | rfl | (simp [*]; done)), (by (try dsimp only) <;> (rfl))⟩
    rintro ⟨list, page⟩ ⟨b, q⟩ E hE F hF
    dsimp only at b q
    have ll : (list.length : Int) = page - 1 := by rw [q, List.length_map, List.length_range]; omega
    conv => cbv
    refine r_callF (PV.int .i64) m.sX (pageCount_ok folds (by assumption)) fun r1 hr1 => ?_
    conv => cbv
    refine r_leq m.sX (fun h1 => ?_) (fun h1 => ?_) <;> conv => cbv
    · refine r_callF (PV.int .i64) m.sX (creep_ok folds thick page (by first | rfl | assumption | omega | (simp only [List.length_append, List.length_cons, List.length_nil] at *; omega)) (by first | rfl | assumption | omega | (simp only [List.length_append, List.length_cons, List.length_nil] at *; omega)) (by first | rfl | assumption | omega | (simp only [List.length_append, List.length_cons, List.length_nil] at *; omega))) fun r2 hr2 => ?_
      conv => cbv
      refine r_append1 (r2) m.sX rfl (by first | omega | (dsimp only; omega)) (by first | omega | (dsimp only; omega)) fun list_2 hlist_2 => ?_
      conv => cbv
      have llist_2 : (list_2.length : Int) = list.length + 1 := by rw [hlist_2]; first | done | (simp; done) | (simp; omega)
      refine r_addf m.sX (by omega) (by omega) fun page_2 hpage_2 => ?_
      conv => cbv
      refine hE _ (list_2, page_2) ?_ ?_ ⟨(by (try dsimp only) <;> first | omega | rfl | (simp [*]; done) | (rw [b]; simp [*]; done)), (by (try dsimp only) <;> (rw [hlist_2, q, show page_2 - 1 = page - 1 + 1 by omega]; exact range_next _ _ (by omega) (by rw [hr2]; show _ = crp (pgs folds) thick (((page - 1).toNat : Int) + 1); rw [show (((page - 1).toNat : Int) + 1) = page by omega])))⟩ (by first | omega | (dsimp only; omega))
      · cbv
      · cbv
    · refine hF _ _ ?_
      conv => cbv
      exact hQ (.fr 3 1 (rows cInt list)) (Eq.trans (by first | rfl | (simp only [lb, lbI, rows_cons, rows_nil, unnilT, unnil, unnilTI, unnilI]; done) | (simp only [lb, lbI, rows_cons, rows_nil, unnilT, unnil, unnilTI, unnilI]; rfl)) (congrArg (fun l => PV.fr 3 1 (rows cInt l)) (show list = crpL (pgs folds) thick from by rw [q, crpL, show page - 1 = pgs folds by omega]))))   -- leaf 1

theorem GreatestCreep_ok (folds : List Fold) (thick : Int)  : OkA Try.prog 38 [.isl 2 (rows cFold folds), .int .i64 thick] (· = ib (mostAns folds thick)) :=
  fn_intro envOk fieldsOk mixed Try.func38 rfl fun κ X Y L Q m hQ => by
    conv => cbv
    refine r_callB m.sX (isThick_ok folds thick) (fun h1 => ?_) (fun h1 => ?_) <;> conv => cbv
    · obtain ⟨t1, t2⟩ := thick_spec h1
      have pb := pgs_bound t1
      refine r_callF (fun l => PV.fr _ _ (rows _ l)) m.sX (creeps_ok folds thick (by first | rfl | assumption | omega | (simp only [List.length_append, List.length_cons, List.length_nil] at *; omega)) (by first | rfl | assumption | omega | (simp only [List.length_append, List.length_cons, List.length_nil] at *; omega))) fun v1 hv1 => ?_
      conv => cbv
      refine .inl (r_callFO intPV m.sX ((greatest_ok v1).ok flat_int) fun r1 hr1 => ?_)
      conv => cbv
      exact hQ (.tup [.int .i64 r1, .bool true]) (Eq.trans (by first | rfl | (simp only [lb, lbI, rows_cons, rows_nil, unnilT, unnil, unnilTI, unnilI]; done) | (simp only [lb, lbI, rows_cons, rows_nil, unnilT, unnil, unnilTI, unnilI]; rfl)) (congrArg (ib) (show (r1, true) = mostAns folds thick from by rw [mostAns, h1, hr1, hv1, maxL_crp pb.1 pb.2 t2.1 t2.2 (pgs_even _)]; rfl)))   -- leaf 1
    · exact hQ (.tup [.int .i64 0, .bool false]) (Eq.trans (by first | rfl | (simp only [lb, lbI, rows_cons, rows_nil, unnilT, unnil, unnilTI, unnilI]; done) | (simp only [lb, lbI, rows_cons, rows_nil, unnilT, unnil, unnilTI, unnilI]; rfl)) (congrArg (ib) (show (0, false) = mostAns folds thick from by rw [mostAns, h1]; rfl)))   -- leaf 2

theorem BacksOf_ok (folds : List Fold) (m_ : Margins) (thick : Int)  : OkA Try.prog 36 [.isl 2 (rows cFold folds), .agg (cMargins m_), .int .i64 thick] (· = (lb 3 1 cInt) (backAns folds m_ thick)) := by
  obtain ⟨m_A, m_B, m_C, m_D⟩ := m_
  try dsimp only at *
  exact OkA.unnil 3 1 (fn_intro envOk fieldsOk mixed Try.func36 rfl fun κ X Y L Q m hQ => by
    conv => cbv
    refine r_draw m (by kernel_rfl) ?_
    conv => cbv
    refine r_callBS m.sY (isThick_ok folds thick) (fun h1 => ?_) (fun h1 => ?_) <;> conv => cbv
    · obtain ⟨t1, t2⟩ := thick_spec h1
      have pb := pgs_bound t1
      try dsimp only at pb
      refine r_callBS m.sY (areMargins_ok (m_A, m_B, m_C, m_D)) (fun h2 => ?_) (fun h2 => ?_) <;> conv => cbv
      · have mb := marg_spec h2
        try dsimp only at mb
        refine r_callFS (fun l => PV.isl _ (rows _ l)) m.sY ((creeps_ok folds thick (by first | rfl | assumption | omega | (simp only [List.length_append, List.length_cons, List.length_nil] at *; omega)) (by first | rfl | assumption | omega | (simp only [List.length_append, List.length_cons, List.length_nil] at *; omega))).ice) trivial fun v1 hv1 => ?_
        conv => cbv
        try dsimp only at hv1
        have lv : (v1.length : Int) = pgs folds := by rw [hv1, crpL, List.length_map, List.length_range]; omega
        refine r_callFS (PV.int .i64) m.sY (greatest_ok v1) trivial fun r1 hr1 => ?_
        conv => cbv
        try dsimp only at hr1
        have e1 : r1 = mostF (pgs folds) thick := by rw [hr1, hv1]; exact maxL_crp pb.1 pb.2 t2.1 t2.2 (pgs_even _)
        refine r_gtr m.sY (fun h3 => ?_) (fun h3 => ?_) <;> conv => cbv
        · exact hQ (.tup [.fr 3 1 [], .bool false]) (Eq.trans (by first | rfl | (simp only [lb, lbI, rows_cons, rows_nil, unnilT, unnil, unnilTI, unnilI]; done) | (simp only [lb, lbI, rows_cons, rows_nil, unnilT, unnil, unnilTI, unnilI]; rfl)) (congrArg ((lb 3 1 cInt)) (show ([], false) = backAns folds (m_A, m_B, m_C, m_D) thick from by rw [backAns, h1, h2, decide_eq_false (show ¬ mostF (pgs folds) thick ≤ m_B by omega)]; rfl)))   -- leaf 1
        · refine r_callF (fun l => PV.fr 3 1 (rows cInt l)) m.sX (creeps_ok folds thick (by first | rfl | assumption | omega | (simp only [List.length_append, List.length_cons, List.length_nil] at *; omega)) (by first | rfl | assumption | omega | (simp only [List.length_append, List.length_cons, List.length_nil] at *; omega))) fun y1 hy1 => ?_
          obtain rfl := hv1.trans hy1.symm
          clear hy1
          conv => cbv
          refine r_lenR m.sX fun n1 hn1 mn1 => ?_
          conv => cbv
          refine r_loopF (α := List Int × Int) m 48 [34, 35] [⟨4, 33, 0, 0, 0⟩, ⟨8, 65, 3, 1, 0⟩, ⟨33, 265, 3, 1, 0⟩] (fun σ => [(4, .optr 33 0 4 0 0), (8, .osl 65 0), (33, .osl 265 0), (34, .int .i64 n1), (35, .int .i64 σ.2)]) (fun σ => [(33, 0, .box [.int .i64 m_A, .int .i64 m_B, .int .i64 m_C, .int .i64 m_D]), (65, 0, .row 3 1 (rows cInt σ.1)), (265, 0, .row 3 1 (rows cInt v1))])
            (fun σ => (0 ≤ σ.2) ∧ (σ.2 ≤ n1) ∧ (σ.1 = (v1.take σ.2.toNat).map fun n => m_B - n)) (fun σ => (n1 - σ.2).toNat) ([], 0) ?_ ?_ ?_ ?_
          · cbv
          · (try dsimp only); simp only [rows_cons, rows_nil]; cbv
          · exact ⟨(by (try dsimp only); first | omega | (simp only [List.length_nil]; omega)), (by (try dsimp only); first | omega | (simp only [List.length_nil]; omega)), (by (try dsimp only) <;> (rfl))⟩
          rintro ⟨list, i1⟩ ⟨lo1, hi1, q⟩ E hE F hF
          dsimp only at lo1 hi1 q
          have ll : (list.length : Int) = i1 := by rw [q, List.length_map, List.length_take]; omega
          conv => cbv
          refine r_lss m.sX (fun h4 => ?_) (fun h4 => ?_) <;> conv => cbv
          · refine r_oindex m.sX (by omega) (by omega) ?_
            conv => cbv
            obtain ⟨n, hn⟩ := get_ex (xs := v1) (i := Int.toNat i1) (by omega)
            have mn := get_mem hn
            have dn := drop_cons hn
            have kn := take_snoc hn
            have jn : (i1 + 1).toNat = Int.toNat i1 + 1 := by omega
            have vn := nth_some hn
            have nb := crpL_bd pb.1 pb.2 t2.1 t2.2 (pgs_even folds) (by rw [← hv1]; exact get_mem hn)
            try dsimp only at nb
            refine r_oload m.sX hn (Nat.le_of_ble_eq_true rfl) ?_
            conv => cbv
            refine r_subf m.sX (by omega) (by omega) fun r2 hr2 => ?_
            conv => cbv
            refine r_append1 (r2) m.sX rfl (by first | omega | (dsimp only; omega)) (by first | omega | (dsimp only; omega)) fun list_2 hlist_2 => ?_
            conv => cbv
            have llist_2 : (list_2.length : Int) = list.length + 1 := by rw [hlist_2]; first | done | (simp; done) | (simp; omega)
            refine r_addf m.sX (by omega) (by omega) fun r3 hr3 => ?_
            conv => cbv
            have tr3 : Int.toNat r3 = Int.toNat i1 + 1 := by omega
            refine hE _ (list_2, r3) ?_ ?_ ⟨(by (try dsimp only); first | omega | (simp only [List.length_nil]; omega)), (by (try dsimp only); first | omega | (simp only [List.length_nil]; omega)), (by (try dsimp only) <;> (rw [hlist_2, hr2, q, tr3, List.take_add_one, hn]; simp))⟩ (by first | omega | (dsimp only; omega))
            · cbv
            · cbv
          · have dz_i1 := drop_end (xs := v1) (i := Int.toNat i1) (by omega)
            have tz_i1 := take_end (xs := v1) (i := Int.toNat i1) (by omega)
            refine hF _ _ ?_
            conv => cbv
            exact hQ (.tup [.fr 3 1 (rows cInt list), .bool true]) (Eq.trans (by first | rfl | (simp only [lb, lbI, rows_cons, rows_nil, unnilT, unnil, unnilTI, unnilI]; done) | (simp only [lb, lbI, rows_cons, rows_nil, unnilT, unnil, unnilTI, unnilI]; rfl)) (congrArg ((lb 3 1 cInt)) (show (list, true) = backAns folds (m_A, m_B, m_C, m_D) thick from by rw [backAns, h1, h2, decide_eq_true (show mostF (pgs folds) thick ≤ m_B by omega), q, tz_i1, hv1]; show _ = (backL m_B (pgs folds) thick, true); rw [backL_eq])))   -- leaf 2
      · exact hQ (.tup [.fr 3 1 [], .bool false]) (Eq.trans (by first | rfl | (simp only [lb, lbI, rows_cons, rows_nil, unnilT, unnil, unnilTI, unnilI]; done) | (simp only [lb, lbI, rows_cons, rows_nil, unnilT, unnil, unnilTI, unnilI]; rfl)) (congrArg ((lb 3 1 cInt)) (show ([], false) = backAns folds (m_A, m_B, m_C, m_D) thick from by rw [backAns, h1, h2]; rfl)))   -- leaf 3
    · exact hQ (.tup [.fr 3 1 [], .bool false]) (Eq.trans (by first | rfl | (simp only [lb, lbI, rows_cons, rows_nil, unnilT, unnil, unnilTI, unnilI]; done) | (simp only [lb, lbI, rows_cons, rows_nil, unnilT, unnil, unnilTI, unnilI]; rfl)) (congrArg ((lb 3 1 cInt)) (show ([], false) = backAns folds (m_A, m_B, m_C, m_D) thick from by rw [backAns, h1]; rfl))))   -- leaf 4

theorem NarrowestFore_ok (folds : List Fold) (m_ : Margins) (thick : Int)  : OkA Try.prog 40 [.isl 2 (rows cFold folds), .agg (cMargins m_), .int .i64 thick] (· = ib (foreAns folds m_ thick)) := by
  obtain ⟨m_A, m_B, m_C, m_D⟩ := m_
  try dsimp only at *
  exact fn_intro envOk fieldsOk mixed Try.func40 rfl fun κ X Y L Q m hQ => by
    conv => cbv
    refine r_callF ib m.sX (GreatestCreep_ok folds thick) fun v hmost => ?_
    obtain ⟨most, ok⟩ := v
    conv => cbv
    try dsimp only at hmost
    have o1 := most_ok hmost
    try dsimp only at o1
    rcases Bool.eq_false_or_eq_true ok with rfl | rfl <;> conv => cbv
    · have o2 := most_val hmost
      try dsimp only at o2
      obtain ⟨t1, t2⟩ := thick_spec o1
      have pb := pgs_bound t1
      try dsimp only at pb
      have mo := most_bound pb.1 pb.2 t2.1 t2.2 (pgs_even folds)
      try dsimp only at mo
      refine r_callB m.sX (areMargins_ok (m_A, m_B, m_C, m_D)) (fun h1 => ?_) (fun h1 => ?_) <;> conv => cbv
      · have mm := marg_spec h1
        try dsimp only at mm
        refine r_gtr m.sX (fun h2 => ?_) (fun h2 => ?_) <;> conv => cbv
        · exact hQ (.tup [.int .i64 0, .bool false]) (Eq.trans (by first | rfl | (simp only [lb, lbI, rows_cons, rows_nil, unnilT, unnil, unnilTI, unnilI]; done) | (simp only [lb, lbI, rows_cons, rows_nil, unnilT, unnil, unnilTI, unnilI]; rfl)) (congrArg (ib) (show (0, false) = foreAns folds (m_A, m_B, m_C, m_D) thick from by rw [foreAns, o1, h1, decide_eq_false (show ¬ mostF (pgs folds) thick ≤ m_C by omega)]; rfl)))   -- leaf 1
        · refine r_subf m.sX (by omega) (by omega) fun r1 hr1 => ?_
          conv => cbv
          exact hQ (.tup [.int .i64 r1, .bool true]) (Eq.trans (by first | rfl | (simp only [lb, lbI, rows_cons, rows_nil, unnilT, unnil, unnilTI, unnilI]; done) | (simp only [lb, lbI, rows_cons, rows_nil, unnilT, unnil, unnilTI, unnilI]; rfl)) (congrArg (ib) (show (r1, true) = foreAns folds (m_A, m_B, m_C, m_D) thick from by rw [foreAns, o1, h1, decide_eq_true (show mostF (pgs folds) thick ≤ m_C by omega), hr1, o2]; rfl)))   -- leaf 2
      · exact hQ (.tup [.int .i64 0, .bool false]) (Eq.trans (by first | rfl | (simp only [lb, lbI, rows_cons, rows_nil, unnilT, unnil, unnilTI, unnilI]; done) | (simp only [lb, lbI, rows_cons, rows_nil, unnilT, unnil, unnilTI, unnilI]; rfl)) (congrArg (ib) (show (0, false) = foreAns folds (m_A, m_B, m_C, m_D) thick from by rw [foreAns, o1, h1]; rfl)))   -- leaf 3
    · exact hQ (.tup [.int .i64 0, .bool false]) (Eq.trans (by first | rfl | (simp only [lb, lbI, rows_cons, rows_nil, unnilT, unnil, unnilTI, unnilI]; done) | (simp only [lb, lbI, rows_cons, rows_nil, unnilT, unnil, unnilTI, unnilI]; rfl)) (congrArg (ib) (show (0, false) = foreAns folds (m_A, m_B, m_C, m_D) thick from by rw [foreAns, o1]; rfl)))   -- leaf 4

theorem SheetFor_ok (folds : List Fold) (w : Int) (h_ : Int) (trim : Int)  : OkA Try.prog 44 [.isl 2 (rows cFold folds), .int .i64 w, .int .i64 h_, .int .i64 trim] (· = iib (shAns folds w h_ trim)) :=
  fn_intro envOk fieldsOk mixed Try.func44 rfl fun κ X Y L Q m hQ => by
    conv => cbv
    refine r_callB m.sX (AreFolds_ok folds) (fun h1 => ?_) (fun h1 => ?_) <;> conv => cbv
    · refine r_callB m.sX (isPageSize_ok w) (fun h2 => ?_) (fun h2 => ?_) <;> conv => cbv
      · have bw := inB_spec h2
        refine r_callB m.sX (isPageSize_ok h_) (fun h3 => ?_) (fun h3 => ?_) <;> conv => cbv
        · have bh := inB_spec h3
          refine r_callB m.sX (within_ok trim 0 100) (fun h4 => ?_) (fun h4 => ?_) <;> conv => cbv
          · have bt := inB_spec h4
            have sb := size_bound h1
            refine r_callF ii m.sX (sheetSize_ok folds (goodF_le (by assumption))) fun v hcolumns => ?_
            obtain ⟨columns, rows⟩ := v
            conv => cbv
            have c1 : columns = (sizeF folds).1 := by rw [← hcolumns]
            have c2 : rows = (sizeF folds).2 := by rw [← hcolumns]
            refine r_addf m.sX (by omega) (by omega) fun r1 hr1 => ?_
            conv => cbv
            have g1 := mul_bound (show 0 ≤ columns by omega) (show columns ≤ 16 by omega) (show 0 ≤ r1 by omega) (show r1 ≤ 2100 by omega)
            refine r_mulf m.sX (by omega) (by omega) fun r2 hr2 => ?_
            conv => cbv
            refine r_addf m.sX (by omega) (by omega) fun r3 hr3 => ?_
            conv => cbv
            have g3 := mul_bound (show 0 ≤ rows by omega) (show rows ≤ 16 by omega) (show 0 ≤ r3 by omega) (show r3 ≤ 2100 by omega)
            refine r_mulf m.sX (by omega) (by omega) fun r4 hr4 => ?_
            conv => cbv
            exact hQ (.tup [.int .i64 r2, .int .i64 r4, .bool true]) (Eq.trans (by first | rfl | (simp only [lb, lbI, rows_cons, rows_nil, unnilT, unnil, unnilTI, unnilI]; done) | (simp only [lb, lbI, rows_cons, rows_nil, unnilT, unnil, unnilTI, unnilI]; rfl)) (congrArg (iib) (show (r2, r4, true) = shAns folds w h_ trim from by rw [shAns, h1, pageB, h2, h3, h4, hr2, hr4, hr1, hr3, c1, c2]; rfl)))   -- leaf 1
          · exact hQ (.tup [.int .i64 0, .int .i64 0, .bool false]) (Eq.trans (by first | rfl | (simp only [lb, lbI, rows_cons, rows_nil, unnilT, unnil, unnilTI, unnilI]; done) | (simp only [lb, lbI, rows_cons, rows_nil, unnilT, unnil, unnilTI, unnilI]; rfl)) (congrArg (iib) (show (0, 0, false) = shAns folds w h_ trim from by rw [shAns, h1, pageB, h2, h3, h4]; rfl)))   -- leaf 2
        · exact hQ (.tup [.int .i64 0, .int .i64 0, .bool false]) (Eq.trans (by first | rfl | (simp only [lb, lbI, rows_cons, rows_nil, unnilT, unnil, unnilTI, unnilI]; done) | (simp only [lb, lbI, rows_cons, rows_nil, unnilT, unnil, unnilTI, unnilI]; rfl)) (congrArg (iib) (show (0, 0, false) = shAns folds w h_ trim from by rw [shAns, h1, pageB, h2, h3]; rfl)))   -- leaf 3
      · exact hQ (.tup [.int .i64 0, .int .i64 0, .bool false]) (Eq.trans (by first | rfl | (simp only [lb, lbI, rows_cons, rows_nil, unnilT, unnil, unnilTI, unnilI]; done) | (simp only [lb, lbI, rows_cons, rows_nil, unnilT, unnil, unnilTI, unnilI]; rfl)) (congrArg (iib) (show (0, 0, false) = shAns folds w h_ trim from by rw [shAns, h1, pageB, h2]; rfl)))   -- leaf 4
    · exact hQ (.tup [.int .i64 0, .int .i64 0, .bool false]) (Eq.trans (by first | rfl | (simp only [lb, lbI, rows_cons, rows_nil, unnilT, unnil, unnilTI, unnilI]; done) | (simp only [lb, lbI, rows_cons, rows_nil, unnilT, unnil, unnilTI, unnilI]; rfl)) (congrArg (iib) (show (0, 0, false) = shAns folds w h_ trim from by rw [shAns, h1]; rfl)))   -- leaf 5

theorem DoesFitSheet_ok (folds : List Fold) (w : Int) (h_ : Int) (trim : Int) (sw : Int) (sh : Int)  : OkA Try.prog 46 [.isl 2 (rows cFold folds), .int .i64 w, .int .i64 h_, .int .i64 trim, .int .i64 sw, .int .i64 sh] (· = bb (fitAns folds w h_ trim sw sh)) :=
  fn_intro envOk fieldsOk mixed Try.func46 rfl fun κ X Y L Q m hQ => by
    conv => cbv
    refine r_callF iib m.sX (SheetFor_ok folds w h_ trim) fun v hwide => ?_
    obtain ⟨wide, high, ok⟩ := v
    conv => cbv
    rcases Bool.eq_false_or_eq_true ok with rfl | rfl <;> conv => cbv
    · refine r_callB m.sX (within_ok sw 1 20000) (fun h1 => ?_) (fun h1 => ?_) <;> conv => cbv
      · refine r_callB m.sX (within_ok sh 1 20000) (fun h2 => ?_) (fun h2 => ?_) <;> conv => cbv
        · refine r_leq m.sX (fun h3 => ?_) (fun h3 => ?_) <;> conv => cbv
          · refine r_leq m.sX (fun h4 => ?_) (fun h4 => ?_) <;> conv => cbv
            · exact hQ (.tup [.bool true, .bool true]) (Eq.trans (by first | rfl | (simp only [lb, lbI, rows_cons, rows_nil, unnilT, unnil, unnilTI, unnilI]; done) | (simp only [lb, lbI, rows_cons, rows_nil, unnilT, unnil, unnilTI, unnilI]; rfl)) (congrArg (bb) (show (true, true) = fitAns folds w h_ trim sw sh from by rw [fit_eq hwide, h1, h2]; simp; omega)))   -- leaf 1
            · refine r_leq m.sX (fun h5 => ?_) (fun h5 => ?_) <;> conv => cbv
              · refine r_leq m.sX (fun h6 => ?_) (fun h6 => ?_) <;> conv => cbv
                · exact hQ (.tup [.bool true, .bool true]) (Eq.trans (by first | rfl | (simp only [lb, lbI, rows_cons, rows_nil, unnilT, unnil, unnilTI, unnilI]; done) | (simp only [lb, lbI, rows_cons, rows_nil, unnilT, unnil, unnilTI, unnilI]; rfl)) (congrArg (bb) (show (true, true) = fitAns folds w h_ trim sw sh from by rw [fit_eq hwide, h1, h2]; simp; omega)))   -- leaf 2
                · exact hQ (.tup [.bool false, .bool true]) (Eq.trans (by first | rfl | (simp only [lb, lbI, rows_cons, rows_nil, unnilT, unnil, unnilTI, unnilI]; done) | (simp only [lb, lbI, rows_cons, rows_nil, unnilT, unnil, unnilTI, unnilI]; rfl)) (congrArg (bb) (show (false, true) = fitAns folds w h_ trim sw sh from by rw [fit_eq hwide, h1, h2]; simp; omega)))   -- leaf 3
              · exact hQ (.tup [.bool false, .bool true]) (Eq.trans (by first | rfl | (simp only [lb, lbI, rows_cons, rows_nil, unnilT, unnil, unnilTI, unnilI]; done) | (simp only [lb, lbI, rows_cons, rows_nil, unnilT, unnil, unnilTI, unnilI]; rfl)) (congrArg (bb) (show (false, true) = fitAns folds w h_ trim sw sh from by rw [fit_eq hwide, h1, h2]; simp; omega)))   -- leaf 4
          · refine r_leq m.sX (fun h7 => ?_) (fun h7 => ?_) <;> conv => cbv
            · refine r_leq m.sX (fun h8 => ?_) (fun h8 => ?_) <;> conv => cbv
              · exact hQ (.tup [.bool true, .bool true]) (Eq.trans (by first | rfl | (simp only [lb, lbI, rows_cons, rows_nil, unnilT, unnil, unnilTI, unnilI]; done) | (simp only [lb, lbI, rows_cons, rows_nil, unnilT, unnil, unnilTI, unnilI]; rfl)) (congrArg (bb) (show (true, true) = fitAns folds w h_ trim sw sh from by rw [fit_eq hwide, h1, h2]; simp; omega)))   -- leaf 5
              · exact hQ (.tup [.bool false, .bool true]) (Eq.trans (by first | rfl | (simp only [lb, lbI, rows_cons, rows_nil, unnilT, unnil, unnilTI, unnilI]; done) | (simp only [lb, lbI, rows_cons, rows_nil, unnilT, unnil, unnilTI, unnilI]; rfl)) (congrArg (bb) (show (false, true) = fitAns folds w h_ trim sw sh from by rw [fit_eq hwide, h1, h2]; simp; omega)))   -- leaf 6
            · exact hQ (.tup [.bool false, .bool true]) (Eq.trans (by first | rfl | (simp only [lb, lbI, rows_cons, rows_nil, unnilT, unnil, unnilTI, unnilI]; done) | (simp only [lb, lbI, rows_cons, rows_nil, unnilT, unnil, unnilTI, unnilI]; rfl)) (congrArg (bb) (show (false, true) = fitAns folds w h_ trim sw sh from by rw [fit_eq hwide, h1, h2]; simp; omega)))   -- leaf 7
        · exact hQ (.tup [.bool false, .bool false]) (Eq.trans (by first | rfl | (simp only [lb, lbI, rows_cons, rows_nil, unnilT, unnil, unnilTI, unnilI]; done) | (simp only [lb, lbI, rows_cons, rows_nil, unnilT, unnil, unnilTI, unnilI]; rfl)) (congrArg (bb) (show (false, false) = fitAns folds w h_ trim sw sh from by rw [fit_eq hwide, h1, h2]; rfl)))   -- leaf 8
      · exact hQ (.tup [.bool false, .bool false]) (Eq.trans (by first | rfl | (simp only [lb, lbI, rows_cons, rows_nil, unnilT, unnil, unnilTI, unnilI]; done) | (simp only [lb, lbI, rows_cons, rows_nil, unnilT, unnil, unnilTI, unnilI]; rfl)) (congrArg (bb) (show (false, false) = fitAns folds w h_ trim sw sh from by rw [fit_eq hwide, h1]; rfl)))   -- leaf 9
    · exact hQ (.tup [.bool false, .bool false]) (Eq.trans (by first | rfl | (simp only [lb, lbI, rows_cons, rows_nil, unnilT, unnil, unnilTI, unnilI]; done) | (simp only [lb, lbI, rows_cons, rows_nil, unnilT, unnil, unnilTI, unnilI]; rfl)) (congrArg (bb) (show (false, false) = fitAns folds w h_ trim sw sh from by rw [fit_eq hwide]; rfl)))   -- leaf 10

theorem mgThick_ok (n : Int)  : OkA Try.prog 144 [.int .i64 n] (· = .bool (inB n 0 500)) :=
  fn_intro envOk fieldsOk mixed Try.func144 rfl fun κ X Y L Q m hQ => by
    conv => cbv
    refine r_callB m.sX (l1In_ok n 0 500) (fun h1 => ?_) (fun h1 => ?_) <;> conv => cbv
    · exact hQ _ (congrArg PV.bool (by first | rfl | omega | (simp [*]; done) | (subst_vars; simp [*]; done)))   -- leaf 1
    · exact hQ _ (congrArg PV.bool (by first | rfl | omega | (simp [*]; done) | (subst_vars; simp [*]; done)))   -- leaf 2

theorem mgCreep_ok (pages : Int) (thick : Int) (page : Int) (hp : 2 ≤ pages ∧ pages ≤ 32) (he : pages % 2 = 0) (hk : 1 ≤ page ∧ page ≤ pages) (ht : 0 ≤ thick ∧ thick ≤ 500) : OkA Try.prog 146 [.int .i64 pages, .int .i64 thick, .int .i64 page] (· = .int .i64 (crp pages thick page)) :=
  fn_intro envOk fieldsOk mixed Try.func146 rfl fun κ X Y L Q m hQ => by
    conv => cbv
    refine r_subf m.sX (by omega) (by omega) fun r1 hr1 => ?_
    conv => cbv
    refine r_divf m.sX (by omega) (by omega) fun i hi bi => ?_
    conv => cbv
    refine r_divf m.sX (by omega) (by omega) fun r2 hr2 br2 => ?_
    conv => cbv
    refine r_subf m.sX (by omega) (by omega) fun r3 hr3 => ?_
    conv => cbv
    refine r_subf m.sX (by omega) (by omega) fun r4 hr4 => ?_
    conv => cbv
    refine r_callF (PV.int .i64) m.sX (l1Least_ok i r4) fun r5 hr5 => ?_
    conv => cbv
    have b5 : 0 ≤ r5 ∧ r5 ≤ 16 := by omega
    have g1 := mul_bound b5.1 b5.2 ht.1 ht.2
    refine r_mulf m.sX (by omega) (by omega) fun r6 hr6 => ?_
    conv => cbv
    refine r_divf m.sX (by omega) (by omega) fun r7 hr7 br7 => ?_
    conv => cbv
    exact hQ (.int .i64 r7) (Eq.trans (by first | rfl | (simp only [lb, lbI, rows_cons, rows_nil, unnilT, unnil, unnilTI, unnilI]; done) | (simp only [lb, lbI, rows_cons, rows_nil, unnilT, unnil, unnilTI, unnilI]; rfl)) (congrArg (PV.int .i64) (show r7 = crp pages thick page from by rw [hr7, hr6, hr5, hr4, hr3, hr2, hi, hr1]; rfl)))   -- leaf 1

theorem specCreepOf_ok (folds : List Fold) (thick : Int) (page : Int)  : OkA Try.prog 50 [.isl 2 (rows cFold folds), .int .i64 thick, .int .i64 page] (· = ib (crpAns folds thick page)) :=
  fn_intro envOk fieldsOk mixed Try.func50 rfl fun κ X Y L Q m hQ => by
    conv => cbv
    refine r_callB m.sX (imAsked_ok folds page) (fun h1 => ?_) (fun h1 => ?_) <;> conv => cbv
    · have t1 : goodF folds = true := by rw [Bool.and_eq_true] at h1; exact h1.1
      have k3 : inB page 1 (pgs folds) = true := by rw [t1] at h1; exact h1
      have k2 := inB_spec k3
      have pb := pgs_bound t1
      have ev := pgs_even folds
      refine r_callB m.sX (mgThick_ok thick) (fun h2 => ?_) (fun h2 => ?_) <;> conv => cbv
      · have t2 := inB_spec h2
        refine r_callF (PV.int .i64) m.sX (imCount_ok folds (by assumption)) fun r1 hr1 => ?_
        conv => cbv
        refine r_callF (PV.int .i64) m.sX (mgCreep_ok r1 thick page (by first | rfl | assumption | omega | (simp only [List.length_append, List.length_cons, List.length_nil] at *; omega)) (by first | rfl | assumption | omega | (simp only [List.length_append, List.length_cons, List.length_nil] at *; omega)) (by first | rfl | assumption | omega | (simp only [List.length_append, List.length_cons, List.length_nil] at *; omega)) (by first | rfl | assumption | omega | (simp only [List.length_append, List.length_cons, List.length_nil] at *; omega))) fun r2 hr2 => ?_
        conv => cbv
        exact hQ (.tup [.int .i64 r2, .bool true]) (Eq.trans (by first | rfl | (simp only [lb, lbI, rows_cons, rows_nil, unnilT, unnil, unnilTI, unnilI]; done) | (simp only [lb, lbI, rows_cons, rows_nil, unnilT, unnil, unnilTI, unnilI]; rfl)) (congrArg (ib) (show (r2, true) = crpAns folds thick page from by rw [crpAns, thickB, t1, h2, k3, hr2, hr1]; rfl)))   -- leaf 1
      · exact hQ (.tup [.int .i64 0, .bool false]) (Eq.trans (by first | rfl | (simp only [lb, lbI, rows_cons, rows_nil, unnilT, unnil, unnilTI, unnilI]; done) | (simp only [lb, lbI, rows_cons, rows_nil, unnilT, unnil, unnilTI, unnilI]; rfl)) (congrArg (ib) (show (0, false) = crpAns folds thick page from by rw [crpAns, thickB, t1, h2]; rfl)))   -- leaf 2
    · exact hQ (.tup [.int .i64 0, .bool false]) (Eq.trans (by first | rfl | (simp only [lb, lbI, rows_cons, rows_nil, unnilT, unnil, unnilTI, unnilI]; done) | (simp only [lb, lbI, rows_cons, rows_nil, unnilT, unnil, unnilTI, unnilI]; rfl)) (congrArg (ib) (show (0, false) = crpAns folds thick page from by exact (crp_bad h1).symm)))   -- leaf 3

theorem mgMost_ok (pages : Int) (thick : Int) (hp : 2 ≤ pages ∧ pages ≤ 32) (he : pages % 2 = 0) (ht : 0 ≤ thick ∧ thick ≤ 500) : OkA Try.prog 147 [.int .i64 pages, .int .i64 thick] (· = .int .i64 (mostF pages thick)) :=
  fn_intro envOk fieldsOk mixed Try.func147 rfl fun κ X Y L Q m hQ => by
    conv => cbv
    refine r_divf m.sX (by omega) (by omega) fun r1 hr1 br1 => ?_
    conv => cbv
    refine r_callF (PV.int .i64) m.sX (mgCreep_ok pages thick r1 (by first | rfl | assumption | omega | (simp only [List.length_append, List.length_cons, List.length_nil] at *; omega)) (by first | rfl | assumption | omega | (simp only [List.length_append, List.length_cons, List.length_nil] at *; omega)) (by first | rfl | assumption | omega | (simp only [List.length_append, List.length_cons, List.length_nil] at *; omega)) (by first | rfl | assumption | omega | (simp only [List.length_append, List.length_cons, List.length_nil] at *; omega))) fun r2 hr2 => ?_
    conv => cbv
    exact hQ (.int .i64 r2) (Eq.trans (by first | rfl | (simp only [lb, lbI, rows_cons, rows_nil, unnilT, unnil, unnilTI, unnilI]; done) | (simp only [lb, lbI, rows_cons, rows_nil, unnilT, unnil, unnilTI, unnilI]; rfl)) (congrArg (PV.int .i64) (show r2 = mostF pages thick from by rw [hr2, hr1]; rfl)))   -- leaf 1

theorem specGreatestCreep_ok (folds : List Fold) (thick : Int)  : OkA Try.prog 39 [.isl 2 (rows cFold folds), .int .i64 thick] (· = ib (mostAns folds thick)) :=
  fn_intro envOk fieldsOk mixed Try.func39 rfl fun κ X Y L Q m hQ => by
    conv => cbv
    refine r_callB m.sX (imGood_ok folds) (fun h1 => ?_) (fun h1 => ?_) <;> conv => cbv
    · have pb := pgs_bound h1
      have ev := pgs_even folds
      refine r_callB m.sX (mgThick_ok thick) (fun h2 => ?_) (fun h2 => ?_) <;> conv => cbv
      · have t2 := inB_spec h2
        refine r_callF (PV.int .i64) m.sX (imCount_ok folds (by assumption)) fun r1 hr1 => ?_
        conv => cbv
        refine r_callF (PV.int .i64) m.sX (mgMost_ok r1 thick (by first | rfl | assumption | omega | (simp only [List.length_append, List.length_cons, List.length_nil] at *; omega)) (by first | rfl | assumption | omega | (simp only [List.length_append, List.length_cons, List.length_nil] at *; omega)) (by first | rfl | assumption | omega | (simp only [List.length_append, List.length_cons, List.length_nil] at *; omega))) fun r2 hr2 => ?_
        conv => cbv
        exact hQ (.tup [.int .i64 r2, .bool true]) (Eq.trans (by first | rfl | (simp only [lb, lbI, rows_cons, rows_nil, unnilT, unnil, unnilTI, unnilI]; done) | (simp only [lb, lbI, rows_cons, rows_nil, unnilT, unnil, unnilTI, unnilI]; rfl)) (congrArg (ib) (show (r2, true) = mostAns folds thick from by rw [mostAns, thickB, h1, h2, hr2, hr1]; rfl)))   -- leaf 1
      · exact hQ (.tup [.int .i64 0, .bool false]) (Eq.trans (by first | rfl | (simp only [lb, lbI, rows_cons, rows_nil, unnilT, unnil, unnilTI, unnilI]; done) | (simp only [lb, lbI, rows_cons, rows_nil, unnilT, unnil, unnilTI, unnilI]; rfl)) (congrArg (ib) (show (0, false) = mostAns folds thick from by rw [mostAns, thickB, h1, h2]; rfl)))   -- leaf 2
    · exact hQ (.tup [.int .i64 0, .bool false]) (Eq.trans (by first | rfl | (simp only [lb, lbI, rows_cons, rows_nil, unnilT, unnil, unnilTI, unnilI]; done) | (simp only [lb, lbI, rows_cons, rows_nil, unnilT, unnil, unnilTI, unnilI]; rfl)) (congrArg (ib) (show (0, false) = mostAns folds thick from by rw [mostAns, thickB, h1]; rfl)))   -- leaf 3

theorem specBacksOf_ok (folds : List Fold) (m_ : Margins) (thick : Int)  : OkA Try.prog 37 [.isl 2 (rows cFold folds), .agg (cMargins m_), .int .i64 thick] (· = (lb 3 1 cInt) (backAns folds m_ thick)) := by
  obtain ⟨m_A, m_B, m_C, m_D⟩ := m_
  try dsimp only at *
  exact OkA.unnil 3 1 (fn_intro envOk fieldsOk mixed Try.func37 rfl fun κ X Y L Q m hQ => by
    conv => cbv
    refine r_callB m.sX (imGood_ok folds) (fun h1 => ?_) (fun h1 => ?_) <;> conv => cbv
    · have pb := pgs_bound h1
      try dsimp only at pb
      have ev := pgs_even folds
      try dsimp only at ev
      refine r_callB m.sX (mgGood_ok (m_A, m_B, m_C, m_D)) (fun h2 => ?_) (fun h2 => ?_) <;> conv => cbv
      · have mb := marg_spec h2
        try dsimp only at mb
        refine r_callB m.sX (mgThick_ok thick) (fun h3 => ?_) (fun h3 => ?_) <;> conv => cbv
        · have t2 := inB_spec h3
          try dsimp only at t2
          refine r_loopF (α := List Int × Int) m 45 [0, 2, 9] [⟨4, 33, 0, 0, 0⟩, ⟨8, 65, 3, 1, 0⟩] (fun σ => [(0, .isl 2 (rows cFold folds)), (2, .int .i64 thick), (4, .optr 33 0 4 0 0), (8, .osl 65 0), (9, .int .i64 σ.2)]) (fun σ => [(33, 0, .box [.int .i64 m_A, .int .i64 m_B, .int .i64 m_C, .int .i64 m_D]), (65, 0, .row 3 1 (rows cInt σ.1))])
            (fun σ => (1 ≤ σ.2 ∧ σ.2 ≤ pgs folds + 1) ∧ (σ.1 = (List.range (σ.2 - 1).toNat).map fun i : Nat => m_B - crp (pgs folds) thick ((i : Int) + 1)) ∧ (∀ k, 1 ≤ k → k < σ.2 → crp (pgs folds) thick k ≤ m_B)) (fun σ => (pgs folds + 1 - σ.2).toNat) ([], 1) ?_ ?_ ?_ ?_
          · cbv
          · (try dsimp only); simp only [rows_cons, rows_nil]; cbv
          · exact ⟨(by (try dsimp only) <;> first | omega | rfl | (simp [*]; done)), (by (try dsimp only) <;> (rfl)), (by (try dsimp only) <;> (intro k k1 k2; omega))⟩
          rintro ⟨out, page⟩ ⟨b, q, g⟩ E hE F hF
          dsimp only at b q g
          have ll : (out.length : Int) = page - 1 := by rw [q, List.length_map, List.length_range]; omega
          conv => cbv
          refine r_callF (PV.int .i64) m.sX (imCount_ok folds (by assumption)) fun r1 hr1 => ?_
          conv => cbv
          try dsimp only at hr1
          refine r_leq m.sX (fun h4 => ?_) (fun h4 => ?_) <;> conv => cbv
          · refine r_draw m (by kernel_rfl) ?_
            conv => cbv
            refine r_callFS (PV.int .i64) m.sY (imCount_ok folds (by assumption)) trivial fun r2 hr2 => ?_
            conv => cbv
            try dsimp only at hr2
            refine r_callFS (PV.int .i64) m.sY (mgCreep_ok r2 thick page (by first | rfl | assumption | omega | (simp only [List.length_append, List.length_cons, List.length_nil] at *; omega)) (by first | rfl | assumption | omega | (simp only [List.length_append, List.length_cons, List.length_nil] at *; omega)) (by first | rfl | assumption | omega | (simp only [List.length_append, List.length_cons, List.length_nil] at *; omega)) (by first | rfl | assumption | omega | (simp only [List.length_append, List.length_cons, List.length_nil] at *; omega))) trivial fun r3 hr3 => ?_
            conv => cbv
            try dsimp only at hr3
            have e3 : r3 = crp (pgs folds) thick page := by rw [hr3, hr2]
            have cb := crp_bound (p := pgs folds) (t := thick) (k := page) b.1 (by omega) pb.2 t2.1 t2.2 ev
            try dsimp only at cb
            have cl := crp_le (p := pgs folds) (t := thick) (k := page) b.1 (by omega) pb.2 t2.1 ev
            try dsimp only at cl
            refine r_subf m.sY (by omega) (by omega) fun back hback => ?_
            conv => cbv
            refine r_lss m.sX (fun h5 => ?_) (fun h5 => ?_) <;> conv => cbv
            · refine hF _ _ ?_
              conv => cbv
              exact hQ (.tup [.nil, .bool false]) (Eq.trans (by first | rfl | (simp only [lb, lbI, rows_cons, rows_nil, unnilT, unnil, unnilTI, unnilI]; done) | (simp only [lb, lbI, rows_cons, rows_nil, unnilT, unnil, unnilTI, unnilI]; rfl)) (congrArg ((lb 3 1 cInt)) (show ([], false) = backAns folds (m_A, m_B, m_C, m_D) thick from by rw [backAns, thickB, h1, h2, h3, decide_eq_false (show ¬ mostF (pgs folds) thick ≤ m_B by omega)]; rfl)))   -- leaf 1
            · refine r_append1 (back) m.sX rfl (by first | omega | (dsimp only; omega)) (by first | omega | (dsimp only; omega)) fun out_2 hout_2 => ?_
              conv => cbv
              have lout_2 : (out_2.length : Int) = out.length + 1 := by rw [hout_2]; first | done | (simp; done) | (simp; omega)
              refine r_addf m.sX (by omega) (by omega) fun page_2 hpage_2 => ?_
              conv => cbv
              refine hE _ (out_2, page_2) ?_ ?_ ⟨(by (try dsimp only) <;> first | omega | rfl | (simp [*]; done) | (rw [b]; simp [*]; done)), (by (try dsimp only) <;> (rw [hout_2, q, show page_2 - 1 = page - 1 + 1 by omega]; exact range_next _ _ (by omega) (by rw [hback, e3]; show _ = m_B - crp (pgs folds) thick (((page - 1).toNat : Int) + 1); rw [show (((page - 1).toNat : Int) + 1) = page by omega]))), (by (try dsimp only) <;> (intro k k1 k2; rcases Int.lt_or_le k page with hh | hh; exact g k k1 hh; rw [show k = page by omega]; omega))⟩ (by first | omega | (dsimp only; omega))
              · cbv
              · cbv
          · refine hF _ _ ?_
            conv => cbv
            exact hQ (.tup [.fr 3 1 (rows cInt out), .bool true]) (Eq.trans (by first | rfl | (simp only [lb, lbI, rows_cons, rows_nil, unnilT, unnil, unnilTI, unnilI]; done) | (simp only [lb, lbI, rows_cons, rows_nil, unnilT, unnil, unnilTI, unnilI]; rfl)) (congrArg ((lb 3 1 cInt)) (show (out, true) = backAns folds (m_A, m_B, m_C, m_D) thick from by rw [backAns, thickB, h1, h2, h3, decide_eq_true (show mostF (pgs folds) thick ≤ m_B from g (pgs folds / 2) (by omega) (by omega)), q, show page - 1 = pgs folds by omega]; rfl)))   -- leaf 2
        · exact hQ (.tup [.nil, .bool false]) (Eq.trans (by first | rfl | (simp only [lb, lbI, rows_cons, rows_nil, unnilT, unnil, unnilTI, unnilI]; done) | (simp only [lb, lbI, rows_cons, rows_nil, unnilT, unnil, unnilTI, unnilI]; rfl)) (congrArg ((lb 3 1 cInt)) (show ([], false) = backAns folds (m_A, m_B, m_C, m_D) thick from by rw [backAns, thickB, h1, h2, h3]; rfl)))   -- leaf 3
      · exact hQ (.tup [.nil, .bool false]) (Eq.trans (by first | rfl | (simp only [lb, lbI, rows_cons, rows_nil, unnilT, unnil, unnilTI, unnilI]; done) | (simp only [lb, lbI, rows_cons, rows_nil, unnilT, unnil, unnilTI, unnilI]; rfl)) (congrArg ((lb 3 1 cInt)) (show ([], false) = backAns folds (m_A, m_B, m_C, m_D) thick from by rw [backAns, thickB, h1, h2]; simp)))   -- leaf 4
    · exact hQ (.tup [.nil, .bool false]) (Eq.trans (by first | rfl | (simp only [lb, lbI, rows_cons, rows_nil, unnilT, unnil, unnilTI, unnilI]; done) | (simp only [lb, lbI, rows_cons, rows_nil, unnilT, unnil, unnilTI, unnilI]; rfl)) (congrArg ((lb 3 1 cInt)) (show ([], false) = backAns folds (m_A, m_B, m_C, m_D) thick from by rw [backAns, thickB, h1]; rfl))))   -- leaf 5

theorem specNarrowestFore_ok (folds : List Fold) (m_ : Margins) (thick : Int)  : OkA Try.prog 41 [.isl 2 (rows cFold folds), .agg (cMargins m_), .int .i64 thick] (· = ib (foreAns folds m_ thick)) := by
  obtain ⟨m_A, m_B, m_C, m_D⟩ := m_
  try dsimp only at *
  exact fn_intro envOk fieldsOk mixed Try.func41 rfl fun κ X Y L Q m hQ => by
    conv => cbv
    refine r_draw m (by kernel_rfl) ?_
    conv => cbv
    refine r_callBS m.sY (imGood_ok folds) (fun h1 => ?_) (fun h1 => ?_) <;> conv => cbv
    · have pb := pgs_bound h1
      try dsimp only at pb
      have ev := pgs_even folds
      try dsimp only at ev
      refine r_callBS m.sY (mgGood_ok (m_A, m_B, m_C, m_D)) (fun h2 => ?_) (fun h2 => ?_) <;> conv => cbv
      · have mb := marg_spec h2
        try dsimp only at mb
        refine r_callBS m.sY (mgThick_ok thick) (fun h3 => ?_) (fun h3 => ?_) <;> conv => cbv
        · have t2 := inB_spec h3
          try dsimp only at t2
          have mo := most_bound pb.1 pb.2 t2.1 t2.2 ev
          try dsimp only at mo
          refine r_callFS (PV.int .i64) m.sY (imCount_ok folds (by assumption)) trivial fun r1 hr1 => ?_
          conv => cbv
          try dsimp only at hr1
          refine r_callFS (PV.int .i64) m.sY (mgMost_ok r1 thick (by first | rfl | assumption | omega | (simp only [List.length_append, List.length_cons, List.length_nil] at *; omega)) (by first | rfl | assumption | omega | (simp only [List.length_append, List.length_cons, List.length_nil] at *; omega)) (by first | rfl | assumption | omega | (simp only [List.length_append, List.length_cons, List.length_nil] at *; omega))) trivial fun r2 hr2 => ?_
          conv => cbv
          try dsimp only at hr2
          have e2 : r2 = mostF (pgs folds) thick := by rw [hr2, hr1]
          refine r_lss m.sY (fun h4 => ?_) (fun h4 => ?_) <;> conv => cbv
          · exact hQ (.tup [.int .i64 0, .bool false]) (Eq.trans (by first | rfl | (simp only [lb, lbI, rows_cons, rows_nil, unnilT, unnil, unnilTI, unnilI]; done) | (simp only [lb, lbI, rows_cons, rows_nil, unnilT, unnil, unnilTI, unnilI]; rfl)) (congrArg (ib) (show (0, false) = foreAns folds (m_A, m_B, m_C, m_D) thick from by rw [foreAns, thickB, h1, h2, h3, decide_eq_false (show ¬ mostF (pgs folds) thick ≤ m_C by omega)]; rfl)))   -- leaf 1
          · refine r_draw m (by kernel_rfl) ?_
            conv => cbv
            refine r_callFS (PV.int .i64) m.sY (imCount_ok folds (by assumption)) trivial fun r3 hr3 => ?_
            conv => cbv
            try dsimp only at hr3
            refine r_callFS (PV.int .i64) m.sY (mgMost_ok r3 thick (by first | rfl | assumption | omega | (simp only [List.length_append, List.length_cons, List.length_nil] at *; omega)) (by first | rfl | assumption | omega | (simp only [List.length_append, List.length_cons, List.length_nil] at *; omega)) (by first | rfl | assumption | omega | (simp only [List.length_append, List.length_cons, List.length_nil] at *; omega))) trivial fun r4 hr4 => ?_
            conv => cbv
            try dsimp only at hr4
            have e4 : r4 = mostF (pgs folds) thick := by rw [hr4, hr3]
            refine r_subf m.sY (by omega) (by omega) fun r5 hr5 => ?_
            conv => cbv
            exact hQ (.tup [.int .i64 r5, .bool true]) (Eq.trans (by first | rfl | (simp only [lb, lbI, rows_cons, rows_nil, unnilT, unnil, unnilTI, unnilI]; done) | (simp only [lb, lbI, rows_cons, rows_nil, unnilT, unnil, unnilTI, unnilI]; rfl)) (congrArg (ib) (show (r5, true) = foreAns folds (m_A, m_B, m_C, m_D) thick from by rw [foreAns, thickB, h1, h2, h3, decide_eq_true (show mostF (pgs folds) thick ≤ m_C by omega), hr5, e4]; rfl)))   -- leaf 2
        · exact hQ (.tup [.int .i64 0, .bool false]) (Eq.trans (by first | rfl | (simp only [lb, lbI, rows_cons, rows_nil, unnilT, unnil, unnilTI, unnilI]; done) | (simp only [lb, lbI, rows_cons, rows_nil, unnilT, unnil, unnilTI, unnilI]; rfl)) (congrArg (ib) (show (0, false) = foreAns folds (m_A, m_B, m_C, m_D) thick from by rw [foreAns, thickB, h1, h2, h3]; rfl)))   -- leaf 3
      · exact hQ (.tup [.int .i64 0, .bool false]) (Eq.trans (by first | rfl | (simp only [lb, lbI, rows_cons, rows_nil, unnilT, unnil, unnilTI, unnilI]; done) | (simp only [lb, lbI, rows_cons, rows_nil, unnilT, unnil, unnilTI, unnilI]; rfl)) (congrArg (ib) (show (0, false) = foreAns folds (m_A, m_B, m_C, m_D) thick from by rw [foreAns, thickB, h1, h2]; simp)))   -- leaf 4
    · exact hQ (.tup [.int .i64 0, .bool false]) (Eq.trans (by first | rfl | (simp only [lb, lbI, rows_cons, rows_nil, unnilT, unnil, unnilTI, unnilI]; done) | (simp only [lb, lbI, rows_cons, rows_nil, unnilT, unnil, unnilTI, unnilI]; rfl)) (congrArg (ib) (show (0, false) = foreAns folds (m_A, m_B, m_C, m_D) thick from by rw [foreAns, thickB, h1]; rfl)))   -- leaf 5

theorem mgSheet_ok (folds : List Fold) (w : Int) (h_ : Int) (trim : Int)  : OkA Try.prog 154 [.isl 2 (rows cFold folds), .int .i64 w, .int .i64 h_, .int .i64 trim] (· = .bool (goodF folds && (pageB w h_ && inB trim 0 100))) :=
  fn_intro envOk fieldsOk mixed Try.func154 rfl fun κ X Y L Q m hQ => by
    conv => cbv
    refine r_callB m.sX (imGood_ok folds) (fun h1 => ?_) (fun h1 => ?_) <;> conv => cbv
    · refine r_callB m.sX (mgPage_ok w h_) (fun h2 => ?_) (fun h2 => ?_) <;> conv => cbv
      · refine r_callB m.sX (l1In_ok trim 0 100) (fun h3 => ?_) (fun h3 => ?_) <;> conv => cbv
        · exact hQ _ (congrArg PV.bool (by first | rfl | omega | (simp [*]; done) | (subst_vars; simp [*]; done)))   -- leaf 1
        · exact hQ _ (congrArg PV.bool (by first | rfl | omega | (simp [*]; done) | (subst_vars; simp [*]; done)))   -- leaf 2
      · exact hQ _ (congrArg PV.bool (by first | rfl | omega | (simp [*]; done) | (subst_vars; simp [*]; done)))   -- leaf 3
    · exact hQ _ (congrArg PV.bool (by first | rfl | omega | (simp [*]; done) | (subst_vars; simp [*]; done)))   -- leaf 4

theorem specSheetFor_ok (folds : List Fold) (w : Int) (h_ : Int) (trim : Int)  : OkA Try.prog 45 [.isl 2 (rows cFold folds), .int .i64 w, .int .i64 h_, .int .i64 trim] (· = iib (shAns folds w h_ trim)) :=
  fn_intro envOk fieldsOk mixed Try.func45 rfl fun κ X Y L Q m hQ => by
    conv => cbv
    refine r_callB m.sX (mgSheet_ok folds w h_ trim) (fun h1 => ?_) (fun h1 => ?_) <;> conv => cbv
    · have hg : goodF folds = true := by rw [Bool.and_eq_true] at h1; exact h1.1
      have sb := size_bound hg
      have bw3 : (60 ≤ w ∧ w ≤ 2000) ∧ (60 ≤ h_ ∧ h_ ≤ 2000) ∧ (0 ≤ trim ∧ trim ≤ 100) := by simp only [pageB, Bool.and_eq_true] at h1; exact ⟨inB_spec h1.2.1.1, inB_spec h1.2.1.2, inB_spec h1.2.2⟩
      refine r_callF ii m.sX (imSize_ok folds (goodF_le (by assumption))) fun v hcolumns => ?_
      obtain ⟨columns, rows⟩ := v
      conv => cbv
      have c1 : columns = (sizeF folds).1 := by rw [← hcolumns]
      have c2 : rows = (sizeF folds).2 := by rw [← hcolumns]
      refine r_addf m.sX (by omega) (by omega) fun r1 hr1 => ?_
      conv => cbv
      have g1 := mul_bound (show 0 ≤ columns by omega) (show columns ≤ 16 by omega) (show 0 ≤ r1 by omega) (show r1 ≤ 2100 by omega)
      refine r_mulf m.sX (by omega) (by omega) fun r2 hr2 => ?_
      conv => cbv
      refine r_addf m.sX (by omega) (by omega) fun r3 hr3 => ?_
      conv => cbv
      have g3 := mul_bound (show 0 ≤ rows by omega) (show rows ≤ 16 by omega) (show 0 ≤ r3 by omega) (show r3 ≤ 2100 by omega)
      refine r_mulf m.sX (by omega) (by omega) fun r4 hr4 => ?_
      conv => cbv
      exact hQ (.tup [.int .i64 r2, .int .i64 r4, .bool true]) (Eq.trans (by first | rfl | (simp only [lb, lbI, rows_cons, rows_nil, unnilT, unnil, unnilTI, unnilI]; done) | (simp only [lb, lbI, rows_cons, rows_nil, unnilT, unnil, unnilTI, unnilI]; rfl)) (congrArg (iib) (show (r2, r4, true) = shAns folds w h_ trim from by rw [shAns, h1, hr2, hr4, hr1, hr3, c1, c2]; rfl)))   -- leaf 1
    · exact hQ (.tup [.int .i64 0, .int .i64 0, .bool false]) (Eq.trans (by first | rfl | (simp only [lb, lbI, rows_cons, rows_nil, unnilT, unnil, unnilTI, unnilI]; done) | (simp only [lb, lbI, rows_cons, rows_nil, unnilT, unnil, unnilTI, unnilI]; rfl)) (congrArg (iib) (show (0, 0, false) = shAns folds w h_ trim from by rw [shAns, h1]; rfl)))   -- leaf 2

theorem specDoesFitSheet_ok (folds : List Fold) (w : Int) (h_ : Int) (trim : Int) (sw : Int) (sh : Int)  : OkA Try.prog 48 [.isl 2 (rows cFold folds), .int .i64 w, .int .i64 h_, .int .i64 trim, .int .i64 sw, .int .i64 sh] (· = bb (fitAns folds w h_ trim sw sh)) :=
  fn_intro envOk fieldsOk mixed Try.func48 rfl fun κ X Y L Q m hQ => by
    conv => cbv
    refine r_callB m.sX (mgSheet_ok folds w h_ trim) (fun h1 => ?_) (fun h1 => ?_) <;> conv => cbv
    · have hg : goodF folds = true := by rw [Bool.and_eq_true] at h1; exact h1.1
      have sb := size_bound hg
      have bw3 : (60 ≤ w ∧ w ≤ 2000) ∧ (60 ≤ h_ ∧ h_ ≤ 2000) ∧ (0 ≤ trim ∧ trim ≤ 100) := by simp only [pageB, Bool.and_eq_true] at h1; exact ⟨inB_spec h1.2.1.1, inB_spec h1.2.1.2, inB_spec h1.2.2⟩
      refine r_callB m.sX (l1In_ok sw 1 20000) (fun h2 => ?_) (fun h2 => ?_) <;> conv => cbv
      · refine r_callB m.sX (l1In_ok sh 1 20000) (fun h3 => ?_) (fun h3 => ?_) <;> conv => cbv
        · refine r_callF ii m.sX (imSize_ok folds (goodF_le (by assumption))) fun v hcolumns => ?_
          obtain ⟨columns, rows⟩ := v
          conv => cbv
          have c1 : columns = (sizeF folds).1 := by rw [← hcolumns]
          have c2 : rows = (sizeF folds).2 := by rw [← hcolumns]
          refine r_addf m.sX (by omega) (by omega) fun r1 hr1 => ?_
          conv => cbv
          have g1 := mul_bound (show 0 ≤ columns by omega) (show columns ≤ 16 by omega) (show 0 ≤ r1 by omega) (show r1 ≤ 2100 by omega)
          refine r_mulf m.sX (by omega) (by omega) fun a ha => ?_
          conv => cbv
          refine r_addf m.sX (by omega) (by omega) fun r2 hr2 => ?_
          conv => cbv
          have g3 := mul_bound (show 0 ≤ rows by omega) (show rows ≤ 16 by omega) (show 0 ≤ r2 by omega) (show r2 ≤ 2100 by omega)
          refine r_mulf m.sX (by omega) (by omega) fun b hb => ?_
          conv => cbv
          have hs : (a, b, true) = shAns folds w h_ trim := by rw [shAns, h1, ha, hb, hr1, hr2, c1, c2]; rfl
          refine r_leq m.sX (fun h4 => ?_) (fun h4 => ?_) <;> conv => cbv
          · refine r_leq m.sX (fun h5 => ?_) (fun h5 => ?_) <;> conv => cbv
            · exact hQ (.tup [.bool true, .bool true]) (Eq.trans (by first | rfl | (simp only [lb, lbI, rows_cons, rows_nil, unnilT, unnil, unnilTI, unnilI]; done) | (simp only [lb, lbI, rows_cons, rows_nil, unnilT, unnil, unnilTI, unnilI]; rfl)) (congrArg (bb) (show (true, true) = fitAns folds w h_ trim sw sh from by rw [fit_eq hs, h2, h3]; simp; omega)))   -- leaf 1
            · refine r_leq m.sX (fun h6 => ?_) (fun h6 => ?_) <;> conv => cbv
              · refine r_leq m.sX (fun h7 => ?_) (fun h7 => ?_) <;> conv => cbv
                · exact hQ (.tup [.bool true, .bool true]) (Eq.trans (by first | rfl | (simp only [lb, lbI, rows_cons, rows_nil, unnilT, unnil, unnilTI, unnilI]; done) | (simp only [lb, lbI, rows_cons, rows_nil, unnilT, unnil, unnilTI, unnilI]; rfl)) (congrArg (bb) (show (true, true) = fitAns folds w h_ trim sw sh from by rw [fit_eq hs, h2, h3]; simp; omega)))   -- leaf 2
                · exact hQ (.tup [.bool false, .bool true]) (Eq.trans (by first | rfl | (simp only [lb, lbI, rows_cons, rows_nil, unnilT, unnil, unnilTI, unnilI]; done) | (simp only [lb, lbI, rows_cons, rows_nil, unnilT, unnil, unnilTI, unnilI]; rfl)) (congrArg (bb) (show (false, true) = fitAns folds w h_ trim sw sh from by rw [fit_eq hs, h2, h3]; simp; omega)))   -- leaf 3
              · exact hQ (.tup [.bool false, .bool true]) (Eq.trans (by first | rfl | (simp only [lb, lbI, rows_cons, rows_nil, unnilT, unnil, unnilTI, unnilI]; done) | (simp only [lb, lbI, rows_cons, rows_nil, unnilT, unnil, unnilTI, unnilI]; rfl)) (congrArg (bb) (show (false, true) = fitAns folds w h_ trim sw sh from by rw [fit_eq hs, h2, h3]; simp; omega)))   -- leaf 4
          · refine r_leq m.sX (fun h8 => ?_) (fun h8 => ?_) <;> conv => cbv
            · refine r_leq m.sX (fun h9 => ?_) (fun h9 => ?_) <;> conv => cbv
              · exact hQ (.tup [.bool true, .bool true]) (Eq.trans (by first | rfl | (simp only [lb, lbI, rows_cons, rows_nil, unnilT, unnil, unnilTI, unnilI]; done) | (simp only [lb, lbI, rows_cons, rows_nil, unnilT, unnil, unnilTI, unnilI]; rfl)) (congrArg (bb) (show (true, true) = fitAns folds w h_ trim sw sh from by rw [fit_eq hs, h2, h3]; simp; omega)))   -- leaf 5
              · exact hQ (.tup [.bool false, .bool true]) (Eq.trans (by first | rfl | (simp only [lb, lbI, rows_cons, rows_nil, unnilT, unnil, unnilTI, unnilI]; done) | (simp only [lb, lbI, rows_cons, rows_nil, unnilT, unnil, unnilTI, unnilI]; rfl)) (congrArg (bb) (show (false, true) = fitAns folds w h_ trim sw sh from by rw [fit_eq hs, h2, h3]; simp; omega)))   -- leaf 6
            · exact hQ (.tup [.bool false, .bool true]) (Eq.trans (by first | rfl | (simp only [lb, lbI, rows_cons, rows_nil, unnilT, unnil, unnilTI, unnilI]; done) | (simp only [lb, lbI, rows_cons, rows_nil, unnilT, unnil, unnilTI, unnilI]; rfl)) (congrArg (bb) (show (false, true) = fitAns folds w h_ trim sw sh from by rw [fit_eq hs, h2, h3]; simp; omega)))   -- leaf 7
        · exact hQ (.tup [.bool false, .bool false]) (Eq.trans (by first | rfl | (simp only [lb, lbI, rows_cons, rows_nil, unnilT, unnil, unnilTI, unnilI]; done) | (simp only [lb, lbI, rows_cons, rows_nil, unnilT, unnil, unnilTI, unnilI]; rfl)) (congrArg (bb) (show (false, false) = fitAns folds w h_ trim sw sh from by rw [fitAns, h2, h3]; simp)))   -- leaf 8
      · exact hQ (.tup [.bool false, .bool false]) (Eq.trans (by first | rfl | (simp only [lb, lbI, rows_cons, rows_nil, unnilT, unnil, unnilTI, unnilI]; done) | (simp only [lb, lbI, rows_cons, rows_nil, unnilT, unnil, unnilTI, unnilI]; rfl)) (congrArg (bb) (show (false, false) = fitAns folds w h_ trim sw sh from by rw [fitAns, h2]; simp)))   -- leaf 9
    · have hs : (0, 0, false) = shAns folds w h_ trim := by rw [shAns, h1]; rfl
      exact hQ (.tup [.bool false, .bool false]) (Eq.trans (by first | rfl | (simp only [lb, lbI, rows_cons, rows_nil, unnilT, unnil, unnilTI, unnilI]; done) | (simp only [lb, lbI, rows_cons, rows_nil, unnilT, unnil, unnilTI, unnilI]; rfl)) (congrArg (bb) (show (false, false) = fitAns folds w h_ trim sw sh from by rw [fit_eq hs]; rfl)))   -- leaf 10

end Go.Proofs.Ytnanackogloioaa.Ai
