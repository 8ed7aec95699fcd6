/- Contracts of the functions on castings: machines, times, orders. -/
import Derived.Test.YtjmjepdlclehoaaCastLaw
import Derived.Test.YtjmjepdlclehoaaTri
namespace Go.Proofs.Ytjmjepdlclehoaa.Ai
open Go Go.Proofs
set_option linter.unusedSimpArgs false
set_option maxRecDepth 10000
set_option maxHeartbeats 4000000
set_option linter.unusedVariables false
theorem isBody_ok (n : Int)  : OkA Try.prog 91 [.int .i64 n] (· = .bool (inB n 1 72)) :=
  fn_intro envOk fieldsOk mixed Try.func91 rfl fun κ X Y L Q m hQ => by
    conv => cbv
    refine r_callB m.sX (within_ok n 1 72) (fun h1 => ?_) (fun h1 => ?_) <;> conv => cbv
    · exact hQ _ (congrArg PV.bool (by simp [*]))   -- leaf 1
    · exact hQ _ (congrArg PV.bool (by simp [*]))   -- leaf 2

theorem isMinutes_ok (n : Int)  : OkA Try.prog 74 [.int .i64 n] (· = .bool (inB n 0 100000)) :=
  fn_intro envOk fieldsOk mixed Try.func74 rfl fun κ X Y L Q m hQ => by
    conv => cbv
    refine r_callB m.sX (within_ok n 0 100000) (fun h1 => ?_) (fun h1 => ?_) <;> conv => cbv
    · exact hQ _ (congrArg PV.bool (by simp [*]))   -- leaf 1
    · exact hQ _ (congrArg PV.bool (by simp [*]))   -- leaf 2

theorem csMinutes_ok (n : Int)  : OkA Try.prog 77 [.int .i64 n] (· = .bool (inB n 0 100000)) :=
  fn_intro envOk fieldsOk mixed Try.func77 rfl fun κ X Y L Q m hQ => by
    conv => cbv
    refine r_callB m.sX (l1In_ok n 0 100000) (fun h1 => ?_) (fun h1 => ?_) <;> conv => cbv
    · exact hQ _ (congrArg PV.bool (by simp [*]))   -- leaf 1
    · exact hQ _ (congrArg PV.bool (by simp [*]))   -- leaf 2

theorem IsMachine_ok (m_ : CMach)  : OkA Try.prog 27 [.agg (cMachine m_)] (· = .bool (okM m_)) := by
  obtain ⟨m_A, m_B, m_C⟩ := m_
  try dsimp only at *
  exact fn_intro envOk fieldsOk mixed Try.func27 rfl fun κ X Y L Q m hQ => by
    conv => cbv
    refine r_callB m.sX (isBody_ok m_A) (fun h1 => ?_) (fun h1 => ?_) <;> conv => cbv
    · refine r_callB m.sX (within_ok m_B 1 10000) (fun h2 => ?_) (fun h2 => ?_) <;> conv => cbv
      · refine r_callB m.sX (within_ok m_C 0 600) (fun h3 => ?_) (fun h3 => ?_) <;> conv => cbv
        · exact hQ _ (congrArg PV.bool (by first | rfl | omega | (simp [okM, *]; done) | (subst_vars; simp [okM, *]; done)))   -- leaf 1
        · exact hQ _ (congrArg PV.bool (by first | rfl | omega | (simp [okM, *]; done) | (subst_vars; simp [okM, *]; done)))   -- leaf 2
      · exact hQ _ (congrArg PV.bool (by first | rfl | omega | (simp [okM, *]; done) | (subst_vars; simp [okM, *]; done)))   -- leaf 3
    · exact hQ _ (congrArg PV.bool (by first | rfl | omega | (simp [okM, *]; done) | (subst_vars; simp [okM, *]; done)))   -- leaf 4

theorem csMachine_ok (m_ : CMach)  : OkA Try.prog 69 [.agg (cMachine m_)] (· = .bool (okM m_)) := by
  obtain ⟨m_A, m_B, m_C⟩ := m_
  try dsimp only at *
  exact fn_intro envOk fieldsOk mixed Try.func69 rfl fun κ X Y L Q m hQ => by
    conv => cbv
    refine r_callB m.sX (l1In_ok m_A 1 72) (fun h1 => ?_) (fun h1 => ?_) <;> conv => cbv
    · refine r_callB m.sX (l1In_ok m_B 1 10000) (fun h2 => ?_) (fun h2 => ?_) <;> conv => cbv
      · refine r_callB m.sX (l1In_ok m_C 0 600) (fun h3 => ?_) (fun h3 => ?_) <;> conv => cbv
        · exact hQ _ (congrArg PV.bool (by first | rfl | omega | (simp [okM, *]; done) | (subst_vars; simp [okM, *]; done)))   -- leaf 1
        · exact hQ _ (congrArg PV.bool (by first | rfl | omega | (simp [okM, *]; done) | (subst_vars; simp [okM, *]; done)))   -- leaf 2
      · exact hQ _ (congrArg PV.bool (by first | rfl | omega | (simp [okM, *]; done) | (subst_vars; simp [okM, *]; done)))   -- leaf 3
    · exact hQ _ (congrArg PV.bool (by first | rfl | omega | (simp [okM, *]; done) | (subst_vars; simp [okM, *]; done)))   -- leaf 4

theorem isCasting_ok (x : Casting)  : OkA Try.prog 81 [.agg (cCasting x)] (· = .bool (okX x)) := by
  obtain ⟨xA, xB⟩ := x
  try dsimp only at *
  exact fn_intro envOk fieldsOk mixed Try.func81 rfl fun κ X Y L Q m hQ => by
    conv => cbv
    refine r_callB m.sX (isBody_ok xA) (fun h1 => ?_) (fun h1 => ?_) <;> conv => cbv
    · refine r_callB m.sX (within_ok xB 1 100000) (fun h2 => ?_) (fun h2 => ?_) <;> conv => cbv
      · exact hQ _ (congrArg PV.bool (by first | rfl | omega | (simp [okX, *]; done) | (subst_vars; simp [okX, *]; done)))   -- leaf 1
      · exact hQ _ (congrArg PV.bool (by first | rfl | omega | (simp [okX, *]; done) | (subst_vars; simp [okX, *]; done)))   -- leaf 2
    · exact hQ _ (congrArg PV.bool (by first | rfl | omega | (simp [okX, *]; done) | (subst_vars; simp [okX, *]; done)))   -- leaf 3

theorem csCasting_ok (x : Casting)  : OkA Try.prog 83 [.agg (cCasting x)] (· = .bool (okX x)) := by
  obtain ⟨xA, xB⟩ := x
  try dsimp only at *
  exact fn_intro envOk fieldsOk mixed Try.func83 rfl fun κ X Y L Q m hQ => by
    conv => cbv
    refine r_callB m.sX (l1In_ok xA 1 72) (fun h1 => ?_) (fun h1 => ?_) <;> conv => cbv
    · refine r_callB m.sX (l1In_ok xB 1 100000) (fun h2 => ?_) (fun h2 => ?_) <;> conv => cbv
      · exact hQ _ (congrArg PV.bool (by first | rfl | omega | (simp [okX, *]; done) | (subst_vars; simp [okX, *]; done)))   -- leaf 1
      · exact hQ _ (congrArg PV.bool (by first | rfl | omega | (simp [okX, *]; done) | (subst_vars; simp [okX, *]; done)))   -- leaf 2
    · exact hQ _ (congrArg PV.bool (by first | rfl | omega | (simp [okX, *]; done) | (subst_vars; simp [okX, *]; done)))   -- leaf 3

theorem AreCastings_ok (l : List Casting)  : OkA Try.prog 28 [.isl 2 (rows cCasting l)] (· = .bool (okCs l)) :=
  fn_intro envOk fieldsOk mixed Try.func28 rfl fun κ X Y L Q m hQ => by
    conv => cbv
    refine r_lenR m.sX fun n1 hn1 mn1 => ?_
    conv => cbv
    refine r_loopF (α := Int) m 18 [0, 5, 6, 7] [] (fun σ => [(0, .isl 2 (rows cCasting l)), (5, .isl 2 (rows cCasting l)), (6, .int .i64 n1), (7, .int .i64 σ)]) (fun σ => [])
      (fun σ => (0 ≤ σ) ∧ (σ ≤ n1) ∧ (l.all okX = (l.drop σ.toNat).all okX)) (fun σ => (n1 - σ).toNat) 0 ?_ ?_ ?_ ?_
    · cbv
    · cbv
    · exact ⟨(by (try dsimp only); first | omega | (simp only [List.length_nil]; omega) | (simp only [List.length_cons, List.length_nil]; omega)), (by (try dsimp only); first | omega | (simp only [List.length_nil]; omega) | (simp only [List.length_cons, List.length_nil]; omega)), (by (try dsimp only) <;> first | omega | rfl | (simp [*]; done))⟩
    rintro i1 ⟨lo1, hi1, q⟩ E hE F hF
    conv => cbv
    refine r_lss m.sX (fun h1 => ?_) (fun h1 => ?_) <;> conv => cbv
    · refine r_index m.sX (by omega) (by omega) fun v hxA => ?_
      obtain ⟨xA, xB⟩ := v
      conv => cbv
      have hx := hxA
      have mx := get_mem hx
      have dx := drop_cons hx
      have kx := take_snoc hx
      have jx : (i1 + 1).toNat = Int.toNat i1 + 1 := by omega
      refine r_callB m.sX (isCasting_ok (xA, xB)) (fun h2 => ?_) (fun h2 => ?_) <;> conv => cbv
      · refine r_addf m.sX (by omega) (by omega) fun r1 hr1 => ?_
        conv => cbv
        try have tr1 : Int.toNat r1 = Int.toNat i1 + 1 := by omega
        refine hE _ r1 ?_ ?_ ⟨(by (try dsimp only); first | omega | (simp only [List.length_nil]; omega) | (simp only [List.length_cons, List.length_nil]; omega)), (by (try dsimp only); first | omega | (simp only [List.length_nil]; omega) | (simp only [List.length_cons, List.length_nil]; omega)), (by (try dsimp only) <;> first | omega | rfl | (simp [*]; done) | (rw [q]; simp [*]; done))⟩ (by first | omega | (dsimp only; omega))
        · cbv
        · cbv
      · refine hF _ _ ?_
        conv => cbv
        exact hQ _ (congrArg PV.bool (by rw [okCs, q]; simp [*] <;> omega))   -- leaf 1
    · have dz_i1 := drop_end (xs := l) (i := Int.toNat i1) (by omega)
      have tz_i1 := take_end (xs := l) (i := Int.toNat i1) (by omega)
      refine hF _ _ ?_
      conv => cbv
      refine r_lenR m.sX fun n2 hn2 mn2 => ?_
      conv => cbv
      refine r_leq m.sX (fun h3 => ?_) (fun h3 => ?_) <;> conv => cbv
      · exact hQ _ (congrArg PV.bool (by rw [okCs, q]; simp [*] <;> omega))   -- leaf 2
      · exact hQ _ (congrArg PV.bool (by rw [okCs, q]; simp [*] <;> omega))   -- leaf 3

theorem csGood_ok (l : List Casting)  : OkA Try.prog 70 [.isl 2 (rows cCasting l)] (· = .bool (okCs l)) :=
  fn_intro envOk fieldsOk mixed Try.func70 rfl fun κ X Y L Q m hQ => by
    conv => cbv
    refine r_lenR m.sX fun n1 hn1 mn1 => ?_
    conv => cbv
    refine r_loopF (α := Int) m 18 [0, 5, 6, 7] [] (fun σ => [(0, .isl 2 (rows cCasting l)), (5, .isl 2 (rows cCasting l)), (6, .int .i64 n1), (7, .int .i64 σ)]) (fun σ => [])
      (fun σ => (0 ≤ σ) ∧ (σ ≤ n1) ∧ (l.all okX = (l.drop σ.toNat).all okX)) (fun σ => (n1 - σ).toNat) 0 ?_ ?_ ?_ ?_
    · cbv
    · cbv
    · exact ⟨(by (try dsimp only); first | omega | (simp only [List.length_nil]; omega) | (simp only [List.length_cons, List.length_nil]; omega)), (by (try dsimp only); first | omega | (simp only [List.length_nil]; omega) | (simp only [List.length_cons, List.length_nil]; omega)), (by (try dsimp only) <;> first | omega | rfl | (simp [*]; done))⟩
    rintro i1 ⟨lo1, hi1, q⟩ E hE F hF
    conv => cbv
    refine r_lss m.sX (fun h1 => ?_) (fun h1 => ?_) <;> conv => cbv
    · refine r_index m.sX (by omega) (by omega) fun v hxA => ?_
      obtain ⟨xA, xB⟩ := v
      conv => cbv
      have hx := hxA
      have mx := get_mem hx
      have dx := drop_cons hx
      have kx := take_snoc hx
      have jx : (i1 + 1).toNat = Int.toNat i1 + 1 := by omega
      refine r_callB m.sX (csCasting_ok (xA, xB)) (fun h2 => ?_) (fun h2 => ?_) <;> conv => cbv
      · refine r_addf m.sX (by omega) (by omega) fun r1 hr1 => ?_
        conv => cbv
        try have tr1 : Int.toNat r1 = Int.toNat i1 + 1 := by omega
        refine hE _ r1 ?_ ?_ ⟨(by (try dsimp only); first | omega | (simp only [List.length_nil]; omega) | (simp only [List.length_cons, List.length_nil]; omega)), (by (try dsimp only); first | omega | (simp only [List.length_nil]; omega) | (simp only [List.length_cons, List.length_nil]; omega)), (by (try dsimp only) <;> first | omega | rfl | (simp [*]; done) | (rw [q]; simp [*]; done))⟩ (by first | omega | (dsimp only; omega))
        · cbv
        · cbv
      · refine hF _ _ ?_
        conv => cbv
        exact hQ _ (congrArg PV.bool (by rw [okCs, q]; simp [*] <;> omega))   -- leaf 1
    · have dz_i1 := drop_end (xs := l) (i := Int.toNat i1) (by omega)
      have tz_i1 := take_end (xs := l) (i := Int.toNat i1) (by omega)
      refine hF _ _ ?_
      conv => cbv
      refine r_lenR m.sX fun n2 hn2 mn2 => ?_
      conv => cbv
      refine r_leq m.sX (fun h3 => ?_) (fun h3 => ?_) <;> conv => cbv
      · exact hQ _ (congrArg PV.bool (by rw [okCs, q]; simp [*] <;> omega))   -- leaf 2
      · exact hQ _ (congrArg PV.bool (by rw [okCs, q]; simp [*] <;> omega))   -- leaf 3

theorem castTime_ok (m_ : CMach) (x : Casting) (hm : okM m_ = true) (hx : okX x = true) : OkA Try.prog 82 [.agg (cMachine m_), .agg (cCasting x)] (· = .int .i64 (timeC m_ x)) := by
  obtain ⟨m_A, m_B, m_C⟩ := m_
  obtain ⟨xA, xB⟩ := x
  try dsimp only at *
  exact fn_intro envOk fieldsOk mixed Try.func82 rfl fun κ X Y L Q m hQ => by
    have hm2 := okM_spec hm
    try dsimp only at hm2
    have hx2 := okX_spec hx
    try dsimp only at hx2
    conv => cbv
    refine r_mulf m.sX (by first | omega | (subst_vars; omega)) (by first | omega | (subst_vars; omega)) fun r1 hr1 => ?_
    conv => cbv
    refine r_addf m.sX (by omega) (by omega) fun r2 hr2 => ?_
    conv => cbv
    refine r_subf m.sX (by omega) (by omega) fun r3 hr3 => ?_
    conv => cbv
    first | refine r_divf m.sX (by omega) (by omega) fun r4 hr4 br4 => ?_ | refine r_tdivf m.sX (by omega) (by omega) fun r4 hr4 br4 => ?_
    conv => cbv
    exact hQ (.int .i64 r4) (Eq.trans (by first | rfl | (simp only [lb, lbI, rows_cons, rows_nil, unnilT, unnil, unnilTI, unnilI]; done) | (simp only [lb, lbI, rows_cons, rows_nil, unnilT, unnil, unnilTI, unnilI]; rfl)) (congrArg (PV.int .i64) (show r4 = timeC (m_A, m_B, m_C) (xA, xB) from by rw [timeC]; simp [*])))   -- leaf 1

theorem csTime_ok (m_ : CMach) (x : Casting) (hm : okM m_ = true) (hx : okX x = true) : OkA Try.prog 84 [.agg (cMachine m_), .agg (cCasting x)] (· = .int .i64 (timeC m_ x)) := by
  obtain ⟨m_A, m_B, m_C⟩ := m_
  obtain ⟨xA, xB⟩ := x
  try dsimp only at *
  exact fn_intro envOk fieldsOk mixed Try.func84 rfl fun κ X Y L Q m hQ => by
    have hm2 := okM_spec hm
    try dsimp only at hm2
    have hx2 := okX_spec hx
    try dsimp only at hx2
    conv => cbv
    refine r_mulf m.sX (by first | omega | (subst_vars; omega)) (by first | omega | (subst_vars; omega)) fun r1 hr1 => ?_
    conv => cbv
    refine r_addf m.sX (by omega) (by omega) fun r2 hr2 => ?_
    conv => cbv
    refine r_subf m.sX (by omega) (by omega) fun r3 hr3 => ?_
    conv => cbv
    first | refine r_divf m.sX (by omega) (by omega) fun r4 hr4 br4 => ?_ | refine r_tdivf m.sX (by omega) (by omega) fun r4 hr4 br4 => ?_
    conv => cbv
    exact hQ (.int .i64 r4) (Eq.trans (by first | rfl | (simp only [lb, lbI, rows_cons, rows_nil, unnilT, unnil, unnilTI, unnilI]; done) | (simp only [lb, lbI, rows_cons, rows_nil, unnilT, unnil, unnilTI, unnilI]; rfl)) (congrArg (PV.int .i64) (show r4 = timeC (m_A, m_B, m_C) (xA, xB) from by rw [timeC]; simp [*])))   -- leaf 1

theorem CastTime_ok (m_ : CMach) (x : Casting)  : OkA Try.prog 18 [.agg (cMachine m_), .agg (cCasting x)] (· = ib (if okM m_ && okX x then (timeC m_ x, true) else (0, false))) := by
  obtain ⟨m_A, m_B, m_C⟩ := m_
  obtain ⟨xA, xB⟩ := x
  try dsimp only at *
  exact fn_intro envOk fieldsOk mixed Try.func18 rfl fun κ X Y L Q m hQ => by
    conv => cbv
    refine r_callB m.sX (IsMachine_ok (m_A, m_B, m_C)) (fun h1 => ?_) (fun h1 => ?_) <;> conv => cbv
    · refine r_callB m.sX (isCasting_ok (xA, xB)) (fun h2 => ?_) (fun h2 => ?_) <;> conv => cbv
      · refine r_callF (PV.int .i64) m.sX (castTime_ok (m_A, m_B, m_C) (xA, xB) (by first | rfl | assumption | omega | (simp only [List.length_append, List.length_cons, List.length_nil] at *; omega)) (by first | rfl | assumption | omega | (simp only [List.length_append, List.length_cons, List.length_nil] at *; omega))) fun r1 hr1 => ?_
        conv => cbv
        try dsimp only at hr1
        exact hQ (.tup [.int .i64 r1, .bool true]) (Eq.trans (by first | rfl | (simp only [lb, lbI, rows_cons, rows_nil, unnilT, unnil, unnilTI, unnilI]; done) | (simp only [lb, lbI, rows_cons, rows_nil, unnilT, unnil, unnilTI, unnilI]; rfl)) (congrArg (ib) (show (r1, true) = if okM (m_A, m_B, m_C) && okX (xA, xB) then (timeC (m_A, m_B, m_C) (xA, xB), true) else (0, false) from by simp [*])))   -- leaf 1
      · exact hQ (.tup [.int .i64 0, .bool false]) (Eq.trans (by first | rfl | (simp only [lb, lbI, rows_cons, rows_nil, unnilT, unnil, unnilTI, unnilI]; done) | (simp only [lb, lbI, rows_cons, rows_nil, unnilT, unnil, unnilTI, unnilI]; rfl)) (congrArg (ib) (show (0, false) = if okM (m_A, m_B, m_C) && okX (xA, xB) then (timeC (m_A, m_B, m_C) (xA, xB), true) else (0, false) from by simp [*])))   -- leaf 2
    · exact hQ (.tup [.int .i64 0, .bool false]) (Eq.trans (by first | rfl | (simp only [lb, lbI, rows_cons, rows_nil, unnilT, unnil, unnilTI, unnilI]; done) | (simp only [lb, lbI, rows_cons, rows_nil, unnilT, unnil, unnilTI, unnilI]; rfl)) (congrArg (ib) (show (0, false) = if okM (m_A, m_B, m_C) && okX (xA, xB) then (timeC (m_A, m_B, m_C) (xA, xB), true) else (0, false) from by simp [*])))   -- leaf 3

theorem specCastTime_ok (m_ : CMach) (x : Casting)  : OkA Try.prog 19 [.agg (cMachine m_), .agg (cCasting x)] (· = ib (if okM m_ && okX x then (timeC m_ x, true) else (0, false))) := by
  obtain ⟨m_A, m_B, m_C⟩ := m_
  obtain ⟨xA, xB⟩ := x
  try dsimp only at *
  exact fn_intro envOk fieldsOk mixed Try.func19 rfl fun κ X Y L Q m hQ => by
    conv => cbv
    refine r_callB m.sX (csMachine_ok (m_A, m_B, m_C)) (fun h1 => ?_) (fun h1 => ?_) <;> conv => cbv
    · refine r_callB m.sX (csCasting_ok (xA, xB)) (fun h2 => ?_) (fun h2 => ?_) <;> conv => cbv
      · refine r_callF (PV.int .i64) m.sX (csTime_ok (m_A, m_B, m_C) (xA, xB) (by first | rfl | assumption | omega | (simp only [List.length_append, List.length_cons, List.length_nil] at *; omega)) (by first | rfl | assumption | omega | (simp only [List.length_append, List.length_cons, List.length_nil] at *; omega))) fun r1 hr1 => ?_
        conv => cbv
        try dsimp only at hr1
        exact hQ (.tup [.int .i64 r1, .bool true]) (Eq.trans (by first | rfl | (simp only [lb, lbI, rows_cons, rows_nil, unnilT, unnil, unnilTI, unnilI]; done) | (simp only [lb, lbI, rows_cons, rows_nil, unnilT, unnil, unnilTI, unnilI]; rfl)) (congrArg (ib) (show (r1, true) = if okM (m_A, m_B, m_C) && okX (xA, xB) then (timeC (m_A, m_B, m_C) (xA, xB), true) else (0, false) from by simp [*])))   -- leaf 1
      · exact hQ (.tup [.int .i64 0, .bool false]) (Eq.trans (by first | rfl | (simp only [lb, lbI, rows_cons, rows_nil, unnilT, unnil, unnilTI, unnilI]; done) | (simp only [lb, lbI, rows_cons, rows_nil, unnilT, unnil, unnilTI, unnilI]; rfl)) (congrArg (ib) (show (0, false) = if okM (m_A, m_B, m_C) && okX (xA, xB) then (timeC (m_A, m_B, m_C) (xA, xB), true) else (0, false) from by simp [*])))   -- leaf 2
    · exact hQ (.tup [.int .i64 0, .bool false]) (Eq.trans (by first | rfl | (simp only [lb, lbI, rows_cons, rows_nil, unnilT, unnil, unnilTI, unnilI]; done) | (simp only [lb, lbI, rows_cons, rows_nil, unnilT, unnil, unnilTI, unnilI]; rfl)) (congrArg (ib) (show (0, false) = if okM (m_A, m_B, m_C) && okX (xA, xB) then (timeC (m_A, m_B, m_C) (xA, xB), true) else (0, false) from by simp [*])))   -- leaf 3

theorem ends_ok (m_ : CMach) (l : List Casting) (order : List Int) (hm : okM m_ = true) (hl : okCs l = true) (ho : fineB l.length order = true) : OkA Try.prog 88 [.agg (cMachine m_), .isl 2 (rows cCasting l), .isl 1 (rows cInt order)] (· = (li 3 1 cInt) ((endsG m_ l m_.1 0 order, chgG l m_.1 order))) := by
  obtain ⟨m_A, m_B, m_C⟩ := m_
  try dsimp only at *
  exact OkA.unnil 3 1 (fn_intro envOk fieldsOk mixed Try.func88 rfl fun κ X Y L Q m hQ => by
    have ol := diff_len _ _ (fineB_diff.1 ho)
    try dsimp only at ol
    have ll := okCs_len hl
    try dsimp only at ll
    have hm2 := okM_spec hm
    try dsimp only at hm2
    conv => cbv
    refine r_lenR m.sX fun n1 hn1 mn1 => ?_
    conv => cbv
    refine r_loopF (α := Int × List Int × Int × Int × Int) m 55 [1, 9, 10, 14, 15, 16] [⟨3, 25, 0, 0, 0⟩, ⟨8, 65, 3, 1, 0⟩] (fun σ => [(1, .isl 2 (rows cCasting l)), (3, .optr 25 0 3 0 0), (8, .osl 65 0), (9, .int .i64 σ.2.2.1), (10, .int .i64 σ.2.2.2.1), (14, .isl 1 (rows cInt order)), (15, .int .i64 n1), (16, .int .i64 σ.2.2.2.2)]) (fun σ => [(25, 0, .box [.int .i64 σ.1, .int .i64 m_B, .int .i64 m_C]), (65, 0, .row 3 1 (rows cInt σ.2.1))])
      (fun σ => (0 ≤ σ.2.2.2.2) ∧ (σ.2.2.2.2 ≤ n1) ∧ (1 ≤ σ.1 ∧ σ.1 ≤ 72) ∧ (0 ≤ σ.2.2.1 ∧ σ.2.2.1 ≤ 7000000 * σ.2.2.2.2) ∧ (0 ≤ σ.2.2.2.1 ∧ σ.2.2.2.1 ≤ σ.2.2.2.2) ∧ ((σ.2.1.length : Int) = σ.2.2.2.2) ∧ (endsG (m_A, m_B, m_C) l m_A 0 order = σ.2.1 ++ endsG (m_A, m_B, m_C) l σ.1 σ.2.2.1 (order.drop σ.2.2.2.2.toNat)) ∧ (chgG l m_A order = σ.2.2.2.1 + chgG l σ.1 (order.drop σ.2.2.2.2.toNat))) (fun σ => (n1 - σ.2.2.2.2).toNat) (m_A, [], 0, 0, 0) ?_ ?_ ?_ ?_
    · cbv
    · (try dsimp only); (try simp only [rows_cons, rows_nil]); cbv
    · exact ⟨(by (try dsimp only); first | omega | (simp only [List.length_nil]; omega) | (simp only [List.length_cons, List.length_nil]; omega)), (by (try dsimp only); first | omega | (simp only [List.length_nil]; omega) | (simp only [List.length_cons, List.length_nil]; omega)), (by (try dsimp only) <;> first | omega | rfl | (simp [*]; done)), (by (try dsimp only) <;> first | omega | rfl | (simp [*]; done)), (by (try dsimp only) <;> first | omega | rfl | (simp [*]; done)), (by (try dsimp only) <;> first | omega | rfl | (simp [*]; done)), (by (try dsimp only) <;> first | omega | rfl | (simp [*]; done)), (by (try dsimp only) <;> first | omega | rfl | (simp [*]; done))⟩
    rintro ⟨f1, list, minute, changes, i1⟩ ⟨lo1, hi1, mb, nb, cb, ln, q, c⟩ E hE F hF
    dsimp only at lo1 hi1 mb nb cb ln q c
    conv => cbv
    refine r_lss m.sX (fun h1 => ?_) (fun h1 => ?_) <;> conv => cbv
    · refine r_index m.sX (by omega) (by omega) fun i hi => ?_
      conv => cbv
      have mi := get_mem hi
      have di := drop_cons hi
      have ki := take_snoc hi
      have ji : (i1 + 1).toNat = Int.toNat i1 + 1 := by omega
      have vi := nth_some hi
      have bi := (fineB_iff.1 ho).2 i mi
      try dsimp only at bi
      refine r_draw m (by kernel_rfl) ?_
      conv => cbv
      refine r_index m.sY (by omega) (by omega) fun v hx1A => ?_
      obtain ⟨x1A, x1B⟩ := v
      conv => cbv
      have hx1 := hx1A
      have mx1 := get_mem hx1
      have xk := okCs_mem hl mx1
      try dsimp only at xk
      have xb := okX_spec xk
      try dsimp only at xb
      have ok1 : okM (x1A, m_B, m_C) = true := okM_of xb.1 hm2.2.1 hm2.2.2
      have ok2 : okM (f1, m_B, m_C) = true := okM_of mb hm2.2.1 hm2.2.2
      have tb1 := timeC_bound ok1 xk
      try dsimp only at tb1
      have tb2 := timeC_bound ok2 xk
      try dsimp only at tb2
      rw [di, endsG, castAt_some hx1] at q
      rw [di, chgG, castAt_some hx1] at c
      try dsimp only at q c
      refine r_neq m.sY (fun h2 => ?_) (fun h2 => ?_) <;> conv => cbv
      · refine r_index m.sX (by omega) (by omega) fun v hx2A => ?_
        obtain ⟨x2A, x2B⟩ := v
        conv => cbv
        have hx2 := hx2A
        have mx2 := get_mem hx2
        obtain ⟨rfl, rfl⟩ : x1A = x2A ∧ x1B = x2B := by have := Option.some.inj (hx1.symm.trans hx2); simpa using this
        refine r_addf m.sX (by omega) (by omega) fun minute_2 hminute_2 => ?_
        conv => cbv
        refine r_addf m.sX (by omega) (by omega) fun changes_2 hchanges_2 => ?_
        conv => cbv
        refine r_draw m (by kernel_rfl) ?_
        conv => cbv
        refine r_index m.sY (by omega) (by omega) fun v hx3A => ?_
        obtain ⟨x3A, x3B⟩ := v
        conv => cbv
        have hx3 := hx3A
        have mx3 := get_mem hx3
        obtain ⟨rfl, rfl⟩ : x1A = x3A ∧ x1B = x3B := by have := Option.some.inj (hx1.symm.trans hx3); simpa using this
        refine r_callFS (PV.int .i64) m.sY (castTime_ok (x1A, m_B, m_C) (x1A, x1B) (by first | rfl | assumption | omega | (simp only [List.length_append, List.length_cons, List.length_nil] at *; omega)) (by first | rfl | assumption | omega | (simp only [List.length_append, List.length_cons, List.length_nil] at *; omega))) trivial fun r1 hr1 => ?_
        conv => cbv
        try dsimp only at hr1
        refine r_addf m.sY (by omega) (by omega) fun minute_3 hminute_3 => ?_
        conv => cbv
        have e3 : minute_3 = stepT (m_A, m_B, m_C) l f1 minute i := by rw [stepT, castAt_some hx1, hminute_3, hminute_2, hr1, if_neg h2]; rfl
        refine r_append1 (minute_3) m.sX rfl (by first | omega | (dsimp only; omega)) (by first | omega | (dsimp only; omega)) fun list_2 hlist_2 => ?_
        conv => cbv
        have llist_2 : (list_2.length : Int) = list.length + 1 := by rw [hlist_2]; first | done | (simp; done) | (simp; omega)
        refine r_addf m.sX (by omega) (by omega) fun r2 hr2 => ?_
        conv => cbv
        try have tr2 : Int.toNat r2 = Int.toNat i1 + 1 := by omega
        refine hE _ (x1A, list_2, minute_3, changes_2, r2) ?_ ?_ ⟨(by (try dsimp only); first | omega | (simp only [List.length_nil]; omega) | (simp only [List.length_cons, List.length_nil]; omega)), (by (try dsimp only); first | omega | (simp only [List.length_nil]; omega) | (simp only [List.length_cons, List.length_nil]; omega)), (by (try dsimp only) <;> first | omega | rfl | (simp [*]; done) | (rw [mb]; simp [*]; done)), (by (try dsimp only) <;> first | omega | rfl | (simp [*]; done) | (rw [nb]; simp [*]; done)), (by (try dsimp only) <;> first | omega | rfl | (simp [*]; done) | (rw [cb]; simp [*]; done)), (by (try dsimp only) <;> first | omega | rfl | (simp [*]; done) | (rw [ln]; simp [*]; done)), (by (try dsimp only) <;> (first | (rw [q, hlist_2, tr2, e3]; simp only [List.append_assoc, List.cons_append, List.nil_append]; done) | (rw [q, hlist_3, tr2, e4, h2]; simp only [List.append_assoc, List.cons_append, List.nil_append]; done))), (by (try dsimp only) <;> (first | (rw [c, if_neg h2, hchanges_2, tr2]; omega) | (rw [c, if_pos h2, tr2, h2]; omega)))⟩ (by first | omega | (dsimp only; omega))
        · cbv
        · cbv
      · refine r_draw m (by kernel_rfl) ?_
        conv => cbv
        refine r_index m.sY (by omega) (by omega) fun v hx4A => ?_
        obtain ⟨x4A, x4B⟩ := v
        conv => cbv
        have hx4 := hx4A
        have mx4 := get_mem hx4
        obtain ⟨rfl, rfl⟩ : x1A = x4A ∧ x1B = x4B := by have := Option.some.inj (hx1.symm.trans hx4); simpa using this
        refine r_callFS (PV.int .i64) m.sY (castTime_ok (f1, m_B, m_C) (x1A, x1B) (by first | rfl | assumption | omega | (simp only [List.length_append, List.length_cons, List.length_nil] at *; omega)) (by first | rfl | assumption | omega | (simp only [List.length_append, List.length_cons, List.length_nil] at *; omega))) trivial fun r3 hr3 => ?_
        conv => cbv
        try dsimp only at hr3
        refine r_addf m.sY (by omega) (by omega) fun minute_4 hminute_4 => ?_
        conv => cbv
        have e4 : minute_4 = stepT (m_A, m_B, m_C) l f1 minute i := by rw [stepT, castAt_some hx1, hminute_4, hr3, if_pos h2, Int.add_zero]; rfl
        refine r_append1 (minute_4) m.sX rfl (by first | omega | (dsimp only; omega)) (by first | omega | (dsimp only; omega)) fun list_3 hlist_3 => ?_
        conv => cbv
        have llist_3 : (list_3.length : Int) = list.length + 1 := by rw [hlist_3]; first | done | (simp; done) | (simp; omega)
        refine r_addf m.sX (by omega) (by omega) fun r4 hr4 => ?_
        conv => cbv
        try have tr4 : Int.toNat r4 = Int.toNat i1 + 1 := by omega
        refine hE _ (f1, list_3, minute_4, changes, r4) ?_ ?_ ⟨(by (try dsimp only); first | omega | (simp only [List.length_nil]; omega) | (simp only [List.length_cons, List.length_nil]; omega)), (by (try dsimp only); first | omega | (simp only [List.length_nil]; omega) | (simp only [List.length_cons, List.length_nil]; omega)), (by (try dsimp only) <;> first | omega | rfl | (simp [*]; done) | (rw [mb]; simp [*]; done)), (by (try dsimp only) <;> first | omega | rfl | (simp [*]; done) | (rw [nb]; simp [*]; done)), (by (try dsimp only) <;> first | omega | rfl | (simp [*]; done) | (rw [cb]; simp [*]; done)), (by (try dsimp only) <;> first | omega | rfl | (simp [*]; done) | (rw [ln]; simp [*]; done)), (by (try dsimp only) <;> (first | (rw [q, hlist_2, tr4, e3]; simp only [List.append_assoc, List.cons_append, List.nil_append]; done) | (rw [q, hlist_3, tr4, e4, h2]; simp only [List.append_assoc, List.cons_append, List.nil_append]; done))), (by (try dsimp only) <;> (first | (rw [c, if_neg h2, hchanges_2, tr4]; omega) | (rw [c, if_pos h2, tr4, h2]; omega)))⟩ (by first | omega | (dsimp only; omega))
        · cbv
        · cbv
    · have dz_i1 := drop_end (xs := order) (i := Int.toNat i1) (by omega)
      have tz_i1 := take_end (xs := order) (i := Int.toNat i1) (by omega)
      refine hF _ _ ?_
      conv => cbv
      exact hQ (.tup [.fr 3 1 (rows cInt list), .int .i64 changes]) (Eq.trans (by first | rfl | (simp only [lb, lbI, rows_cons, rows_nil, unnilT, unnil, unnilTI, unnilI]; done) | (simp only [lb, lbI, rows_cons, rows_nil, unnilT, unnil, unnilTI, unnilI]; rfl)) (congrArg ((li 3 1 cInt)) (show (list, changes) = (endsG (m_A, m_B, m_C) l m_A 0 order, chgG l m_A order) from by rw [q, c, dz_i1]; simp [endsG, chgG]))))   -- leaf 1

theorem time_ok (m_ : CMach) (l : List Casting) (order : List Int) (hm : okM m_ = true) (hl : okCs l = true) (ho : fineB l.length order = true) : OkA Try.prog 68 [.agg (cMachine m_), .isl 2 (rows cCasting l), .isl 1 (rows cInt order)] (· = .int .i64 (timeF m_ l order)) := by
  obtain ⟨m_A, m_B, m_C⟩ := m_
  try dsimp only at *
  exact fn_intro envOk fieldsOk mixed Try.func68 rfl fun κ X Y L Q m hQ => by
    conv => cbv
    refine r_callF (li 3 1 cInt) m.sX (ends_ok (m_A, m_B, m_C) l order (by first | rfl | assumption | omega | (simp only [List.length_append, List.length_cons, List.length_nil] at *; omega)) (by first | rfl | assumption | omega | (simp only [List.length_append, List.length_cons, List.length_nil] at *; omega)) (by first | rfl | assumption | omega | (simp only [List.length_append, List.length_cons, List.length_nil] at *; omega))) fun v hlist => ?_
    obtain ⟨list, v1⟩ := v
    conv => cbv
    try dsimp only at hlist
    refine r_lenR m.sX fun n1 hn1 mn1 => ?_
    conv => cbv
    refine r_eql m.sX (fun h1 => ?_) (fun h1 => ?_) <;> conv => cbv
    · exact hQ (.int .i64 0) (Eq.trans (by first | rfl | (simp only [lb, lbI, rows_cons, rows_nil, unnilT, unnil, unnilTI, unnilI]; done) | (simp only [lb, lbI, rows_cons, rows_nil, unnilT, unnil, unnilTI, unnilI]; rfl)) (congrArg (PV.int .i64) (show 0 = timeF (m_A, m_B, m_C) l order from by rw [timeF, lastG_last]; show _ = ((endsG (m_A, m_B, m_C) l m_A 0 order).getLast?).getD 0; rw [← (Prod.mk.inj hlist).1, List.length_eq_zero_iff.1 (show list.length = 0 by omega)]; rfl)))   -- leaf 1
    · refine r_lenR m.sX fun n2 hn2 mn2 => ?_
      conv => cbv
      refine r_subf m.sX (by omega) (by omega) fun r1 hr1 => ?_
      conv => cbv
      refine r_oindex m.sX (by omega) (by omega) ?_
      conv => cbv
      obtain ⟨x1, hx1⟩ := get_ex (xs := list) (i := Int.toNat r1) (by omega)
      have mx1 := get_mem hx1
      have vx1 := nth_some hx1
      refine r_oload m.sX hx1 (Nat.le_of_ble_eq_true rfl) ?_
      conv => cbv
      exact hQ (.int .i64 x1) (Eq.trans (by first | rfl | (simp only [lb, lbI, rows_cons, rows_nil, unnilT, unnil, unnilTI, unnilI]; done) | (simp only [lb, lbI, rows_cons, rows_nil, unnilT, unnil, unnilTI, unnilI]; rfl)) (congrArg (PV.int .i64) (show x1 = timeF (m_A, m_B, m_C) l order from by rw [timeF, lastG_last]; show _ = ((endsG (m_A, m_B, m_C) l m_A 0 order).getLast?).getD 0; rw [← (Prod.mk.inj hlist).1, List.getLast?_eq_getElem?, show list.length - 1 = r1.toNat by omega, hx1]; rfl)))   -- leaf 2

theorem csEnds_ok (m_ : CMach) (l : List Casting) (order : List Int) (hm : okM m_ = true) (hl : okCs l = true) (ho : fineB l.length order = true) : OkA Try.prog 89 [.agg (cMachine m_), .isl 2 (rows cCasting l), .isl 1 (rows cInt order)] (· = (li 3 1 cInt) ((endsG m_ l m_.1 0 order, chgG l m_.1 order))) := by
  obtain ⟨m_A, m_B, m_C⟩ := m_
  try dsimp only at *
  exact OkA.unnil 3 1 (fn_intro envOk fieldsOk mixed Try.func89 rfl fun κ X Y L Q m hQ => by
    have ol := diff_len _ _ (fineB_diff.1 ho)
    try dsimp only at ol
    have ll := okCs_len hl
    try dsimp only at ll
    have hm2 := okM_spec hm
    try dsimp only at hm2
    conv => cbv
    refine r_lenR m.sX fun n1 hn1 mn1 => ?_
    conv => cbv
    refine r_loopF (α := Int × List Int × Int × Int × Int) m 54 [1, 9, 10, 13, 14, 15] [⟨3, 25, 0, 0, 0⟩, ⟨8, 65, 3, 1, 0⟩] (fun σ => [(1, .isl 2 (rows cCasting l)), (3, .optr 25 0 3 0 0), (8, .osl 65 0), (9, .int .i64 σ.2.2.1), (10, .int .i64 σ.2.2.2.1), (13, .isl 1 (rows cInt order)), (14, .int .i64 n1), (15, .int .i64 σ.2.2.2.2)]) (fun σ => [(25, 0, .box [.int .i64 σ.1, .int .i64 m_B, .int .i64 m_C]), (65, 0, .row 3 1 (rows cInt σ.2.1))])
      (fun σ => (0 ≤ σ.2.2.2.2) ∧ (σ.2.2.2.2 ≤ n1) ∧ (1 ≤ σ.1 ∧ σ.1 ≤ 72) ∧ (0 ≤ σ.2.2.1 ∧ σ.2.2.1 ≤ 7000000 * σ.2.2.2.2) ∧ (0 ≤ σ.2.2.2.1 ∧ σ.2.2.2.1 ≤ σ.2.2.2.2) ∧ ((σ.2.1.length : Int) = σ.2.2.2.2) ∧ (endsG (m_A, m_B, m_C) l m_A 0 order = σ.2.1 ++ endsG (m_A, m_B, m_C) l σ.1 σ.2.2.1 (order.drop σ.2.2.2.2.toNat)) ∧ (chgG l m_A order = σ.2.2.2.1 + chgG l σ.1 (order.drop σ.2.2.2.2.toNat))) (fun σ => (n1 - σ.2.2.2.2).toNat) (m_A, [], 0, 0, 0) ?_ ?_ ?_ ?_
    · cbv
    · (try dsimp only); (try simp only [rows_cons, rows_nil]); cbv
    · exact ⟨(by (try dsimp only); first | omega | (simp only [List.length_nil]; omega) | (simp only [List.length_cons, List.length_nil]; omega)), (by (try dsimp only); first | omega | (simp only [List.length_nil]; omega) | (simp only [List.length_cons, List.length_nil]; omega)), (by (try dsimp only) <;> first | omega | rfl | (simp [*]; done)), (by (try dsimp only) <;> first | omega | rfl | (simp [*]; done)), (by (try dsimp only) <;> first | omega | rfl | (simp [*]; done)), (by (try dsimp only) <;> first | omega | rfl | (simp [*]; done)), (by (try dsimp only) <;> first | omega | rfl | (simp [*]; done)), (by (try dsimp only) <;> first | omega | rfl | (simp [*]; done))⟩
    rintro ⟨f1, out, time, changes, i1⟩ ⟨lo1, hi1, mb, nb, cb, ln, q, c⟩ E hE F hF
    dsimp only at lo1 hi1 mb nb cb ln q c
    conv => cbv
    refine r_lss m.sX (fun h1 => ?_) (fun h1 => ?_) <;> conv => cbv
    · refine r_index m.sX (by omega) (by omega) fun i hi => ?_
      conv => cbv
      have mi := get_mem hi
      have di := drop_cons hi
      have ki := take_snoc hi
      have ji : (i1 + 1).toNat = Int.toNat i1 + 1 := by omega
      have vi := nth_some hi
      have bi := (fineB_iff.1 ho).2 i mi
      try dsimp only at bi
      refine r_draw m (by kernel_rfl) ?_
      conv => cbv
      refine r_index m.sY (by omega) (by omega) fun v hx1A => ?_
      obtain ⟨x1A, x1B⟩ := v
      conv => cbv
      have hx1 := hx1A
      have mx1 := get_mem hx1
      have xk := okCs_mem hl mx1
      try dsimp only at xk
      have xb := okX_spec xk
      try dsimp only at xb
      have ok1 : okM (x1A, m_B, m_C) = true := okM_of xb.1 hm2.2.1 hm2.2.2
      have ok2 : okM (f1, m_B, m_C) = true := okM_of mb hm2.2.1 hm2.2.2
      have tb1 := timeC_bound ok1 xk
      try dsimp only at tb1
      have tb2 := timeC_bound ok2 xk
      try dsimp only at tb2
      rw [di, endsG, castAt_some hx1] at q
      rw [di, chgG, castAt_some hx1] at c
      try dsimp only at q c
      refine r_neq m.sY (fun h2 => ?_) (fun h2 => ?_) <;> conv => cbv
      · refine r_addf m.sX (by omega) (by omega) fun time_2 htime_2 => ?_
        conv => cbv
        refine r_addf m.sX (by omega) (by omega) fun changes_2 hchanges_2 => ?_
        conv => cbv
        refine r_index m.sX (by omega) (by omega) fun v hx2A => ?_
        obtain ⟨x2A, x2B⟩ := v
        conv => cbv
        have hx2 := hx2A
        have mx2 := get_mem hx2
        obtain ⟨rfl, rfl⟩ : x1A = x2A ∧ x1B = x2B := by have := Option.some.inj (hx1.symm.trans hx2); simpa using this
        refine r_draw m (by kernel_rfl) ?_
        conv => cbv
        refine r_index m.sY (by omega) (by omega) fun v hx3A => ?_
        obtain ⟨x3A, x3B⟩ := v
        conv => cbv
        have hx3 := hx3A
        have mx3 := get_mem hx3
        obtain ⟨rfl, rfl⟩ : x1A = x3A ∧ x1B = x3B := by have := Option.some.inj (hx1.symm.trans hx3); simpa using this
        refine r_callFS (PV.int .i64) m.sY (csTime_ok (x1A, m_B, m_C) (x1A, x1B) (by first | rfl | assumption | omega | (simp only [List.length_append, List.length_cons, List.length_nil] at *; omega)) (by first | rfl | assumption | omega | (simp only [List.length_append, List.length_cons, List.length_nil] at *; omega))) trivial fun r1 hr1 => ?_
        conv => cbv
        try dsimp only at hr1
        refine r_addf m.sY (by omega) (by omega) fun time_3 htime_3 => ?_
        conv => cbv
        have e3 : time_3 = stepT (m_A, m_B, m_C) l f1 time i := by rw [stepT, castAt_some hx1, htime_3, htime_2, hr1, if_neg h2]; rfl
        refine r_append1 (time_3) m.sX rfl (by first | omega | (dsimp only; omega)) (by first | omega | (dsimp only; omega)) fun out_2 hout_2 => ?_
        conv => cbv
        have lout_2 : (out_2.length : Int) = out.length + 1 := by rw [hout_2]; first | done | (simp; done) | (simp; omega)
        refine r_addf m.sX (by omega) (by omega) fun r2 hr2 => ?_
        conv => cbv
        try have tr2 : Int.toNat r2 = Int.toNat i1 + 1 := by omega
        refine hE _ (x1A, out_2, time_3, changes_2, r2) ?_ ?_ ⟨(by (try dsimp only); first | omega | (simp only [List.length_nil]; omega) | (simp only [List.length_cons, List.length_nil]; omega)), (by (try dsimp only); first | omega | (simp only [List.length_nil]; omega) | (simp only [List.length_cons, List.length_nil]; omega)), (by (try dsimp only) <;> first | omega | rfl | (simp [*]; done) | (rw [mb]; simp [*]; done)), (by (try dsimp only) <;> first | omega | rfl | (simp [*]; done) | (rw [nb]; simp [*]; done)), (by (try dsimp only) <;> first | omega | rfl | (simp [*]; done) | (rw [cb]; simp [*]; done)), (by (try dsimp only) <;> first | omega | rfl | (simp [*]; done) | (rw [ln]; simp [*]; done)), (by (try dsimp only) <;> (first | (rw [q, hout_2, tr2, e3]; simp only [List.append_assoc, List.cons_append, List.nil_append]; done) | (rw [q, hout_3, tr2, e4, h2]; simp only [List.append_assoc, List.cons_append, List.nil_append]; done))), (by (try dsimp only) <;> (first | (rw [c, if_neg h2, hchanges_2, tr2]; omega) | (rw [c, if_pos h2, tr2, h2]; omega)))⟩ (by first | omega | (dsimp only; omega))
        · cbv
        · cbv
      · refine r_draw m (by kernel_rfl) ?_
        conv => cbv
        refine r_index m.sY (by omega) (by omega) fun v hx4A => ?_
        obtain ⟨x4A, x4B⟩ := v
        conv => cbv
        have hx4 := hx4A
        have mx4 := get_mem hx4
        obtain ⟨rfl, rfl⟩ : x1A = x4A ∧ x1B = x4B := by have := Option.some.inj (hx1.symm.trans hx4); simpa using this
        refine r_callFS (PV.int .i64) m.sY (csTime_ok (f1, m_B, m_C) (x1A, x1B) (by first | rfl | assumption | omega | (simp only [List.length_append, List.length_cons, List.length_nil] at *; omega)) (by first | rfl | assumption | omega | (simp only [List.length_append, List.length_cons, List.length_nil] at *; omega))) trivial fun r3 hr3 => ?_
        conv => cbv
        try dsimp only at hr3
        refine r_addf m.sY (by omega) (by omega) fun time_4 htime_4 => ?_
        conv => cbv
        have e4 : time_4 = stepT (m_A, m_B, m_C) l f1 time i := by rw [stepT, castAt_some hx1, htime_4, hr3, if_pos h2, Int.add_zero]; rfl
        refine r_append1 (time_4) m.sX rfl (by first | omega | (dsimp only; omega)) (by first | omega | (dsimp only; omega)) fun out_3 hout_3 => ?_
        conv => cbv
        have lout_3 : (out_3.length : Int) = out.length + 1 := by rw [hout_3]; first | done | (simp; done) | (simp; omega)
        refine r_addf m.sX (by omega) (by omega) fun r4 hr4 => ?_
        conv => cbv
        try have tr4 : Int.toNat r4 = Int.toNat i1 + 1 := by omega
        refine hE _ (f1, out_3, time_4, changes, r4) ?_ ?_ ⟨(by (try dsimp only); first | omega | (simp only [List.length_nil]; omega) | (simp only [List.length_cons, List.length_nil]; omega)), (by (try dsimp only); first | omega | (simp only [List.length_nil]; omega) | (simp only [List.length_cons, List.length_nil]; omega)), (by (try dsimp only) <;> first | omega | rfl | (simp [*]; done) | (rw [mb]; simp [*]; done)), (by (try dsimp only) <;> first | omega | rfl | (simp [*]; done) | (rw [nb]; simp [*]; done)), (by (try dsimp only) <;> first | omega | rfl | (simp [*]; done) | (rw [cb]; simp [*]; done)), (by (try dsimp only) <;> first | omega | rfl | (simp [*]; done) | (rw [ln]; simp [*]; done)), (by (try dsimp only) <;> (first | (rw [q, hout_2, tr4, e3]; simp only [List.append_assoc, List.cons_append, List.nil_append]; done) | (rw [q, hout_3, tr4, e4, h2]; simp only [List.append_assoc, List.cons_append, List.nil_append]; done))), (by (try dsimp only) <;> (first | (rw [c, if_neg h2, hchanges_2, tr4]; omega) | (rw [c, if_pos h2, tr4, h2]; omega)))⟩ (by first | omega | (dsimp only; omega))
        · cbv
        · cbv
    · have dz_i1 := drop_end (xs := order) (i := Int.toNat i1) (by omega)
      have tz_i1 := take_end (xs := order) (i := Int.toNat i1) (by omega)
      refine hF _ _ ?_
      conv => cbv
      exact hQ (.tup [.fr 3 1 (rows cInt out), .int .i64 changes]) (Eq.trans (by first | rfl | (simp only [lb, lbI, rows_cons, rows_nil, unnilT, unnil, unnilTI, unnilI]; done) | (simp only [lb, lbI, rows_cons, rows_nil, unnilT, unnil, unnilTI, unnilI]; rfl)) (congrArg ((li 3 1 cInt)) (show (out, changes) = (endsG (m_A, m_B, m_C) l m_A 0 order, chgG l m_A order) from by rw [q, c, dz_i1]; simp [endsG, chgG]))))   -- leaf 1

theorem csLast_ok (m_ : CMach) (l : List Casting) (order : List Int) (hm : okM m_ = true) (hl : okCs l = true) (ho : fineB l.length order = true) : OkA Try.prog 87 [.agg (cMachine m_), .isl 2 (rows cCasting l), .isl 1 (rows cInt order)] (· = .int .i64 (timeF m_ l order)) := by
  obtain ⟨m_A, m_B, m_C⟩ := m_
  try dsimp only at *
  exact fn_intro envOk fieldsOk mixed Try.func87 rfl fun κ X Y L Q m hQ => by
    conv => cbv
    refine r_callF (li 3 1 cInt) m.sX (csEnds_ok (m_A, m_B, m_C) l order (by first | rfl | assumption | omega | (simp only [List.length_append, List.length_cons, List.length_nil] at *; omega)) (by first | rfl | assumption | omega | (simp only [List.length_append, List.length_cons, List.length_nil] at *; omega)) (by first | rfl | assumption | omega | (simp only [List.length_append, List.length_cons, List.length_nil] at *; omega))) fun v hends => ?_
    obtain ⟨ends, v1⟩ := v
    conv => cbv
    try dsimp only at hends
    refine r_lenR m.sX fun n1 hn1 mn1 => ?_
    conv => cbv
    refine r_eql m.sX (fun h1 => ?_) (fun h1 => ?_) <;> conv => cbv
    · exact hQ (.int .i64 0) (Eq.trans (by first | rfl | (simp only [lb, lbI, rows_cons, rows_nil, unnilT, unnil, unnilTI, unnilI]; done) | (simp only [lb, lbI, rows_cons, rows_nil, unnilT, unnil, unnilTI, unnilI]; rfl)) (congrArg (PV.int .i64) (show 0 = timeF (m_A, m_B, m_C) l order from by rw [timeF, lastG_last]; show _ = ((endsG (m_A, m_B, m_C) l m_A 0 order).getLast?).getD 0; rw [← (Prod.mk.inj hends).1, List.length_eq_zero_iff.1 (show ends.length = 0 by omega)]; rfl)))   -- leaf 1
    · refine r_lenR m.sX fun n2 hn2 mn2 => ?_
      conv => cbv
      refine r_subf m.sX (by omega) (by omega) fun r1 hr1 => ?_
      conv => cbv
      refine r_oindex m.sX (by omega) (by omega) ?_
      conv => cbv
      obtain ⟨x1, hx1⟩ := get_ex (xs := ends) (i := Int.toNat r1) (by omega)
      have mx1 := get_mem hx1
      have vx1 := nth_some hx1
      refine r_oload m.sX hx1 (Nat.le_of_ble_eq_true rfl) ?_
      conv => cbv
      exact hQ (.int .i64 x1) (Eq.trans (by first | rfl | (simp only [lb, lbI, rows_cons, rows_nil, unnilT, unnil, unnilTI, unnilI]; done) | (simp only [lb, lbI, rows_cons, rows_nil, unnilT, unnil, unnilTI, unnilI]; rfl)) (congrArg (PV.int .i64) (show x1 = timeF (m_A, m_B, m_C) l order from by rw [timeF, lastG_last]; show _ = ((endsG (m_A, m_B, m_C) l m_A 0 order).getLast?).getD 0; rw [← (Prod.mk.inj hends).1, List.getLast?_eq_getElem?, show ends.length - 1 = r1.toNat by omega, hx1]; rfl)))   -- leaf 2

end Go.Proofs.Ytjmjepdlclehoaa.Ai
