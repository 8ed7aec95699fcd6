/- Contracts of the functions on presses. -/
import Derived.Test.YtnanackogloioaaPressLaw
namespace Go.Proofs.Ytnanackogloioaa.Ai
open Go Go.Proofs
set_option maxRecDepth 10000
set_option maxHeartbeats 4000000
set_option linter.unusedVariables false

theorem isInkNumber_ok (n : Int)  : OkA Try.prog 112 [.int .i64 n] (· = .bool (inB n 0 4)) :=
  fn_intro envOk fieldsOk mixed Try.func112 rfl fun κ X Y L Q m hQ => by
    conv => cbv
    refine r_callB m.sX (within_ok n 0 4) (fun h1 => ?_) (fun h1 => ?_) <;> conv => cbv
    · exact hQ _ (congrArg PV.bool (by simp [*]))   -- leaf 1
    · exact hQ _ (congrArg PV.bool (by simp [*]))   -- leaf 2

theorem prInk_ok (n : Int)  : OkA Try.prog 114 [.int .i64 n] (· = .bool (inB n 0 4)) :=
  fn_intro envOk fieldsOk mixed Try.func114 rfl fun κ X Y L Q m hQ => by
    conv => cbv
    refine r_callB m.sX (l1In_ok n 0 4) (fun h1 => ?_) (fun h1 => ?_) <;> conv => cbv
    · exact hQ _ (congrArg PV.bool (by simp [*]))   -- leaf 1
    · exact hQ _ (congrArg PV.bool (by simp [*]))   -- leaf 2


theorem isPressJob_ok (x : PressJob)  : OkA Try.prog 101 [.agg (cPressJob x)] (· = .bool (okJob x)) := by
  obtain ⟨xA, xB, xC⟩ := x
  try dsimp only at *
  exact fn_intro envOk fieldsOk mixed Try.func101 rfl fun κ X Y L Q m hQ => by
    conv => cbv
    refine r_callB m.sX (isInkNumber_ok xA) (fun h1 => ?_) (fun h1 => ?_) <;> conv => cbv
    · refine r_callB m.sX (within_ok xB 1 20000) (fun h2 => ?_) (fun h2 => ?_) <;> conv => cbv
      · refine r_callB m.sX (within_ok xC 0 100000) (fun h3 => ?_) (fun h3 => ?_) <;> conv => cbv
        · exact hQ _ (congrArg PV.bool (by first | rfl | omega | (simp [okJob, *]; done) | (subst_vars; simp [okJob, *]; done)))   -- leaf 1
        · exact hQ _ (congrArg PV.bool (by first | rfl | omega | (simp [okJob, *]; done) | (subst_vars; simp [okJob, *]; done)))   -- leaf 2
      · exact hQ _ (congrArg PV.bool (by first | rfl | omega | (simp [okJob, *]; done) | (subst_vars; simp [okJob, *]; done)))   -- leaf 3
    · exact hQ _ (congrArg PV.bool (by first | rfl | omega | (simp [okJob, *]; done) | (subst_vars; simp [okJob, *]; done)))   -- leaf 4

theorem prJob_ok (x : PressJob)  : OkA Try.prog 104 [.agg (cPressJob x)] (· = .bool (okJob x)) := by
  obtain ⟨xA, xB, xC⟩ := x
  try dsimp only at *
  exact fn_intro envOk fieldsOk mixed Try.func104 rfl fun κ X Y L Q m hQ => by
    conv => cbv
    refine r_callB m.sX (l1In_ok xA 0 4) (fun h1 => ?_) (fun h1 => ?_) <;> conv => cbv
    · refine r_callB m.sX (l1In_ok xB 1 20000) (fun h2 => ?_) (fun h2 => ?_) <;> conv => cbv
      · refine r_callB m.sX (l1In_ok xC 0 100000) (fun h3 => ?_) (fun h3 => ?_) <;> conv => cbv
        · exact hQ _ (congrArg PV.bool (by first | rfl | omega | (simp [okJob, *]; done) | (subst_vars; simp [okJob, *]; done)))   -- leaf 1
        · exact hQ _ (congrArg PV.bool (by first | rfl | omega | (simp [okJob, *]; done) | (subst_vars; simp [okJob, *]; done)))   -- leaf 2
      · exact hQ _ (congrArg PV.bool (by first | rfl | omega | (simp [okJob, *]; done) | (subst_vars; simp [okJob, *]; done)))   -- leaf 3
    · exact hQ _ (congrArg PV.bool (by first | rfl | omega | (simp [okJob, *]; done) | (subst_vars; simp [okJob, *]; done)))   -- leaf 4


def okJobs (l : List PressJob) : Bool := l.all okJob && decide ((l.length : Int) ≤ 7)

theorem ArePressJobs_ok (l : List PressJob)  : OkA Try.prog 109 [.isl 3 (rows cPressJob l)] (· = .bool (okJobs l)) :=
  fn_intro envOk fieldsOk mixed Try.func109 rfl fun κ X Y L Q m hQ => by
    conv => cbv
    refine r_lenR m.sX fun n1 hn1 mn1 => ?_
    conv => cbv
    refine r_loopF (α := Int) m 18 [0, 5, 6, 7] [] (fun σ => [(0, .isl 3 (rows cPressJob l)), (5, .isl 3 (rows cPressJob l)), (6, .int .i64 n1), (7, .int .i64 σ)]) (fun σ => [])
      (fun σ => (0 ≤ σ) ∧ (σ ≤ n1) ∧ (l.all okJob = (l.drop σ.toNat).all okJob)) (fun σ => (n1 - σ).toNat) 0 ?_ ?_ ?_ ?_
    · cbv
    · cbv
    · exact ⟨(by (try dsimp only); first | omega | (simp only [List.length_nil]; omega)), (by (try dsimp only); first | omega | (simp only [List.length_nil]; omega)), (by (try dsimp only) <;> first | omega | rfl | (simp [*]; done))⟩
    rintro i1 ⟨lo1, hi1, q⟩ E hE F hF
    conv => cbv
    refine r_lss m.sX (fun h1 => ?_) (fun h1 => ?_) <;> conv => cbv
    · refine r_index m.sX (by omega) (by omega) fun v hxA => ?_
      obtain ⟨xA, xB, xC⟩ := v
      conv => cbv
      have hx := hxA
      have mx := get_mem hx
      have dx := drop_cons hx
      have kx := take_snoc hx
      have jx : (i1 + 1).toNat = Int.toNat i1 + 1 := by omega
      refine r_callB m.sX (isPressJob_ok (xA, xB, xC)) (fun h2 => ?_) (fun h2 => ?_) <;> conv => cbv
      · refine r_addf m.sX (by omega) (by omega) fun r1 hr1 => ?_
        conv => cbv
        have tr1 : Int.toNat r1 = Int.toNat i1 + 1 := by omega
        refine hE _ r1 ?_ ?_ ⟨(by (try dsimp only); first | omega | (simp only [List.length_nil]; omega)), (by (try dsimp only); first | omega | (simp only [List.length_nil]; omega)), (by (try dsimp only) <;> first | omega | rfl | (simp [*]; done) | (rw [q]; simp [*]; done))⟩ (by first | omega | (dsimp only; omega))
        · cbv
        · cbv
      · refine hF _ _ ?_
        conv => cbv
        exact hQ _ (congrArg PV.bool (by rw [okJobs, q]; simp [*] <;> omega))   -- leaf 1
    · have dz_i1 := drop_end (xs := l) (i := Int.toNat i1) (by omega)
      have tz_i1 := take_end (xs := l) (i := Int.toNat i1) (by omega)
      refine hF _ _ ?_
      conv => cbv
      refine r_lenR m.sX fun n2 hn2 mn2 => ?_
      conv => cbv
      refine r_leq m.sX (fun h3 => ?_) (fun h3 => ?_) <;> conv => cbv
      · exact hQ _ (congrArg PV.bool (by rw [okJobs, q]; simp [*] <;> omega))   -- leaf 2
      · exact hQ _ (congrArg PV.bool (by rw [okJobs, q]; simp [*] <;> omega))   -- leaf 3

theorem prJobs_ok (l : List PressJob)  : OkA Try.prog 110 [.isl 3 (rows cPressJob l)] (· = .bool (okJobs l)) :=
  fn_intro envOk fieldsOk mixed Try.func110 rfl fun κ X Y L Q m hQ => by
    conv => cbv
    refine r_lenR m.sX fun n1 hn1 mn1 => ?_
    conv => cbv
    refine r_loopF (α := Int) m 18 [0, 5, 6, 7] [] (fun σ => [(0, .isl 3 (rows cPressJob l)), (5, .isl 3 (rows cPressJob l)), (6, .int .i64 n1), (7, .int .i64 σ)]) (fun σ => [])
      (fun σ => (0 ≤ σ) ∧ (σ ≤ n1) ∧ (l.all okJob = (l.drop σ.toNat).all okJob)) (fun σ => (n1 - σ).toNat) 0 ?_ ?_ ?_ ?_
    · cbv
    · cbv
    · exact ⟨(by (try dsimp only); first | omega | (simp only [List.length_nil]; omega)), (by (try dsimp only); first | omega | (simp only [List.length_nil]; omega)), (by (try dsimp only) <;> first | omega | rfl | (simp [*]; done))⟩
    rintro i1 ⟨lo1, hi1, q⟩ E hE F hF
    conv => cbv
    refine r_lss m.sX (fun h1 => ?_) (fun h1 => ?_) <;> conv => cbv
    · refine r_index m.sX (by omega) (by omega) fun v hxA => ?_
      obtain ⟨xA, xB, xC⟩ := v
      conv => cbv
      have hx := hxA
      have mx := get_mem hx
      have dx := drop_cons hx
      have kx := take_snoc hx
      have jx : (i1 + 1).toNat = Int.toNat i1 + 1 := by omega
      refine r_callB m.sX (prJob_ok (xA, xB, xC)) (fun h2 => ?_) (fun h2 => ?_) <;> conv => cbv
      · refine r_addf m.sX (by omega) (by omega) fun r1 hr1 => ?_
        conv => cbv
        have tr1 : Int.toNat r1 = Int.toNat i1 + 1 := by omega
        refine hE _ r1 ?_ ?_ ⟨(by (try dsimp only); first | omega | (simp only [List.length_nil]; omega)), (by (try dsimp only); first | omega | (simp only [List.length_nil]; omega)), (by (try dsimp only) <;> first | omega | rfl | (simp [*]; done) | (rw [q]; simp [*]; done))⟩ (by first | omega | (dsimp only; omega))
        · cbv
        · cbv
      · refine hF _ _ ?_
        conv => cbv
        exact hQ _ (congrArg PV.bool (by rw [okJobs, q]; simp [*] <;> omega))   -- leaf 1
    · have dz_i1 := drop_end (xs := l) (i := Int.toNat i1) (by omega)
      have tz_i1 := take_end (xs := l) (i := Int.toNat i1) (by omega)
      refine hF _ _ ?_
      conv => cbv
      refine r_lenR m.sX fun n2 hn2 mn2 => ?_
      conv => cbv
      refine r_leq m.sX (fun h3 => ?_) (fun h3 => ?_) <;> conv => cbv
      · exact hQ _ (congrArg PV.bool (by rw [okJobs, q]; simp [*] <;> omega))   -- leaf 2
      · exact hQ _ (congrArg PV.bool (by rw [okJobs, q]; simp [*] <;> omega))   -- leaf 3


theorem IsPress_ok (p : Press)  : OkA Try.prog 100 [.agg (cPress p)] (· = .bool (okPress p)) := by
  obtain ⟨pA, pB, pC, pD⟩ := p
  try dsimp only at *
  exact fn_intro envOk fieldsOk mixed Try.func100 rfl fun κ X Y L Q m hQ => by
    conv => cbv
    refine r_lenR m.sX fun n1 hn1 mn1 => ?_
    conv => cbv
    refine r_loopF (α := Int) m 35 [6, 7, 8] [⟨1, 9, 0, 0, 0⟩] (fun σ => [(1, .optr 9 0 4 0 0), (6, .isl 1 (rows cInt pD)), (7, .int .i64 n1), (8, .int .i64 σ)]) (fun σ => [(9, 0, .box [.int .i64 pA, .int .i64 pB, .int .i64 pC, .isl 1 (rows cInt pD)])])
      (fun σ => (0 ≤ σ) ∧ (σ ≤ n1) ∧ (allB pD 0 300 = allB (pD.drop σ.toNat) 0 300)) (fun σ => (n1 - σ).toNat) 0 ?_ ?_ ?_ ?_
    · cbv
    · cbv
    · exact ⟨(by (try dsimp only); first | omega | (simp only [List.length_nil]; omega)), (by (try dsimp only); first | omega | (simp only [List.length_nil]; omega)), (by (try dsimp only) <;> first | omega | rfl | (simp [allB_cons, allB_nil, *]; done))⟩
    rintro i1 ⟨lo1, hi1, q⟩ E hE F hF
    conv => cbv
    refine r_lss m.sX (fun h1 => ?_) (fun h1 => ?_) <;> conv => cbv
    · refine r_index m.sX (by omega) (by omega) fun n hn => ?_
      conv => cbv
      have mn := get_mem hn
      have dn := drop_cons hn
      have kn := take_snoc hn
      have jn : (i1 + 1).toNat = Int.toNat i1 + 1 := by omega
      have vn := nth_some hn
      refine r_callB m.sX (within_ok n 0 300) (fun h2 => ?_) (fun h2 => ?_) <;> conv => cbv
      · refine r_addf m.sX (by omega) (by omega) fun r1 hr1 => ?_
        conv => cbv
        have tr1 : Int.toNat r1 = Int.toNat i1 + 1 := by omega
        refine hE _ r1 ?_ ?_ ⟨(by (try dsimp only); first | omega | (simp only [List.length_nil]; omega)), (by (try dsimp only); first | omega | (simp only [List.length_nil]; omega)), (by (try dsimp only) <;> first | omega | rfl | (simp [allB_cons, allB_nil, *]; done) | (rw [q]; simp [allB_cons, allB_nil, *]; done))⟩ (by first | omega | (dsimp only; omega))
        · cbv
        · cbv
      · refine hF _ _ ?_
        conv => cbv
        exact hQ _ (congrArg PV.bool (by rw [okPress, q]; simp [allB_cons, allB_nil, *] <;> omega))   -- leaf 1
    · have dz_i1 := drop_end (xs := pD) (i := Int.toNat i1) (by omega)
      have tz_i1 := take_end (xs := pD) (i := Int.toNat i1) (by omega)
      refine hF _ _ ?_
      conv => cbv
      refine r_callB m.sX (within_ok pA 1 5000) (fun h3 => ?_) (fun h3 => ?_) <;> conv => cbv
      · refine r_callB m.sX (within_ok pB 0 600) (fun h4 => ?_) (fun h4 => ?_) <;> conv => cbv
        · refine r_callB m.sX (within_ok pC 0 500) (fun h5 => ?_) (fun h5 => ?_) <;> conv => cbv
          · refine r_lenR m.sX fun n2 hn2 mn2 => ?_
            conv => cbv
            refine r_eql m.sX (fun h6 => ?_) (fun h6 => ?_) <;> conv => cbv
            · exact hQ _ (congrArg PV.bool (by rw [okPress, q]; simp [allB_cons, allB_nil, *] <;> omega))   -- leaf 2
            · exact hQ _ (congrArg PV.bool (by rw [okPress, q]; simp [allB_cons, allB_nil, *] <;> omega))   -- leaf 3
          · exact hQ _ (congrArg PV.bool (by rw [okPress, q]; simp [allB_cons, allB_nil, *] <;> omega))   -- leaf 4
        · exact hQ _ (congrArg PV.bool (by rw [okPress, q]; simp [allB_cons, allB_nil, *] <;> omega))   -- leaf 5
      · exact hQ _ (congrArg PV.bool (by rw [okPress, q]; simp [allB_cons, allB_nil, *] <;> omega))   -- leaf 6

theorem prGood_ok (p : Press)  : OkA Try.prog 103 [.agg (cPress p)] (· = .bool (okPress p)) := by
  obtain ⟨pA, pB, pC, pD⟩ := p
  try dsimp only at *
  exact fn_intro envOk fieldsOk mixed Try.func103 rfl fun κ X Y L Q m hQ => by
    conv => cbv
    refine r_callB m.sX (l1In_ok pA 1 5000) (fun h1 => ?_) (fun h1 => ?_) <;> conv => cbv
    · refine r_callB m.sX (l1In_ok pB 0 600) (fun h2 => ?_) (fun h2 => ?_) <;> conv => cbv
      · refine r_callB m.sX (l1In_ok pC 0 500) (fun h3 => ?_) (fun h3 => ?_) <;> conv => cbv
        · refine r_lenR m.sX fun n1 hn1 mn1 => ?_
          conv => cbv
          refine r_eql m.sX (fun h4 => ?_) (fun h4 => ?_) <;> conv => cbv
          · refine r_callB m.sX (l1All_ok pD 0 300) (fun h5 => ?_) (fun h5 => ?_) <;> conv => cbv
            · exact hQ _ (congrArg PV.bool (by rw [okPress]; simp [*] <;> omega))   -- leaf 1
            · exact hQ _ (congrArg PV.bool (by rw [okPress]; simp [*] <;> omega))   -- leaf 2
          · exact hQ _ (congrArg PV.bool (by rw [okPress]; simp [*] <;> omega))   -- leaf 3
        · exact hQ _ (congrArg PV.bool (by rw [okPress]; simp [*] <;> omega))   -- leaf 4
      · exact hQ _ (congrArg PV.bool (by rw [okPress]; simp [*] <;> omega))   -- leaf 5
    · exact hQ _ (congrArg PV.bool (by rw [okPress]; simp [*] <;> omega))   -- leaf 6


theorem sheets_ok (p : Press) (x : PressJob) (hs : 0 ≤ p.2.2.1 ∧ p.2.2.1 ≤ 500) (hx : 1 ≤ x.2.1 ∧ x.2.1 ≤ 20000) : OkA Try.prog 102 [.agg (cPress p), .agg (cPressJob x)] (· = .int .i64 (needF p.2.2.1 x.2.1)) := by
  obtain ⟨pA, pB, pC, pD⟩ := p
  obtain ⟨xA, xB, xC⟩ := x
  try dsimp only at *
  exact fn_intro envOk fieldsOk mixed Try.func102 rfl fun κ X Y L Q m hQ => by
    have nd := needF_spec hs.1 hs.2 hx.1
    try dsimp only at nd
    have nb := nd.bound hs.1 hs.2 hx.1
    try dsimp only at nb
    have na := nd.1
    try dsimp only at na
    conv => cbv
    refine r_loopF (α := Int) m 22 [5] [⟨2, 17, 0, 0, 0⟩, ⟨3, 25, 0, 0, 0⟩] (fun σ => [(2, .optr 17 0 4 0 0), (3, .optr 25 0 3 0 0), (5, .int .i64 σ)]) (fun σ => [(17, 0, .box [.int .i64 pA, .int .i64 pB, .int .i64 pC, .isl 1 (rows cInt pD)]), (25, 0, .box [.int .i64 xA, .int .i64 xB, .int .i64 xC])])
      (fun σ => (xB ≤ σ) ∧ (σ ≤ needF pC xB)) (fun σ => (needF pC xB - σ).toNat) xB ?_ ?_ ?_ ?_
    · cbv
    · cbv
    · exact ⟨(by (try dsimp only) <;> first | omega | rfl | (simp [*]; done)), (by (try dsimp only) <;> first | omega | rfl | (simp [*]; done))⟩
    rintro n ⟨b1, b2⟩ E hE F hF
    have lb0 := lost_bound hs.1 hs.2 (show 0 ≤ n by omega)
    try dsimp only at lb0
    conv => cbv
    refine r_mulf m.sX (by omega) (by omega) fun r1 hr1 => ?_
    conv => cbv
    refine r_addf m.sX (by omega) (by omega) fun r2 hr2 => ?_
    conv => cbv
    refine r_divf m.sX (by omega) (by omega) fun r3 hr3 br3 => ?_
    conv => cbv
    have e3 : r3 = lost pC n := by rw [hr3, hr2, hr1]; rfl
    refine r_subf m.sX (by omega) (by omega) fun r4 hr4 => ?_
    conv => cbv
    refine r_lss m.sX (fun h1 => ?_) (fun h1 => ?_) <;> conv => cbv
    · have c1 : n ≠ needF pC xB := fun e => by have := nd.2.1; rw [← e] at this; omega
      refine r_addf m.sX (by omega) (by omega) fun n_2 hn_2 => ?_
      conv => cbv
      refine hE _ n_2 ?_ ?_ ⟨(by (try dsimp only) <;> first | omega | rfl | (simp [*]; done) | (rw [b1]; simp [*]; done)), (by (try dsimp only) <;> first | omega | rfl | (simp [*]; done) | (rw [b2]; simp [*]; done))⟩ (by first | omega | (dsimp only; omega))
      · cbv
      · cbv
    · have c1 := nd.2.2 n b1
      try dsimp only at c1
      refine hF _ _ ?_
      conv => cbv
      exact hQ (.int .i64 n) (Eq.trans (by first | rfl | (simp only [lb, lbI, rows_cons, rows_nil, unnilT, unnil, unnilTI, unnilI]; done) | (simp only [lb, lbI, rows_cons, rows_nil, unnilT, unnil, unnilTI, unnilI]; rfl)) (congrArg (PV.int .i64) (show n = needF pC xB from by omega)))   -- leaf 1

theorem prNeeded_ok (p : Press) (sheets : Int) (hs : 0 ≤ p.2.2.1 ∧ p.2.2.1 ≤ 500) (hx : 1 ≤ sheets ∧ sheets ≤ 20000) : OkA Try.prog 105 [.agg (cPress p), .int .i64 sheets] (· = .int .i64 (needF p.2.2.1 sheets)) := by
  obtain ⟨pA, pB, pC, pD⟩ := p
  try dsimp only at *
  exact fn_intro envOk fieldsOk mixed Try.func105 rfl fun κ X Y L Q m hQ => by
    have nd := needF_spec hs.1 hs.2 hx.1
    try dsimp only at nd
    have nb := nd.bound hs.1 hs.2 hx.1
    try dsimp only at nb
    have na := nd.1
    try dsimp only at na
    conv => cbv
    refine r_loopF (α := Int) m 20 [1, 5] [⟨2, 17, 0, 0, 0⟩] (fun σ => [(1, .int .i64 sheets), (2, .optr 17 0 4 0 0), (5, .int .i64 σ)]) (fun σ => [(17, 0, .box [.int .i64 pA, .int .i64 pB, .int .i64 pC, .isl 1 (rows cInt pD)])])
      (fun σ => (sheets ≤ σ) ∧ (σ ≤ needF pC sheets)) (fun σ => (needF pC sheets - σ).toNat) sheets ?_ ?_ ?_ ?_
    · cbv
    · cbv
    · exact ⟨(by (try dsimp only) <;> first | omega | rfl | (simp [*]; done)), (by (try dsimp only) <;> first | omega | rfl | (simp [*]; done))⟩
    rintro n ⟨b1, b2⟩ E hE F hF
    have lb0 := lost_bound hs.1 hs.2 (show 0 ≤ n by omega)
    try dsimp only at lb0
    conv => cbv
    refine r_mulf m.sX (by omega) (by omega) fun r1 hr1 => ?_
    conv => cbv
    refine r_addf m.sX (by omega) (by omega) fun r2 hr2 => ?_
    conv => cbv
    refine r_divf m.sX (by omega) (by omega) fun r3 hr3 br3 => ?_
    conv => cbv
    have e3 : r3 = lost pC n := by rw [hr3, hr2, hr1]; rfl
    refine r_subf m.sX (by omega) (by omega) fun r4 hr4 => ?_
    conv => cbv
    refine r_lss m.sX (fun h1 => ?_) (fun h1 => ?_) <;> conv => cbv
    · have c1 : n ≠ needF pC sheets := fun e => by have := nd.2.1; rw [← e] at this; omega
      refine r_addf m.sX (by omega) (by omega) fun n_2 hn_2 => ?_
      conv => cbv
      refine hE _ n_2 ?_ ?_ ⟨(by (try dsimp only) <;> first | omega | rfl | (simp [*]; done) | (rw [b1]; simp [*]; done)), (by (try dsimp only) <;> first | omega | rfl | (simp [*]; done) | (rw [b2]; simp [*]; done))⟩ (by first | omega | (dsimp only; omega))
      · cbv
      · cbv
    · have c1 := nd.2.2 n b1
      try dsimp only at c1
      refine hF _ _ ?_
      conv => cbv
      exact hQ (.int .i64 n) (Eq.trans (by first | rfl | (simp only [lb, lbI, rows_cons, rows_nil, unnilT, unnil, unnilTI, unnilI]; done) | (simp only [lb, lbI, rows_cons, rows_nil, unnilT, unnil, unnilTI, unnilI]; rfl)) (congrArg (PV.int .i64) (show n = needF pC sheets from by omega)))   -- leaf 1


theorem okJobs_mem {l : List PressJob} (h : okJobs l = true) : ∀ x ∈ l, okJob x = true := by
  rw [okJobs, Bool.and_eq_true] at h
  exact List.all_eq_true.1 h.1
theorem okJobs_len {l : List PressJob} (h : okJobs l = true) : (l.length : Int) ≤ 7 := by
  rw [okJobs, Bool.and_eq_true, decide_eq_true_eq] at h
  exact h.2

def hasS (p : Press) : Prop := 0 ≤ p.2.2.1 ∧ p.2.2.1 ≤ 500
noncomputable def needAns (p : Press) (x : PressJob) : Int × Bool := if okPress p && okJob x then (needF p.2.2.1 x.2.1, true) else (0, false)
noncomputable def minsF (p : Press) (x : PressJob) : Int := p.2.1 + runF p.1 (needF p.2.2.1 x.2.1)
noncomputable def minAns (p : Press) (x : PressJob) : Int × Bool := if okPress p && okJob x then (minsF p x, true) else (0, false)
def washAns (p : Press) (a b : Int) : Int × Bool := if okPress p && (inB a 0 4 && inB b 0 4) then (washF p.2.2.2 a b, true) else (0, false)
noncomputable def paperF (s : Int) (l : List PressJob) : Int := (l.map fun x => needF s x.2.1).sum
theorem paperF_snoc (s : Int) (l : List PressJob) (x : PressJob) : paperF s (l ++ [x]) = paperF s l + needF s x.2.1 := by simp [paperF]
noncomputable def paperAns (p : Press) (l : List PressJob) : Int × Bool := if okPress p && okJobs l then (paperF p.2.2.1 l, true) else (0, false)

theorem need_bound {s x : Int} (h0 : 0 ≤ s) (h1 : s ≤ 500) (hx : 1 ≤ x) : x ≤ needF s x ∧ needF s x ≤ 2 * x + 1 := ⟨(needF_spec h0 h1 hx).1, (needF_spec h0 h1 hx).bound h0 h1 hx⟩

theorem SheetsNeeded_ok (p : Press) (x : PressJob)  : OkA Try.prog 11 [.agg (cPress p), .agg (cPressJob x)] (· = ib (needAns p x)) := by
  obtain ⟨pA, pB, pC, pD⟩ := p
  obtain ⟨xA, xB, xC⟩ := x
  try dsimp only at *
  exact fn_intro envOk fieldsOk mixed Try.func11 rfl fun κ X Y L Q m hQ => by
    conv => cbv
    refine r_callB m.sX (IsPress_ok (pA, pB, pC, pD)) (fun h1 => ?_) (fun h1 => ?_) <;> conv => cbv
    · have sh1 := okPress_spec h1
      try dsimp only at sh1
      refine r_callB m.sX (isPressJob_ok (xA, xB, xC)) (fun h2 => ?_) (fun h2 => ?_) <;> conv => cbv
      · have sh2 := okJob_spec h2
        try dsimp only at sh2
        refine r_callF (PV.int .i64) m.sX (sheets_ok (pA, pB, pC, pD) (xA, xB, xC) (by first | rfl | assumption | omega | (simp only [List.length_append, List.length_cons, List.length_nil] at *; omega)) (by first | rfl | assumption | omega | (simp only [List.length_append, List.length_cons, List.length_nil] at *; omega))) fun r1 hr1 => ?_
        conv => cbv
        try dsimp only at hr1
        exact hQ (.tup [.int .i64 r1, .bool true]) (Eq.trans (by first | rfl | (simp only [lb, lbI, rows_cons, rows_nil, unnilT, unnil, unnilTI, unnilI]; done) | (simp only [lb, lbI, rows_cons, rows_nil, unnilT, unnil, unnilTI, unnilI]; rfl)) (congrArg (ib) (show (r1, true) = needAns (pA, pB, pC, pD) (xA, xB, xC) from by simp [needAns, *])))   -- leaf 1
      · exact hQ (.tup [.int .i64 0, .bool false]) (Eq.trans (by first | rfl | (simp only [lb, lbI, rows_cons, rows_nil, unnilT, unnil, unnilTI, unnilI]; done) | (simp only [lb, lbI, rows_cons, rows_nil, unnilT, unnil, unnilTI, unnilI]; rfl)) (congrArg (ib) (show (0, false) = needAns (pA, pB, pC, pD) (xA, xB, xC) from by simp [needAns, *])))   -- leaf 2
    · exact hQ (.tup [.int .i64 0, .bool false]) (Eq.trans (by first | rfl | (simp only [lb, lbI, rows_cons, rows_nil, unnilT, unnil, unnilTI, unnilI]; done) | (simp only [lb, lbI, rows_cons, rows_nil, unnilT, unnil, unnilTI, unnilI]; rfl)) (congrArg (ib) (show (0, false) = needAns (pA, pB, pC, pD) (xA, xB, xC) from by simp [needAns, *])))   -- leaf 3

theorem specSheetsNeeded_ok (p : Press) (x : PressJob)  : OkA Try.prog 12 [.agg (cPress p), .agg (cPressJob x)] (· = ib (needAns p x)) := by
  obtain ⟨pA, pB, pC, pD⟩ := p
  obtain ⟨xA, xB, xC⟩ := x
  try dsimp only at *
  exact fn_intro envOk fieldsOk mixed Try.func12 rfl fun κ X Y L Q m hQ => by
    conv => cbv
    refine r_callB m.sX (prGood_ok (pA, pB, pC, pD)) (fun h1 => ?_) (fun h1 => ?_) <;> conv => cbv
    · have sh1 := okPress_spec h1
      try dsimp only at sh1
      refine r_callB m.sX (prJob_ok (xA, xB, xC)) (fun h2 => ?_) (fun h2 => ?_) <;> conv => cbv
      · have sh2 := okJob_spec h2
        try dsimp only at sh2
        refine r_callF (PV.int .i64) m.sX (prNeeded_ok (pA, pB, pC, pD) xB (by first | rfl | assumption | omega | (simp only [List.length_append, List.length_cons, List.length_nil] at *; omega)) (by first | rfl | assumption | omega | (simp only [List.length_append, List.length_cons, List.length_nil] at *; omega))) fun r1 hr1 => ?_
        conv => cbv
        try dsimp only at hr1
        exact hQ (.tup [.int .i64 r1, .bool true]) (Eq.trans (by first | rfl | (simp only [lb, lbI, rows_cons, rows_nil, unnilT, unnil, unnilTI, unnilI]; done) | (simp only [lb, lbI, rows_cons, rows_nil, unnilT, unnil, unnilTI, unnilI]; rfl)) (congrArg (ib) (show (r1, true) = needAns (pA, pB, pC, pD) (xA, xB, xC) from by simp [needAns, *])))   -- leaf 1
      · exact hQ (.tup [.int .i64 0, .bool false]) (Eq.trans (by first | rfl | (simp only [lb, lbI, rows_cons, rows_nil, unnilT, unnil, unnilTI, unnilI]; done) | (simp only [lb, lbI, rows_cons, rows_nil, unnilT, unnil, unnilTI, unnilI]; rfl)) (congrArg (ib) (show (0, false) = needAns (pA, pB, pC, pD) (xA, xB, xC) from by simp [needAns, *])))   -- leaf 2
    · exact hQ (.tup [.int .i64 0, .bool false]) (Eq.trans (by first | rfl | (simp only [lb, lbI, rows_cons, rows_nil, unnilT, unnil, unnilTI, unnilI]; done) | (simp only [lb, lbI, rows_cons, rows_nil, unnilT, unnil, unnilTI, unnilI]; rfl)) (congrArg (ib) (show (0, false) = needAns (pA, pB, pC, pD) (xA, xB, xC) from by simp [needAns, *])))   -- leaf 3


theorem minutes_ok (p : Press) (x : PressJob) (hp : okPress p = true) (hx : okJob x = true) : OkA Try.prog 106 [.agg (cPress p), .agg (cPressJob x)] (· = .int .i64 (minsF p x)) := by
  obtain ⟨pA, pB, pC, pD⟩ := p
  obtain ⟨xA, xB, xC⟩ := x
  try dsimp only at *
  exact fn_intro envOk fieldsOk mixed Try.func106 rfl fun κ X Y L Q m hQ => by
    have s1 := okPress_spec hp
    try dsimp only at s1
    have s2 := okJob_spec hx
    try dsimp only at s2
    have nb := need_bound s1.2.2.2.1.1 s1.2.2.2.1.2 s2.2.1.1
    try dsimp only at nb
    conv => cbv
    refine r_draw m (by kernel_rfl) ?_
    conv => cbv
    refine r_callFS (PV.int .i64) m.sY (sheets_ok (pA, pB, pC, pD) (xA, xB, xC) (by first | rfl | assumption | omega | (simp only [List.length_append, List.length_cons, List.length_nil] at *; omega)) (by first | rfl | assumption | omega | (simp only [List.length_append, List.length_cons, List.length_nil] at *; omega))) trivial fun r1 hr1 => ?_
    conv => cbv
    try dsimp only at hr1
    refine r_mulf m.sY (by omega) (by omega) fun r2 hr2 => ?_
    conv => cbv
    refine r_addf m.sY (by omega) (by omega) fun r3 hr3 => ?_
    conv => cbv
    refine r_subf m.sY (by omega) (by omega) fun r4 hr4 => ?_
    conv => cbv
    refine r_divf m.sY (by omega) (by omega) fun r5 hr5 br5 => ?_
    conv => cbv
    refine r_addf m.sY (by omega) (by omega) fun r6 hr6 => ?_
    conv => cbv
    exact hQ (.int .i64 r6) (Eq.trans (by first | rfl | (simp only [lb, lbI, rows_cons, rows_nil, unnilT, unnil, unnilTI, unnilI]; done) | (simp only [lb, lbI, rows_cons, rows_nil, unnilT, unnil, unnilTI, unnilI]; rfl)) (congrArg (PV.int .i64) (show r6 = minsF (pA, pB, pC, pD) (xA, xB, xC) from by simp [minsF, runF, *])))   -- leaf 1

theorem prMinutes_ok (p : Press) (x : PressJob) (hp : okPress p = true) (hx : okJob x = true) : OkA Try.prog 107 [.agg (cPress p), .agg (cPressJob x)] (· = .int .i64 (minsF p x)) := by
  obtain ⟨pA, pB, pC, pD⟩ := p
  obtain ⟨xA, xB, xC⟩ := x
  try dsimp only at *
  exact fn_intro envOk fieldsOk mixed Try.func107 rfl fun κ X Y L Q m hQ => by
    have s1 := okPress_spec hp
    try dsimp only at s1
    have s2 := okJob_spec hx
    try dsimp only at s2
    have nb := need_bound s1.2.2.2.1.1 s1.2.2.2.1.2 s2.2.1.1
    try dsimp only at nb
    conv => cbv
    refine r_draw m (by kernel_rfl) ?_
    conv => cbv
    refine r_callFS (PV.int .i64) m.sY (prNeeded_ok (pA, pB, pC, pD) xB (by first | rfl | assumption | omega | (simp only [List.length_append, List.length_cons, List.length_nil] at *; omega)) (by first | rfl | assumption | omega | (simp only [List.length_append, List.length_cons, List.length_nil] at *; omega))) trivial fun r1 hr1 => ?_
    conv => cbv
    try dsimp only at hr1
    refine r_mulf m.sY (by omega) (by omega) fun r2 hr2 => ?_
    conv => cbv
    refine r_addf m.sY (by omega) (by omega) fun r3 hr3 => ?_
    conv => cbv
    refine r_subf m.sY (by omega) (by omega) fun r4 hr4 => ?_
    conv => cbv
    refine r_divf m.sY (by omega) (by omega) fun r5 hr5 br5 => ?_
    conv => cbv
    refine r_addf m.sY (by omega) (by omega) fun r6 hr6 => ?_
    conv => cbv
    exact hQ (.int .i64 r6) (Eq.trans (by first | rfl | (simp only [lb, lbI, rows_cons, rows_nil, unnilT, unnil, unnilTI, unnilI]; done) | (simp only [lb, lbI, rows_cons, rows_nil, unnilT, unnil, unnilTI, unnilI]; rfl)) (congrArg (PV.int .i64) (show r6 = minsF (pA, pB, pC, pD) (xA, xB, xC) from by simp [minsF, runF, *])))   -- leaf 1

theorem JobMinutes_ok (p : Press) (x : PressJob)  : OkA Try.prog 13 [.agg (cPress p), .agg (cPressJob x)] (· = ib (minAns p x)) := by
  obtain ⟨pA, pB, pC, pD⟩ := p
  obtain ⟨xA, xB, xC⟩ := x
  try dsimp only at *
  exact fn_intro envOk fieldsOk mixed Try.func13 rfl fun κ X Y L Q m hQ => by
    conv => cbv
    refine r_callB m.sX (IsPress_ok (pA, pB, pC, pD)) (fun h1 => ?_) (fun h1 => ?_) <;> conv => cbv
    · refine r_callB m.sX (isPressJob_ok (xA, xB, xC)) (fun h2 => ?_) (fun h2 => ?_) <;> conv => cbv
      · refine r_callF (PV.int .i64) m.sX (minutes_ok (pA, pB, pC, pD) (xA, xB, xC) (by first | rfl | assumption | omega | (simp only [List.length_append, List.length_cons, List.length_nil] at *; omega)) (by first | rfl | assumption | omega | (simp only [List.length_append, List.length_cons, List.length_nil] at *; omega))) fun r1 hr1 => ?_
        conv => cbv
        try dsimp only at hr1
        exact hQ (.tup [.int .i64 r1, .bool true]) (Eq.trans (by first | rfl | (simp only [lb, lbI, rows_cons, rows_nil, unnilT, unnil, unnilTI, unnilI]; done) | (simp only [lb, lbI, rows_cons, rows_nil, unnilT, unnil, unnilTI, unnilI]; rfl)) (congrArg (ib) (show (r1, true) = minAns (pA, pB, pC, pD) (xA, xB, xC) from by simp [minAns, *])))   -- leaf 1
      · exact hQ (.tup [.int .i64 0, .bool false]) (Eq.trans (by first | rfl | (simp only [lb, lbI, rows_cons, rows_nil, unnilT, unnil, unnilTI, unnilI]; done) | (simp only [lb, lbI, rows_cons, rows_nil, unnilT, unnil, unnilTI, unnilI]; rfl)) (congrArg (ib) (show (0, false) = minAns (pA, pB, pC, pD) (xA, xB, xC) from by simp [minAns, *])))   -- leaf 2
    · exact hQ (.tup [.int .i64 0, .bool false]) (Eq.trans (by first | rfl | (simp only [lb, lbI, rows_cons, rows_nil, unnilT, unnil, unnilTI, unnilI]; done) | (simp only [lb, lbI, rows_cons, rows_nil, unnilT, unnil, unnilTI, unnilI]; rfl)) (congrArg (ib) (show (0, false) = minAns (pA, pB, pC, pD) (xA, xB, xC) from by simp [minAns, *])))   -- leaf 3

theorem specJobMinutes_ok (p : Press) (x : PressJob)  : OkA Try.prog 14 [.agg (cPress p), .agg (cPressJob x)] (· = ib (minAns p x)) := by
  obtain ⟨pA, pB, pC, pD⟩ := p
  obtain ⟨xA, xB, xC⟩ := x
  try dsimp only at *
  exact fn_intro envOk fieldsOk mixed Try.func14 rfl fun κ X Y L Q m hQ => by
    conv => cbv
    refine r_callB m.sX (prGood_ok (pA, pB, pC, pD)) (fun h1 => ?_) (fun h1 => ?_) <;> conv => cbv
    · refine r_callB m.sX (prJob_ok (xA, xB, xC)) (fun h2 => ?_) (fun h2 => ?_) <;> conv => cbv
      · refine r_callF (PV.int .i64) m.sX (prMinutes_ok (pA, pB, pC, pD) (xA, xB, xC) (by first | rfl | assumption | omega | (simp only [List.length_append, List.length_cons, List.length_nil] at *; omega)) (by first | rfl | assumption | omega | (simp only [List.length_append, List.length_cons, List.length_nil] at *; omega))) fun r1 hr1 => ?_
        conv => cbv
        try dsimp only at hr1
        exact hQ (.tup [.int .i64 r1, .bool true]) (Eq.trans (by first | rfl | (simp only [lb, lbI, rows_cons, rows_nil, unnilT, unnil, unnilTI, unnilI]; done) | (simp only [lb, lbI, rows_cons, rows_nil, unnilT, unnil, unnilTI, unnilI]; rfl)) (congrArg (ib) (show (r1, true) = minAns (pA, pB, pC, pD) (xA, xB, xC) from by simp [minAns, *])))   -- leaf 1
      · exact hQ (.tup [.int .i64 0, .bool false]) (Eq.trans (by first | rfl | (simp only [lb, lbI, rows_cons, rows_nil, unnilT, unnil, unnilTI, unnilI]; done) | (simp only [lb, lbI, rows_cons, rows_nil, unnilT, unnil, unnilTI, unnilI]; rfl)) (congrArg (ib) (show (0, false) = minAns (pA, pB, pC, pD) (xA, xB, xC) from by simp [minAns, *])))   -- leaf 2
    · exact hQ (.tup [.int .i64 0, .bool false]) (Eq.trans (by first | rfl | (simp only [lb, lbI, rows_cons, rows_nil, unnilT, unnil, unnilTI, unnilI]; done) | (simp only [lb, lbI, rows_cons, rows_nil, unnilT, unnil, unnilTI, unnilI]; rfl)) (congrArg (ib) (show (0, false) = minAns (pA, pB, pC, pD) (xA, xB, xC) from by simp [minAns, *])))   -- leaf 3


theorem wash_ok (p : Press) (from_ : Int) (to_ : Int) (hp : okPress p = true) (ha : 0 ≤ from_ ∧ from_ ≤ 4) : OkA Try.prog 113 [.agg (cPress p), .int .i64 from_, .int .i64 to_] (· = .int .i64 (washF p.2.2.2 from_ to_)) := by
  obtain ⟨pA, pB, pC, pD⟩ := p
  try dsimp only at *
  exact fn_intro envOk fieldsOk mixed Try.func113 rfl fun κ X Y L Q m hQ => by
    have s1 := okPress_spec hp
    try dsimp only at s1
    conv => cbv
    refine r_lss m.sX (fun h1 => ?_) (fun h1 => ?_) <;> conv => cbv
    · refine r_index m.sX (by omega) (by omega) fun x1 hx1 => ?_
      conv => cbv
      have mx1 := get_mem hx1
      have vx1 := nth_some hx1
      have bx1 := s1.1 _ mx1
      try dsimp only at bx1
      exact hQ (.int .i64 x1) (Eq.trans (by first | rfl | (simp only [lb, lbI, rows_cons, rows_nil, unnilT, unnil, unnilTI, unnilI]; done) | (simp only [lb, lbI, rows_cons, rows_nil, unnilT, unnil, unnilTI, unnilI]; rfl)) (congrArg (PV.int .i64) (show x1 = washF pD from_ to_ from by rw [washF, if_neg (by omega), if_pos (by omega), hx1]; rfl)))   -- leaf 1
    · refine r_gtr m.sX (fun h2 => ?_) (fun h2 => ?_) <;> conv => cbv
      · refine r_index m.sX (by omega) (by omega) fun x2 hx2 => ?_
        conv => cbv
        have mx2 := get_mem hx2
        have vx2 := nth_some hx2
        have bx2 := s1.1 _ mx2
        try dsimp only at bx2
        refine r_addf m.sX (by omega) (by omega) fun r1 hr1 => ?_
        conv => cbv
        refine r_divf m.sX (by omega) (by omega) fun r2 hr2 br2 => ?_
        conv => cbv
        exact hQ (.int .i64 r2) (Eq.trans (by first | rfl | (simp only [lb, lbI, rows_cons, rows_nil, unnilT, unnil, unnilTI, unnilI]; done) | (simp only [lb, lbI, rows_cons, rows_nil, unnilT, unnil, unnilTI, unnilI]; rfl)) (congrArg (PV.int .i64) (show r2 = washF pD from_ to_ from by rw [washF, if_neg (by omega), if_neg (by omega), hx2]; dsimp only [Option.getD_some]; omega)))   -- leaf 2
      · exact hQ (.int .i64 0) (Eq.trans (by first | rfl | (simp only [lb, lbI, rows_cons, rows_nil, unnilT, unnil, unnilTI, unnilI]; done) | (simp only [lb, lbI, rows_cons, rows_nil, unnilT, unnil, unnilTI, unnilI]; rfl)) (congrArg (PV.int .i64) (show 0 = washF pD from_ to_ from by rw [washF, if_pos (by omega)])))   -- leaf 3

theorem prWash_ok (p : Press) (from_ : Int) (to_ : Int) (hp : okPress p = true) (ha : 0 ≤ from_ ∧ from_ ≤ 4) : OkA Try.prog 115 [.agg (cPress p), .int .i64 from_, .int .i64 to_] (· = .int .i64 (washF p.2.2.2 from_ to_)) := by
  obtain ⟨pA, pB, pC, pD⟩ := p
  try dsimp only at *
  exact fn_intro envOk fieldsOk mixed Try.func115 rfl fun κ X Y L Q m hQ => by
    have s1 := okPress_spec hp
    try dsimp only at s1
    conv => cbv
    refine r_eql m.sX (fun h1 => ?_) (fun h1 => ?_) <;> conv => cbv
    · exact hQ (.int .i64 0) (Eq.trans (by first | rfl | (simp only [lb, lbI, rows_cons, rows_nil, unnilT, unnil, unnilTI, unnilI]; done) | (simp only [lb, lbI, rows_cons, rows_nil, unnilT, unnil, unnilTI, unnilI]; rfl)) (congrArg (PV.int .i64) (show 0 = washF pD from_ to_ from by rw [washF, if_pos (by omega)])))   -- leaf 1
    · refine r_lss m.sX (fun h2 => ?_) (fun h2 => ?_) <;> conv => cbv
      · refine r_index m.sX (by omega) (by omega) fun x1 hx1 => ?_
        conv => cbv
        have mx1 := get_mem hx1
        have vx1 := nth_some hx1
        have bx1 := s1.1 _ mx1
        try dsimp only at bx1
        exact hQ (.int .i64 x1) (Eq.trans (by first | rfl | (simp only [lb, lbI, rows_cons, rows_nil, unnilT, unnil, unnilTI, unnilI]; done) | (simp only [lb, lbI, rows_cons, rows_nil, unnilT, unnil, unnilTI, unnilI]; rfl)) (congrArg (PV.int .i64) (show x1 = washF pD from_ to_ from by rw [washF, if_neg (by omega), if_pos (by omega), hx1]; rfl)))   -- leaf 2
      · refine r_index m.sX (by omega) (by omega) fun x2 hx2 => ?_
        conv => cbv
        have mx2 := get_mem hx2
        have vx2 := nth_some hx2
        have bx2 := s1.1 _ mx2
        try dsimp only at bx2
        refine r_addf m.sX (by omega) (by omega) fun r1 hr1 => ?_
        conv => cbv
        refine r_divf m.sX (by omega) (by omega) fun r2 hr2 br2 => ?_
        conv => cbv
        exact hQ (.int .i64 r2) (Eq.trans (by first | rfl | (simp only [lb, lbI, rows_cons, rows_nil, unnilT, unnil, unnilTI, unnilI]; done) | (simp only [lb, lbI, rows_cons, rows_nil, unnilT, unnil, unnilTI, unnilI]; rfl)) (congrArg (PV.int .i64) (show r2 = washF pD from_ to_ from by rw [washF, if_neg (by omega), if_neg (by omega), hx2]; dsimp only [Option.getD_some]; omega)))   -- leaf 3

theorem WashBetween_ok (p : Press) (from_ : Int) (to_ : Int)  : OkA Try.prog 19 [.agg (cPress p), .int .i64 from_, .int .i64 to_] (· = ib (washAns p from_ to_)) := by
  obtain ⟨pA, pB, pC, pD⟩ := p
  try dsimp only at *
  exact fn_intro envOk fieldsOk mixed Try.func19 rfl fun κ X Y L Q m hQ => by
    conv => cbv
    refine r_callB m.sX (IsPress_ok (pA, pB, pC, pD)) (fun h1 => ?_) (fun h1 => ?_) <;> conv => cbv
    · refine r_callB m.sX (isInkNumber_ok from_) (fun h2 => ?_) (fun h2 => ?_) <;> conv => cbv
      · have sh2 := inB_spec h2
        try dsimp only at sh2
        refine r_callB m.sX (isInkNumber_ok to_) (fun h3 => ?_) (fun h3 => ?_) <;> conv => cbv
        · refine r_callF (PV.int .i64) m.sX (wash_ok (pA, pB, pC, pD) from_ to_ (by first | rfl | assumption | omega | (simp only [List.length_append, List.length_cons, List.length_nil] at *; omega)) (by first | rfl | assumption | omega | (simp only [List.length_append, List.length_cons, List.length_nil] at *; omega))) fun r1 hr1 => ?_
          conv => cbv
          try dsimp only at hr1
          exact hQ (.tup [.int .i64 r1, .bool true]) (Eq.trans (by first | rfl | (simp only [lb, lbI, rows_cons, rows_nil, unnilT, unnil, unnilTI, unnilI]; done) | (simp only [lb, lbI, rows_cons, rows_nil, unnilT, unnil, unnilTI, unnilI]; rfl)) (congrArg (ib) (show (r1, true) = washAns (pA, pB, pC, pD) from_ to_ from by simp [washAns, *])))   -- leaf 1
        · exact hQ (.tup [.int .i64 0, .bool false]) (Eq.trans (by first | rfl | (simp only [lb, lbI, rows_cons, rows_nil, unnilT, unnil, unnilTI, unnilI]; done) | (simp only [lb, lbI, rows_cons, rows_nil, unnilT, unnil, unnilTI, unnilI]; rfl)) (congrArg (ib) (show (0, false) = washAns (pA, pB, pC, pD) from_ to_ from by simp [washAns, *])))   -- leaf 2
      · exact hQ (.tup [.int .i64 0, .bool false]) (Eq.trans (by first | rfl | (simp only [lb, lbI, rows_cons, rows_nil, unnilT, unnil, unnilTI, unnilI]; done) | (simp only [lb, lbI, rows_cons, rows_nil, unnilT, unnil, unnilTI, unnilI]; rfl)) (congrArg (ib) (show (0, false) = washAns (pA, pB, pC, pD) from_ to_ from by simp [washAns, *])))   -- leaf 3
    · exact hQ (.tup [.int .i64 0, .bool false]) (Eq.trans (by first | rfl | (simp only [lb, lbI, rows_cons, rows_nil, unnilT, unnil, unnilTI, unnilI]; done) | (simp only [lb, lbI, rows_cons, rows_nil, unnilT, unnil, unnilTI, unnilI]; rfl)) (congrArg (ib) (show (0, false) = washAns (pA, pB, pC, pD) from_ to_ from by simp [washAns, *])))   -- leaf 4

theorem specWashBetween_ok (p : Press) (from_ : Int) (to_ : Int)  : OkA Try.prog 20 [.agg (cPress p), .int .i64 from_, .int .i64 to_] (· = ib (washAns p from_ to_)) := by
  obtain ⟨pA, pB, pC, pD⟩ := p
  try dsimp only at *
  exact fn_intro envOk fieldsOk mixed Try.func20 rfl fun κ X Y L Q m hQ => by
    conv => cbv
    refine r_callB m.sX (prGood_ok (pA, pB, pC, pD)) (fun h1 => ?_) (fun h1 => ?_) <;> conv => cbv
    · refine r_callB m.sX (prInk_ok from_) (fun h2 => ?_) (fun h2 => ?_) <;> conv => cbv
      · have sh2 := inB_spec h2
        try dsimp only at sh2
        refine r_callB m.sX (prInk_ok to_) (fun h3 => ?_) (fun h3 => ?_) <;> conv => cbv
        · refine r_callF (PV.int .i64) m.sX (prWash_ok (pA, pB, pC, pD) from_ to_ (by first | rfl | assumption | omega | (simp only [List.length_append, List.length_cons, List.length_nil] at *; omega)) (by first | rfl | assumption | omega | (simp only [List.length_append, List.length_cons, List.length_nil] at *; omega))) fun r1 hr1 => ?_
          conv => cbv
          try dsimp only at hr1
          exact hQ (.tup [.int .i64 r1, .bool true]) (Eq.trans (by first | rfl | (simp only [lb, lbI, rows_cons, rows_nil, unnilT, unnil, unnilTI, unnilI]; done) | (simp only [lb, lbI, rows_cons, rows_nil, unnilT, unnil, unnilTI, unnilI]; rfl)) (congrArg (ib) (show (r1, true) = washAns (pA, pB, pC, pD) from_ to_ from by simp [washAns, *])))   -- leaf 1
        · exact hQ (.tup [.int .i64 0, .bool false]) (Eq.trans (by first | rfl | (simp only [lb, lbI, rows_cons, rows_nil, unnilT, unnil, unnilTI, unnilI]; done) | (simp only [lb, lbI, rows_cons, rows_nil, unnilT, unnil, unnilTI, unnilI]; rfl)) (congrArg (ib) (show (0, false) = washAns (pA, pB, pC, pD) from_ to_ from by simp [washAns, *])))   -- leaf 2
      · exact hQ (.tup [.int .i64 0, .bool false]) (Eq.trans (by first | rfl | (simp only [lb, lbI, rows_cons, rows_nil, unnilT, unnil, unnilTI, unnilI]; done) | (simp only [lb, lbI, rows_cons, rows_nil, unnilT, unnil, unnilTI, unnilI]; rfl)) (congrArg (ib) (show (0, false) = washAns (pA, pB, pC, pD) from_ to_ from by simp [washAns, *])))   -- leaf 3
    · exact hQ (.tup [.int .i64 0, .bool false]) (Eq.trans (by first | rfl | (simp only [lb, lbI, rows_cons, rows_nil, unnilT, unnil, unnilTI, unnilI]; done) | (simp only [lb, lbI, rows_cons, rows_nil, unnilT, unnil, unnilTI, unnilI]; rfl)) (congrArg (ib) (show (0, false) = washAns (pA, pB, pC, pD) from_ to_ from by simp [washAns, *])))   -- leaf 4


theorem PaperFor_ok (p : Press) (l : List PressJob)  : OkA Try.prog 16 [.agg (cPress p), .isl 3 (rows cPressJob l)] (· = ib (paperAns p l)) := by
  obtain ⟨pA, pB, pC, pD⟩ := p
  try dsimp only at *
  exact fn_intro envOk fieldsOk mixed Try.func16 rfl fun κ X Y L Q m hQ => by
    conv => cbv
    refine r_callB m.sX (IsPress_ok (pA, pB, pC, pD)) (fun h1 => ?_) (fun h1 => ?_) <;> conv => cbv
    · have s1 := okPress_spec h1
      try dsimp only at s1
      refine r_callB m.sX (ArePressJobs_ok l) (fun h2 => ?_) (fun h2 => ?_) <;> conv => cbv
      · have hl := okJobs_len h2
        try dsimp only at hl
        refine r_lenR m.sX fun n1 hn1 mn1 => ?_
        conv => cbv
        refine r_loopF (α := Int × Int) m 30 [6, 17, 18, 19] [⟨2, 17, 0, 0, 0⟩] (fun σ => [(2, .optr 17 0 4 0 0), (6, .int .i64 σ.1), (17, .isl 3 (rows cPressJob l)), (18, .int .i64 n1), (19, .int .i64 σ.2)]) (fun σ => [(17, 0, .box [.int .i64 pA, .int .i64 pB, .int .i64 pC, .isl 1 (rows cInt pD)])])
          (fun σ => (0 ≤ σ.2) ∧ (σ.2 ≤ n1) ∧ (σ.1 = paperF pC (l.take σ.2.toNat)) ∧ (0 ≤ σ.1 ∧ σ.1 ≤ 40001 * σ.2)) (fun σ => (n1 - σ.2).toNat) (0, 0) ?_ ?_ ?_ ?_
        · cbv
        · cbv
        · exact ⟨(by (try dsimp only); first | omega | (simp only [List.length_nil]; omega)), (by (try dsimp only); first | omega | (simp only [List.length_nil]; omega)), (by (try dsimp only) <;> first | omega | rfl | (simp [*]; done)), (by (try dsimp only) <;> first | omega | rfl | (simp [*]; done))⟩
        rintro ⟨n, i1⟩ ⟨lo1, hi1, q, bb⟩ E hE F hF
        dsimp only at lo1 hi1 q bb
        conv => cbv
        refine r_lss m.sX (fun h3 => ?_) (fun h3 => ?_) <;> conv => cbv
        · refine r_index m.sX (by omega) (by omega) fun v hxA => ?_
          obtain ⟨xA, xB, xC⟩ := v
          conv => cbv
          have hx := hxA
          have mx := get_mem hx
          have dx := drop_cons hx
          have kx := take_snoc hx
          have jx : (i1 + 1).toNat = Int.toNat i1 + 1 := by omega
          have sx := okJob_spec (okJobs_mem h2 _ mx)
          try dsimp only at sx
          have nb := need_bound s1.2.2.2.1.1 s1.2.2.2.1.2 sx.2.1.1
          try dsimp only at nb
          refine r_callF (PV.int .i64) m.sX (sheets_ok (pA, pB, pC, pD) (xA, xB, xC) (by first | rfl | assumption | omega | (simp only [List.length_append, List.length_cons, List.length_nil] at *; omega)) (by first | rfl | assumption | omega | (simp only [List.length_append, List.length_cons, List.length_nil] at *; omega))) fun r1 hr1 => ?_
          conv => cbv
          try dsimp only at hr1
          refine r_addf m.sX (by omega) (by omega) fun n_2 hn_2 => ?_
          conv => cbv
          refine r_addf m.sX (by omega) (by omega) fun r2 hr2 => ?_
          conv => cbv
          have tr2 : Int.toNat r2 = Int.toNat i1 + 1 := by omega
          refine hE _ (n_2, r2) ?_ ?_ ⟨(by (try dsimp only); first | omega | (simp only [List.length_nil]; omega)), (by (try dsimp only); first | omega | (simp only [List.length_nil]; omega)), (by (try dsimp only) <;> (rw [tr2, kx, paperF_snoc]; dsimp only; omega)), (by (try dsimp only) <;> first | omega | rfl | (simp [*]; done) | (rw [bb]; simp [*]; done))⟩ (by first | omega | (dsimp only; omega))
          · cbv
          · cbv
        · have dz_i1 := drop_end (xs := l) (i := Int.toNat i1) (by omega)
          have tz_i1 := take_end (xs := l) (i := Int.toNat i1) (by omega)
          refine hF _ _ ?_
          conv => cbv
          exact hQ (.tup [.int .i64 n, .bool true]) (Eq.trans (by first | rfl | (simp only [lb, lbI, rows_cons, rows_nil, unnilT, unnil, unnilTI, unnilI]; done) | (simp only [lb, lbI, rows_cons, rows_nil, unnilT, unnil, unnilTI, unnilI]; rfl)) (congrArg (ib) (show (n, true) = paperAns (pA, pB, pC, pD) l from by rw [paperAns, h1, h2]; simp [q, tz_i1])))   -- leaf 1
      · exact hQ (.tup [.int .i64 0, .bool false]) (Eq.trans (by first | rfl | (simp only [lb, lbI, rows_cons, rows_nil, unnilT, unnil, unnilTI, unnilI]; done) | (simp only [lb, lbI, rows_cons, rows_nil, unnilT, unnil, unnilTI, unnilI]; rfl)) (congrArg (ib) (show (0, false) = paperAns (pA, pB, pC, pD) l from by simp [paperAns, *])))   -- leaf 2
    · exact hQ (.tup [.int .i64 0, .bool false]) (Eq.trans (by first | rfl | (simp only [lb, lbI, rows_cons, rows_nil, unnilT, unnil, unnilTI, unnilI]; done) | (simp only [lb, lbI, rows_cons, rows_nil, unnilT, unnil, unnilTI, unnilI]; rfl)) (congrArg (ib) (show (0, false) = paperAns (pA, pB, pC, pD) l from by simp [paperAns, *])))   -- leaf 3

theorem specPaperFor_ok (p : Press) (l : List PressJob)  : OkA Try.prog 17 [.agg (cPress p), .isl 3 (rows cPressJob l)] (· = ib (paperAns p l)) := by
  obtain ⟨pA, pB, pC, pD⟩ := p
  try dsimp only at *
  exact fn_intro envOk fieldsOk mixed Try.func17 rfl fun κ X Y L Q m hQ => by
    conv => cbv
    refine r_callB m.sX (prGood_ok (pA, pB, pC, pD)) (fun h1 => ?_) (fun h1 => ?_) <;> conv => cbv
    · have s1 := okPress_spec h1
      try dsimp only at s1
      refine r_callB m.sX (prJobs_ok l) (fun h2 => ?_) (fun h2 => ?_) <;> conv => cbv
      · have hl := okJobs_len h2
        try dsimp only at hl
        refine r_lenR m.sX fun n1 hn1 mn1 => ?_
        conv => cbv
        refine r_loopF (α := Int × Int) m 31 [6, 17, 18, 19] [⟨2, 17, 0, 0, 0⟩] (fun σ => [(2, .optr 17 0 4 0 0), (6, .int .i64 σ.1), (17, .isl 3 (rows cPressJob l)), (18, .int .i64 n1), (19, .int .i64 σ.2)]) (fun σ => [(17, 0, .box [.int .i64 pA, .int .i64 pB, .int .i64 pC, .isl 1 (rows cInt pD)])])
          (fun σ => (0 ≤ σ.2) ∧ (σ.2 ≤ n1) ∧ (σ.1 = paperF pC (l.take σ.2.toNat)) ∧ (0 ≤ σ.1 ∧ σ.1 ≤ 40001 * σ.2)) (fun σ => (n1 - σ.2).toNat) (0, 0) ?_ ?_ ?_ ?_
        · cbv
        · cbv
        · exact ⟨(by (try dsimp only); first | omega | (simp only [List.length_nil]; omega)), (by (try dsimp only); first | omega | (simp only [List.length_nil]; omega)), (by (try dsimp only) <;> first | omega | rfl | (simp [*]; done)), (by (try dsimp only) <;> first | omega | rfl | (simp [*]; done))⟩
        rintro ⟨sum, i1⟩ ⟨lo1, hi1, q, bb⟩ E hE F hF
        dsimp only at lo1 hi1 q bb
        conv => cbv
        refine r_lss m.sX (fun h3 => ?_) (fun h3 => ?_) <;> conv => cbv
        · refine r_index m.sX (by omega) (by omega) fun v hxA => ?_
          obtain ⟨xA, xB, xC⟩ := v
          conv => cbv
          have hx := hxA
          have mx := get_mem hx
          have dx := drop_cons hx
          have kx := take_snoc hx
          have jx : (i1 + 1).toNat = Int.toNat i1 + 1 := by omega
          have sx := okJob_spec (okJobs_mem h2 _ mx)
          try dsimp only at sx
          have nb := need_bound s1.2.2.2.1.1 s1.2.2.2.1.2 sx.2.1.1
          try dsimp only at nb
          refine r_callF (PV.int .i64) m.sX (prNeeded_ok (pA, pB, pC, pD) xB (by first | rfl | assumption | omega | (simp only [List.length_append, List.length_cons, List.length_nil] at *; omega)) (by first | rfl | assumption | omega | (simp only [List.length_append, List.length_cons, List.length_nil] at *; omega))) fun r1 hr1 => ?_
          conv => cbv
          try dsimp only at hr1
          refine r_addf m.sX (by omega) (by omega) fun sum_2 hsum_2 => ?_
          conv => cbv
          refine r_addf m.sX (by omega) (by omega) fun r2 hr2 => ?_
          conv => cbv
          have tr2 : Int.toNat r2 = Int.toNat i1 + 1 := by omega
          refine hE _ (sum_2, r2) ?_ ?_ ⟨(by (try dsimp only); first | omega | (simp only [List.length_nil]; omega)), (by (try dsimp only); first | omega | (simp only [List.length_nil]; omega)), (by (try dsimp only) <;> (rw [tr2, kx, paperF_snoc]; dsimp only; omega)), (by (try dsimp only) <;> first | omega | rfl | (simp [*]; done) | (rw [bb]; simp [*]; done))⟩ (by first | omega | (dsimp only; omega))
          · cbv
          · cbv
        · have dz_i1 := drop_end (xs := l) (i := Int.toNat i1) (by omega)
          have tz_i1 := take_end (xs := l) (i := Int.toNat i1) (by omega)
          refine hF _ _ ?_
          conv => cbv
          exact hQ (.tup [.int .i64 sum, .bool true]) (Eq.trans (by first | rfl | (simp only [lb, lbI, rows_cons, rows_nil, unnilT, unnil, unnilTI, unnilI]; done) | (simp only [lb, lbI, rows_cons, rows_nil, unnilT, unnil, unnilTI, unnilI]; rfl)) (congrArg (ib) (show (sum, true) = paperAns (pA, pB, pC, pD) l from by rw [paperAns, h1, h2]; simp [q, tz_i1])))   -- leaf 1
      · exact hQ (.tup [.int .i64 0, .bool false]) (Eq.trans (by first | rfl | (simp only [lb, lbI, rows_cons, rows_nil, unnilT, unnil, unnilTI, unnilI]; done) | (simp only [lb, lbI, rows_cons, rows_nil, unnilT, unnil, unnilTI, unnilI]; rfl)) (congrArg (ib) (show (0, false) = paperAns (pA, pB, pC, pD) l from by simp [paperAns, *])))   -- leaf 2
    · exact hQ (.tup [.int .i64 0, .bool false]) (Eq.trans (by first | rfl | (simp only [lb, lbI, rows_cons, rows_nil, unnilT, unnil, unnilTI, unnilI]; done) | (simp only [lb, lbI, rows_cons, rows_nil, unnilT, unnil, unnilTI, unnilI]; rfl)) (congrArg (ib) (show (0, false) = paperAns (pA, pB, pC, pD) l from by simp [paperAns, *])))   -- leaf 3


end Go.Proofs.Ytnanackogloioaa.Ai
