/- Contracts of the functions on tables. -/
import Derived.Test.YtpjmpgbgglhoeaaTableLaw
namespace Go.Proofs.Ytpjmpgbgglhoeaa.Ai
open Go Go.Proofs
set_option maxRecDepth 10000
set_option maxHeartbeats 4000000
set_option linter.unusedVariables false

-- lacks laws.pSameEntries

theorem isEntry_ok (n : Int) (x : Entry) (hn : -1000 ≤ n ∧ n ≤ 1000) : OkA Try.prog 373 [.int .i64 n, .agg (cEntry x)] (· = .bool (okE n x)) := by
  obtain ⟨xA, xB, xC⟩ := x
  try dsimp only at *
  exact fn_intro envOk fieldsOk mixed Try.func373 rfl fun κ X Y L Q m hQ => by
    conv => cbv
    refine r_subf m.sX (by omega) (by omega) fun r1 hr1 => ?_
    conv => cbv
    refine r_callB m.sX (within_ok xA 0 r1) (fun h1 => ?_) (fun h1 => ?_) <;> conv => cbv
    · have b1 := inB_spec h1
      try dsimp only at b1
      refine r_subf m.sX (by omega) (by omega) fun r2 hr2 => ?_
      conv => cbv
      refine r_callB m.sX (within_ok xB 1 r2) (fun h2 => ?_) (fun h2 => ?_) <;> conv => cbv
      · refine r_callB m.sX (within_ok xC 0 600) (fun h3 => ?_) (fun h3 => ?_) <;> conv => cbv
        · exact hQ _ (congrArg PV.bool (by first | rfl | omega | (simp [okE, *]; done) | (subst_vars; simp [okE, *]; done)))   -- leaf 1
        · exact hQ _ (congrArg PV.bool (by first | rfl | omega | (simp [okE, *]; done) | (subst_vars; simp [okE, *]; done)))   -- leaf 2
      · exact hQ _ (congrArg PV.bool (by first | rfl | omega | (simp [okE, *]; done) | (subst_vars; simp [okE, *]; done)))   -- leaf 3
    · exact hQ _ (congrArg PV.bool (by first | rfl | omega | (simp [okE, *]; done) | (subst_vars; simp [okE, *]; done)))   -- leaf 4

theorem tbEntry_ok (n : Int) (x : Entry) (hn : -1000 ≤ n ∧ n ≤ 1000) : OkA Try.prog 374 [.int .i64 n, .agg (cEntry x)] (· = .bool (okE n x)) := by
  obtain ⟨xA, xB, xC⟩ := x
  try dsimp only at *
  exact fn_intro envOk fieldsOk mixed Try.func374 rfl fun κ X Y L Q m hQ => by
    conv => cbv
    refine r_subf m.sX (by omega) (by omega) fun r1 hr1 => ?_
    conv => cbv
    refine r_callB m.sX (l1In_ok xA 0 r1) (fun h1 => ?_) (fun h1 => ?_) <;> conv => cbv
    · have b1 := inB_spec h1
      try dsimp only at b1
      refine r_subf m.sX (by omega) (by omega) fun r2 hr2 => ?_
      conv => cbv
      refine r_callB m.sX (l1In_ok xB 1 r2) (fun h2 => ?_) (fun h2 => ?_) <;> conv => cbv
      · refine r_callB m.sX (l1In_ok xC 0 600) (fun h3 => ?_) (fun h3 => ?_) <;> conv => cbv
        · exact hQ _ (congrArg PV.bool (by first | rfl | omega | (simp [okE, *]; done) | (subst_vars; simp [okE, *]; done)))   -- leaf 1
        · exact hQ _ (congrArg PV.bool (by first | rfl | omega | (simp [okE, *]; done) | (subst_vars; simp [okE, *]; done)))   -- leaf 2
      · exact hQ _ (congrArg PV.bool (by first | rfl | omega | (simp [okE, *]; done) | (subst_vars; simp [okE, *]; done)))   -- leaf 3
    · exact hQ _ (congrArg PV.bool (by first | rfl | omega | (simp [okE, *]; done) | (subst_vars; simp [okE, *]; done)))   -- leaf 4

theorem IsTable_ok (n : Int) (l : List Entry) (hn : -1000 ≤ n ∧ n ≤ 1000) : OkA Try.prog 342 [.int .i64 n, .isl 3 (rows cEntry l)] (· = .bool (okT n l)) :=
  fn_intro envOk fieldsOk mixed Try.func342 rfl fun κ X Y L Q m hQ => by
    conv => cbv
    refine r_lenR m.sX fun n1 hn1 mn1 => ?_
    conv => cbv
    refine r_loopF (α := Int) m 25 [0, 1, 7, 8, 9] [] (fun σ => [(0, .int .i64 n), (1, .isl 3 (rows cEntry l)), (7, .isl 3 (rows cEntry l)), (8, .int .i64 n1), (9, .int .i64 σ)]) (fun σ => [])
      (fun σ => (0 ≤ σ) ∧ (σ ≤ n1) ∧ (l.all (okE n) = (l.drop σ.toNat).all (okE n))) (fun σ => (n1 - σ).toNat) 0 ?_ ?_ ?_ ?_
    · cbv
    · cbv
    · exact ⟨(by (try dsimp only); first | omega | (simp only [List.length_nil]; omega)), (by (try dsimp only); first | omega | (simp only [List.length_nil]; omega)), (by (try dsimp only); first | omega | rfl | (simp [*]; done))⟩
    rintro i1 ⟨lo1, hi1, q⟩ E hE F hF
    conv => cbv
    refine r_lss m.sX (fun h1 => ?_) (fun h1 => ?_) <;> conv => cbv
    · refine r_index m.sX (by omega) (by omega) fun v hxA => ?_
      obtain ⟨xA, xB, xC⟩ := v
      conv => cbv
      have hx := hxA
      have mx := get_mem hx
      have dx := drop_cons hx
      have kx := take_snoc hx
      have jx : (i1 + 1).toNat = Int.toNat i1 + 1 := by omega
      refine r_callB m.sX (isEntry_ok n (xA, xB, xC) (by first | rfl | assumption | omega | (simp only [List.length_append, List.length_cons, List.length_nil] at *; omega))) (fun h2 => ?_) (fun h2 => ?_) <;> conv => cbv
      · refine r_addf m.sX (by omega) (by omega) fun r1 hr1 => ?_
        conv => cbv
        have tr1 : Int.toNat r1 = Int.toNat i1 + 1 := by omega
        refine hE _ r1 ?_ ?_ ⟨(by (try dsimp only); first | omega | (simp only [List.length_nil]; omega)), (by (try dsimp only); first | omega | (simp only [List.length_nil]; omega)), (by (try dsimp only); first | omega | rfl | (simp [*]; done) | (rw [q]; simp [*]; done))⟩ (by first | omega | (dsimp only; omega))
        · cbv
        · cbv
      · refine hF _ _ ?_
        conv => cbv
        exact hQ _ (congrArg PV.bool (by rw [okT, q]; simp [*] <;> omega))   -- leaf 1
    · have dz_i1 := drop_end (xs := l) (i := Int.toNat i1) (by omega)
      have tz_i1 := take_end (xs := l) (i := Int.toNat i1) (by omega)
      refine hF _ _ ?_
      conv => cbv
      refine r_callB m.sX (within_ok n 1 10) (fun h3 => ?_) (fun h3 => ?_) <;> conv => cbv
      · refine r_lenR m.sX fun n2 hn2 mn2 => ?_
        conv => cbv
        refine r_leq m.sX (fun h4 => ?_) (fun h4 => ?_) <;> conv => cbv
        · exact hQ _ (congrArg PV.bool (by rw [okT, q]; simp [*] <;> omega))   -- leaf 2
        · exact hQ _ (congrArg PV.bool (by rw [okT, q]; simp [*] <;> omega))   -- leaf 3
      · exact hQ _ (congrArg PV.bool (by rw [okT, q]; simp [*] <;> omega))   -- leaf 4

theorem tbGood_ok (n : Int) (l : List Entry) (hn : -1000 ≤ n ∧ n ≤ 1000) : OkA Try.prog 343 [.int .i64 n, .isl 3 (rows cEntry l)] (· = .bool (okT n l)) :=
  fn_intro envOk fieldsOk mixed Try.func343 rfl fun κ X Y L Q m hQ => by
    conv => cbv
    refine r_lenR m.sX fun n1 hn1 mn1 => ?_
    conv => cbv
    refine r_loopF (α := Int) m 25 [0, 1, 7, 8, 9] [] (fun σ => [(0, .int .i64 n), (1, .isl 3 (rows cEntry l)), (7, .isl 3 (rows cEntry l)), (8, .int .i64 n1), (9, .int .i64 σ)]) (fun σ => [])
      (fun σ => (0 ≤ σ) ∧ (σ ≤ n1) ∧ (l.all (okE n) = (l.drop σ.toNat).all (okE n))) (fun σ => (n1 - σ).toNat) 0 ?_ ?_ ?_ ?_
    · cbv
    · cbv
    · exact ⟨(by (try dsimp only); first | omega | (simp only [List.length_nil]; omega)), (by (try dsimp only); first | omega | (simp only [List.length_nil]; omega)), (by (try dsimp only); first | omega | rfl | (simp [*]; done))⟩
    rintro i1 ⟨lo1, hi1, q⟩ E hE F hF
    conv => cbv
    refine r_lss m.sX (fun h1 => ?_) (fun h1 => ?_) <;> conv => cbv
    · refine r_index m.sX (by omega) (by omega) fun v hxA => ?_
      obtain ⟨xA, xB, xC⟩ := v
      conv => cbv
      have hx := hxA
      have mx := get_mem hx
      have dx := drop_cons hx
      have kx := take_snoc hx
      have jx : (i1 + 1).toNat = Int.toNat i1 + 1 := by omega
      refine r_callB m.sX (tbEntry_ok n (xA, xB, xC) (by first | rfl | assumption | omega | (simp only [List.length_append, List.length_cons, List.length_nil] at *; omega))) (fun h2 => ?_) (fun h2 => ?_) <;> conv => cbv
      · refine r_addf m.sX (by omega) (by omega) fun r1 hr1 => ?_
        conv => cbv
        have tr1 : Int.toNat r1 = Int.toNat i1 + 1 := by omega
        refine hE _ r1 ?_ ?_ ⟨(by (try dsimp only); first | omega | (simp only [List.length_nil]; omega)), (by (try dsimp only); first | omega | (simp only [List.length_nil]; omega)), (by (try dsimp only); first | omega | rfl | (simp [*]; done) | (rw [q]; simp [*]; done))⟩ (by first | omega | (dsimp only; omega))
        · cbv
        · cbv
      · refine hF _ _ ?_
        conv => cbv
        exact hQ _ (congrArg PV.bool (by rw [okT, q]; simp [*] <;> omega))   -- leaf 1
    · have dz_i1 := drop_end (xs := l) (i := Int.toNat i1) (by omega)
      have tz_i1 := take_end (xs := l) (i := Int.toNat i1) (by omega)
      refine hF _ _ ?_
      conv => cbv
      refine r_callB m.sX (l1In_ok n 1 10) (fun h3 => ?_) (fun h3 => ?_) <;> conv => cbv
      · refine r_lenR m.sX fun n2 hn2 mn2 => ?_
        conv => cbv
        refine r_leq m.sX (fun h4 => ?_) (fun h4 => ?_) <;> conv => cbv
        · exact hQ _ (congrArg PV.bool (by rw [okT, q]; simp [*] <;> omega))   -- leaf 2
        · exact hQ _ (congrArg PV.bool (by rw [okT, q]; simp [*] <;> omega))   -- leaf 3
      · exact hQ _ (congrArg PV.bool (by rw [okT, q]; simp [*] <;> omega))   -- leaf 4

theorem isGapped_ok (n : Int) (l : List Entry) (gap : Int) (hn : -1000 ≤ n ∧ n ≤ 1000) : OkA Try.prog 221 [.int .i64 n, .isl 3 (rows cEntry l), .int .i64 gap] (· = .bool (okG n l gap)) :=
  fn_intro envOk fieldsOk mixed Try.func221 rfl fun κ X Y L Q m hQ => by
    conv => cbv
    refine r_callB m.sX (IsTable_ok n l (by first | rfl | assumption | omega | (simp only [List.length_append, List.length_cons, List.length_nil] at *; omega))) (fun h1 => ?_) (fun h1 => ?_) <;> conv => cbv
    · refine r_callB m.sX (within_ok gap 0 36) (fun h2 => ?_) (fun h2 => ?_) <;> conv => cbv
      · exact hQ _ (congrArg PV.bool (by first | rfl | omega | (simp [okG, *]; done) | (subst_vars; simp [okG, *]; done)))   -- leaf 1
      · exact hQ _ (congrArg PV.bool (by first | rfl | omega | (simp [okG, *]; done) | (subst_vars; simp [okG, *]; done)))   -- leaf 2
    · exact hQ _ (congrArg PV.bool (by first | rfl | omega | (simp [okG, *]; done) | (subst_vars; simp [okG, *]; done)))   -- leaf 3

theorem tbGap_ok (n : Int)  : OkA Try.prog 344 [.int .i64 n] (· = .bool (inB n 0 36)) :=
  fn_intro envOk fieldsOk mixed Try.func344 rfl fun κ X Y L Q m hQ => by
    conv => cbv
    refine r_callB m.sX (l1In_ok n 0 36) (fun h1 => ?_) (fun h1 => ?_) <;> conv => cbv
    · exact hQ _ (congrArg PV.bool (by first | rfl | omega | (simp [*]; done) | (subst_vars; simp [*]; done)))   -- leaf 1
    · exact hQ _ (congrArg PV.bool (by first | rfl | omega | (simp [*]; done) | (subst_vars; simp [*]; done)))   -- leaf 2

theorem tbAsked_ok (n : Int) (l : List Entry) (gap : Int) (hn : -1000 ≤ n ∧ n ≤ 1000) : OkA Try.prog 223 [.int .i64 n, .isl 3 (rows cEntry l), .int .i64 gap] (· = .bool (okG n l gap)) :=
  fn_intro envOk fieldsOk mixed Try.func223 rfl fun κ X Y L Q m hQ => by
    conv => cbv
    refine r_callB m.sX (tbGood_ok n l (by first | rfl | assumption | omega | (simp only [List.length_append, List.length_cons, List.length_nil] at *; omega))) (fun h1 => ?_) (fun h1 => ?_) <;> conv => cbv
    · refine r_callB m.sX (tbGap_ok gap) (fun h2 => ?_) (fun h2 => ?_) <;> conv => cbv
      · exact hQ _ (congrArg PV.bool (by first | rfl | omega | (simp [okG, *]; done) | (subst_vars; simp [okG, *]; done)))   -- leaf 1
      · exact hQ _ (congrArg PV.bool (by first | rfl | omega | (simp [okG, *]; done) | (subst_vars; simp [okG, *]; done)))   -- leaf 2
    · exact hQ _ (congrArg PV.bool (by first | rfl | omega | (simp [okG, *]; done) | (subst_vars; simp [okG, *]; done)))   -- leaf 3


theorem tbStarts_ok (n : Int) (l : List Entry) (gap : Int) (ht : TabIn n l gap) : OkA Try.prog 236 [.int .i64 n, .isl 3 (rows cEntry l), .int .i64 gap] (· = .fr 3 1 (rows cInt (startsF l gap n.toNat))) :=
  OkA.unnil 3 1 (fn_intro envOk fieldsOk mixed Try.func236 rfl fun κ X Y L Q m hQ => by
    have hc := ht.cols
    have hgp := ht.gap
    conv => cbv
    refine r_loopF (α := List Int × Int) m 56 [0, 1, 2, 8] [⟨7, 57, 3, 1, 0⟩] (fun σ => [(0, .int .i64 n), (1, .isl 3 (rows cEntry l)), (2, .int .i64 gap), (7, .osl 57 0), (8, .int .i64 σ.2)]) (fun σ => [(57, 0, .row 3 1 (rows cInt σ.1))])
      (fun σ => (1 ≤ σ.2 ∧ σ.2 ≤ n + 1) ∧ (σ.1 = startsF l gap (σ.2 - 1).toNat)) (fun σ => (n + 1 - σ.2).toNat) ([0], 1) ?_ ?_ ?_ ?_
    · cbv
    · (try dsimp only); simp only [rows_cons, rows_nil]; cbv
    · exact ⟨(by (try dsimp only); first | omega | rfl | (simp [*]; done)), (by (try dsimp only); rfl)⟩
    rintro ⟨out, k⟩ ⟨k1, q⟩ E hE F hF
    dsimp only at k1 q
    have ll := startsF_length l gap (k - 1).toNat
    rw [← q] at ll
    have sb := starts_bound ht (k - 1).toNat
    rw [← q] at sb
    conv => cbv
    refine r_leq m.sX (fun h1 => ?_) (fun h1 => ?_) <;> conv => cbv
    · refine r_subf m.sX (by omega) (by omega) fun r1 hr1 => ?_
      conv => cbv
      refine r_oindex m.sX (by omega) (by omega) ?_
      conv => cbv
      obtain ⟨x1, hx1⟩ := get_ex (xs := out) (i := Int.toNat r1) (by omega)
      have mx1 := get_mem hx1
      have vx1 := nth_some hx1
      have eb := sb (Int.toNat r1)
      refine r_oload m.sX hx1 (Nat.le_of_ble_eq_true rfl) ?_
      conv => cbv
      refine r_addf m.sX (by omega) (by omega) fun start hstart => ?_
      conv => cbv
      refine r_lenR m.sX fun n1 hn1 mn1 => ?_
      conv => cbv
      refine r_loopF (α := Int × Int) m 56 [0, 1, 2, 8, 9, 25, 26, 27] [⟨7, 57, 3, 1, 0⟩] (fun σ => [(0, .int .i64 n), (1, .isl 3 (rows cEntry l)), (2, .int .i64 gap), (7, .osl 57 0), (8, .int .i64 k), (9, .int .i64 σ.1), (25, .isl 3 (rows cEntry l)), (26, .int .i64 n1), (27, .int .i64 σ.2)]) (fun σ => [(57, 0, .row 3 1 (rows cInt out))])
        (fun σ => (0 ≤ σ.2) ∧ (σ.2 ≤ n1) ∧ (stepS gap out k start l = stepS gap out k σ.1 (l.drop σ.2.toNat)) ∧ (0 ≤ σ.1 ∧ σ.1 ≤ 636 * k)) (fun σ => (n1 - σ.2).toNat) (start, 0) ?_ ?_ ?_ ?_
      · cbv
      · cbv
      · exact ⟨(by (try dsimp only); first | omega | (simp only [List.length_nil]; omega)), (by (try dsimp only); first | omega | (simp only [List.length_nil]; omega)), (by (try dsimp only); first | omega | rfl | (simp [*]; done)), (by (try dsimp only); first | omega | rfl | (simp [*]; done))⟩
      rintro ⟨start_2, i1⟩ ⟨lo2, hi2, p, b⟩ E2 hE2 F2 hF2
      dsimp only at lo2 hi2 p b
      conv => cbv
      refine r_lss m.sX (fun h2 => ?_) (fun h2 => ?_) <;> conv => cbv
      · refine r_index m.sX (by omega) (by omega) fun v hxA => ?_
        obtain ⟨xA, xB, xC⟩ := v
        conv => cbv
        have hx := hxA
        have mx := get_mem hx
        have dx := drop_cons hx
        have kx := take_snoc hx
        have jx : (i1 + 1).toNat = Int.toNat i1 + 1 := by omega
        have ex := okE_spec (ht.ent _ mx)
        try dsimp only at ex
        refine r_addf m.sX (by omega) (by omega) fun r2 hr2 => ?_
        conv => cbv
        refine r_eql m.sX (fun h3 => ?_) (fun h3 => ?_) <;> conv => cbv
        · refine r_draw m (by kernel_rfl) ?_
          conv => cbv
          refine r_oindex m.sY (by omega) (by omega) ?_
          conv => cbv
          obtain ⟨x2, hx2⟩ := get_ex (xs := out) (i := Int.toNat xA) (by omega)
          have mx2 := get_mem hx2
          have vx2 := nth_some hx2
          have eb2 := sb (Int.toNat xA)
          try dsimp only at eb2
          refine r_oload m.sY hx2 (Nat.le_of_ble_eq_true rfl) ?_
          conv => cbv
          refine r_addf m.sY (by omega) (by omega) fun r3 hr3 => ?_
          conv => cbv
          refine r_addf m.sY (by omega) (by omega) fun r4 hr4 => ?_
          conv => cbv
          refine r_callFS (PV.int .i64) m.sY (l1Most_ok start_2 r4) trivial fun start_3 hstart_3 => ?_
          conv => cbv
          try dsimp only at hstart_3
          refine r_addf m.sX (by omega) (by omega) fun r5 hr5 => ?_
          conv => cbv
          have tr5 : Int.toNat r5 = Int.toNat i1 + 1 := by omega
          refine hE2 _ (start_3, r5) ?_ ?_ ⟨(by (try dsimp only); first | omega | (simp only [List.length_nil]; omega)), (by (try dsimp only); first | omega | (simp only [List.length_nil]; omega)), (by (try dsimp only); rw [p, dx, tr5]; simp only [stepS]; congr 1; split <;> omega), (by (try dsimp only); first | omega | rfl | (simp [*]; done) | (rw [b]; simp [*]; done))⟩ (by first | omega | (dsimp only; omega))
          · cbv
          · cbv
        · refine r_addf m.sX (by omega) (by omega) fun r6 hr6 => ?_
          conv => cbv
          have tr6 : Int.toNat r6 = Int.toNat i1 + 1 := by omega
          refine hE2 _ (start_2, r6) ?_ ?_ ⟨(by (try dsimp only); first | omega | (simp only [List.length_nil]; omega)), (by (try dsimp only); first | omega | (simp only [List.length_nil]; omega)), (by (try dsimp only); rw [p, dx, tr6]; simp only [stepS]; congr 1; split <;> omega), (by (try dsimp only); first | omega | rfl | (simp [*]; done) | (rw [b]; simp [*]; done))⟩ (by first | omega | (dsimp only; omega))
          · cbv
          · cbv
      · have dz_i1 := drop_end (xs := l) (i := Int.toNat i1) (by omega)
        have tz_i1 := take_end (xs := l) (i := Int.toNat i1) (by omega)
        refine hF2 _ _ ?_
        conv => cbv
        refine r_append1 (start_2) m.sX rfl (by first | omega | (dsimp only; omega)) (by first | omega | (dsimp only; omega)) fun out_2 hout_2 => ?_
        conv => cbv
        have lout_2 : (out_2.length : Int) = out.length + 1 := by rw [hout_2]; first | done | (simp; done) | (simp; omega)
        refine r_addf m.sX (by omega) (by omega) fun k_2 hk_2 => ?_
        conv => cbv
        refine hE _ (out_2, k_2) ?_ ?_ ⟨(by (try dsimp only); first | omega | rfl | (simp [*]; done) | (rw [k1]; simp [*]; done)), (by (try dsimp only); rw [dz_i1] at p; rw [hout_2, show Int.toNat (k_2 - 1) = Int.toNat (k - 1) + 1 by omega, startsF, ← q, show ((Int.toNat (k - 1) : Nat) : Int) + 1 = k by omega, show Int.toNat (k - 1) = Int.toNat r1 by omega, vx1, ← hstart, p, stepS])⟩ (by first | omega | (dsimp only; omega))
        · cbv
        · cbv
    · refine hF _ _ ?_
      conv => cbv
      exact hQ (.fr 3 1 (rows cInt out)) (Eq.trans (by first | rfl | (simp only [lb, lbI, rows_cons, rows_nil, unnilT, unnil, unnilTI, unnilI]; done) | (simp only [lb, lbI, rows_cons, rows_nil, unnilT, unnil, unnilTI, unnilI]; rfl)) (congrArg (fun l => PV.fr 3 1 (rows cInt l)) (show out = startsF l gap n.toNat from by rw [q, show k = n + 1 by omega, show (n + 1 - 1) = n by omega]))))   -- leaf 1

theorem starts_ok (n : Int) (l : List Entry) (gap : Int) (ht : TabIn n l gap) : OkA Try.prog 233 [.int .i64 n, .isl 3 (rows cEntry l), .int .i64 gap] (· = .fr 3 1 (rows cInt (startsF l gap n.toNat))) :=
  OkA.unnil 3 1 (fn_intro envOk fieldsOk mixed Try.func233 rfl fun κ X Y L Q m hQ => by
    have hc := ht.cols
    have hgp := ht.gap
    conv => cbv
    refine r_addf m.sX (by omega) (by omega) fun r1 hr1 => ?_
    conv => cbv
    refine r_make cInt 0 m.sX rfl (by omega) (by omega) (by dsimp only; omega) (by omega) fun list hlist => ?_   -- list = replicate r1
    have llist : (list.length : Int) = r1 := by rw [hlist]; first | done | (simp; done) | (simp; omega)
    conv => cbv
    refine r_loopF (α := List Int × Int) m 62 [0, 1, 2, 8] [⟨7, 57, 3, 1, 0⟩] (fun σ => [(0, .int .i64 n), (1, .isl 3 (rows cEntry l)), (2, .int .i64 gap), (7, .osl 57 0), (8, .int .i64 σ.2)]) (fun σ => [(57, 0, .row 3 1 (rows cInt σ.1))])
      (fun σ => (1 ≤ σ.2 ∧ σ.2 ≤ n + 1) ∧ (σ.1 = startsF l gap (σ.2 - 1).toNat ++ List.replicate (n + 1 - σ.2).toNat 0)) (fun σ => (n + 1 - σ.2).toNat) (list, 1) ?_ ?_ ?_ ?_
    · cbv
    · cbv
    · exact ⟨(by (try dsimp only); first | omega | rfl | (simp [*]; done)), (by (try dsimp only); rw [hlist, show Int.toNat r1 = Int.toNat (n + 1 - 1) + 1 by omega, List.replicate_succ]; rfl)⟩
    rintro ⟨list_2, c⟩ ⟨k1, q⟩ E hE F hF
    dsimp only at k1 q
    have pl := startsF_length l gap (c - 1).toNat
    have ll : (list_2.length : Int) = n + 1 := by rw [q]; simp only [List.length_append, pl, List.length_replicate]; omega
    have sb := starts_bound ht (c - 1).toNat
    conv => cbv
    refine r_leq m.sX (fun h1 => ?_) (fun h1 => ?_) <;> conv => cbv
    · refine r_subf m.sX (by omega) (by omega) fun r2 hr2 => ?_
      conv => cbv
      refine r_oindex m.sX (by omega) (by omega) ?_
      conv => cbv
      obtain ⟨x1, hx1⟩ := get_ex (xs := list_2) (i := Int.toNat r2) (by omega)
      have mx1 := get_mem hx1
      have vx1 := nth_some hx1
      rw [q, nth_left (by omega)] at vx1
      have eb := sb (Int.toNat r2)
      refine r_oload m.sX hx1 (Nat.le_of_ble_eq_true rfl) ?_
      conv => cbv
      refine r_addf m.sX (by omega) (by omega) fun r3 hr3 => ?_
      conv => cbv
      refine r_oindex m.sX (by omega) (by omega) ?_
      conv => cbv
      obtain ⟨y1, hy1⟩ := get_ex (xs := list_2) (i := Int.toNat c) (by omega)
      refine r_ostore (l := Int.toNat c) r3 m.sX hy1 (Nat.le_of_ble_eq_true rfl) rfl fun list_3 hlist_3 => ?_   -- list_3 = list_2.set c r3
      have llist_3 : (list_3.length : Int) = list_2.length := by rw [hlist_3]; first | done | (simp; done) | (simp; omega)
      have e3 : list_3 = startsF l gap (c - 1).toNat ++ r3 :: List.replicate (n - c).toNat 0 := by rw [hlist_3, q, show Int.toNat (n + 1 - c) = Int.toNat (n - c) + 1 by omega, List.replicate_succ]; exact set_mid (by omega)
      have n3 : nth list_3 (Int.toNat c) = r3 := by rw [e3]; exact nth_mid (by omega)
      conv => cbv
      refine r_lenR m.sX fun n1 hn1 mn1 => ?_
      conv => cbv
      refine r_loopF (α := List Int × Int) m 62 [0, 1, 2, 8, 29, 30, 31] [⟨7, 57, 3, 1, 0⟩] (fun σ => [(0, .int .i64 n), (1, .isl 3 (rows cEntry l)), (2, .int .i64 gap), (7, .osl 57 0), (8, .int .i64 c), (29, .isl 3 (rows cEntry l)), (30, .int .i64 n1), (31, .int .i64 σ.2)]) (fun σ => [(57, 0, .row 3 1 (rows cInt σ.1))])
        (fun σ => (0 ≤ σ.2) ∧ (σ.2 ≤ n1) ∧ (σ.1 = startsF l gap (c - 1).toNat ++ nth σ.1 (Int.toNat c) :: List.replicate (n - c).toNat 0) ∧ (stepS gap (startsF l gap (c - 1).toNat) c r3 l = stepS gap (startsF l gap (c - 1).toNat) c (nth σ.1 (Int.toNat c)) (l.drop σ.2.toNat)) ∧ (0 ≤ nth σ.1 (Int.toNat c) ∧ nth σ.1 (Int.toNat c) ≤ 636 * c)) (fun σ => (n1 - σ.2).toNat) (list_3, 0) ?_ ?_ ?_ ?_
      · cbv
      · cbv
      · exact ⟨(by (try dsimp only); first | omega | (simp only [List.length_nil]; omega)), (by (try dsimp only); first | omega | (simp only [List.length_nil]; omega)), (by (try dsimp only); rw [n3]; exact e3), (by (try dsimp only); rw [n3]; rfl), (by (try dsimp only); rw [n3]; omega)⟩
      rintro ⟨list_4, i1⟩ ⟨lo2, hi2, e, p, b⟩ E2 hE2 F2 hF2
      dsimp only at lo2 hi2 e p b
      have l4 : (list_4.length : Int) = n + 1 := by rw [e]; simp only [List.length_append, pl, List.length_cons, List.length_replicate]; omega
      conv => cbv
      refine r_lss m.sX (fun h2 => ?_) (fun h2 => ?_) <;> conv => cbv
      · refine r_index m.sX (by omega) (by omega) fun v hxA => ?_
        obtain ⟨xA, xB, xC⟩ := v
        conv => cbv
        have hx := hxA
        have mx := get_mem hx
        have dx := drop_cons hx
        have kx := take_snoc hx
        have jx : (i1 + 1).toNat = Int.toNat i1 + 1 := by omega
        have ex := okE_spec (ht.ent _ mx)
        try dsimp only at ex
        refine r_addf m.sX (by omega) (by omega) fun r4 hr4 => ?_
        conv => cbv
        refine r_eql m.sX (fun h3 => ?_) (fun h3 => ?_) <;> conv => cbv
        · refine r_draw m (by kernel_rfl) ?_
          conv => cbv
          refine r_oindex m.sY (by omega) (by omega) ?_
          conv => cbv
          obtain ⟨x2, hx2⟩ := get_ex (xs := list_4) (i := Int.toNat c) (by omega)
          have mx2 := get_mem hx2
          have vx2 := nth_some hx2
          refine r_oload m.sY hx2 (Nat.le_of_ble_eq_true rfl) ?_
          conv => cbv
          refine r_oindex m.sY (by omega) (by omega) ?_
          conv => cbv
          obtain ⟨x3, hx3⟩ := get_ex (xs := list_4) (i := Int.toNat xA) (by omega)
          have mx3 := get_mem hx3
          have vx3 := nth_some hx3
          rw [e, nth_left (by omega)] at vx3
          have eb3 := sb (Int.toNat xA)
          try dsimp only at eb3
          refine r_oload m.sY hx3 (Nat.le_of_ble_eq_true rfl) ?_
          conv => cbv
          refine r_addf m.sY (by omega) (by omega) fun r5 hr5 => ?_
          conv => cbv
          refine r_addf m.sY (by omega) (by omega) fun r6 hr6 => ?_
          conv => cbv
          refine r_max m.sY fun r7 hr7 => ?_
          conv => cbv
          refine r_oindex m.sY (by omega) (by omega) ?_
          conv => cbv
          obtain ⟨y2, hy2⟩ := get_ex (xs := list_4) (i := Int.toNat c) (by omega)
          refine r_ostore (l := Int.toNat c) r7 m.sY hy2 (Nat.le_of_ble_eq_true rfl) rfl fun list_5 hlist_5 => ?_   -- list_5 = list_4.set c r7
          have llist_5 : (list_5.length : Int) = list_4.length := by rw [hlist_5]; first | done | (simp; done) | (simp; omega)
          have e5 : list_5 = startsF l gap (c - 1).toNat ++ r7 :: List.replicate (n - c).toNat 0 := by rw [hlist_5]; exact (congrArg (fun z => List.set z (Int.toNat c) r7) e).trans (set_mid (by omega))
          have n5 : nth list_5 (Int.toNat c) = r7 := by rw [e5]; exact nth_mid (by omega)
          conv => cbv
          refine r_addf m.sX (by omega) (by omega) fun r8 hr8 => ?_
          conv => cbv
          have tr8 : Int.toNat r8 = Int.toNat i1 + 1 := by omega
          refine hE2 _ (list_5, r8) ?_ ?_ ⟨(by (try dsimp only); first | omega | (simp only [List.length_nil]; omega)), (by (try dsimp only); first | omega | (simp only [List.length_nil]; omega)), (by (try dsimp only); first | exact e | (rw [n5]; exact e5)), (by (try dsimp only); (first | rw [n5] | skip); rw [p, dx, tr8]; simp only [stepS]; congr 1; split <;> omega), (by (try dsimp only); first | exact b | (rw [n5]; omega))⟩ (by first | omega | (dsimp only; omega))
          · cbv
          · cbv
        · refine r_addf m.sX (by omega) (by omega) fun r9 hr9 => ?_
          conv => cbv
          have tr9 : Int.toNat r9 = Int.toNat i1 + 1 := by omega
          refine hE2 _ (list_4, r9) ?_ ?_ ⟨(by (try dsimp only); first | omega | (simp only [List.length_nil]; omega)), (by (try dsimp only); first | omega | (simp only [List.length_nil]; omega)), (by (try dsimp only); first | exact e | (rw [n5]; exact e5)), (by (try dsimp only); (first | rw [n5] | skip); rw [p, dx, tr9]; simp only [stepS]; congr 1; split <;> omega), (by (try dsimp only); first | exact b | (rw [n5]; omega))⟩ (by first | omega | (dsimp only; omega))
          · cbv
          · cbv
      · have dz_i1 := drop_end (xs := l) (i := Int.toNat i1) (by omega)
        have tz_i1 := take_end (xs := l) (i := Int.toNat i1) (by omega)
        refine hF2 _ _ ?_
        conv => cbv
        refine r_addf m.sX (by omega) (by omega) fun c_2 hc_2 => ?_
        conv => cbv
        refine hE _ (list_4, c_2) ?_ ?_ ⟨(by (try dsimp only); first | omega | rfl | (simp [*]; done) | (rw [k1]; simp [*]; done)), (by (try dsimp only); rw [dz_i1, stepS] at p; rw [show Int.toNat (c_2 - 1) = Int.toNat (c - 1) + 1 by omega, startsF, List.append_assoc, show ((Int.toNat (c - 1) : Nat) : Int) + 1 = c by omega, show nth (startsF l gap (Int.toNat (c - 1))) (Int.toNat (c - 1)) + gap = r3 by rw [hr3, ← vx1]; congr 2; omega, p, show Int.toNat (n + 1 - c_2) = Int.toNat (n - c) by omega]; exact e)⟩ (by first | omega | (dsimp only; omega))
        · cbv
        · cbv
    · refine hF _ _ ?_
      conv => cbv
      exact hQ (.fr 3 1 (rows cInt list_2)) (Eq.trans (by first | rfl | (simp only [lb, lbI, rows_cons, rows_nil, unnilT, unnil, unnilTI, unnilI]; done) | (simp only [lb, lbI, rows_cons, rows_nil, unnilT, unnil, unnilTI, unnilI]; rfl)) (congrArg (fun l => PV.fr 3 1 (rows cInt l)) (show list_2 = startsF l gap n.toNat from by rw [q, show Int.toNat (n + 1 - c) = 0 by omega, List.replicate_zero, List.append_nil, show Int.toNat (c - 1) = Int.toNat n by omega]))))   -- leaf 1

theorem width_ok (n : Int) (l : List Entry) (gap : Int) (ht : TabIn n l gap) : OkA Try.prog 225 [.int .i64 n, .isl 3 (rows cEntry l), .int .i64 gap] (· = .int .i64 (sAt l gap n.toNat - gap)) :=
  fn_intro envOk fieldsOk mixed Try.func225 rfl fun κ X Y L Q m hQ => by
    have hc := ht.cols
    have hgp := ht.gap
    have ll := startsF_length l gap n.toNat
    conv => cbv
    refine r_callF (fun l => PV.fr _ _ (rows _ l)) m.sX (starts_ok n l gap (by first | rfl | assumption | omega | (simp only [List.length_append, List.length_cons, List.length_nil] at *; omega))) fun v1 hv1 => ?_
    conv => cbv
    rw [← hv1] at ll
    refine r_oindex m.sX (by omega) (by omega) ?_
    conv => cbv
    obtain ⟨x1, hx1⟩ := get_ex (xs := v1) (i := Int.toNat n) (by omega)
    have mx1 := get_mem hx1
    have vx1 := nth_some hx1
    have e1 : x1 = sAt l gap n.toNat := by rw [← vx1, hv1]; rfl
    have b1 := sAt_bound ht n.toNat
    refine r_oload m.sX hx1 (Nat.le_of_ble_eq_true rfl) ?_
    conv => cbv
    refine r_subf m.sX (by omega) (by omega) fun r1 hr1 => ?_
    conv => cbv
    exact hQ (.int .i64 r1) (Eq.trans (by first | rfl | (simp only [lb, lbI, rows_cons, rows_nil, unnilT, unnil, unnilTI, unnilI]; done) | (simp only [lb, lbI, rows_cons, rows_nil, unnilT, unnil, unnilTI, unnilI]; rfl)) (congrArg (PV.int .i64) (show r1 = sAt l gap n.toNat - gap from by omega)))   -- leaf 1

theorem tbWidth_ok (n : Int) (l : List Entry) (gap : Int) (ht : TabIn n l gap) : OkA Try.prog 228 [.int .i64 n, .isl 3 (rows cEntry l), .int .i64 gap] (· = .int .i64 (sAt l gap n.toNat - gap)) :=
  fn_intro envOk fieldsOk mixed Try.func228 rfl fun κ X Y L Q m hQ => by
    have hc := ht.cols
    have hgp := ht.gap
    have ll := startsF_length l gap n.toNat
    conv => cbv
    refine r_callF (fun l => PV.fr _ _ (rows _ l)) m.sX (tbStarts_ok n l gap (by first | rfl | assumption | omega | (simp only [List.length_append, List.length_cons, List.length_nil] at *; omega))) fun v1 hv1 => ?_
    conv => cbv
    rw [← hv1] at ll
    refine r_oindex m.sX (by omega) (by omega) ?_
    conv => cbv
    obtain ⟨x1, hx1⟩ := get_ex (xs := v1) (i := Int.toNat n) (by omega)
    have mx1 := get_mem hx1
    have vx1 := nth_some hx1
    have e1 : x1 = sAt l gap n.toNat := by rw [← vx1, hv1]; rfl
    have b1 := sAt_bound ht n.toNat
    refine r_oload m.sX hx1 (Nat.le_of_ble_eq_true rfl) ?_
    conv => cbv
    refine r_subf m.sX (by omega) (by omega) fun r1 hr1 => ?_
    conv => cbv
    exact hQ (.int .i64 r1) (Eq.trans (by first | rfl | (simp only [lb, lbI, rows_cons, rows_nil, unnilT, unnil, unnilTI, unnilI]; done) | (simp only [lb, lbI, rows_cons, rows_nil, unnilT, unnil, unnilTI, unnilI]; rfl)) (congrArg (PV.int .i64) (show r1 = sAt l gap n.toNat - gap from by omega)))   -- leaf 1

theorem TableWidth_ok (n : Int) (l : List Entry) (gap : Int) (hn : -1000 ≤ n ∧ n ≤ 1000) : OkA Try.prog 62 [.int .i64 n, .isl 3 (rows cEntry l), .int .i64 gap] (· = ib (totF n l gap)) :=
  fn_intro envOk fieldsOk mixed Try.func62 rfl fun κ X Y L Q m hQ => by
    conv => cbv
    refine r_callB m.sX (isGapped_ok n l gap (by first | rfl | assumption | omega | (simp only [List.length_append, List.length_cons, List.length_nil] at *; omega))) (fun h1 => ?_) (fun h1 => ?_) <;> conv => cbv
    · have ht := okG_in h1
      refine r_callF (PV.int .i64) m.sX (width_ok n l gap (by first | rfl | assumption | omega | (simp only [List.length_append, List.length_cons, List.length_nil] at *; omega))) fun r1 hr1 => ?_
      conv => cbv
      exact hQ (.tup [.int .i64 r1, .bool true]) (Eq.trans (by first | rfl | (simp only [lb, lbI, rows_cons, rows_nil, unnilT, unnil, unnilTI, unnilI]; done) | (simp only [lb, lbI, rows_cons, rows_nil, unnilT, unnil, unnilTI, unnilI]; rfl)) (congrArg (ib) (show (r1, true) = totF n l gap from by simp [totF, *])))   -- leaf 1
    · exact hQ (.tup [.int .i64 0, .bool false]) (Eq.trans (by first | rfl | (simp only [lb, lbI, rows_cons, rows_nil, unnilT, unnil, unnilTI, unnilI]; done) | (simp only [lb, lbI, rows_cons, rows_nil, unnilT, unnil, unnilTI, unnilI]; rfl)) (congrArg (ib) (show (0, false) = totF n l gap from by simp [totF, *])))   -- leaf 2

-- lacks spec.TableWidth
theorem columnWidths_ok (n : Int) (l : List Entry) (gap : Int) (ht : TabIn n l gap) : OkA Try.prog 234 [.int .i64 n, .isl 3 (rows cEntry l), .int .i64 gap] (· = .fr 3 1 (rows cInt (widthsF l gap n.toNat))) :=
  OkA.unnil 3 1 (fn_intro envOk fieldsOk mixed Try.func234 rfl fun κ X Y L Q m hQ => by
    have hc := ht.cols
    have hgp := ht.gap
    have ll := startsF_length l gap n.toNat
    conv => cbv
    refine r_callF (fun l => PV.fr _ _ (rows _ l)) m.sX (starts_ok n l gap (by first | rfl | assumption | omega | (simp only [List.length_append, List.length_cons, List.length_nil] at *; omega))) fun list hlist => ?_
    conv => cbv
    rw [← hlist] at ll
    refine r_loopF (α := List Int × Int) m 36 [0, 2, 9] [⟨7, 57, 3, 1, 0⟩, ⟨8, 65, 3, 1, 0⟩] (fun σ => [(0, .int .i64 n), (2, .int .i64 gap), (7, .osl 57 0), (8, .osl 65 0), (9, .int .i64 σ.2)]) (fun σ => [(57, 0, .row 3 1 (rows cInt list)), (65, 0, .row 3 1 (rows cInt σ.1))])
      (fun σ => (0 ≤ σ.2) ∧ (σ.2 ≤ n) ∧ (σ.1 = (List.range σ.2.toNat).map (wAt l gap)) ∧ ((σ.1.length : Int) = σ.2)) (fun σ => (n - σ.2).toNat) ([], 0) ?_ ?_ ?_ ?_
    · cbv
    · (try dsimp only); simp only [rows_cons, rows_nil]; cbv
    · exact ⟨(by (try dsimp only); first | omega | (simp only [List.length_nil]; omega)), (by (try dsimp only); first | omega | (simp only [List.length_nil]; omega)), (by (try dsimp only); first | omega | rfl | (simp [*]; done)), (by (try dsimp only); first | omega | rfl | (simp [*]; done))⟩
    rintro ⟨widths, c⟩ ⟨lo1, hi1, q, ln⟩ E hE F hF
    dsimp only at lo1 hi1 q ln
    conv => cbv
    refine r_lss m.sX (fun h1 => ?_) (fun h1 => ?_) <;> conv => cbv
    · refine r_draw m (by kernel_rfl) ?_
      conv => cbv
      refine r_addf m.sY (by omega) (by omega) fun r1 hr1 => ?_
      conv => cbv
      refine r_oindex m.sY (by omega) (by omega) ?_
      conv => cbv
      obtain ⟨x1, hx1⟩ := get_ex (xs := list) (i := Int.toNat r1) (by omega)
      have mx1 := get_mem hx1
      have vx1 := nth_some hx1
      have e1 : x1 = sAt l gap (Int.toNat c + 1) := by rw [← vx1, hlist, show Int.toNat r1 = Int.toNat c + 1 by omega]; exact starts_at _ _ _ _ (by omega)
      have b1 := sAt_bound ht (Int.toNat c + 1)
      refine r_oload m.sY hx1 (Nat.le_of_ble_eq_true rfl) ?_
      conv => cbv
      refine r_oindex m.sY (by omega) (by omega) ?_
      conv => cbv
      obtain ⟨x2, hx2⟩ := get_ex (xs := list) (i := Int.toNat c) (by omega)
      have mx2 := get_mem hx2
      have dx2 := drop_cons hx2
      have kx2 := take_snoc hx2
      have jx2 : (c + 1).toNat = Int.toNat c + 1 := by omega
      have vx2 := nth_some hx2
      have e2 : x2 = sAt l gap (Int.toNat c) := by rw [← vx2, hlist]; exact starts_at _ _ _ _ (by omega)
      have b2 := sAt_bound ht (Int.toNat c)
      refine r_oload m.sY hx2 (Nat.le_of_ble_eq_true rfl) ?_
      conv => cbv
      refine r_subf m.sY (by omega) (by omega) fun r2 hr2 => ?_
      conv => cbv
      refine r_subf m.sY (by omega) (by omega) fun r3 hr3 => ?_
      conv => cbv
      refine r_append1 (r3) m.sY rfl (by first | omega | (dsimp only; omega)) (by first | omega | (dsimp only; omega)) fun widths_2 hwidths_2 => ?_
      conv => cbv
      have lwidths_2 : (widths_2.length : Int) = widths.length + 1 := by rw [hwidths_2]; first | done | (simp; done) | (simp; omega)
      refine r_addf m.sX (by omega) (by omega) fun c_2 hc_2 => ?_
      conv => cbv
      have tc_2 : Int.toNat c_2 = Int.toNat c + 1 := by omega
      refine hE _ (widths_2, c_2) ?_ ?_ ⟨(by (try dsimp only); first | omega | (simp only [List.length_nil]; omega)), (by (try dsimp only); first | omega | (simp only [List.length_nil]; omega)), (by (try dsimp only); rw [hwidths_2, q, hc_2]; exact range_next _ c lo1 (by rw [hr3, hr2, e1, e2]; rfl)), (by (try dsimp only); first | omega | rfl | (simp [*]; done) | (rw [ln]; simp [*]; done))⟩ (by first | omega | (dsimp only; omega))
      · cbv
      · cbv
    · refine hF _ _ ?_
      conv => cbv
      exact hQ (.fr 3 1 (rows cInt widths)) (Eq.trans (by first | rfl | (simp only [lb, lbI, rows_cons, rows_nil, unnilT, unnil, unnilTI, unnilI]; done) | (simp only [lb, lbI, rows_cons, rows_nil, unnilT, unnil, unnilTI, unnilI]; rfl)) (congrArg (fun l => PV.fr 3 1 (rows cInt l)) (show widths = widthsF l gap n.toNat from by rw [q, show c = n by omega]; rfl))))   -- leaf 1

theorem tbWidths_ok (starts : List Int) (gap : Int) (hb : ∀ x ∈ starts, 0 ≤ x ∧ x ≤ 10000) (hg : 0 ≤ gap ∧ gap ≤ 36) (h1 : 1 ≤ starts.length ∧ starts.length ≤ 100) : OkA Try.prog 235 [.isl 1 (rows cInt starts), .int .i64 gap] (· = .fr 3 1 (rows cInt ((List.range (starts.length - 1)).map fun j => nth starts (j + 1) - nth starts j - gap))) :=
  OkA.unnil 3 1 (fn_intro envOk fieldsOk mixed Try.func235 rfl fun κ X Y L Q m hQ => by
    conv => cbv
    refine r_loopF (α := List Int × Int) m 29 [0, 1, 6] [⟨5, 41, 3, 1, 0⟩] (fun σ => [(0, .isl 1 (rows cInt starts)), (1, .int .i64 gap), (5, .osl 41 0), (6, .int .i64 σ.2)]) (fun σ => [(41, 0, .row 3 1 (rows cInt σ.1))])
      (fun σ => (1 ≤ σ.2 ∧ σ.2 ≤ starts.length) ∧ (σ.1 = (List.range (σ.2 - 1).toNat).map fun j => nth starts (j + 1) - nth starts j - gap) ∧ ((σ.1.length : Int) = σ.2 - 1)) (fun σ => ((starts.length : Int) - σ.2).toNat) ([], 1) ?_ ?_ ?_ ?_
    · cbv
    · (try dsimp only); simp only [rows_cons, rows_nil]; cbv
    · exact ⟨(by (try dsimp only); first | omega | rfl | (simp [*]; done)), (by (try dsimp only); first | omega | rfl | (simp [*]; done)), (by (try dsimp only); first | omega | rfl | (simp [*]; done))⟩
    rintro ⟨out, k⟩ ⟨k1, q, ln⟩ E hE F hF
    dsimp only at k1 q ln
    conv => cbv
    refine r_lenR m.sX fun n1 hn1 mn1 => ?_
    conv => cbv
    refine r_lss m.sX (fun h1 => ?_) (fun h1 => ?_) <;> conv => cbv
    · refine r_draw m (by kernel_rfl) ?_
      conv => cbv
      refine r_index m.sY (by omega) (by omega) fun x1 hx1 => ?_
      conv => cbv
      have mx1 := get_mem hx1
      have vx1 := nth_some hx1
      have b1 := hb _ mx1
      refine r_subf m.sY (by omega) (by omega) fun r1 hr1 => ?_
      conv => cbv
      refine r_index m.sY (by omega) (by omega) fun x2 hx2 => ?_
      conv => cbv
      have mx2 := get_mem hx2
      have vx2 := nth_some hx2
      have b2 := hb _ mx2
      refine r_subf m.sY (by omega) (by omega) fun r2 hr2 => ?_
      conv => cbv
      refine r_subf m.sY (by omega) (by omega) fun r3 hr3 => ?_
      conv => cbv
      refine r_append1 (r3) m.sY rfl (by first | omega | (dsimp only; omega)) (by first | omega | (dsimp only; omega)) fun out_2 hout_2 => ?_
      conv => cbv
      have lout_2 : (out_2.length : Int) = out.length + 1 := by rw [hout_2]; first | done | (simp; done) | (simp; omega)
      refine r_addf m.sX (by omega) (by omega) fun k_2 hk_2 => ?_
      conv => cbv
      refine hE _ (out_2, k_2) ?_ ?_ ⟨(by (try dsimp only); first | omega | rfl | (simp [*]; done) | (rw [k1]; simp [*]; done)), (by (try dsimp only); rw [hout_2, q, hk_2, show k + 1 - 1 = (k - 1) + 1 by omega]; refine range_next _ (k - 1) (by omega) ?_; rw [show Int.toNat (k - 1) + 1 = Int.toNat k by omega, vx1, show Int.toNat (k - 1) = Int.toNat r1 by omega, vx2, hr3, hr2]), (by (try dsimp only); first | omega | rfl | (simp [*]; done) | (rw [ln]; simp [*]; done))⟩ (by first | omega | (dsimp only; omega))
      · cbv
      · cbv
    · refine hF _ _ ?_
      conv => cbv
      exact hQ (.fr 3 1 (rows cInt out)) (Eq.trans (by first | rfl | (simp only [lb, lbI, rows_cons, rows_nil, unnilT, unnil, unnilTI, unnilI]; done) | (simp only [lb, lbI, rows_cons, rows_nil, unnilT, unnil, unnilTI, unnilI]; rfl)) (congrArg (fun l => PV.fr 3 1 (rows cInt l)) (show out = (List.range (starts.length - 1)).map fun j => nth starts (j + 1) - nth starts j - gap from by rw [q, show Int.toNat (k - 1) = starts.length - 1 by omega]))))   -- leaf 1

-- lacks impl.ColumnWidths
-- lacks spec.ColumnWidths
-- lacks impl.EntriesOver
-- lacks spec.EntriesOver
-- lacks impl.AddEntry
-- lacks spec.AddEntry
theorem WidthWithout_ok (n : Int) (l : List Entry) (gap : Int) (i : Int) (hn : -1000 ≤ n ∧ n ≤ 1000) : OkA Try.prog 70 [.int .i64 n, .isl 3 (rows cEntry l), .int .i64 gap, .int .i64 i] (· = ib (withoutF n l gap i)) :=
  fn_intro envOk fieldsOk mixed Try.func70 rfl fun κ X Y L Q m hQ => by
    conv => cbv
    refine r_callB m.sX (isGapped_ok n l gap (by first | rfl | assumption | omega | (simp only [List.length_append, List.length_cons, List.length_nil] at *; omega))) (fun h1 => ?_) (fun h1 => ?_) <;> conv => cbv
    · have ht := okG_in h1
      have hn := ht.len
      refine r_lenR m.sX fun n1 hn1 mn1 => ?_
      conv => cbv
      refine r_subf m.sX (by omega) (by omega) fun r1 hr1 => ?_
      conv => cbv
      refine r_callB m.sX (within_ok i 0 r1) (fun h2 => ?_) (fun h2 => ?_) <;> conv => cbv
      · have bi := inB_spec h2
        refine r_draw m (by kernel_rfl) ?_
        conv => cbv
        refine r_islice (i := 0) (j := i) m.sY (by omega) (by omega) (by omega) fun zs1 hzs1 => ?_   -- zs1 = l[None:i]
        have lzs1 : (zs1.length : Int) = i - 0 := by rw [hzs1]; first | done | (simp; done) | (simp; omega)
        conv => cbv
        refine r_append0R m.sY (by first | omega | (dsimp only; omega)) (by first | omega | (dsimp only; omega)) fun zs2 hzs2 => ?_
        conv => cbv
        have lzs2 : (zs2.length : Int) = zs1.length := by rw [hzs2]; first | done | (simp; done) | (simp; omega)
        refine r_addf m.sY (by omega) (by omega) fun r2 hr2 => ?_
        conv => cbv
        refine r_islice' (i := r2) m.sY (by omega) (by omega) fun zs3 hzs3 => ?_   -- zs3 = l[r2:None]
        have lzs3 : (zs3.length : Int) = l.length - r2 := by rw [hzs3]; first | done | (simp; done) | (simp; omega)
        conv => cbv
        refine r_append m.sY (by first | omega | (dsimp only; omega)) (by first | omega | (dsimp only; omega)) fun zs4 hzs4 => ?_
        conv => cbv
        have lzs4 : (zs4.length : Int) = zs2.length + zs3.length := by rw [hzs4]; first | done | (simp; done) | (simp; omega)
        have e4 : zs4 = l.eraseIdx (Int.toNat i) := erase_eq (by omega) hzs1 hzs2 (by rw [hzs3, hr2]) hzs4
        have t4 : TabIn n zs4 gap := by rw [e4]; exact ht.erase _
        refine .inl (r_callFSO intPV m.sY ((width_ok n zs4 gap (by first | rfl | assumption | omega | (simp only [List.length_append, List.length_cons, List.length_nil] at *; omega))).ok flat_int) trivial fun r3 hr3 => ?_)
        conv => cbv
        exact hQ (.tup [.int .i64 r3, .bool true]) (Eq.trans (by first | rfl | (simp only [lb, lbI, rows_cons, rows_nil, unnilT, unnil, unnilTI, unnilI]; done) | (simp only [lb, lbI, rows_cons, rows_nil, unnilT, unnil, unnilTI, unnilI]; rfl)) (congrArg (ib) (show (r3, true) = withoutF n l gap i from by rw [withoutF, h1, ← hn1, ← hr1, h2, ← e4]; simp [*])))   -- leaf 1
      · exact hQ (.tup [.int .i64 0, .bool false]) (Eq.trans (by first | rfl | (simp only [lb, lbI, rows_cons, rows_nil, unnilT, unnil, unnilTI, unnilI]; done) | (simp only [lb, lbI, rows_cons, rows_nil, unnilT, unnil, unnilTI, unnilI]; rfl)) (congrArg (ib) (show (0, false) = withoutF n l gap i from by rw [withoutF, h1, ← hn1, ← hr1, h2]; rfl)))   -- leaf 2
    · exact hQ (.tup [.int .i64 0, .bool false]) (Eq.trans (by first | rfl | (simp only [lb, lbI, rows_cons, rows_nil, unnilT, unnil, unnilTI, unnilI]; done) | (simp only [lb, lbI, rows_cons, rows_nil, unnilT, unnil, unnilTI, unnilI]; rfl)) (congrArg (ib) (show (0, false) = withoutF n l gap i from by rw [withoutF, h1]; rfl)))   -- leaf 3

theorem specWidthWithout_ok (n : Int) (l : List Entry) (gap : Int) (i : Int) (hn : -1000 ≤ n ∧ n ≤ 1000) : OkA Try.prog 71 [.int .i64 n, .isl 3 (rows cEntry l), .int .i64 gap, .int .i64 i] (· = ib (withoutF n l gap i)) :=
  fn_intro envOk fieldsOk mixed Try.func71 rfl fun κ X Y L Q m hQ => by
    conv => cbv
    refine r_callB m.sX (tbAsked_ok n l gap (by first | rfl | assumption | omega | (simp only [List.length_append, List.length_cons, List.length_nil] at *; omega))) (fun h1 => ?_) (fun h1 => ?_) <;> conv => cbv
    · have ht := okG_in h1
      have hn := ht.len
      refine r_lenR m.sX fun n1 hn1 mn1 => ?_
      conv => cbv
      refine r_subf m.sX (by omega) (by omega) fun r1 hr1 => ?_
      conv => cbv
      refine r_callB m.sX (l1In_ok i 0 r1) (fun h2 => ?_) (fun h2 => ?_) <;> conv => cbv
      · have bi := inB_spec h2
        refine r_draw m (by kernel_rfl) ?_
        conv => cbv
        refine r_islice (i := 0) (j := i) m.sY (by omega) (by omega) (by omega) fun zs1 hzs1 => ?_   -- zs1 = l[None:i]
        have lzs1 : (zs1.length : Int) = i - 0 := by rw [hzs1]; first | done | (simp; done) | (simp; omega)
        conv => cbv
        refine r_append0R m.sY (by first | omega | (dsimp only; omega)) (by first | omega | (dsimp only; omega)) fun zs2 hzs2 => ?_
        conv => cbv
        have lzs2 : (zs2.length : Int) = zs1.length := by rw [hzs2]; first | done | (simp; done) | (simp; omega)
        refine r_addf m.sY (by omega) (by omega) fun r2 hr2 => ?_
        conv => cbv
        refine r_islice' (i := r2) m.sY (by omega) (by omega) fun zs3 hzs3 => ?_   -- zs3 = l[r2:None]
        have lzs3 : (zs3.length : Int) = l.length - r2 := by rw [hzs3]; first | done | (simp; done) | (simp; omega)
        conv => cbv
        refine r_append m.sY (by first | omega | (dsimp only; omega)) (by first | omega | (dsimp only; omega)) fun zs4 hzs4 => ?_
        conv => cbv
        have lzs4 : (zs4.length : Int) = zs2.length + zs3.length := by rw [hzs4]; first | done | (simp; done) | (simp; omega)
        have e4 : zs4 = l.eraseIdx (Int.toNat i) := erase_eq (by omega) hzs1 hzs2 (by rw [hzs3, hr2]) hzs4
        have t4 : TabIn n zs4 gap := by rw [e4]; exact ht.erase _
        refine .inl (r_callFSO intPV m.sY ((tbWidth_ok n zs4 gap (by first | rfl | assumption | omega | (simp only [List.length_append, List.length_cons, List.length_nil] at *; omega))).ok flat_int) trivial fun r3 hr3 => ?_)
        conv => cbv
        exact hQ (.tup [.int .i64 r3, .bool true]) (Eq.trans (by first | rfl | (simp only [lb, lbI, rows_cons, rows_nil, unnilT, unnil, unnilTI, unnilI]; done) | (simp only [lb, lbI, rows_cons, rows_nil, unnilT, unnil, unnilTI, unnilI]; rfl)) (congrArg (ib) (show (r3, true) = withoutF n l gap i from by rw [withoutF, h1, ← hn1, ← hr1, h2, ← e4]; simp [*])))   -- leaf 1
      · exact hQ (.tup [.int .i64 0, .bool false]) (Eq.trans (by first | rfl | (simp only [lb, lbI, rows_cons, rows_nil, unnilT, unnil, unnilTI, unnilI]; done) | (simp only [lb, lbI, rows_cons, rows_nil, unnilT, unnil, unnilTI, unnilI]; rfl)) (congrArg (ib) (show (0, false) = withoutF n l gap i from by rw [withoutF, h1, ← hn1, ← hr1, h2]; rfl)))   -- leaf 2
    · exact hQ (.tup [.int .i64 0, .bool false]) (Eq.trans (by first | rfl | (simp only [lb, lbI, rows_cons, rows_nil, unnilT, unnil, unnilTI, unnilI]; done) | (simp only [lb, lbI, rows_cons, rows_nil, unnilT, unnil, unnilTI, unnilI]; rfl)) (congrArg (ib) (show (0, false) = withoutF n l gap i from by rw [withoutF, h1]; rfl)))   -- leaf 3

theorem LeastStarts_ok (n : Int) (l : List Entry) (gap : Int) (hn : -1000 ≤ n ∧ n ≤ 1000) : OkA Try.prog 66 [.int .i64 n, .isl 3 (rows cEntry l), .int .i64 gap] (· = (lbI 1 cInt) (leastF n l gap)) :=
  OkA.iceI 1 (fn_intro envOk fieldsOk mixed Try.func66 rfl fun κ X Y L Q m hQ => by
    conv => cbv
    refine r_callB m.sX (isGapped_ok n l gap (by first | rfl | assumption | omega | (simp only [List.length_append, List.length_cons, List.length_nil] at *; omega))) (fun h1 => ?_) (fun h1 => ?_) <;> conv => cbv
    · have ht := okG_in h1
      have hc := ht.cols
      have ll := startsF_length l gap n.toNat
      refine r_callF (fun l => PV.fr _ _ (rows _ l)) m.sX (starts_ok n l gap (by first | rfl | assumption | omega | (simp only [List.length_append, List.length_cons, List.length_nil] at *; omega))) fun v1 hv1 => ?_
      conv => cbv
      rw [← hv1] at ll
      refine r_islice (i := n) (j := n) m.sX (by omega) (by omega) (by omega) fun _ _ => ?_
      refine r_islice (i := 0) (j := n) m.sX (by omega) (by omega) (by omega) fun zs1 hzs1 => ?_   -- zs1 = v1[None:n]
      have lzs1 : (zs1.length : Int) = n - 0 := by rw [hzs1]; first | done | (simp; done) | (simp; omega)
      conv => cbv
      exact hQ (.tup [.isl 1 (rows cInt zs1), .bool true]) (Eq.trans (by first | rfl | (simp only [lb, lbI, rows_cons, rows_nil, unnilT, unnil, unnilTI, unnilI]; done) | (simp only [lb, lbI, rows_cons, rows_nil, unnilT, unnil, unnilTI, unnilI]; rfl)) (congrArg ((lbI 1 cInt)) (show (zs1, true) = leastF n l gap from by rw [leastF, if_pos h1, hzs1, hv1]; rfl)))   -- leaf 1
    · exact hQ (.tup [.fr 3 1 [], .bool false]) (Eq.trans (by first | rfl | (simp only [lb, lbI, rows_cons, rows_nil, unnilT, unnil, unnilTI, unnilI]; done) | (simp only [lb, lbI, rows_cons, rows_nil, unnilT, unnil, unnilTI, unnilI]; rfl)) (congrArg ((lbI 1 cInt)) (show ([], false) = leastF n l gap from by simp [leastF, *]))))   -- leaf 2

-- lacks spec.LeastStarts
end Go.Proofs.Ytpjmpgbgglhoeaa.Ai
