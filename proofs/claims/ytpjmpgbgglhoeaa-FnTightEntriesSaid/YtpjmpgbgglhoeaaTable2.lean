/- Contracts of the functions on tables: greatest starts, rooms, spread widths. -/
import Derived.Test.YtpjmpgbgglhoeaaTableLaw2
import Derived.Test.YtpjmpgbgglhoeaaTable
namespace Go.Proofs.Ytpjmpgbgglhoeaa.Ai
open Go Go.Proofs
set_option maxRecDepth 10000
set_option maxHeartbeats 4000000
set_option linter.unusedVariables false

theorem latest_ok (n : Int) (l : List Entry) (gap : Int) (total : Int) (ht : TabIn n l gap) (hb : 0 ≤ total ∧ total ≤ 10000) : OkA Try.prog 230 [.int .i64 n, .isl 3 (rows cEntry l), .int .i64 gap, .int .i64 total] (· = .fr 3 1 (rows cInt (0 :: (latF n l gap total (n - 1).toNat)))) :=
  OkA.unnil 3 1 (fn_intro envOk fieldsOk mixed Try.func230 rfl fun κ X Y L Q m hQ => by
    have hc := ht.cols
    have hgp := ht.gap
    conv => cbv
    refine r_addf m.sX (by omega) (by omega) fun r1 hr1 => ?_
    conv => cbv
    refine r_make cInt 0 m.sX rfl (by omega) (by omega) (by dsimp only; omega) (by omega) fun list hlist => ?_   -- list = replicate r1
    have llist : (list.length : Int) = r1 := by rw [hlist]; first | done | (simp; done) | (simp; omega)
    conv => cbv
    refine r_addf m.sX (by omega) (by omega) fun r2 hr2 => ?_
    conv => cbv
    refine r_oindex m.sX (by omega) (by omega) ?_
    conv => cbv
    obtain ⟨y1, hy1⟩ := get_ex (xs := list) (i := Int.toNat n) (by omega)
    refine r_ostore (l := Int.toNat n) r2 m.sX hy1 (Nat.le_of_ble_eq_true rfl) rfl fun zs1 hzs1 => ?_   -- zs1 = list.set n r2
    have lzs1 : (zs1.length : Int) = list.length := by rw [hzs1]; first | done | (simp; done) | (simp; omega)
    conv => cbv
    refine r_subf m.sX (by omega) (by omega) fun c hc => ?_
    conv => cbv
    refine r_loopF (α := List Int × Int) m 70 [1, 2, 10] [⟨9, 73, 3, 1, 0⟩] (fun σ => [(1, .isl 3 (rows cEntry l)), (2, .int .i64 gap), (9, .osl 73 0), (10, .int .i64 σ.2)]) (fun σ => [(73, 0, .row 3 1 (rows cInt σ.1))])
      (fun σ => (0 ≤ σ.2 ∧ σ.2 ≤ n - 1) ∧ (σ.1 = List.replicate (σ.2 + 1).toNat 0 ++ latF n l gap total (n - 1 - σ.2).toNat)) (fun σ => σ.2.toNat) (zs1, c) ?_ ?_ ?_ ?_
    · cbv
    · cbv
    · exact ⟨(by (try dsimp only); first | omega | rfl | (simp [*]; done)), (by (try dsimp only); rw [hzs1, hlist, show Int.toNat r1 = Int.toNat n + 1 by omega, List.replicate_succ', set_mid (by simp), hr2, show Int.toNat (c + 1) = Int.toNat n by omega, show Int.toNat (n - 1 - c) = 0 by omega]; rfl)⟩
    rintro ⟨list_2, c_2⟩ ⟨k1, q⟩ E hE F hF
    dsimp only at k1 q
    have pl := latF_length n l gap total (n - 1 - c_2).toNat
    have ll : (list_2.length : Int) = n + 1 := by rw [q]; simp only [List.length_append, pl, List.length_replicate]; omega
    have sb := lat_bound ht hb (n - 1 - c_2).toNat
    conv => cbv
    refine r_gtr m.sX (fun h1 => ?_) (fun h1 => ?_) <;> conv => cbv
    · refine r_addf m.sX (by omega) (by omega) fun r3 hr3 => ?_
      conv => cbv
      refine r_oindex m.sX (by omega) (by omega) ?_
      conv => cbv
      obtain ⟨x1, hx1⟩ := get_ex (xs := list_2) (i := Int.toNat r3) (by omega)
      have mx1 := get_mem hx1
      have vx1 := nth_some hx1
      rw [q, nth_append (by rw [List.length_replicate]; omega), List.length_replicate, show Int.toNat r3 - Int.toNat (c_2 + 1) = 0 by omega] at vx1
      have eb := sb 0
      refine r_oload m.sX hx1 (Nat.le_of_ble_eq_true rfl) ?_
      conv => cbv
      refine r_subf m.sX (by omega) (by omega) fun r4 hr4 => ?_
      conv => cbv
      refine r_oindex m.sX (by omega) (by omega) ?_
      conv => cbv
      obtain ⟨y2, hy2⟩ := get_ex (xs := list_2) (i := Int.toNat c_2) (by omega)
      refine r_ostore (l := Int.toNat c_2) r4 m.sX hy2 (Nat.le_of_ble_eq_true rfl) rfl fun list_3 hlist_3 => ?_   -- list_3 = list_2.set c_2 r4
      have llist_3 : (list_3.length : Int) = list_2.length := by rw [hlist_3]; first | done | (simp; done) | (simp; omega)
      have e3 : list_3 = List.replicate (Int.toNat c_2) 0 ++ r4 :: latF n l gap total (Int.toNat (n - 1 - c_2)) := by rw [hlist_3, q, show Int.toNat (c_2 + 1) = Int.toNat c_2 + 1 by omega, List.replicate_succ', List.append_assoc]; exact set_mid (by simp)
      have n3 : nth list_3 (Int.toNat c_2) = r4 := by rw [e3]; exact nth_mid (by simp)
      conv => cbv
      refine r_lenR m.sX fun n1 hn1 mn1 => ?_
      conv => cbv
      refine r_loopF (α := List Int × Int) m 70 [1, 2, 10, 38, 39, 40] [⟨9, 73, 3, 1, 0⟩] (fun σ => [(1, .isl 3 (rows cEntry l)), (2, .int .i64 gap), (9, .osl 73 0), (10, .int .i64 c_2), (38, .isl 3 (rows cEntry l)), (39, .int .i64 n1), (40, .int .i64 σ.2)]) (fun σ => [(73, 0, .row 3 1 (rows cInt σ.1))])
        (fun σ => (0 ≤ σ.2) ∧ (σ.2 ≤ n1) ∧ (σ.1 = List.replicate (Int.toNat c_2) 0 ++ nth σ.1 (Int.toNat c_2) :: latF n l gap total (Int.toNat (n - 1 - c_2))) ∧ (stepL gap (latF n l gap total (Int.toNat (n - 1 - c_2))) c_2 r4 l = stepL gap (latF n l gap total (Int.toNat (n - 1 - c_2))) c_2 (nth σ.1 (Int.toNat c_2)) (l.drop σ.2.toNat)) ∧ (-10000 ≤ nth σ.1 (Int.toNat c_2) ∧ nth σ.1 (Int.toNat c_2) ≤ 20000)) (fun σ => (n1 - σ.2).toNat) (list_3, 0) ?_ ?_ ?_ ?_
      · cbv
      · cbv
      · exact ⟨(by (try dsimp only); first | omega | (simp only [List.length_nil]; omega)), (by (try dsimp only); first | omega | (simp only [List.length_nil]; omega)), (by (try dsimp only); rw [n3]; exact e3), (by (try dsimp only); rw [n3]; rfl), (by (try dsimp only); rw [n3]; omega)⟩
      rintro ⟨list_4, i1⟩ ⟨lo2, hi2, e, p, b⟩ E2 hE2 F2 hF2
      dsimp only at lo2 hi2 e p b
      have l4 : (list_4.length : Int) = n + 1 := by rw [e]; simp only [List.length_append, pl, List.length_cons, List.length_replicate]; omega
      conv => cbv
      refine r_lss m.sX (fun h2 => ?_) (fun h2 => ?_) <;> conv => cbv
      · refine r_index m.sX (by omega) (by omega) fun v hxA => ?_
        obtain ⟨xA, xB, xC⟩ := v
        conv => cbv
        have hx := hxA
        have mx := get_mem hx
        have dx := drop_cons hx
        have kx := take_snoc hx
        have jx : (i1 + 1).toNat = Int.toNat i1 + 1 := by omega
        have ex := okE_spec (ht.ent _ mx)
        try dsimp only at ex
        refine r_eql m.sX (fun h3 => ?_) (fun h3 => ?_) <;> conv => cbv
        · refine r_draw m (by kernel_rfl) ?_
          conv => cbv
          refine r_oindex m.sY (by omega) (by omega) ?_
          conv => cbv
          obtain ⟨x2, hx2⟩ := get_ex (xs := list_4) (i := Int.toNat c_2) (by omega)
          have mx2 := get_mem hx2
          have vx2 := nth_some hx2
          refine r_oload m.sY hx2 (Nat.le_of_ble_eq_true rfl) ?_
          conv => cbv
          refine r_addf m.sY (by omega) (by omega) fun r5 hr5 => ?_
          conv => cbv
          refine r_oindex m.sY (by omega) (by omega) ?_
          conv => cbv
          obtain ⟨x3, hx3⟩ := get_ex (xs := list_4) (i := Int.toNat r5) (by omega)
          have mx3 := get_mem hx3
          have vx3 := nth_some hx3
          rw [e, nth_append (by rw [List.length_replicate]; omega), List.length_replicate, show Int.toNat r5 - Int.toNat c_2 = Int.toNat (xB - 1) + 1 by omega, nth_cons] at vx3
          have eb3 := sb (Int.toNat (xB - 1))
          try dsimp only at eb3
          refine r_oload m.sY hx3 (Nat.le_of_ble_eq_true rfl) ?_
          conv => cbv
          refine r_subf m.sY (by omega) (by omega) fun r6 hr6 => ?_
          conv => cbv
          refine r_subf m.sY (by omega) (by omega) fun r7 hr7 => ?_
          conv => cbv
          refine r_min m.sY fun r8 hr8 => ?_
          conv => cbv
          refine r_oindex m.sY (by omega) (by omega) ?_
          conv => cbv
          obtain ⟨y3, hy3⟩ := get_ex (xs := list_4) (i := Int.toNat c_2) (by omega)
          refine r_ostore (l := Int.toNat c_2) r8 m.sY hy3 (Nat.le_of_ble_eq_true rfl) rfl fun list_5 hlist_5 => ?_   -- list_5 = list_4.set c_2 r8
          have llist_5 : (list_5.length : Int) = list_4.length := by rw [hlist_5]; first | done | (simp; done) | (simp; omega)
          have e5 : list_5 = List.replicate (Int.toNat c_2) 0 ++ r8 :: latF n l gap total (Int.toNat (n - 1 - c_2)) := by rw [hlist_5]; exact (congrArg (fun z => List.set z (Int.toNat c_2) r8) e).trans (set_mid (by simp))
          have n5 : nth list_5 (Int.toNat c_2) = r8 := by rw [e5]; exact nth_mid (by simp)
          conv => cbv
          refine r_addf m.sX (by omega) (by omega) fun r9 hr9 => ?_
          conv => cbv
          have tr9 : Int.toNat r9 = Int.toNat i1 + 1 := by omega
          refine hE2 _ (list_5, r9) ?_ ?_ ⟨(by (try dsimp only); first | omega | (simp only [List.length_nil]; omega)), (by (try dsimp only); first | omega | (simp only [List.length_nil]; omega)), (by (try dsimp only); first | exact e | (rw [n5]; exact e5)), (by (try dsimp only); (first | rw [n5] | skip); rw [p, dx, tr9]; simp only [stepL]; congr 1; split <;> omega), (by (try dsimp only); first | exact b | (rw [n5]; omega))⟩ (by first | omega | (dsimp only; omega))
          · cbv
          · cbv
        · refine r_addf m.sX (by omega) (by omega) fun r10 hr10 => ?_
          conv => cbv
          have tr10 : Int.toNat r10 = Int.toNat i1 + 1 := by omega
          refine hE2 _ (list_4, r10) ?_ ?_ ⟨(by (try dsimp only); first | omega | (simp only [List.length_nil]; omega)), (by (try dsimp only); first | omega | (simp only [List.length_nil]; omega)), (by (try dsimp only); first | exact e | (rw [n5]; exact e5)), (by (try dsimp only); (first | rw [n5] | skip); rw [p, dx, tr10]; simp only [stepL]; congr 1; split <;> omega), (by (try dsimp only); first | exact b | (rw [n5]; omega))⟩ (by first | omega | (dsimp only; omega))
          · cbv
          · cbv
      · have dz_i1 := drop_end (xs := l) (i := Int.toNat i1) (by omega)
        have tz_i1 := take_end (xs := l) (i := Int.toNat i1) (by omega)
        refine hF2 _ _ ?_
        conv => cbv
        refine r_subf m.sX (by omega) (by omega) fun c_3 hc_3 => ?_
        conv => cbv
        refine hE _ (list_4, c_3) ?_ ?_ ⟨(by (try dsimp only); first | omega | rfl | (simp [*]; done) | (rw [k1]; simp [*]; done)), (by (try dsimp only); rw [dz_i1, stepL] at p; rw [show Int.toNat (n - 1 - c_3) = Int.toNat (n - 1 - c_2) + 1 by omega, latF, show n - 1 - ((Int.toNat (n - 1 - c_2) : Nat) : Int) = c_2 by omega, vx1, ← hr4, p, show Int.toNat (c_3 + 1) = Int.toNat c_2 by omega]; exact e)⟩ (by first | omega | (dsimp only; omega))
        · cbv
        · cbv
    · refine hF _ _ ?_
      conv => cbv
      exact hQ (.fr 3 1 (rows cInt list_2)) (Eq.trans (by first | rfl | (simp only [lb, lbI, rows_cons, rows_nil, unnilT, unnil, unnilTI, unnilI]; done) | (simp only [lb, lbI, rows_cons, rows_nil, unnilT, unnil, unnilTI, unnilI]; rfl)) (congrArg (fun l => PV.fr 3 1 (rows cInt l)) (show list_2 = 0 :: (latF n l gap total (n - 1).toNat) from by rw [q, show c_2 = 0 by omega, show n - 1 - 0 = n - 1 by omega]; rfl))))   -- leaf 1

theorem tbLatest_ok (n : Int) (l : List Entry) (gap : Int) (total : Int) (ht : TabIn n l gap) (hb : 0 ≤ total ∧ total ≤ 10000) : OkA Try.prog 232 [.int .i64 n, .isl 3 (rows cEntry l), .int .i64 gap, .int .i64 total] (· = .fr 3 1 (rows cInt (latF n l gap total n.toNat))) :=
  OkA.unnil 3 1 (fn_intro envOk fieldsOk mixed Try.func232 rfl fun κ X Y L Q m hQ => by
    have hc := ht.cols
    have hgp := ht.gap
    conv => cbv
    refine r_addf m.sX (by omega) (by omega) fun r1 hr1 => ?_
    conv => cbv
    refine r_make cInt 0 m.sX rfl (by omega) (by omega) (by dsimp only; omega) (by omega) fun out hout => ?_   -- out = replicate r1
    have lout : (out.length : Int) = r1 := by rw [hout]; first | done | (simp; done) | (simp; omega)
    conv => cbv
    refine r_addf m.sX (by omega) (by omega) fun r2 hr2 => ?_
    conv => cbv
    refine r_oindex m.sX (by omega) (by omega) ?_
    conv => cbv
    obtain ⟨y1, hy1⟩ := get_ex (xs := out) (i := Int.toNat n) (by omega)
    refine r_ostore (l := Int.toNat n) r2 m.sX hy1 (Nat.le_of_ble_eq_true rfl) rfl fun zs1 hzs1 => ?_   -- zs1 = out.set n r2
    have lzs1 : (zs1.length : Int) = out.length := by rw [hzs1]; first | done | (simp; done) | (simp; omega)
    conv => cbv
    refine r_subf m.sX (by omega) (by omega) fun k hk => ?_
    conv => cbv
    refine r_loopF (α := List Int × Int) m 66 [1, 2, 10] [⟨9, 73, 3, 1, 0⟩] (fun σ => [(1, .isl 3 (rows cEntry l)), (2, .int .i64 gap), (9, .osl 73 0), (10, .int .i64 σ.2)]) (fun σ => [(73, 0, .row 3 1 (rows cInt σ.1))])
      (fun σ => (-1 ≤ σ.2 ∧ σ.2 ≤ n - 1) ∧ (σ.1 = List.replicate (σ.2 + 1).toNat 0 ++ latF n l gap total (n - 1 - σ.2).toNat)) (fun σ => (σ.2 + 1).toNat) (zs1, k) ?_ ?_ ?_ ?_
    · cbv
    · cbv
    · exact ⟨(by (try dsimp only); first | omega | rfl | (simp [*]; done)), (by (try dsimp only); rw [hzs1, hout, show Int.toNat r1 = Int.toNat n + 1 by omega, List.replicate_succ', set_mid (by simp), hr2, show Int.toNat (k + 1) = Int.toNat n by omega, show Int.toNat (n - 1 - k) = 0 by omega]; rfl)⟩
    rintro ⟨out_2, k_2⟩ ⟨k1, q⟩ E hE F hF
    dsimp only at k1 q
    have pl := latF_length n l gap total (n - 1 - k_2).toNat
    have ll : (out_2.length : Int) = n + 1 := by rw [q]; simp only [List.length_append, pl, List.length_replicate]; omega
    have sb := lat_bound ht hb (n - 1 - k_2).toNat
    conv => cbv
    refine r_geq m.sX (fun h1 => ?_) (fun h1 => ?_) <;> conv => cbv
    · refine r_addf m.sX (by omega) (by omega) fun r3 hr3 => ?_
      conv => cbv
      refine r_oindex m.sX (by omega) (by omega) ?_
      conv => cbv
      obtain ⟨x1, hx1⟩ := get_ex (xs := out_2) (i := Int.toNat r3) (by omega)
      have mx1 := get_mem hx1
      have vx1 := nth_some hx1
      rw [q, nth_append (by rw [List.length_replicate]; omega), List.length_replicate, show Int.toNat r3 - Int.toNat (k_2 + 1) = 0 by omega] at vx1
      have eb := sb 0
      refine r_oload m.sX hx1 (Nat.le_of_ble_eq_true rfl) ?_
      conv => cbv
      refine r_subf m.sX (by omega) (by omega) fun start hstart => ?_
      conv => cbv
      refine r_lenR m.sX fun n1 hn1 mn1 => ?_
      conv => cbv
      refine r_loopF (α := Int × Int) m 66 [1, 2, 10, 11, 36, 37, 38] [⟨9, 73, 3, 1, 0⟩] (fun σ => [(1, .isl 3 (rows cEntry l)), (2, .int .i64 gap), (9, .osl 73 0), (10, .int .i64 k_2), (11, .int .i64 σ.1), (36, .isl 3 (rows cEntry l)), (37, .int .i64 n1), (38, .int .i64 σ.2)]) (fun σ => [(73, 0, .row 3 1 (rows cInt out_2))])
        (fun σ => (0 ≤ σ.2) ∧ (σ.2 ≤ n1) ∧ (stepL gap (latF n l gap total (Int.toNat (n - 1 - k_2))) k_2 start l = stepL gap (latF n l gap total (Int.toNat (n - 1 - k_2))) k_2 σ.1 (l.drop σ.2.toNat)) ∧ (-10000 ≤ σ.1 ∧ σ.1 ≤ 20000)) (fun σ => (n1 - σ.2).toNat) (start, 0) ?_ ?_ ?_ ?_
      · cbv
      · cbv
      · exact ⟨(by (try dsimp only); first | omega | (simp only [List.length_nil]; omega)), (by (try dsimp only); first | omega | (simp only [List.length_nil]; omega)), (by (try dsimp only); first | omega | rfl | (simp [*]; done)), (by (try dsimp only); first | omega | rfl | (simp [*]; done))⟩
      rintro ⟨start_2, i1⟩ ⟨lo2, hi2, p, b⟩ E2 hE2 F2 hF2
      dsimp only at lo2 hi2 p b
      conv => cbv
      refine r_lss m.sX (fun h2 => ?_) (fun h2 => ?_) <;> conv => cbv
      · refine r_index m.sX (by omega) (by omega) fun v hxA => ?_
        obtain ⟨xA, xB, xC⟩ := v
        conv => cbv
        have hx := hxA
        have mx := get_mem hx
        have dx := drop_cons hx
        have kx := take_snoc hx
        have jx : (i1 + 1).toNat = Int.toNat i1 + 1 := by omega
        have ex := okE_spec (ht.ent _ mx)
        try dsimp only at ex
        refine r_eql m.sX (fun h3 => ?_) (fun h3 => ?_) <;> conv => cbv
        · refine r_draw m (by kernel_rfl) ?_
          conv => cbv
          refine r_addf m.sY (by omega) (by omega) fun r4 hr4 => ?_
          conv => cbv
          refine r_oindex m.sY (by omega) (by omega) ?_
          conv => cbv
          obtain ⟨x2, hx2⟩ := get_ex (xs := out_2) (i := Int.toNat r4) (by omega)
          have mx2 := get_mem hx2
          have vx2 := nth_some hx2
          rw [q, nth_append (by rw [List.length_replicate]; omega), List.length_replicate, show Int.toNat r4 - Int.toNat (k_2 + 1) = Int.toNat (xB - 1) by omega] at vx2
          have eb2 := sb (Int.toNat (xB - 1))
          try dsimp only at eb2
          refine r_oload m.sY hx2 (Nat.le_of_ble_eq_true rfl) ?_
          conv => cbv
          refine r_subf m.sY (by omega) (by omega) fun r5 hr5 => ?_
          conv => cbv
          refine r_subf m.sY (by omega) (by omega) fun r6 hr6 => ?_
          conv => cbv
          refine r_callFS (PV.int .i64) m.sY (l1Least_ok start_2 r6) trivial fun start_3 hstart_3 => ?_
          conv => cbv
          try dsimp only at hstart_3
          refine r_addf m.sX (by omega) (by omega) fun r7 hr7 => ?_
          conv => cbv
          have tr7 : Int.toNat r7 = Int.toNat i1 + 1 := by omega
          refine hE2 _ (start_3, r7) ?_ ?_ ⟨(by (try dsimp only); first | omega | (simp only [List.length_nil]; omega)), (by (try dsimp only); first | omega | (simp only [List.length_nil]; omega)), (by (try dsimp only); rw [p, dx, tr7]; simp only [stepL]; congr 1; split <;> omega), (by (try dsimp only); first | omega | rfl | (simp [*]; done) | (rw [b]; simp [*]; done))⟩ (by first | omega | (dsimp only; omega))
          · cbv
          · cbv
        · refine r_addf m.sX (by omega) (by omega) fun r8 hr8 => ?_
          conv => cbv
          have tr8 : Int.toNat r8 = Int.toNat i1 + 1 := by omega
          refine hE2 _ (start_2, r8) ?_ ?_ ⟨(by (try dsimp only); first | omega | (simp only [List.length_nil]; omega)), (by (try dsimp only); first | omega | (simp only [List.length_nil]; omega)), (by (try dsimp only); rw [p, dx, tr8]; simp only [stepL]; congr 1; split <;> omega), (by (try dsimp only); first | omega | rfl | (simp [*]; done) | (rw [b]; simp [*]; done))⟩ (by first | omega | (dsimp only; omega))
          · cbv
          · cbv
      · have dz_i1 := drop_end (xs := l) (i := Int.toNat i1) (by omega)
        have tz_i1 := take_end (xs := l) (i := Int.toNat i1) (by omega)
        refine hF2 _ _ ?_
        conv => cbv
        refine r_oindex m.sX (by omega) (by omega) ?_
        conv => cbv
        obtain ⟨y2, hy2⟩ := get_ex (xs := out_2) (i := Int.toNat k_2) (by omega)
        refine r_ostore (l := Int.toNat k_2) start_2 m.sX hy2 (Nat.le_of_ble_eq_true rfl) rfl fun out_3 hout_3 => ?_   -- out_3 = out_2.set k_2 start_2
        have lout_3 : (out_3.length : Int) = out_2.length := by rw [hout_3]; first | done | (simp; done) | (simp; omega)
        have e3 : out_3 = List.replicate (Int.toNat k_2) 0 ++ start_2 :: latF n l gap total (Int.toNat (n - 1 - k_2)) := by rw [hout_3, q, show Int.toNat (k_2 + 1) = Int.toNat k_2 + 1 by omega, List.replicate_succ', List.append_assoc]; exact set_mid (by simp)
        conv => cbv
        refine r_subf m.sX (by omega) (by omega) fun k_3 hk_3 => ?_
        conv => cbv
        refine hE _ (out_3, k_3) ?_ ?_ ⟨(by (try dsimp only); first | omega | rfl | (simp [*]; done) | (rw [k1]; simp [*]; done)), (by (try dsimp only); rw [dz_i1, stepL] at p; rw [show Int.toNat (n - 1 - k_3) = Int.toNat (n - 1 - k_2) + 1 by omega, latF, show n - 1 - ((Int.toNat (n - 1 - k_2) : Nat) : Int) = k_2 by omega, vx1, ← hstart, p, show Int.toNat (k_3 + 1) = Int.toNat k_2 by omega]; exact e3)⟩ (by first | omega | (dsimp only; omega))
        · cbv
        · cbv
    · refine hF _ _ ?_
      conv => cbv
      exact hQ (.fr 3 1 (rows cInt out_2)) (Eq.trans (by first | rfl | (simp only [lb, lbI, rows_cons, rows_nil, unnilT, unnil, unnilTI, unnilI]; done) | (simp only [lb, lbI, rows_cons, rows_nil, unnilT, unnil, unnilTI, unnilI]; rfl)) (congrArg (fun l => PV.fr 3 1 (rows cInt l)) (show out_2 = latF n l gap total n.toNat from by rw [q, show Int.toNat (k_2 + 1) = 0 by omega, show Int.toNat (n - 1 - k_2) = Int.toNat n by omega]; rfl))))   -- leaf 1

theorem isTotal_ok (n : Int) (l : List Entry) (gap : Int) (total : Int) (hn : -1000 ≤ n ∧ n ≤ 1000) : OkA Try.prog 229 [.int .i64 n, .isl 3 (rows cEntry l), .int .i64 gap, .int .i64 total] (· = .bool (isTot n l gap total)) :=
  fn_intro envOk fieldsOk mixed Try.func229 rfl fun κ X Y L Q m hQ => by
    conv => cbv
    refine r_callB m.sX (isGapped_ok n l gap (by first | rfl | assumption | omega | (simp only [List.length_append, List.length_cons, List.length_nil] at *; omega))) (fun h1 => ?_) (fun h1 => ?_) <;> conv => cbv
    · have ht := okG_in h1
      refine r_callB m.sX (within_ok total 0 5000) (fun h2 => ?_) (fun h2 => ?_) <;> conv => cbv
      · refine r_callF (PV.int .i64) m.sX (width_ok n l gap (by first | rfl | assumption | omega | (simp only [List.length_append, List.length_cons, List.length_nil] at *; omega))) fun r1 hr1 => ?_
        conv => cbv
        refine r_geq m.sX (fun h3 => ?_) (fun h3 => ?_) <;> conv => cbv
        · exact hQ _ (congrArg PV.bool (by rw [isTot, h1, h2, ← hr1, decide_eq_true (by omega)]; rfl))   -- leaf 1
        · exact hQ _ (congrArg PV.bool (by rw [isTot, h1, h2, ← hr1, decide_eq_false (by omega)]; rfl))   -- leaf 2
      · exact hQ _ (congrArg PV.bool (by rw [isTot, h1, h2]; rfl))   -- leaf 3
    · exact hQ _ (congrArg PV.bool (by rw [isTot, h1]; rfl))   -- leaf 4

theorem LatestColumns_ok (n : Int) (l : List Entry) (gap : Int) (total : Int) (hn : -1000 ≤ n ∧ n ≤ 1000) : OkA Try.prog 64 [.int .i64 n, .isl 3 (rows cEntry l), .int .i64 gap, .int .i64 total] (· = (lbI 1 cInt) (latAns n l gap total)) :=
  OkA.iceI 1 (fn_intro envOk fieldsOk mixed Try.func64 rfl fun κ X Y L Q m hQ => by
    conv => cbv
    refine r_callB m.sX (isTotal_ok n l gap total (by first | rfl | assumption | omega | (simp only [List.length_append, List.length_cons, List.length_nil] at *; omega))) (fun h1 => ?_) (fun h1 => ?_) <;> conv => cbv
    · obtain ⟨i1, ht, ib, it⟩ := isTot_spec h1
      have hc := ht.cols
      have ll := latF_length n l gap total (Int.toNat (n - 1))
      refine r_callF (fun l => PV.fr _ _ (rows _ l)) m.sX (latest_ok n l gap total (by first | rfl | assumption | omega | (simp only [List.length_append, List.length_cons, List.length_nil] at *; omega)) (by first | rfl | assumption | omega | (simp only [List.length_append, List.length_cons, List.length_nil] at *; omega))) fun v1 hv1 => ?_
      conv => cbv
      have l1 : (v1.length : Int) = n + 1 := by rw [hv1, List.length_cons, ll]; omega
      refine r_islice (i := n) (j := n) m.sX (by omega) (by omega) (by omega) fun _ _ => ?_
      refine r_islice (i := 0) (j := n) m.sX (by omega) (by omega) (by omega) fun zs1 hzs1 => ?_   -- zs1 = v1[None:n]
      have lzs1 : (zs1.length : Int) = n - 0 := by rw [hzs1]; first | done | (simp; done) | (simp; omega)
      conv => cbv
      exact hQ (.tup [.isl 1 (rows cInt zs1), .bool true]) (Eq.trans (by first | rfl | (simp only [lb, lbI, rows_cons, rows_nil, unnilT, unnil, unnilTI, unnilI]; done) | (simp only [lb, lbI, rows_cons, rows_nil, unnilT, unnil, unnilTI, unnilI]; rfl)) (congrArg ((lbI 1 cInt)) (show (zs1, true) = latAns n l gap total from by rw [latAns, if_pos h1, hzs1, hv1, show Int.toNat n = Int.toNat (n - 1) + 1 by omega]; rfl)))   -- leaf 1
    · exact hQ (.tup [.fr 3 1 [], .bool false]) (Eq.trans (by first | rfl | (simp only [lb, lbI, rows_cons, rows_nil, unnilT, unnil, unnilTI, unnilI]; done) | (simp only [lb, lbI, rows_cons, rows_nil, unnilT, unnil, unnilTI, unnilI]; rfl)) (congrArg ((lbI 1 cInt)) (show ([], false) = latAns n l gap total from by rw [latAns, h1]; rfl))))   -- leaf 2

theorem specLatestColumns_ok (n : Int) (l : List Entry) (gap : Int) (total : Int) (hn : -1000 ≤ n ∧ n ≤ 1000) : OkA Try.prog 65 [.int .i64 n, .isl 3 (rows cEntry l), .int .i64 gap, .int .i64 total] (· = (lb 3 1 cInt) (latAns n l gap total)) :=
  OkA.unnil 3 1 (fn_intro envOk fieldsOk mixed Try.func65 rfl fun κ X Y L Q m hQ => by
    conv => cbv
    refine r_callB m.sX (tbAsked_ok n l gap (by first | rfl | assumption | omega | (simp only [List.length_append, List.length_cons, List.length_nil] at *; omega))) (fun h1 => ?_) (fun h1 => ?_) <;> conv => cbv
    · have ht := okG_in h1
      have hc := ht.cols
      refine r_callB m.sX (l1In_ok total 0 5000) (fun h2 => ?_) (fun h2 => ?_) <;> conv => cbv
      · have ib := inB_spec h2
        refine r_callF (PV.int .i64) m.sX (tbWidth_ok n l gap (by first | rfl | assumption | omega | (simp only [List.length_append, List.length_cons, List.length_nil] at *; omega))) fun r1 hr1 => ?_
        conv => cbv
        refine r_lss m.sX (fun h3 => ?_) (fun h3 => ?_) <;> conv => cbv
        · exact hQ (.tup [.nil, .bool false]) (Eq.trans (by first | rfl | (simp only [lb, lbI, rows_cons, rows_nil, unnilT, unnil, unnilTI, unnilI]; done) | (simp only [lb, lbI, rows_cons, rows_nil, unnilT, unnil, unnilTI, unnilI]; rfl)) (congrArg ((lb 3 1 cInt)) (show ([], false) = latAns n l gap total from by rw [latAns, isTot, h1, h2, ← hr1, decide_eq_false (by omega)]; rfl)))   -- leaf 1
        · have it : isTot n l gap total = true := by rw [isTot, h1, h2, ← hr1, decide_eq_true (by omega)]; rfl
          have ll := latF_length n l gap total (Int.toNat n)
          refine r_callF (fun l => PV.fr _ _ (rows _ l)) m.sX (tbLatest_ok n l gap total (by first | rfl | assumption | omega | (simp only [List.length_append, List.length_cons, List.length_nil] at *; omega)) (by first | rfl | assumption | omega | (simp only [List.length_append, List.length_cons, List.length_nil] at *; omega))) fun v1 hv1 => ?_
          conv => cbv
          rw [← hv1] at ll
          refine r_islice (i := 0) (j := n) m.sX (by omega) (by omega) (by omega) fun zs1 hzs1 => ?_   -- zs1 = v1[None:n]
          have lzs1 : (zs1.length : Int) = n - 0 := by rw [hzs1]; first | done | (simp; done) | (simp; omega)
          conv => cbv
          refine .inl (r_callFO (fun l => PV.fr _ _ (rows _ l)) m.sX ((l1Own_ok zs1 (by first | rfl | assumption | omega | (simp only [List.length_append, List.length_cons, List.length_nil] at *; omega))).ok (flat_fr flat_cInt)) fun out hout => ?_)
          conv => cbv
          have lo2 : (out.length : Int) = n := by rw [hout]; omega
          refine r_oindex m.sX (by omega) (by omega) ?_
          conv => cbv
          obtain ⟨y1, hy1⟩ := get_ex (xs := out) (i := Int.toNat 0) (by omega)
          refine r_ostore (l := Int.toNat 0) 0 m.sX hy1 (Nat.le_of_ble_eq_true rfl) rfl fun zs2 hzs2 => ?_   -- zs2 = out.set 0 0
          have lzs2 : (zs2.length : Int) = out.length := by rw [hzs2]; first | done | (simp; done) | (simp; omega)
          conv => cbv
          exact hQ (.tup [.fr 3 1 (rows cInt zs2), .bool true]) (Eq.trans (by first | rfl | (simp only [lb, lbI, rows_cons, rows_nil, unnilT, unnil, unnilTI, unnilI]; done) | (simp only [lb, lbI, rows_cons, rows_nil, unnilT, unnil, unnilTI, unnilI]; rfl)) (congrArg ((lb 3 1 cInt)) (show (zs2, true) = latAns n l gap total from by rw [latAns, if_pos it, hzs2, hout, hzs1, hv1, show Int.toNat n = Int.toNat (n - 1) + 1 by omega]; rfl)))   -- leaf 2
      · exact hQ (.tup [.nil, .bool false]) (Eq.trans (by first | rfl | (simp only [lb, lbI, rows_cons, rows_nil, unnilT, unnil, unnilTI, unnilI]; done) | (simp only [lb, lbI, rows_cons, rows_nil, unnilT, unnil, unnilTI, unnilI]; rfl)) (congrArg ((lb 3 1 cInt)) (show ([], false) = latAns n l gap total from by rw [latAns, isTot, h1, h2]; rfl)))   -- leaf 3
    · exact hQ (.tup [.nil, .bool false]) (Eq.trans (by first | rfl | (simp only [lb, lbI, rows_cons, rows_nil, unnilT, unnil, unnilTI, unnilI]; done) | (simp only [lb, lbI, rows_cons, rows_nil, unnilT, unnil, unnilTI, unnilI]; rfl)) (congrArg ((lb 3 1 cInt)) (show ([], false) = latAns n l gap total from by rw [latAns, isTot, h1]; rfl))))   -- leaf 4

theorem roomOf_ok (n : Int) (l : List Entry) (gap : Int) (x : Entry) (ht : TabIn n l gap) (hx : x ∈ l) : OkA Try.prog 222 [.int .i64 n, .isl 3 (rows cEntry l), .int .i64 gap, .agg (cEntry x)] (· = .int .i64 (roomF n l gap x)) := by
  obtain ⟨xA, xB, xC⟩ := x
  try dsimp only at *
  exact fn_intro envOk fieldsOk mixed Try.func222 rfl fun κ X Y L Q m hQ => by
    have hc := ht.cols
    try dsimp only at hc
    have hgp := ht.gap
    try dsimp only at hgp
    have ex := okE_spec (ht.ent _ hx)
    try dsimp only at ex
    have sg := sAt_gap ht
    try dsimp only at sg
    conv => cbv
    refine r_callF (PV.int .i64) m.sX (width_ok n l gap (by first | rfl | assumption | omega | (simp only [List.length_append, List.length_cons, List.length_nil] at *; omega))) fun r1 hr1 => ?_
    conv => cbv
    try dsimp only at hr1
    have hb : 0 ≤ r1 ∧ r1 ≤ 10000 := by omega
    refine r_callF (fun l => PV.fr _ _ (rows _ l)) m.sX (latest_ok n l gap r1 (by first | rfl | assumption | omega | (simp only [List.length_append, List.length_cons, List.length_nil] at *; omega)) (by first | rfl | assumption | omega | (simp only [List.length_append, List.length_cons, List.length_nil] at *; omega))) fun last hlast => ?_
    conv => cbv
    try dsimp only at hlast
    have ll := latF_length n l gap r1 (Int.toNat (n - 1))
    try dsimp only at ll
    have l1 : (last.length : Int) = n + 1 := by rw [hlast, List.length_cons, ll]; omega
    refine r_draw m (by kernel_rfl) ?_
    conv => cbv
    refine r_addf m.sY (by omega) (by omega) fun r2 hr2 => ?_
    conv => cbv
    refine r_oindex m.sY (by omega) (by omega) ?_
    conv => cbv
    obtain ⟨x1, hx1⟩ := get_ex (xs := last) (i := Int.toNat r2) (by omega)
    have mx1 := get_mem hx1
    have vx1 := nth_some hx1
    have sb := lat_bound ht hb (Int.toNat (n - 1)) (Int.toNat r2 - 1)
    try dsimp only at sb
    rw [hlast, show Int.toNat r2 = Int.toNat r2 - 1 + 1 by omega, nth_cons] at vx1
    have e1 := lAt_of (n := n) (l := l) (g := gap) (tot := r1) (j := Int.toNat (n - 1)) (i := Int.toNat r2 - 1) (by omega) (by omega)
    try dsimp only at e1
    rw [vx1, show Int.toNat n - Int.toNat (n - 1) + (Int.toNat r2 - 1) = Int.toNat r2 by omega] at e1
    refine r_oload m.sY hx1 (Nat.le_of_ble_eq_true rfl) ?_
    conv => cbv
    refine r_subf m.sY (by omega) (by omega) fun r3 hr3 => ?_
    conv => cbv
    refine r_callFS (fun l => PV.isl _ (rows _ l)) m.sY ((starts_ok n l gap (by first | rfl | assumption | omega | (simp only [List.length_append, List.length_cons, List.length_nil] at *; omega))).ice) trivial fun v1 hv1 => ?_
    conv => cbv
    try dsimp only at hv1
    have lv := startsF_length l gap (Int.toNat n)
    try dsimp only at lv
    rw [← hv1] at lv
    refine r_index m.sY (by omega) (by omega) fun x2 hx2 => ?_
    conv => cbv
    have mx2 := get_mem hx2
    have vx2 := nth_some hx2
    have s2 := starts_bound ht (Int.toNat n) (Int.toNat xA)
    try dsimp only at s2
    rw [← hv1, vx2] at s2
    have e2 : x2 = sAt l gap (Int.toNat xA) := by rw [← vx2, hv1]; exact starts_at _ _ _ _ (by omega)
    refine r_subf m.sY (by omega) (by omega) fun r4 hr4 => ?_
    conv => cbv
    refine r_subf m.sY (by omega) (by omega) fun r5 hr5 => ?_
    conv => cbv
    exact hQ (.int .i64 r5) (Eq.trans (by first | rfl | (simp only [lb, lbI, rows_cons, rows_nil, unnilT, unnil, unnilTI, unnilI]; done) | (simp only [lb, lbI, rows_cons, rows_nil, unnilT, unnil, unnilTI, unnilI]; rfl)) (congrArg (PV.int .i64) (show r5 = roomF n l gap (xA, xB, xC) from by rw [roomF, ← hr1]; dsimp only; rw [← hr2]; omega)))   -- leaf 1

theorem tbRoom_ok (n : Int) (l : List Entry) (gap : Int) (i : Int) (ht : TabIn n l gap) (hi : 0 ≤ i ∧ i < l.length) : OkA Try.prog 224 [.int .i64 n, .isl 3 (rows cEntry l), .int .i64 gap, .int .i64 i] (· = .int .i64 (roomAt n l gap i)) :=
  fn_intro envOk fieldsOk mixed Try.func224 rfl fun κ X Y L Q m hQ => by
    have hc := ht.cols
    have hgp := ht.gap
    have sg := sAt_gap ht
    conv => cbv
    refine r_index m.sX (by omega) (by omega) fun v hxA => ?_
    obtain ⟨xA, xB, xC⟩ := v
    conv => cbv
    have hx := hxA
    have mx := get_mem hx
    have ex := okE_spec (ht.ent _ mx)
    try dsimp only at ex
    refine r_callF (fun l => PV.fr _ _ (rows _ l)) m.sX (tbStarts_ok n l gap (by first | rfl | assumption | omega | (simp only [List.length_append, List.length_cons, List.length_nil] at *; omega))) fun early hearly => ?_
    conv => cbv
    try dsimp only at hearly
    have lv := startsF_length l gap (Int.toNat n)
    try dsimp only at lv
    rw [← hearly] at lv
    refine r_callF (PV.int .i64) m.sX (tbWidth_ok n l gap (by first | rfl | assumption | omega | (simp only [List.length_append, List.length_cons, List.length_nil] at *; omega))) fun r1 hr1 => ?_
    conv => cbv
    try dsimp only at hr1
    have hb : 0 ≤ r1 ∧ r1 ≤ 10000 := by omega
    refine r_callF (fun l => PV.fr _ _ (rows _ l)) m.sX (tbLatest_ok n l gap r1 (by first | rfl | assumption | omega | (simp only [List.length_append, List.length_cons, List.length_nil] at *; omega)) (by first | rfl | assumption | omega | (simp only [List.length_append, List.length_cons, List.length_nil] at *; omega))) fun late hlate => ?_
    conv => cbv
    try dsimp only at hlate
    have ll := latF_length n l gap r1 (Int.toNat n)
    try dsimp only at ll
    rw [← hlate] at ll
    refine r_draw m (by kernel_rfl) ?_
    conv => cbv
    refine r_addf m.sY (by omega) (by omega) fun r2 hr2 => ?_
    conv => cbv
    refine r_oindex m.sY (by omega) (by omega) ?_
    conv => cbv
    obtain ⟨x1, hx1⟩ := get_ex (xs := late) (i := Int.toNat r2) (by omega)
    have mx1 := get_mem hx1
    have vx1 := nth_some hx1
    have sb := lat_bound ht hb (Int.toNat n) (Int.toNat r2)
    try dsimp only at sb
    have e1 := lAt_of (n := n) (l := l) (g := gap) (tot := r1) (j := Int.toNat n) (i := Int.toNat r2) (by omega) (by omega)
    try dsimp only at e1
    rw [← hlate, vx1] at e1 sb
    rw [show Int.toNat n - Int.toNat n + Int.toNat r2 = Int.toNat r2 by omega] at e1
    refine r_oload m.sY hx1 (Nat.le_of_ble_eq_true rfl) ?_
    conv => cbv
    refine r_oindex m.sY (by omega) (by omega) ?_
    conv => cbv
    obtain ⟨x2, hx2⟩ := get_ex (xs := early) (i := Int.toNat xA) (by omega)
    have mx2 := get_mem hx2
    have vx2 := nth_some hx2
    have s2 := starts_bound ht (Int.toNat n) (Int.toNat xA)
    try dsimp only at s2
    rw [← hearly, vx2] at s2
    have e2 : x2 = sAt l gap (Int.toNat xA) := by rw [← vx2, hearly]; exact starts_at _ _ _ _ (by omega)
    refine r_oload m.sY hx2 (Nat.le_of_ble_eq_true rfl) ?_
    conv => cbv
    refine r_subf m.sY (by omega) (by omega) fun r3 hr3 => ?_
    conv => cbv
    refine r_subf m.sY (by omega) (by omega) fun r4 hr4 => ?_
    conv => cbv
    refine r_subf m.sY (by omega) (by omega) fun r5 hr5 => ?_
    conv => cbv
    exact hQ (.int .i64 r5) (Eq.trans (by first | rfl | (simp only [lb, lbI, rows_cons, rows_nil, unnilT, unnil, unnilTI, unnilI]; done) | (simp only [lb, lbI, rows_cons, rows_nil, unnilT, unnil, unnilTI, unnilI]; rfl)) (congrArg (PV.int .i64) (show r5 = roomAt n l gap i from by rw [roomAt, hx]; dsimp only; rw [roomF, ← hr1]; dsimp only; rw [← hr2]; omega)))   -- leaf 1

theorem RoomOfEntry_ok (n : Int) (l : List Entry) (gap : Int) (i : Int) (hn : -1000 ≤ n ∧ n ≤ 1000) : OkA Try.prog 59 [.int .i64 n, .isl 3 (rows cEntry l), .int .i64 gap, .int .i64 i] (· = ib (roomAns n l gap i)) :=
  fn_intro envOk fieldsOk mixed Try.func59 rfl fun κ X Y L Q m hQ => by
    conv => cbv
    refine r_callB m.sX (isGapped_ok n l gap (by first | rfl | assumption | omega | (simp only [List.length_append, List.length_cons, List.length_nil] at *; omega))) (fun h1 => ?_) (fun h1 => ?_) <;> conv => cbv
    · have ht := okG_in h1
      refine r_lenR m.sX fun n1 hn1 mn1 => ?_
      conv => cbv
      refine r_subf m.sX (by omega) (by omega) fun r1 hr1 => ?_
      conv => cbv
      refine r_callB m.sX (within_ok i 0 r1) (fun h2 => ?_) (fun h2 => ?_) <;> conv => cbv
      · have bi := inB_spec h2
        refine r_index m.sX (by omega) (by omega) fun v hx1A => ?_
        obtain ⟨x1A, x1B, x1C⟩ := v
        conv => cbv
        have hx1 := hx1A
        have mx1 := get_mem hx1
        refine r_callF (PV.int .i64) m.sX (roomOf_ok n l gap (x1A, x1B, x1C) (by first | rfl | assumption | omega | (simp only [List.length_append, List.length_cons, List.length_nil] at *; omega)) (by first | rfl | assumption | omega | (simp only [List.length_append, List.length_cons, List.length_nil] at *; omega))) fun r2 hr2 => ?_
        conv => cbv
        try dsimp only at hr2
        exact hQ (.tup [.int .i64 r2, .bool true]) (Eq.trans (by first | rfl | (simp only [lb, lbI, rows_cons, rows_nil, unnilT, unnil, unnilTI, unnilI]; done) | (simp only [lb, lbI, rows_cons, rows_nil, unnilT, unnil, unnilTI, unnilI]; rfl)) (congrArg (ib) (show (r2, true) = roomAns n l gap i from by rw [roomAns, h1, ← hn1, ← hr1, h2, roomAt, hx1]; simp only [Bool.and_self, if_true]; rw [← hr2])))   -- leaf 1
      · exact hQ (.tup [.int .i64 0, .bool false]) (Eq.trans (by first | rfl | (simp only [lb, lbI, rows_cons, rows_nil, unnilT, unnil, unnilTI, unnilI]; done) | (simp only [lb, lbI, rows_cons, rows_nil, unnilT, unnil, unnilTI, unnilI]; rfl)) (congrArg (ib) (show (0, false) = roomAns n l gap i from by rw [roomAns, h1, ← hn1, ← hr1, h2]; rfl)))   -- leaf 2
    · exact hQ (.tup [.int .i64 0, .bool false]) (Eq.trans (by first | rfl | (simp only [lb, lbI, rows_cons, rows_nil, unnilT, unnil, unnilTI, unnilI]; done) | (simp only [lb, lbI, rows_cons, rows_nil, unnilT, unnil, unnilTI, unnilI]; rfl)) (congrArg (ib) (show (0, false) = roomAns n l gap i from by rw [roomAns, h1]; rfl)))   -- leaf 3

theorem specRoomOfEntry_ok (n : Int) (l : List Entry) (gap : Int) (i : Int) (hn : -1000 ≤ n ∧ n ≤ 1000) : OkA Try.prog 60 [.int .i64 n, .isl 3 (rows cEntry l), .int .i64 gap, .int .i64 i] (· = ib (roomAns n l gap i)) :=
  fn_intro envOk fieldsOk mixed Try.func60 rfl fun κ X Y L Q m hQ => by
    conv => cbv
    refine r_callB m.sX (tbAsked_ok n l gap (by first | rfl | assumption | omega | (simp only [List.length_append, List.length_cons, List.length_nil] at *; omega))) (fun h1 => ?_) (fun h1 => ?_) <;> conv => cbv
    · have ht := okG_in h1
      refine r_lenR m.sX fun n1 hn1 mn1 => ?_
      conv => cbv
      refine r_subf m.sX (by omega) (by omega) fun r1 hr1 => ?_
      conv => cbv
      refine r_callB m.sX (l1In_ok i 0 r1) (fun h2 => ?_) (fun h2 => ?_) <;> conv => cbv
      · have bi := inB_spec h2
        refine r_callF (PV.int .i64) m.sX (tbRoom_ok n l gap i (by first | rfl | assumption | omega | (simp only [List.length_append, List.length_cons, List.length_nil] at *; omega)) (by first | rfl | assumption | omega | (simp only [List.length_append, List.length_cons, List.length_nil] at *; omega))) fun r2 hr2 => ?_
        conv => cbv
        exact hQ (.tup [.int .i64 r2, .bool true]) (Eq.trans (by first | rfl | (simp only [lb, lbI, rows_cons, rows_nil, unnilT, unnil, unnilTI, unnilI]; done) | (simp only [lb, lbI, rows_cons, rows_nil, unnilT, unnil, unnilTI, unnilI]; rfl)) (congrArg (ib) (show (r2, true) = roomAns n l gap i from by rw [roomAns, h1, ← hn1, ← hr1, h2]; simp only [Bool.and_self, if_true]; rw [← hr2])))   -- leaf 1
      · exact hQ (.tup [.int .i64 0, .bool false]) (Eq.trans (by first | rfl | (simp only [lb, lbI, rows_cons, rows_nil, unnilT, unnil, unnilTI, unnilI]; done) | (simp only [lb, lbI, rows_cons, rows_nil, unnilT, unnil, unnilTI, unnilI]; rfl)) (congrArg (ib) (show (0, false) = roomAns n l gap i from by rw [roomAns, h1, ← hn1, ← hr1, h2]; rfl)))   -- leaf 2
    · exact hQ (.tup [.int .i64 0, .bool false]) (Eq.trans (by first | rfl | (simp only [lb, lbI, rows_cons, rows_nil, unnilT, unnil, unnilTI, unnilI]; done) | (simp only [lb, lbI, rows_cons, rows_nil, unnilT, unnil, unnilTI, unnilI]; rfl)) (congrArg (ib) (show (0, false) = roomAns n l gap i from by rw [roomAns, h1]; rfl)))   -- leaf 3

theorem TightEntries_ok (n : Int) (l : List Entry) (gap : Int) (hn : -1000 ≤ n ∧ n ≤ 1000) : OkA Try.prog 57 [.int .i64 n, .isl 3 (rows cEntry l), .int .i64 gap] (· = (lb 3 1 cInt) (tightAns n l gap)) :=
  OkA.unnil 3 1 (fn_intro envOk fieldsOk mixed Try.func57 rfl fun κ X Y L Q m hQ => by
    conv => cbv
    refine r_callB m.sX (isGapped_ok n l gap (by first | rfl | assumption | omega | (simp only [List.length_append, List.length_cons, List.length_nil] at *; omega))) (fun h1 => ?_) (fun h1 => ?_) <;> conv => cbv
    · have ht := okG_in h1
      have hl := ht.len
      refine r_lenR m.sX fun n1 hn1 mn1 => ?_
      conv => cbv
      refine r_loopF (α := List Int × Int) m 37 [0, 1, 2, 18, 19, 20] [⟨8, 65, 3, 1, 0⟩] (fun σ => [(0, .int .i64 n), (1, .isl 3 (rows cEntry l)), (2, .int .i64 gap), (8, .osl 65 0), (18, .isl 3 (rows cEntry l)), (19, .int .i64 n1), (20, .int .i64 σ.2)]) (fun σ => [(65, 0, .row 3 1 (rows cInt σ.1))])
        (fun σ => (0 ≤ σ.2) ∧ (σ.2 ≤ n1) ∧ (tightL n l gap 0 l = σ.1 ++ tightL n l gap σ.2 (l.drop σ.2.toNat)) ∧ ((σ.1.length : Int) ≤ σ.2)) (fun σ => (n1 - σ.2).toNat) ([], 0) ?_ ?_ ?_ ?_
      · cbv
      · (try dsimp only); simp only [rows_cons, rows_nil]; cbv
      · exact ⟨(by (try dsimp only); first | omega | (simp only [List.length_nil]; omega)), (by (try dsimp only); first | omega | (simp only [List.length_nil]; omega)), (by (try dsimp only); first | omega | rfl | (simp [*]; done)), (by (try dsimp only); first | omega | rfl | (simp [*]; done))⟩
      rintro ⟨list, i1⟩ ⟨lo1, hi1, q, ln⟩ E hE F hF
      dsimp only at lo1 hi1 q ln
      conv => cbv
      refine r_lss m.sX (fun h2 => ?_) (fun h2 => ?_) <;> conv => cbv
      · refine r_index m.sX (by omega) (by omega) fun v hxA => ?_
        obtain ⟨xA, xB, xC⟩ := v
        conv => cbv
        have hx := hxA
        have mx := get_mem hx
        have dx := drop_cons hx
        have kx := take_snoc hx
        have jx : (i1 + 1).toNat = Int.toNat i1 + 1 := by omega
        refine r_callF (PV.int .i64) m.sX (roomOf_ok n l gap (xA, xB, xC) (by first | rfl | assumption | omega | (simp only [List.length_append, List.length_cons, List.length_nil] at *; omega)) (by first | rfl | assumption | omega | (simp only [List.length_append, List.length_cons, List.length_nil] at *; omega))) fun r1 hr1 => ?_
        conv => cbv
        try dsimp only at hr1
        refine r_eql m.sX (fun h3 => ?_) (fun h3 => ?_) <;> conv => cbv
        · refine r_append1 (i1) m.sX rfl (by first | omega | (dsimp only; omega)) (by first | omega | (dsimp only; omega)) fun list_2 hlist_2 => ?_
          conv => cbv
          have llist_2 : (list_2.length : Int) = list.length + 1 := by rw [hlist_2]; first | done | (simp; done) | (simp; omega)
          refine r_addf m.sX (by omega) (by omega) fun r2 hr2 => ?_
          conv => cbv
          have tr2 : Int.toNat r2 = Int.toNat i1 + 1 := by omega
          refine hE _ (list_2, r2) ?_ ?_ ⟨(by (try dsimp only); first | omega | (simp only [List.length_nil]; omega)), (by (try dsimp only); first | omega | (simp only [List.length_nil]; omega)), (by (try dsimp only); rw [q, dx, tr2, tightL, ← hr1, show i1 + 1 = r2 by omega]; first | (rw [if_neg (by assumption)]) | (rw [if_pos (by omega), hlist_2, List.append_assoc]; rfl)), (by (try dsimp only); first | omega | rfl | (simp [*]; done) | (rw [ln]; simp [*]; done))⟩ (by first | omega | (dsimp only; omega))
          · cbv
          · cbv
        · refine r_addf m.sX (by omega) (by omega) fun r3 hr3 => ?_
          conv => cbv
          have tr3 : Int.toNat r3 = Int.toNat i1 + 1 := by omega
          refine hE _ (list, r3) ?_ ?_ ⟨(by (try dsimp only); first | omega | (simp only [List.length_nil]; omega)), (by (try dsimp only); first | omega | (simp only [List.length_nil]; omega)), (by (try dsimp only); rw [q, dx, tr3, tightL, ← hr1, show i1 + 1 = r3 by omega]; first | (rw [if_neg (by assumption)]) | (rw [if_pos (by omega), hlist, List.append_assoc]; rfl)), (by (try dsimp only); first | omega | rfl | (simp [*]; done) | (rw [ln]; simp [*]; done))⟩ (by first | omega | (dsimp only; omega))
          · cbv
          · cbv
      · have dz_i1 := drop_end (xs := l) (i := Int.toNat i1) (by omega)
        have tz_i1 := take_end (xs := l) (i := Int.toNat i1) (by omega)
        refine hF _ _ ?_
        conv => cbv
        exact hQ (.tup [.fr 3 1 (rows cInt list), .bool true]) (Eq.trans (by first | rfl | (simp only [lb, lbI, rows_cons, rows_nil, unnilT, unnil, unnilTI, unnilI]; done) | (simp only [lb, lbI, rows_cons, rows_nil, unnilT, unnil, unnilTI, unnilI]; rfl)) (congrArg ((lb 3 1 cInt)) (show (list, true) = tightAns n l gap from by rw [tightAns, if_pos h1, q, dz_i1, tightL, List.append_nil])))   -- leaf 1
    · exact hQ (.tup [.fr 3 1 [], .bool false]) (Eq.trans (by first | rfl | (simp only [lb, lbI, rows_cons, rows_nil, unnilT, unnil, unnilTI, unnilI]; done) | (simp only [lb, lbI, rows_cons, rows_nil, unnilT, unnil, unnilTI, unnilI]; rfl)) (congrArg ((lb 3 1 cInt)) (show ([], false) = tightAns n l gap from by rw [tightAns, h1]; rfl))))   -- leaf 2

theorem specTightEntries_ok (n : Int) (l : List Entry) (gap : Int) (hn : -1000 ≤ n ∧ n ≤ 1000) : OkA Try.prog 58 [.int .i64 n, .isl 3 (rows cEntry l), .int .i64 gap] (· = (lb 3 1 cInt) (tightAns n l gap)) :=
  OkA.unnil 3 1 (fn_intro envOk fieldsOk mixed Try.func58 rfl fun κ X Y L Q m hQ => by
    conv => cbv
    refine r_callB m.sX (tbAsked_ok n l gap (by first | rfl | assumption | omega | (simp only [List.length_append, List.length_cons, List.length_nil] at *; omega))) (fun h1 => ?_) (fun h1 => ?_) <;> conv => cbv
    · have ht := okG_in h1
      have hl := ht.len
      refine r_lenR m.sX fun n1 hn1 mn1 => ?_
      conv => cbv
      refine r_loopF (α := List Int × Int) m 32 [0, 1, 2, 16, 17] [⟨8, 65, 3, 1, 0⟩] (fun σ => [(0, .int .i64 n), (1, .isl 3 (rows cEntry l)), (2, .int .i64 gap), (8, .osl 65 0), (16, .int .i64 n1), (17, .int .i64 σ.2)]) (fun σ => [(65, 0, .row 3 1 (rows cInt σ.1))])
        (fun σ => (0 ≤ σ.2) ∧ (σ.2 ≤ n1) ∧ (tightL n l gap 0 l = σ.1 ++ tightL n l gap σ.2 (l.drop σ.2.toNat)) ∧ ((σ.1.length : Int) ≤ σ.2)) (fun σ => (n1 - σ.2).toNat) ([], 0) ?_ ?_ ?_ ?_
      · cbv
      · (try dsimp only); simp only [rows_cons, rows_nil]; cbv
      · exact ⟨(by (try dsimp only); first | omega | (simp only [List.length_nil]; omega)), (by (try dsimp only); first | omega | (simp only [List.length_nil]; omega)), (by (try dsimp only); first | omega | rfl | (simp [*]; done)), (by (try dsimp only); first | omega | rfl | (simp [*]; done))⟩
      rintro ⟨out, i1⟩ ⟨lo1, hi1, q, ln⟩ E hE F hF
      dsimp only at lo1 hi1 q ln
      conv => cbv
      refine r_lss m.sX (fun h2 => ?_) (fun h2 => ?_) <;> conv => cbv
      · refine r_callF (PV.int .i64) m.sX (tbRoom_ok n l gap i1 (by first | rfl | assumption | omega | (simp only [List.length_append, List.length_cons, List.length_nil] at *; omega)) (by first | rfl | assumption | omega | (simp only [List.length_append, List.length_cons, List.length_nil] at *; omega))) fun r1 hr1 => ?_
        conv => cbv
        obtain ⟨y, hy⟩ := get_ex (xs := l) (i := Int.toNat i1) (by omega)
        have dy := drop_cons hy
        have ey : r1 = roomF n l gap y := by rw [hr1, roomAt, hy]
        refine r_eql m.sX (fun h3 => ?_) (fun h3 => ?_) <;> conv => cbv
        · refine r_append1 (i1) m.sX rfl (by first | omega | (dsimp only; omega)) (by first | omega | (dsimp only; omega)) fun out_2 hout_2 => ?_
          conv => cbv
          have lout_2 : (out_2.length : Int) = out.length + 1 := by rw [hout_2]; first | done | (simp; done) | (simp; omega)
          refine r_addf m.sX (by omega) (by omega) fun r2 hr2 => ?_
          conv => cbv
          have tr2 : Int.toNat r2 = Int.toNat i1 + 1 := by omega
          refine hE _ (out_2, r2) ?_ ?_ ⟨(by (try dsimp only); first | omega | (simp only [List.length_nil]; omega)), (by (try dsimp only); first | omega | (simp only [List.length_nil]; omega)), (by (try dsimp only); rw [q, dy, tr2, tightL, ← ey, show i1 + 1 = r2 by omega]; first | (rw [if_neg (by assumption)]) | (rw [if_pos (by omega), hout_2, List.append_assoc]; rfl)), (by (try dsimp only); first | omega | rfl | (simp [*]; done) | (rw [ln]; simp [*]; done))⟩ (by first | omega | (dsimp only; omega))
          · cbv
          · cbv
        · refine r_addf m.sX (by omega) (by omega) fun r3 hr3 => ?_
          conv => cbv
          have tr3 : Int.toNat r3 = Int.toNat i1 + 1 := by omega
          refine hE _ (out, r3) ?_ ?_ ⟨(by (try dsimp only); first | omega | (simp only [List.length_nil]; omega)), (by (try dsimp only); first | omega | (simp only [List.length_nil]; omega)), (by (try dsimp only); rw [q, dy, tr3, tightL, ← ey, show i1 + 1 = r3 by omega]; first | (rw [if_neg (by assumption)]) | (rw [if_pos (by omega), hout, List.append_assoc]; rfl)), (by (try dsimp only); first | omega | rfl | (simp [*]; done) | (rw [ln]; simp [*]; done))⟩ (by first | omega | (dsimp only; omega))
          · cbv
          · cbv
      · have dz_i1 := drop_end (xs := l) (i := Int.toNat i1) (by omega)
        have tz_i1 := take_end (xs := l) (i := Int.toNat i1) (by omega)
        refine hF _ _ ?_
        conv => cbv
        exact hQ (.tup [.fr 3 1 (rows cInt out), .bool true]) (Eq.trans (by first | rfl | (simp only [lb, lbI, rows_cons, rows_nil, unnilT, unnil, unnilTI, unnilI]; done) | (simp only [lb, lbI, rows_cons, rows_nil, unnilT, unnil, unnilTI, unnilI]; rfl)) (congrArg ((lb 3 1 cInt)) (show (out, true) = tightAns n l gap from by rw [tightAns, if_pos h1, q, dz_i1, tightL, List.append_nil])))   -- leaf 1
    · exact hQ (.tup [.nil, .bool false]) (Eq.trans (by first | rfl | (simp only [lb, lbI, rows_cons, rows_nil, unnilT, unnil, unnilTI, unnilI]; done) | (simp only [lb, lbI, rows_cons, rows_nil, unnilT, unnil, unnilTI, unnilI]; rfl)) (congrArg ((lb 3 1 cInt)) (show ([], false) = tightAns n l gap from by rw [tightAns, h1]; rfl))))   -- leaf 2

theorem SpreadTable_ok (n : Int) (l : List Entry) (gap : Int) (total : Int) (hn : -1000 ≤ n ∧ n ≤ 1000) : OkA Try.prog 67 [.int .i64 n, .isl 3 (rows cEntry l), .int .i64 gap, .int .i64 total] (· = (lb 3 1 cInt) (spreadAns n l gap total)) :=
  OkA.unnil 3 1 (fn_intro envOk fieldsOk mixed Try.func67 rfl fun κ X Y L Q m hQ => by
    conv => cbv
    refine r_callB m.sX (isTotal_ok n l gap total (by first | rfl | assumption | omega | (simp only [List.length_append, List.length_cons, List.length_nil] at *; omega))) (fun h1 => ?_) (fun h1 => ?_) <;> conv => cbv
    · obtain ⟨i1', ht, ib, it⟩ := isTot_spec h1
      have hc := ht.cols
      have sg := sAt_gap ht
      refine r_callF (PV.int .i64) m.sX (width_ok n l gap (by first | rfl | assumption | omega | (simp only [List.length_append, List.length_cons, List.length_nil] at *; omega))) fun r1 hr1 => ?_
      conv => cbv
      refine r_subf m.sX (by omega) (by omega) fun more hmore => ?_
      conv => cbv
      refine r_callF (fun l => PV.fr _ _ (rows _ l)) m.sX (columnWidths_ok n l gap (by first | rfl | assumption | omega | (simp only [List.length_append, List.length_cons, List.length_nil] at *; omega))) fun widths hwidths => ?_
      conv => cbv
      have wl := widths_length l gap (Int.toNat n)
      rw [← hwidths] at wl
      have wm := widths_mem ht (m := Int.toNat n) (by omega)
      rw [← hwidths] at wm
      refine r_lenR m.sX fun n1 hn1 mn1 => ?_
      conv => cbv
      refine r_loopF (α := List Int × Int) m 57 [0, 10, 31, 32] [⟨11, 89, 3, 1, 0⟩] (fun σ => [(0, .int .i64 n), (10, .int .i64 more), (11, .osl 89 0), (31, .int .i64 n1), (32, .int .i64 σ.2)]) (fun σ => [(89, 0, .row 3 1 (rows cInt σ.1))])
        (fun σ => (0 ≤ σ.2) ∧ (σ.2 ≤ n1) ∧ (σ.1 = (spread more n widths).take σ.2.toNat ++ widths.drop σ.2.toNat)) (fun σ => (n1 - σ.2).toNat) (widths, 0) ?_ ?_ ?_ ?_
      · cbv
      · cbv
      · exact ⟨(by (try dsimp only); first | omega | (simp only [List.length_nil]; omega)), (by (try dsimp only); first | omega | (simp only [List.length_nil]; omega)), (by (try dsimp only); first | omega | rfl | (simp [*]; done))⟩
      rintro ⟨widths_2, i1⟩ ⟨lo1, hi1, q⟩ E hE F hF
      dsimp only at lo1 hi1 q
      have ws : (widths_2.length : Int) = n := by rw [q]; simp only [List.length_append, List.length_take, List.length_drop, spread_length]; omega
      conv => cbv
      refine r_lss m.sX (fun h2 => ?_) (fun h2 => ?_) <;> conv => cbv
      · refine r_draw m (by kernel_rfl) ?_
        conv => cbv
        refine r_oindex m.sY (by omega) (by omega) ?_
        conv => cbv
        obtain ⟨x1, hx1⟩ := get_ex (xs := widths_2) (i := Int.toNat i1) (by omega)
        have mx1 := get_mem hx1
        have dx1 := drop_cons hx1
        have kx1 := take_snoc hx1
        have jx1 : (i1 + 1).toNat = Int.toNat i1 + 1 := by omega
        have vx1 := nth_some hx1
        rw [spread_at q (by omega)] at vx1
        have bm := wm _ (List.mem_of_getElem? (show widths[Int.toNat i1]? = some (nth widths (Int.toNat i1)) by rw [nth, List.getElem?_eq_getElem (by omega)]; rfl))
        refine r_oload m.sY hx1 (Nat.le_of_ble_eq_true rfl) ?_
        conv => cbv
        refine r_divf m.sY (by omega) (by omega) fun r2 hr2 br2 => ?_
        conv => cbv
        refine r_addf m.sY (by omega) (by omega) fun r3 hr3 => ?_
        conv => cbv
        refine r_oindex m.sY (by omega) (by omega) ?_
        conv => cbv
        obtain ⟨y1, hy1⟩ := get_ex (xs := widths_2) (i := Int.toNat i1) (by omega)
        refine r_ostore (l := Int.toNat i1) r3 m.sY hy1 (Nat.le_of_ble_eq_true rfl) rfl fun widths_3 hwidths_3 => ?_   -- widths_3 = widths_2.set i1 r3
        have lwidths_3 : (widths_3.length : Int) = widths_2.length := by rw [hwidths_3]; first | done | (simp; done) | (simp; omega)
        have wl := widths_length l gap (Int.toNat n)
        rw [← hwidths] at wl
        have wm := widths_mem ht (m := Int.toNat n) (by omega)
        rw [← hwidths] at wm
        conv => cbv
        refine r_modf m.sX (by omega) (by omega) fun r4 hr4 br4 => ?_
        conv => cbv
        refine r_lss m.sX (fun h3 => ?_) (fun h3 => ?_) <;> conv => cbv
        · refine r_oindex m.sX (by omega) (by omega) ?_
          conv => cbv
          obtain ⟨x2, hx2⟩ := get_ex (xs := widths_3) (i := Int.toNat i1) (by omega)
          have mx2 := get_mem hx2
          have dx2 := drop_cons hx2
          have kx2 := take_snoc hx2
          have jx2 : (i1 + 1).toNat = Int.toNat i1 + 1 := by omega
          have vx2 := nth_some hx2
          have e2 : x2 = r3 := by rw [← vx2, hwidths_3, nth, List.getElem?_set_self (by omega)]; rfl
          refine r_oload m.sX hx2 (Nat.le_of_ble_eq_true rfl) ?_
          conv => cbv
          refine r_addf m.sX (by omega) (by omega) fun r5 hr5 => ?_
          conv => cbv
          refine r_oindex m.sX (by omega) (by omega) ?_
          conv => cbv
          obtain ⟨y2, hy2⟩ := get_ex (xs := widths_3) (i := Int.toNat i1) (by omega)
          refine r_ostore (l := Int.toNat i1) r5 m.sX hy2 (Nat.le_of_ble_eq_true rfl) rfl fun widths_4 hwidths_4 => ?_   -- widths_4 = widths_3.set i1 r5
          have lwidths_4 : (widths_4.length : Int) = widths_3.length := by rw [hwidths_4]; first | done | (simp; done) | (simp; omega)
          have wl := widths_length l gap (Int.toNat n)
          rw [← hwidths] at wl
          have wm := widths_mem ht (m := Int.toNat n) (by omega)
          rw [← hwidths] at wm
          conv => cbv
          refine r_addf m.sX (by omega) (by omega) fun r6 hr6 => ?_
          conv => cbv
          have tr6 : Int.toNat r6 = Int.toNat i1 + 1 := by omega
          refine hE _ (widths_4, r6) ?_ ?_ ⟨(by (try dsimp only); first | omega | (simp only [List.length_nil]; omega)), (by (try dsimp only); first | omega | (simp only [List.length_nil]; omega)), (by (try dsimp only); rw [tr6]; first | (rw [hwidths_4, hwidths_3, List.set_set]; exact spread_step q (by omega) (by rw [Int.toNat_of_nonneg lo1, ← hr4, if_pos h3, vx1, ← hr2]; omega)) | (rw [hwidths_3]; exact spread_step q (by omega) (by rw [Int.toNat_of_nonneg lo1, ← hr4, if_neg (by omega), vx1, ← hr2]; omega)))⟩ (by first | omega | (dsimp only; omega))
          · cbv
          · cbv
        · refine r_addf m.sX (by omega) (by omega) fun r7 hr7 => ?_
          conv => cbv
          have tr7 : Int.toNat r7 = Int.toNat i1 + 1 := by omega
          refine hE _ (widths_3, r7) ?_ ?_ ⟨(by (try dsimp only); first | omega | (simp only [List.length_nil]; omega)), (by (try dsimp only); first | omega | (simp only [List.length_nil]; omega)), (by (try dsimp only); rw [tr7]; first | (rw [hwidths_4, hwidths_3, List.set_set]; exact spread_step q (by omega) (by rw [Int.toNat_of_nonneg lo1, ← hr4, if_pos h3, vx1, ← hr2]; omega)) | (rw [hwidths_3]; exact spread_step q (by omega) (by rw [Int.toNat_of_nonneg lo1, ← hr4, if_neg (by omega), vx1, ← hr2]; omega)))⟩ (by first | omega | (dsimp only; omega))
          · cbv
          · cbv
      · have dz_i1 := drop_end (xs := widths) (i := Int.toNat i1) (by omega)
        have tz_i1 := take_end (xs := widths) (i := Int.toNat i1) (by omega)
        refine hF _ _ ?_
        conv => cbv
        exact hQ (.tup [.fr 3 1 (rows cInt widths_2), .bool true]) (Eq.trans (by first | rfl | (simp only [lb, lbI, rows_cons, rows_nil, unnilT, unnil, unnilTI, unnilI]; done) | (simp only [lb, lbI, rows_cons, rows_nil, unnilT, unnil, unnilTI, unnilI]; rfl)) (congrArg ((lb 3 1 cInt)) (show (widths_2, true) = spreadAns n l gap total from by rw [spreadAns, if_pos h1, q, ← hr1, ← hmore, ← hwidths, drop_end (by omega), take_end (by rw [spread_length]; omega), List.append_nil])))   -- leaf 1
    · exact hQ (.tup [.fr 3 1 [], .bool false]) (Eq.trans (by first | rfl | (simp only [lb, lbI, rows_cons, rows_nil, unnilT, unnil, unnilTI, unnilI]; done) | (simp only [lb, lbI, rows_cons, rows_nil, unnilT, unnil, unnilTI, unnilI]; rfl)) (congrArg ((lb 3 1 cInt)) (show ([], false) = spreadAns n l gap total from by rw [spreadAns, h1]; rfl))))   -- leaf 2

theorem specSpreadTable_ok (n : Int) (l : List Entry) (gap : Int) (total : Int) (hn : -1000 ≤ n ∧ n ≤ 1000) : OkA Try.prog 68 [.int .i64 n, .isl 3 (rows cEntry l), .int .i64 gap, .int .i64 total] (· = (lb 3 1 cInt) (spreadAns n l gap total)) :=
  OkA.unnil 3 1 (fn_intro envOk fieldsOk mixed Try.func68 rfl fun κ X Y L Q m hQ => by
    conv => cbv
    refine r_callB m.sX (tbAsked_ok n l gap (by first | rfl | assumption | omega | (simp only [List.length_append, List.length_cons, List.length_nil] at *; omega))) (fun h1 => ?_) (fun h1 => ?_) <;> conv => cbv
    · have ht := okG_in h1
      have hc := ht.cols
      have hgp := ht.gap
      have sg := sAt_gap ht
      refine r_callB m.sX (l1In_ok total 0 5000) (fun h2 => ?_) (fun h2 => ?_) <;> conv => cbv
      · have ib := inB_spec h2
        refine r_callF (PV.int .i64) m.sX (tbWidth_ok n l gap (by first | rfl | assumption | omega | (simp only [List.length_append, List.length_cons, List.length_nil] at *; omega))) fun r1 hr1 => ?_
        conv => cbv
        refine r_lss m.sX (fun h3 => ?_) (fun h3 => ?_) <;> conv => cbv
        · exact hQ (.tup [.nil, .bool false]) (Eq.trans (by first | rfl | (simp only [lb, lbI, rows_cons, rows_nil, unnilT, unnil, unnilTI, unnilI]; done) | (simp only [lb, lbI, rows_cons, rows_nil, unnilT, unnil, unnilTI, unnilI]; rfl)) (congrArg ((lb 3 1 cInt)) (show ([], false) = spreadAns n l gap total from by rw [spreadAns, isTot, h1, h2, ← hr1, decide_eq_false (by omega)]; rfl)))   -- leaf 1
        · have it : isTot n l gap total = true := by rw [isTot, h1, h2, ← hr1, decide_eq_true (by omega)]; rfl
          refine r_callF (fun l => PV.fr _ _ (rows _ l)) m.sX (tbStarts_ok n l gap (by first | rfl | assumption | omega | (simp only [List.length_append, List.length_cons, List.length_nil] at *; omega))) fun v1 hv1 => ?_
          conv => cbv
          have ll := startsF_length l gap (Int.toNat n)
          rw [← hv1] at ll
          have bb : ∀ x ∈ v1, 0 ≤ x ∧ x ≤ 10000 := fun x hx => by have := starts_mem ht (Int.toNat n) x (hv1 ▸ hx); omega
          refine .inl (r_callFO (fun l => PV.fr _ _ (rows _ l)) m.sX ((tbWidths_ok v1 gap (by first | rfl | assumption | omega | (simp only [List.length_append, List.length_cons, List.length_nil] at *; omega)) (by first | rfl | assumption | omega | (simp only [List.length_append, List.length_cons, List.length_nil] at *; omega)) (by first | rfl | assumption | omega | (simp only [List.length_append, List.length_cons, List.length_nil] at *; omega))).ok (flat_fr flat_cInt)) fun out hout => ?_)
          conv => cbv
          have ew : out = widthsF l gap (Int.toNat n) := by rw [hout, hv1, tbw]
          have wl := widths_length l gap (Int.toNat n)
          rw [← ew] at wl
          have wm := widths_mem ht (m := Int.toNat n) (by omega)
          rw [← ew] at wm
          refine r_callF (PV.int .i64) m.sX (tbWidth_ok n l gap (by first | rfl | assumption | omega | (simp only [List.length_append, List.length_cons, List.length_nil] at *; omega))) fun y1 hy1 => ?_
          obtain rfl := hy1.trans hr1.symm
          clear hy1
          conv => cbv
          refine r_subf m.sX (by omega) (by omega) fun more hmore => ?_
          conv => cbv
          refine r_lenR m.sX fun n1 hn1 mn1 => ?_
          conv => cbv
          refine r_loopF (α := List Int × Int) m 70 [0, 11, 44, 45] [⟨10, 81, 3, 1, 0⟩] (fun σ => [(0, .int .i64 n), (10, .osl 81 0), (11, .int .i64 more), (44, .int .i64 n1), (45, .int .i64 σ.2)]) (fun σ => [(81, 0, .row 3 1 (rows cInt σ.1))])
            (fun σ => (0 ≤ σ.2) ∧ (σ.2 ≤ n1) ∧ (σ.1 = (spread more n out).take σ.2.toNat ++ out.drop σ.2.toNat)) (fun σ => (n1 - σ.2).toNat) (out, 0) ?_ ?_ ?_ ?_
          · cbv
          · cbv
          · exact ⟨(by (try dsimp only); first | omega | (simp only [List.length_nil]; omega)), (by (try dsimp only); first | omega | (simp only [List.length_nil]; omega)), (by (try dsimp only); first | omega | rfl | (simp [*]; done))⟩
          rintro ⟨out_2, i1⟩ ⟨lo1, hi1, q⟩ E hE F hF
          dsimp only at lo1 hi1 q
          have ws : (out_2.length : Int) = n := by rw [q]; simp only [List.length_append, List.length_take, List.length_drop, spread_length]; omega
          conv => cbv
          refine r_lss m.sX (fun h4 => ?_) (fun h4 => ?_) <;> conv => cbv
          · refine r_draw m (by kernel_rfl) ?_
            conv => cbv
            refine r_oindex m.sY (by omega) (by omega) ?_
            conv => cbv
            obtain ⟨x1, hx1⟩ := get_ex (xs := out_2) (i := Int.toNat i1) (by omega)
            have mx1 := get_mem hx1
            have dx1 := drop_cons hx1
            have kx1 := take_snoc hx1
            have jx1 : (i1 + 1).toNat = Int.toNat i1 + 1 := by omega
            have vx1 := nth_some hx1
            rw [spread_at q (by omega)] at vx1
            have bm := wm _ (List.mem_of_getElem? (show out[Int.toNat i1]? = some (nth out (Int.toNat i1)) by rw [nth, List.getElem?_eq_getElem (by omega)]; rfl))
            refine r_oload m.sY hx1 (Nat.le_of_ble_eq_true rfl) ?_
            conv => cbv
            refine r_divf m.sY (by omega) (by omega) fun r2 hr2 br2 => ?_
            conv => cbv
            refine r_addf m.sY (by omega) (by omega) fun r3 hr3 => ?_
            conv => cbv
            refine r_oindex m.sY (by omega) (by omega) ?_
            conv => cbv
            obtain ⟨y2, hy2⟩ := get_ex (xs := out_2) (i := Int.toNat i1) (by omega)
            refine r_ostore (l := Int.toNat i1) r3 m.sY hy2 (Nat.le_of_ble_eq_true rfl) rfl fun out_3 hout_3 => ?_   -- out_3 = out_2.set i1 r3
            have lout_3 : (out_3.length : Int) = out_2.length := by rw [hout_3]; first | done | (simp; done) | (simp; omega)
            have ew : out = widthsF l gap (Int.toNat n) := by rw [hout, hv1, tbw]
            have wl := widths_length l gap (Int.toNat n)
            rw [← ew] at wl
            have wm := widths_mem ht (m := Int.toNat n) (by omega)
            rw [← ew] at wm
            conv => cbv
            refine r_modf m.sX (by omega) (by omega) fun r4 hr4 br4 => ?_
            conv => cbv
            refine r_lss m.sX (fun h5 => ?_) (fun h5 => ?_) <;> conv => cbv
            · refine r_oindex m.sX (by omega) (by omega) ?_
              conv => cbv
              obtain ⟨x2, hx2⟩ := get_ex (xs := out_3) (i := Int.toNat i1) (by omega)
              have mx2 := get_mem hx2
              have dx2 := drop_cons hx2
              have kx2 := take_snoc hx2
              have jx2 : (i1 + 1).toNat = Int.toNat i1 + 1 := by omega
              have vx2 := nth_some hx2
              have e2 : x2 = r3 := by rw [← vx2, hout_3, nth, List.getElem?_set_self (by omega)]; rfl
              refine r_oload m.sX hx2 (Nat.le_of_ble_eq_true rfl) ?_
              conv => cbv
              refine r_addf m.sX (by omega) (by omega) fun r5 hr5 => ?_
              conv => cbv
              refine r_oindex m.sX (by omega) (by omega) ?_
              conv => cbv
              obtain ⟨y3, hy3⟩ := get_ex (xs := out_3) (i := Int.toNat i1) (by omega)
              refine r_ostore (l := Int.toNat i1) r5 m.sX hy3 (Nat.le_of_ble_eq_true rfl) rfl fun out_4 hout_4 => ?_   -- out_4 = out_3.set i1 r5
              have lout_4 : (out_4.length : Int) = out_3.length := by rw [hout_4]; first | done | (simp; done) | (simp; omega)
              have ew : out = widthsF l gap (Int.toNat n) := by rw [hout, hv1, tbw]
              have wl := widths_length l gap (Int.toNat n)
              rw [← ew] at wl
              have wm := widths_mem ht (m := Int.toNat n) (by omega)
              rw [← ew] at wm
              conv => cbv
              refine r_addf m.sX (by omega) (by omega) fun r6 hr6 => ?_
              conv => cbv
              have tr6 : Int.toNat r6 = Int.toNat i1 + 1 := by omega
              refine hE _ (out_4, r6) ?_ ?_ ⟨(by (try dsimp only); first | omega | (simp only [List.length_nil]; omega)), (by (try dsimp only); first | omega | (simp only [List.length_nil]; omega)), (by (try dsimp only); rw [tr6]; first | (rw [hout_4, hout_3, List.set_set]; exact spread_step q (by omega) (by rw [Int.toNat_of_nonneg lo1, ← hr4, if_pos h5, vx1, ← hr2]; omega)) | (rw [hout_3]; exact spread_step q (by omega) (by rw [Int.toNat_of_nonneg lo1, ← hr4, if_neg (by omega), vx1, ← hr2]; omega)))⟩ (by first | omega | (dsimp only; omega))
              · cbv
              · cbv
            · refine r_addf m.sX (by omega) (by omega) fun r7 hr7 => ?_
              conv => cbv
              have tr7 : Int.toNat r7 = Int.toNat i1 + 1 := by omega
              refine hE _ (out_3, r7) ?_ ?_ ⟨(by (try dsimp only); first | omega | (simp only [List.length_nil]; omega)), (by (try dsimp only); first | omega | (simp only [List.length_nil]; omega)), (by (try dsimp only); rw [tr7]; first | (rw [hout_4, hout_3, List.set_set]; exact spread_step q (by omega) (by rw [Int.toNat_of_nonneg lo1, ← hr4, if_pos h5, vx1, ← hr2]; omega)) | (rw [hout_3]; exact spread_step q (by omega) (by rw [Int.toNat_of_nonneg lo1, ← hr4, if_neg (by omega), vx1, ← hr2]; omega)))⟩ (by first | omega | (dsimp only; omega))
              · cbv
              · cbv
          · have dz_i1 := drop_end (xs := out) (i := Int.toNat i1) (by omega)
            have tz_i1 := take_end (xs := out) (i := Int.toNat i1) (by omega)
            refine hF _ _ ?_
            conv => cbv
            exact hQ (.tup [.fr 3 1 (rows cInt out_2), .bool true]) (Eq.trans (by first | rfl | (simp only [lb, lbI, rows_cons, rows_nil, unnilT, unnil, unnilTI, unnilI]; done) | (simp only [lb, lbI, rows_cons, rows_nil, unnilT, unnil, unnilTI, unnilI]; rfl)) (congrArg ((lb 3 1 cInt)) (show (out_2, true) = spreadAns n l gap total from by rw [spreadAns, if_pos it, q, ← hr1, ← hmore, ← ew, drop_end (by omega), take_end (by rw [spread_length]; omega), List.append_nil])))   -- leaf 2
      · exact hQ (.tup [.nil, .bool false]) (Eq.trans (by first | rfl | (simp only [lb, lbI, rows_cons, rows_nil, unnilT, unnil, unnilTI, unnilI]; done) | (simp only [lb, lbI, rows_cons, rows_nil, unnilT, unnil, unnilTI, unnilI]; rfl)) (congrArg ((lb 3 1 cInt)) (show ([], false) = spreadAns n l gap total from by rw [spreadAns, isTot, h1, h2]; rfl)))   -- leaf 3
    · exact hQ (.tup [.nil, .bool false]) (Eq.trans (by first | rfl | (simp only [lb, lbI, rows_cons, rows_nil, unnilT, unnil, unnilTI, unnilI]; done) | (simp only [lb, lbI, rows_cons, rows_nil, unnilT, unnil, unnilTI, unnilI]; rfl)) (congrArg ((lb 3 1 cInt)) (show ([], false) = spreadAns n l gap total from by rw [spreadAns, isTot, h1]; rfl))))   -- leaf 4

end Go.Proofs.Ytpjmpgbgglhoeaa.Ai
