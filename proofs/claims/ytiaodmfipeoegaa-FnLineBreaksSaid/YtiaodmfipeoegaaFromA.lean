/- The least ways through a paragraph, with any number of lines (printed by mk39d.py). -/
import Derived.Test.YtiaodmfipeoegaaFromT
import Derived.Test.YtiaodmfipeoegaaSealB
set_option linter.unusedVariables false
set_option linter.unusedSimpArgs false
set_option maxRecDepth 10000
set_option maxHeartbeats 8000000
namespace Go.Proofs.Ytiaodmfipeoegaa.Ai
open Go Go.Proofs
theorem tyLess_ok (a : List Int) (b : List Int)  : OkA Try.prog 150 [.isl 1 (rows cInt a), .isl 1 (rows cInt b)] (· = .bool (lessL a b)) :=
  fn_intro envOk fieldsOk mixed Try.func150 rfl fun κ X Y L Q m hQ => by
    conv => cbv
    refine r_loopF (α := Int) m 41 [0, 1, 5] [] (fun σ => [(0, .isl 1 (rows cInt a)), (1, .isl 1 (rows cInt b)), (5, .int .i64 σ)]) (fun σ => [])
      (fun σ => (lessL a b = lessL (a.drop σ.toNat) (b.drop σ.toNat)) ∧ (0 ≤ σ ∧ σ ≤ a.length ∧ σ ≤ b.length)) (fun σ => ((a.length : Int) - σ).toNat) 0 ?_ ?_ ?_ ?_
    · cbv
    · cbv
    · exact ⟨(by (try dsimp only) <;> (rfl)), (by (try dsimp only) <;> (omega))⟩
    rintro i ⟨q, ib⟩ E hE F hF
    conv => cbv
    refine r_lenR m.sX fun n1 hn1 mn1 => ?_
    conv => cbv
    refine r_lss m.sX (fun h1 => ?_) (fun h1 => ?_) <;> conv => cbv
    · refine r_lenR m.sX fun n2 hn2 mn2 => ?_
      conv => cbv
      refine r_lss m.sX (fun h2 => ?_) (fun h2 => ?_) <;> conv => cbv
      · refine r_draw m (by kernel_rfl) ?_
        conv => cbv
        refine r_index m.sY (by omega) (by omega) fun x1 hx1 => ?_
        conv => cbv
        have mx1 := get_mem hx1
        have vx1 := nth_some hx1
        refine r_index m.sY (by omega) (by omega) fun x2 hx2 => ?_
        conv => cbv
        have mx2 := get_mem hx2
        have vx2 := nth_some hx2
        refine r_neq m.sY (fun h3 => ?_) (fun h3 => ?_) <;> conv => cbv
        · refine r_draw m (by kernel_rfl) ?_
          conv => cbv
          refine r_index m.sY (by omega) (by omega) fun x3 hx3 => ?_
          conv => cbv
          have mx3 := get_mem hx3
          have vx3 := nth_some hx3
          obtain rfl : x1 = x3 := Option.some.inj (hx1.symm.trans hx3)
          refine r_index m.sY (by omega) (by omega) fun x4 hx4 => ?_
          conv => cbv
          have mx4 := get_mem hx4
          have vx4 := nth_some hx4
          obtain rfl : x2 = x4 := Option.some.inj (hx2.symm.trans hx4)
          refine r_lss m.sY (fun h4 => ?_) (fun h4 => ?_) <;> conv => cbv
          · refine hF _ _ ?_
            conv => cbv
            exact hQ _ (congrArg PV.bool (by first | (rw [q, lessL_drop hx1 hx2, if_neg h3]; done) | (rw [q, lessL_drop hx1 hx2, if_neg h3]; first | (rw [decide_eq_true (by omega)]; done) | (rw [decide_eq_false (by omega)]; done)) | (rw [q, lessL_end (by omega) (by omega) (by omega)]; first | (rw [decide_eq_true (by omega)]; done) | (rw [decide_eq_false (by omega)]; done))))
          · refine hF _ _ ?_
            conv => cbv
            exact hQ _ (congrArg PV.bool (by first | (rw [q, lessL_drop hx1 hx2, if_neg h3]; done) | (rw [q, lessL_drop hx1 hx2, if_neg h3]; first | (rw [decide_eq_true (by omega)]; done) | (rw [decide_eq_false (by omega)]; done)) | (rw [q, lessL_end (by omega) (by omega) (by omega)]; first | (rw [decide_eq_true (by omega)]; done) | (rw [decide_eq_false (by omega)]; done))))
        · refine r_addf m.sX (by omega) (by omega) fun i_2 hi_2 => ?_
          conv => cbv
          refine hE _ i_2 ?_ ?_ ⟨(by (try dsimp only) <;> (rw [q, lessL_drop hx1 hx2, if_pos h3, show i_2.toNat = i.toNat + 1 by omega])), (by (try dsimp only) <;> (omega))⟩ (by first | omega | (dsimp only; omega))
          · cbv
          · cbv
      · refine hF _ _ ?_
        conv => cbv
        refine r_lenR m.sX fun n3 hn3 mn3 => ?_
        conv => cbv
        refine r_lenR m.sX fun n4 hn4 mn4 => ?_
        conv => cbv
        refine r_lss m.sX (fun h5 => ?_) (fun h5 => ?_) <;> conv => cbv
        · exact hQ _ (congrArg PV.bool (by first | (rw [q, lessL_drop hx1 hx2, if_neg h3]; done) | (rw [q, lessL_drop hx1 hx2, if_neg h3]; first | (rw [decide_eq_true (by omega)]; done) | (rw [decide_eq_false (by omega)]; done)) | (rw [q, lessL_end (by omega) (by omega) (by omega)]; first | (rw [decide_eq_true (by omega)]; done) | (rw [decide_eq_false (by omega)]; done))))
        · exact hQ _ (congrArg PV.bool (by first | (rw [q, lessL_drop hx1 hx2, if_neg h3]; done) | (rw [q, lessL_drop hx1 hx2, if_neg h3]; first | (rw [decide_eq_true (by omega)]; done) | (rw [decide_eq_false (by omega)]; done)) | (rw [q, lessL_end (by omega) (by omega) (by omega)]; first | (rw [decide_eq_true (by omega)]; done) | (rw [decide_eq_false (by omega)]; done))))
    · refine hF _ _ ?_
      conv => cbv
      refine r_lenR m.sX fun n5 hn5 mn5 => ?_
      conv => cbv
      refine r_lenR m.sX fun n6 hn6 mn6 => ?_
      conv => cbv
      refine r_lss m.sX (fun h6 => ?_) (fun h6 => ?_) <;> conv => cbv
      · exact hQ _ (congrArg PV.bool (by first | (rw [q, lessL_drop hx1 hx2, if_neg h3]; done) | (rw [q, lessL_drop hx1 hx2, if_neg h3]; first | (rw [decide_eq_true (by omega)]; done) | (rw [decide_eq_false (by omega)]; done)) | (rw [q, lessL_end (by omega) (by omega) (by omega)]; first | (rw [decide_eq_true (by omega)]; done) | (rw [decide_eq_false (by omega)]; done))))
      · exact hQ _ (congrArg PV.bool (by first | (rw [q, lessL_drop hx1 hx2, if_neg h3]; done) | (rw [q, lessL_drop hx1 hx2, if_neg h3]; first | (rw [decide_eq_true (by omega)]; done) | (rw [decide_eq_false (by omega)]; done)) | (rw [q, lessL_end (by omega) (by omega) (by omega)]; first | (rw [decide_eq_true (by omega)]; done) | (rw [decide_eq_false (by omega)]; done))))

abbrev zWay : List PV := [.bool false, .int .i64 0, .isl 1 [], .int .i64 0]
theorem wayEnv : EnvOk Try.prog (zeroIn 126 zWay G) := zeroIn_ok envOk fun ti h => by
  obtain rfl := Option.some.inj h
  exact ⟨rfl, fun _ _ _ => way_zero⟩
theorem paFromA_ok (words : List Int) (r : JRule) (measure : Int) (lines : Int) (hp : Pin words r measure) (hl : lines = 0) : OkA Try.prog 107 [.isl 1 (rows cInt words), .agg (cRule r), .int .i64 measure, .int .i64 lines] (· = (fun x => PV.agg (cPaWay x)) (pV words r measure (-1) 0)) := by
  obtain ⟨rA, rB, rC⟩ := r
  try dsimp only at *
  exact fn_intro (nestIn_ok 150 wayEnv) (nestIn_fields 150 (zeroIn_fields (T := 126) (cs := zWay) fieldsOk)) mixed Try.func107 rfl fun κ X Y L Q m hQ => by
    have sp := okPara_spec hp.para
    try dsimp only at sp
    have sp2 := sp.2
    try dsimp only at sp2
    have z4 := hp.rule; have z5 := hp.meas
    try dsimp only at z4
    conv => cbv
    refine r_lenR m.sX fun n hn mn => ?_
    conv => cbv
    refine r_addf m.sX (by omega) (by omega) fun r1 hr1 => ?_
    conv => cbv
    refine r_make cRunP [] m.sX (by first | (simp only [cRunP, rows_nil]; done) | (simp only [cRunP, rows_nil]; rfl)) (by omega) (by omega) (by dsimp only; omega) (by omega) fun best hbest => ?_
    have lbest : (best.length : Int) = r1 := by rw [hbest]; first | done | (simp; done) | (simp; omega)
    conv => cbv
    refine r_lenR m.sX fun n1 hn1 mn1 => ?_
    conv => cbv
    refine r_loopF (α := List (List PW) × Int) m 180 [0, 2, 3, 9, 28, 29] [⟨5, 41, 0, 0, 0⟩, ⟨8, 65, 0, 0, 0⟩, ⟨10, 81, 151 + 1000000, 1, 0⟩] (fun σ => [(0, .isl 1 (rows cInt words)), (2, .int .i64 measure), (3, .int .i64 lines), (5, .optr 41 0 3 0 0), (8, .optr 65 0 4 0 0), (9, .int .i64 n), (10, .osl 81 0), (28, .int .i64 n1), (29, .int .i64 σ.2)]) (fun σ => [(41, 0, .box [.int .i64 rA, .int .i64 rB, .int .i64 rC]), (65, 0, .box [.bool false, .int .i64 0, .isl 1 [], .int .i64 0]), (81, 0, .tree 151 1 (rows cRunP σ.1))])
      (fun σ => (0 ≤ σ.2) ∧ (σ.2 ≤ n1) ∧ (FT0 words lines σ.1 σ.2)) (fun σ => (n1 - σ.2).toNat) (best, 0) ?_ ?_ ?_ ?_
    · cbv
    · cbv
    · exact ⟨(by (try dsimp only); first | omega | (simp; omega)), (by (try dsimp only); first | omega | (simp; omega)), (by (try dsimp only) <;> (exact ⟨by omega, fun t x hx ht => by omega⟩))⟩
    rintro ⟨best_2, i1⟩ ⟨lo1, hi1, g0⟩ E hE F hF
    dsimp only at lo1 hi1 g0
    have bl1 := g0.len
    try dsimp only at bl1
    conv => cbv
    refine r_lss m.sX (fun h1 => ?_) (fun h1 => ?_) <;> conv => cbv
    · refine r_addf m.sX (by omega) (by omega) fun r2 hr2 => ?_
      conv => cbv
      refine r_make cPaWay (false, 0, [], 0) m.sX (by first | (simp only [cPaWay, rows_nil]; done) | (simp only [cPaWay, rows_nil]; rfl)) (by omega) (by omega) (by dsimp only; omega) (by omega) fun zs1 hzs1 => ?_
      have lzs1 : (zs1.length : Int) = r2 := by rw [hzs1]; first | done | (simp; done) | (simp; omega)
      conv => cbv
      refine r_oindex m.sX (by omega) (by omega) ?_
      conv => cbv
      obtain ⟨y1, hy1⟩ := get_ex (xs := best_2) (i := Int.toNat i1) (by omega)
      refine r_ostore (l := Int.toNat i1) zs1 m.sX hy1 (Nat.le_of_ble_eq_true rfl) rfl fun best_3 hbest_3 => ?_
      have lbest_3 : (best_3.length : Int) = best_2.length := by rw [hbest_3]; first | done | (simp; done) | (simp; omega)
      conv => cbv
      refine r_clean m.sX cRunP_clean ?_
      conv => cbv
      refine r_addf m.sX (by omega) (by omega) fun r3 hr3 => ?_
      conv => cbv
      try have tr3 : Int.toNat r3 = Int.toNat i1 + 1 := by omega
      refine hE _ (best_3, r3) ?_ ?_ ⟨(by (try dsimp only); first | omega | (simp; omega)), (by (try dsimp only); first | omega | (simp; omega)), (by (try dsimp only) <;> (exact g0.step (by omega) (by omega) hbest_3 (by omega)))⟩ (by first | omega | (dsimp only; omega))
      · cbv
      · cbv
    · have dz_i1 := drop_end (xs := best) (i := Int.toNat i1) (by omega)
      have tz_i1 := take_end (xs := best) (i := Int.toNat i1) (by omega)
      refine hF _ _ ?_
      conv => cbv
      refine r_lenR m.sX fun n2 hn2 mn2 => ?_
      conv => cbv
      refine r_loopF (α := List (List PW) × Int) m 180 [0, 2, 3, 9, 40, 41] [⟨5, 41, 0, 0, 0⟩, ⟨8, 65, 0, 0, 0⟩, ⟨10, 81, 151 + 1000000, 1, 0⟩] (fun σ => [(0, .isl 1 (rows cInt words)), (2, .int .i64 measure), (3, .int .i64 lines), (5, .optr 41 0 3 0 0), (8, .optr 65 0 4 0 0), (9, .int .i64 n), (10, .osl 81 0), (40, .int .i64 n2), (41, .int .i64 σ.2)]) (fun σ => [(41, 0, .box [.int .i64 rA, .int .i64 rB, .int .i64 rC]), (65, 0, .box [.bool false, .int .i64 0, .isl 1 [], .int .i64 0]), (81, 0, .tree 151 1 (rows cRunP σ.1))])
        (fun σ => (0 ≤ σ.2) ∧ (σ.2 ≤ n2) ∧ (FT words (rA, rB, rC) measure lines σ.1 σ.2 ((words.length : Int) - 1))) (fun σ => (n2 - σ.2).toNat) (best_2, 0) ?_ ?_ ?_ ?_
      · cbv
      · cbv
      · exact ⟨(by (try dsimp only); first | omega | (simp; omega)), (by (try dsimp only); first | omega | (simp; omega)), (by (try dsimp only) <;> (exact FT.start g0 (by omega)))⟩
      rintro ⟨best_4, i2⟩ ⟨lo2, hi2, g1⟩ E hE F hF
      dsimp only at lo2 hi2 g1
      have bl2 := g1.len
      try dsimp only at bl2
      conv => cbv
      refine r_lss m.sX (fun h2 => ?_) (fun h2 => ?_) <;> conv => cbv
      · refine r_gtrF m.sX (by omega) ?_
        conv => cbv
        refine r_subf m.sX (by omega) (by omega) fun i_6 hi_6 => ?_
        conv => cbv
        refine r_loopF (α := List (List PW) × Int) m 180 [0, 2, 3, 9, 12, 13, 40, 41] [⟨5, 41, 0, 0, 0⟩, ⟨8, 65, 0, 0, 0⟩, ⟨10, 81, 151 + 1000000, 1, 0⟩] (fun σ => [(0, .isl 1 (rows cInt words)), (2, .int .i64 measure), (3, .int .i64 lines), (5, .optr 41 0 3 0 0), (8, .optr 65 0 4 0 0), (9, .int .i64 n), (10, .osl 81 0), (12, .int .i64 i2), (13, .int .i64 σ.2), (40, .int .i64 n2), (41, .int .i64 i2)]) (fun σ => [(41, 0, .box [.int .i64 rA, .int .i64 rB, .int .i64 rC]), (65, 0, .box [.bool false, .int .i64 0, .isl 1 [], .int .i64 0]), (81, 0, .tree 151 1 (rows cRunP σ.1))])
          (fun σ => (FT words (rA, rB, rC) measure lines σ.1 i2 σ.2) ∧ (-1 ≤ σ.2 ∧ σ.2 ≤ (words.length : Int) - 1)) (fun σ => (σ.2 + 1).toNat) (best_4, i_6) ?_ ?_ ?_ ?_
        · cbv
        · cbv
        · exact ⟨(by (try dsimp only) <;> (rw [show i_6 = (words.length : Int) - 1 by omega]; exact g1)), (by (try dsimp only) <;> (omega))⟩
        rintro ⟨best_9, i_7⟩ ⟨g2, g3⟩ E2 hE2 F2 hF2
        dsimp only at g2 g3
        have bl3 := g2.len
        try dsimp only at bl3
        have mdq : md lines i2 = -1 := by unfold md; rw [if_pos (by omega)]
        conv => cbv
        refine r_geq m.sX (fun h61 => ?_) (fun h61 => ?_) <;> conv => cbv
        · refine r_draw m (by kernel_rfl) ?_
          conv => cbv
          refine r_islice' (i := i_7) m.sY (by omega) (by omega) fun zs12 hzs12 => ?_
          have lzs12 : (zs12.length : Int) = words.length - i_7 := by rw [hzs12]; first | done | (simp; done) | (simp; omega)
          conv => cbv
          obtain ⟨z1, z2⟩ := hp.tail (i := i_7.toNat) (by omega) hzs12
          refine r_callFS ib m.sY (paLine_ok zs12 (rA, rB, rC) measure true (by first | rfl | assumption | omega | (simp at *; omega)) (by first | rfl | assumption | omega | (simp at *; omega)) (by first | rfl | assumption | omega | (simp at *; omega)) (by first | rfl | assumption | omega | (simp at *; omega))) (by first | trivial | exact noFr_tup2 trivial trivial | exact noFr_tup3 trivial trivial trivial) fun v hv2 => ?_
          obtain ⟨v2, ok_8⟩ := v
          conv => cbv
          try dsimp only at hv2
          have he := lineS_E hzs12 hv2
          rcases Bool.eq_false_or_eq_true ok_8 with rfl | rfl <;> conv => cbv
          · refine r_leqT m.sX (by omega) ?_
            conv => cbv
            refine r_subf m.sX (by omega) (by omega) fun j_85 hj_85 => ?_
            conv => cbv
            refine r_loopC (α := Bool × Int × List Int × Int × Int) m 180 [0, 2, 3, 9, 12, 13, 17, 40, 41] [⟨5, 41, 0, 0, 0⟩, ⟨8, 65, 0, 0, 0⟩, ⟨10, 81, 151 + 1000000, 1, 0⟩, ⟨14, 113, 0, 0, 0⟩] (fun σ => [(0, .isl 1 (rows cInt words)), (2, .int .i64 measure), (3, .int .i64 lines), (5, .optr 41 0 3 0 0), (8, .optr 65 0 4 0 0), (9, .int .i64 n), (10, .osl 81 0), (12, .int .i64 i2), (13, .int .i64 i_7), (14, .optr 113 0 4 0 0), (17, .int .i64 σ.2.2.2.2), (40, .int .i64 n2), (41, .int .i64 i2)]) (fun σ => [(41, 0, .box [.int .i64 rA, .int .i64 rB, .int .i64 rC]), (65, 0, .box [.bool false, .int .i64 0, .isl 1 [], .int .i64 0]), (81, 0, .tree 151 1 (rows cRunP best_9)), (113, 0, .box [.bool σ.1, .int .i64 σ.2.1, .isl 1 (rows cInt σ.2.2.1), .int .i64 σ.2.2.2.1])])
              (fun σ => FO words (rA, rB, rC) measure (md lines i2) i_7 (σ.1, σ.2.1, σ.2.2.1, σ.2.2.2.1) σ.2.2.2.2) (fun σ => (σ.2.2.2.2 + 1).toNat) (true, 0, [], 1, j_85) ?_ ?_ ?_ ?_
            · cbv
            · (try dsimp only); (try simp only [rows_cons, rows_nil]); cbv
            · exact (by (try dsimp only) <;> (exact FO.startY (by omega) (by omega) he (.inr (by omega)) (by omega)))
            rintro ⟨f10, f11, ys4, f12, j_86⟩ fo E3 hE3 F3 hF3
            dsimp only at fo
            have fl := fo.lo; have fh := fo.hi; have fi := fo.i0; have fw := fo.wb; dsimp only at fw
            try dsimp only at fl
            conv => cbv
            refine r_gtr m.sX (fun h63 => ?_) (fun h63 => ?_) <;> conv => cbv
            · refine r_subf m.sX (by omega) (by omega) fun r132 hr132 => ?_
              conv => cbv
              refine r_callF (PV.int .i64) m.sX (l1Most_ok r132 0) fun r133 hr133 => ?_
              conv => cbv
              try dsimp only at hr133
              have mr133 : (r132 ≤ 0 → r133 = 0) ∧ (0 < r132 → r133 = r132) := by constructor <;> intro _ <;> omega
              refine r_oindex m.sX (by omega) (by omega) ?_
              conv => cbv
              obtain ⟨x10, hx10⟩ := get_ex (xs := best_9) (i := Int.toNat r133) (by omega)
              have lx10 := g2.rows _ _ hx10
              have mx10 := get_mem hx10
              refine r_oload m.sX hx10 (Nat.le_of_ble_eq_true rfl) ?_
              conv => cbv
              refine r_oload m.sX hx10 (Nat.le_of_ble_eq_true rfl) ?_
              conv => cbv
              refine r_oindex m.sX (by omega) (by omega) ?_
              conv => cbv
              refine r_oload m.sX hx10 (Nat.le_of_ble_eq_true rfl) ?_
              conv => cbv
              obtain ⟨⟨rest_7A, rest_7B, rest_7C, rest_7D⟩, hrest_7⟩ := get_ex (xs := x10) (i := Int.toNat j_86) (by omega)
              refine r_oload m.sX hrest_7 (Nat.le_of_ble_eq_true rfl) ?_
              conv => cbv
              refine r_eqlT m.sX (by omega) ?_
              conv => cbv
              refine r_oindex m.sX (by omega) (by omega) ?_
              conv => cbv
              obtain ⟨x11, hx11⟩ := get_ex (xs := best_9) (i := Int.toNat 0) (by omega)
              have lx11 := g2.rows _ _ hx11
              have mx11 := get_mem hx11
              refine r_oload m.sX hx11 (Nat.le_of_ble_eq_true rfl) ?_
              conv => cbv
              refine r_oload m.sX hx11 (Nat.le_of_ble_eq_true rfl) ?_
              conv => cbv
              refine r_oindex m.sX (by omega) (by omega) ?_
              conv => cbv
              refine r_oload m.sX hx11 (Nat.le_of_ble_eq_true rfl) ?_
              conv => cbv
              obtain ⟨⟨rest_8A, rest_8B, rest_8C, rest_8D⟩, hrest_8⟩ := get_ex (xs := x11) (i := Int.toNat j_86) (by omega)
              have rv := g2.restA hl (by omega) hx11 hrest_8 (by omega) (by omega) (by omega)
              refine r_oload m.sX hrest_8 (Nat.le_of_ble_eq_true rfl) ?_
              conv => cbv
              refine r_draw m (by kernel_rfl) ?_
              conv => cbv
              refine r_islice (i := i_7) (j := j_86) m.sY (by omega) (by omega) (by omega) fun zs13 hzs13 => ?_
              have lzs13 : (zs13.length : Int) = j_86 - i_7 := by rw [hzs13]; first | done | (simp; done) | (simp; omega)
              conv => cbv
              obtain ⟨z1, z2, z3⟩ := hp.cut (i := i_7.toNat) (j := j_86.toNat) (by omega) (by omega) hzs13
              refine r_callFS ib m.sY (paLine_ok zs13 (rA, rB, rC) measure false (by first | rfl | assumption | omega | (simp at *; omega)) (by first | rfl | assumption | omega | (simp at *; omega)) (by first | rfl | assumption | omega | (simp at *; omega)) (by first | rfl | assumption | omega | (simp at *; omega))) (by first | trivial | exact noFr_tup2 trivial trivial | exact noFr_tup3 trivial trivial trivial) fun v hcost_7 => ?_
              obtain ⟨cost_7, ok_9⟩ := v
              conv => cbv
              try dsimp only at hcost_7
              have lp := lineA_paL z3 hcost_7
              have cl := cost_le z1 z2.1 z4 z5 hcost_7
              rcases Bool.eq_false_or_eq_true ok_9 with rfl | rfl <;> conv => cbv
              · rcases Bool.eq_false_or_eq_true rest_8A with rfl | rfl <;> conv => cbv
                · refine r_gtrF m.sX (by omega) ?_
                  conv => cbv
                  have rv1 := rv
                  obtain ⟨wc1, wc2, wc3, wc4, wc5⟩ := pV_cost hp _ (by rw [mdq]; unfold nxM; split <;> omega) (by omega) rv1
                  dsimp only at wc1 wc2 wc3 wc4 wc5
                  refine r_appendL cInt [j_86] m.sX (by simp only [rows_cons, rows_nil]; rfl) (by first | decide | (simp; omega) | omega) (by first | decide | (simp; omega) | omega) fun breaks_14 hbreaks_14 => ?_
                  conv => cbv
                  rcases Bool.eq_false_or_eq_true f10 with rfl | rfl <;> conv => cbv
                  · refine r_addf m.sX (by omega) (by omega) fun r144 hr144 => ?_
                    conv => cbv
                    refine r_lss m.sX (fun h70 => ?_) (fun h70 => ?_) <;> conv => cbv
                    · refine r_addf m.sX (by omega) (by omega) fun r145 hr145 => ?_
                      conv => cbv
                      refine r_addf m.sX (by omega) (by omega) fun r146 hr146 => ?_
                      conv => cbv
                      refine r_subf m.sX (by omega) (by omega) fun j_93 hj_93 => ?_
                      conv => cbv
                      refine hE3 _ _ (true, r145, breaks_14, r146, j_93) (haveI := m.z; chg_sealB (k := 992) (b := 113) (p := 2) (e := 3) (z := 1) (by rfl) (by rfl) (by rfl) (by decide)) ?_ ?_ (by (try dsimp only) <;> (first | exact fo.skip (by omega) (by omega) (.inr (by simpa using lp)) | exact fo.skip (by omega) (by omega) (.inl (by omega)) | exact fo.dead (by omega) (by omega) rv rfl | exact fo.yes (by omega) (by omega) (by omega) rv1 (by omega) (by simpa using lp) (by omega) (by assumption) (by omega) (.inl rfl) | exact fo.yes (by omega) (by omega) (by omega) rv1 (by omega) (by simpa using lp) (by omega) (by assumption) (by omega) (.inr (.inl (by omega))) | exact fo.yes (by omega) (by omega) (by omega) rv1 (by omega) (by simpa using lp) (by omega) (by assumption) (by omega) (.inr (.inr ⟨by omega, by assumption⟩)) | exact fo.no (by omega) (by omega) (by omega) rv1 (by omega) (by simpa using lp) (by assumption) (by omega) rfl (by omega) (fun _ => by assumption) | exact fo.no (by omega) (by omega) (by omega) rv1 (by omega) (by simpa using lp) (by assumption) (by omega) rfl (by omega) (fun q1 => by omega))) (by first | omega | (dsimp only; omega))
                      · cbv
                      · cbv
                    · refine r_addf m.sX (by omega) (by omega) fun r147 hr147 => ?_
                      conv => cbv
                      refine r_eql m.sX (fun h71 => ?_) (fun h71 => ?_) <;> conv => cbv
                      · refine .inl (r_callBO m.sX ((tyLess_ok breaks_14 ys4).ok flat_bool) (fun h72 => ?_) (fun h72 => ?_)) <;> conv => cbv
                        · refine r_addf m.sX (by omega) (by omega) fun r148 hr148 => ?_
                          conv => cbv
                          refine r_addf m.sX (by omega) (by omega) fun r149 hr149 => ?_
                          conv => cbv
                          refine r_subf m.sX (by omega) (by omega) fun j_94 hj_94 => ?_
                          conv => cbv
                          refine hE3 _ _ (true, r148, breaks_14, r149, j_94) (haveI := m.z; chg_sealB (k := 992) (b := 113) (p := 2) (e := 3) (z := 1) (by rfl) (by rfl) (by rfl) (by decide)) ?_ ?_ (by (try dsimp only) <;> (first | exact fo.skip (by omega) (by omega) (.inr (by simpa using lp)) | exact fo.skip (by omega) (by omega) (.inl (by omega)) | exact fo.dead (by omega) (by omega) rv rfl | exact fo.yes (by omega) (by omega) (by omega) rv1 (by omega) (by simpa using lp) (by omega) (by assumption) (by omega) (.inl rfl) | exact fo.yes (by omega) (by omega) (by omega) rv1 (by omega) (by simpa using lp) (by omega) (by assumption) (by omega) (.inr (.inl (by omega))) | exact fo.yes (by omega) (by omega) (by omega) rv1 (by omega) (by simpa using lp) (by omega) (by assumption) (by omega) (.inr (.inr ⟨by omega, by assumption⟩)) | exact fo.no (by omega) (by omega) (by omega) rv1 (by omega) (by simpa using lp) (by assumption) (by omega) rfl (by omega) (fun _ => by assumption) | exact fo.no (by omega) (by omega) (by omega) rv1 (by omega) (by simpa using lp) (by assumption) (by omega) rfl (by omega) (fun q1 => by omega))) (by first | omega | (dsimp only; omega))
                          · cbv
                          · cbv
                        · refine r_addf m.sX (by omega) (by omega) fun r150 hr150 => ?_
                          conv => cbv
                          refine r_subf m.sX (by omega) (by omega) fun j_95 hj_95 => ?_
                          conv => cbv
                          refine hE3 _ _ (true, f11, ys4, r150, j_95) (Chg.refl _) ?_ ?_ (by (try dsimp only) <;> (first | exact fo.skip (by omega) (by omega) (.inr (by simpa using lp)) | exact fo.skip (by omega) (by omega) (.inl (by omega)) | exact fo.dead (by omega) (by omega) rv rfl | exact fo.yes (by omega) (by omega) (by omega) rv1 (by omega) (by simpa using lp) (by omega) (by assumption) (by omega) (.inl rfl) | exact fo.yes (by omega) (by omega) (by omega) rv1 (by omega) (by simpa using lp) (by omega) (by assumption) (by omega) (.inr (.inl (by omega))) | exact fo.yes (by omega) (by omega) (by omega) rv1 (by omega) (by simpa using lp) (by omega) (by assumption) (by omega) (.inr (.inr ⟨by omega, by assumption⟩)) | exact fo.no (by omega) (by omega) (by omega) rv1 (by omega) (by simpa using lp) (by assumption) (by omega) rfl (by omega) (fun _ => by assumption) | exact fo.no (by omega) (by omega) (by omega) rv1 (by omega) (by simpa using lp) (by assumption) (by omega) rfl (by omega) (fun q1 => by omega))) (by first | omega | (dsimp only; omega))
                          · cbv
                          · cbv
                      · refine r_addf m.sX (by omega) (by omega) fun r151 hr151 => ?_
                        conv => cbv
                        refine r_subf m.sX (by omega) (by omega) fun j_96 hj_96 => ?_
                        conv => cbv
                        refine hE3 _ _ (true, f11, ys4, r151, j_96) (Chg.refl _) ?_ ?_ (by (try dsimp only) <;> (first | exact fo.skip (by omega) (by omega) (.inr (by simpa using lp)) | exact fo.skip (by omega) (by omega) (.inl (by omega)) | exact fo.dead (by omega) (by omega) rv rfl | exact fo.yes (by omega) (by omega) (by omega) rv1 (by omega) (by simpa using lp) (by omega) (by assumption) (by omega) (.inl rfl) | exact fo.yes (by omega) (by omega) (by omega) rv1 (by omega) (by simpa using lp) (by omega) (by assumption) (by omega) (.inr (.inl (by omega))) | exact fo.yes (by omega) (by omega) (by omega) rv1 (by omega) (by simpa using lp) (by omega) (by assumption) (by omega) (.inr (.inr ⟨by omega, by assumption⟩)) | exact fo.no (by omega) (by omega) (by omega) rv1 (by omega) (by simpa using lp) (by assumption) (by omega) rfl (by omega) (fun _ => by assumption) | exact fo.no (by omega) (by omega) (by omega) rv1 (by omega) (by simpa using lp) (by assumption) (by omega) rfl (by omega) (fun q1 => by omega))) (by first | omega | (dsimp only; omega))
                        · cbv
                        · cbv
                  · refine r_addf m.sX (by omega) (by omega) fun r152 hr152 => ?_
                    conv => cbv
                    refine r_addf m.sX (by omega) (by omega) fun r153 hr153 => ?_
                    conv => cbv
                    refine r_subf m.sX (by omega) (by omega) fun j_97 hj_97 => ?_
                    conv => cbv
                    refine hE3 _ _ (true, r152, breaks_14, r153, j_97) (haveI := m.z; chg_sealB (k := 992) (b := 113) (p := 2) (e := 3) (z := 1) (by rfl) (by rfl) (by rfl) (by decide)) ?_ ?_ (by (try dsimp only) <;> (first | exact fo.skip (by omega) (by omega) (.inr (by simpa using lp)) | exact fo.skip (by omega) (by omega) (.inl (by omega)) | exact fo.dead (by omega) (by omega) rv rfl | exact fo.yes (by omega) (by omega) (by omega) rv1 (by omega) (by simpa using lp) (by omega) (by assumption) (by omega) (.inl rfl) | exact fo.yes (by omega) (by omega) (by omega) rv1 (by omega) (by simpa using lp) (by omega) (by assumption) (by omega) (.inr (.inl (by omega))) | exact fo.yes (by omega) (by omega) (by omega) rv1 (by omega) (by simpa using lp) (by omega) (by assumption) (by omega) (.inr (.inr ⟨by omega, by assumption⟩)) | exact fo.no (by omega) (by omega) (by omega) rv1 (by omega) (by simpa using lp) (by assumption) (by omega) rfl (by omega) (fun _ => by assumption) | exact fo.no (by omega) (by omega) (by omega) rv1 (by omega) (by simpa using lp) (by assumption) (by omega) rfl (by omega) (fun q1 => by omega))) (by first | omega | (dsimp only; omega))
                    · cbv
                    · cbv
                · refine r_subf m.sX (by omega) (by omega) fun j_98 hj_98 => ?_
                  conv => cbv
                  refine hE3 _ _ (f10, f11, ys4, f12, j_98) (Chg.refl _) ?_ ?_ (by (try dsimp only) <;> (first | exact fo.skip (by omega) (by omega) (.inr (by simpa using lp)) | exact fo.skip (by omega) (by omega) (.inl (by omega)) | exact fo.dead (by omega) (by omega) rv rfl | exact fo.yes (by omega) (by omega) (by omega) rv1 (by omega) (by simpa using lp) (by omega) (by assumption) (by omega) (.inl rfl) | exact fo.yes (by omega) (by omega) (by omega) rv1 (by omega) (by simpa using lp) (by omega) (by assumption) (by omega) (.inr (.inl (by omega))) | exact fo.yes (by omega) (by omega) (by omega) rv1 (by omega) (by simpa using lp) (by omega) (by assumption) (by omega) (.inr (.inr ⟨by omega, by assumption⟩)) | exact fo.no (by omega) (by omega) (by omega) rv1 (by omega) (by simpa using lp) (by assumption) (by omega) rfl (by omega) (fun _ => by assumption) | exact fo.no (by omega) (by omega) (by omega) rv1 (by omega) (by simpa using lp) (by assumption) (by omega) rfl (by omega) (fun q1 => by omega))) (by first | omega | (dsimp only; omega))
                  · cbv
                  · cbv
              · refine r_subf m.sX (by omega) (by omega) fun j_99 hj_99 => ?_
                conv => cbv
                refine hE3 _ _ (f10, f11, ys4, f12, j_99) (Chg.refl _) ?_ ?_ (by (try dsimp only) <;> (first | exact fo.skip (by omega) (by omega) (.inr (by simpa using lp)) | exact fo.skip (by omega) (by omega) (.inl (by omega)) | exact fo.dead (by omega) (by omega) rv rfl | exact fo.yes (by omega) (by omega) (by omega) rv1 (by omega) (by simpa using lp) (by omega) (by assumption) (by omega) (.inl rfl) | exact fo.yes (by omega) (by omega) (by omega) rv1 (by omega) (by simpa using lp) (by omega) (by assumption) (by omega) (.inr (.inl (by omega))) | exact fo.yes (by omega) (by omega) (by omega) rv1 (by omega) (by simpa using lp) (by omega) (by assumption) (by omega) (.inr (.inr ⟨by omega, by assumption⟩)) | exact fo.no (by omega) (by omega) (by omega) rv1 (by omega) (by simpa using lp) (by assumption) (by omega) rfl (by omega) (fun _ => by assumption) | exact fo.no (by omega) (by omega) (by omega) rv1 (by omega) (by simpa using lp) (by assumption) (by omega) rfl (by omega) (fun q1 => by omega))) (by first | omega | (dsimp only; omega))
                · cbv
                · cbv
            · refine hF3 _ _ ?_
              conv => cbv
              refine r_draw m (by kernel_rfl) ?_
              conv => cbv
              refine r_oindex m.sY (by omega) (by omega) ?_
              conv => cbv
              obtain ⟨x12, hx12⟩ := get_ex (xs := best_9) (i := Int.toNat i2) (by omega)
              have lx12 := g2.rows _ _ hx12
              have mx12 := get_mem hx12
              have dx12 := drop_cons hx12
              have kx12 := take_snoc hx12
              have jx12 : (i2 + 1).toNat = Int.toNat i2 + 1 := by omega
              refine r_oload m.sY hx12 (Nat.le_of_ble_eq_true rfl) ?_
              conv => cbv
              refine r_oload m.sY hx12 (Nat.le_of_ble_eq_true rfl) ?_
              conv => cbv
              refine r_oindex m.sY (by omega) (by omega) ?_
              conv => cbv
              refine r_oload m.sY hx12 (Nat.le_of_ble_eq_true rfl) ?_
              conv => cbv
              obtain ⟨y5, hy5⟩ := get_ex (xs := x12) (i := Int.toNat i_7) (by omega)
              have my5 := get_mem hy5
              refine r_ostore (l := Int.toNat i_7) (f10, f11, ys4, f12) m.sY hy5 (Nat.le_of_ble_eq_true rfl) rfl fun zs15 hzs15 => ?_
              have lzs15 : (zs15.length : Int) = x12.length := by rw [hzs15]; first | done | (simp; done) | (simp; omega)
              conv => cbv
              refine r_ostore (l := Int.toNat i2) zs15 m.sY hx12 (Nat.le_of_ble_eq_true rfl) rfl fun best_10 hbest_10 => ?_
              have lbest_10 : (best_10.length : Int) = best_9.length := by rw [hbest_10]; first | done | (simp; done) | (simp; omega)
              conv => cbv
              have lbest_10 : (best_10.length : Int) = best_9.length := by rw [hbest_10]; simp
              refine r_subf m.sX (by omega) (by omega) fun i_8 hi_8 => ?_
              conv => cbv
              refine hE2 _ (best_10, i_8) ?_ ?_ ⟨(by (try dsimp only) <;> (first | exact g2.set (by omega) hx12 hzs15 hbest_10 (by omega) (by omega) (fo.done (by omega)) (by omega) (by omega) | exact g2.set (by omega) hx18 hzs21 hbest_12 (by omega) (by omega) (fo.done (by omega)) (by omega) (by omega))), (by (try dsimp only) <;> (omega))⟩ (by first | omega | (dsimp only; omega))
              · cbv
              · cbv
          · refine r_subf m.sX (by omega) (by omega) fun j_141 hj_141 => ?_
            conv => cbv
            refine r_loopC (α := Bool × Int × List Int × Int × Int) m 180 [0, 2, 3, 9, 12, 13, 17, 40, 41] [⟨5, 41, 0, 0, 0⟩, ⟨8, 65, 0, 0, 0⟩, ⟨10, 81, 151 + 1000000, 1, 0⟩, ⟨14, 113, 0, 0, 0⟩] (fun σ => [(0, .isl 1 (rows cInt words)), (2, .int .i64 measure), (3, .int .i64 lines), (5, .optr 41 0 3 0 0), (8, .optr 65 0 4 0 0), (9, .int .i64 n), (10, .osl 81 0), (12, .int .i64 i2), (13, .int .i64 i_7), (14, .optr 113 0 4 0 0), (17, .int .i64 σ.2.2.2.2), (40, .int .i64 n2), (41, .int .i64 i2)]) (fun σ => [(41, 0, .box [.int .i64 rA, .int .i64 rB, .int .i64 rC]), (65, 0, .box [.bool false, .int .i64 0, .isl 1 [], .int .i64 0]), (81, 0, .tree 151 1 (rows cRunP best_9)), (113, 0, .box [.bool σ.1, .int .i64 σ.2.1, .isl 1 (rows cInt σ.2.2.1), .int .i64 σ.2.2.2.1])])
              (fun σ => FO words (rA, rB, rC) measure (md lines i2) i_7 (σ.1, σ.2.1, σ.2.2.1, σ.2.2.2.1) σ.2.2.2.2) (fun σ => (σ.2.2.2.2 + 1).toNat) (false, 0, [], 0, j_141) ?_ ?_ ?_ ?_
            · cbv
            · (try dsimp only); (try simp only [rows_cons, rows_nil]); cbv
            · exact (by (try dsimp only) <;> (exact FO.startN (by omega) (by omega) (.inl he) (by omega)))
            rintro ⟨f16, f17, ys6, f18, j_142⟩ fo E3 hE3 F3 hF3
            dsimp only at fo
            have fl := fo.lo; have fh := fo.hi; have fi := fo.i0; have fw := fo.wb; dsimp only at fw
            try dsimp only at fl
            conv => cbv
            refine r_gtr m.sX (fun h99 => ?_) (fun h99 => ?_) <;> conv => cbv
            · refine r_subf m.sX (by omega) (by omega) fun r216 hr216 => ?_
              conv => cbv
              refine r_callF (PV.int .i64) m.sX (l1Most_ok r216 0) fun r217 hr217 => ?_
              conv => cbv
              try dsimp only at hr217
              have mr217 : (r216 ≤ 0 → r217 = 0) ∧ (0 < r216 → r217 = r216) := by constructor <;> intro _ <;> omega
              refine r_oindex m.sX (by omega) (by omega) ?_
              conv => cbv
              obtain ⟨x16, hx16⟩ := get_ex (xs := best_9) (i := Int.toNat r217) (by omega)
              have lx16 := g2.rows _ _ hx16
              have mx16 := get_mem hx16
              refine r_oload m.sX hx16 (Nat.le_of_ble_eq_true rfl) ?_
              conv => cbv
              refine r_oload m.sX hx16 (Nat.le_of_ble_eq_true rfl) ?_
              conv => cbv
              refine r_oindex m.sX (by omega) (by omega) ?_
              conv => cbv
              refine r_oload m.sX hx16 (Nat.le_of_ble_eq_true rfl) ?_
              conv => cbv
              obtain ⟨⟨rest_11A, rest_11B, rest_11C, rest_11D⟩, hrest_11⟩ := get_ex (xs := x16) (i := Int.toNat j_142) (by omega)
              refine r_oload m.sX hrest_11 (Nat.le_of_ble_eq_true rfl) ?_
              conv => cbv
              refine r_eqlT m.sX (by omega) ?_
              conv => cbv
              refine r_oindex m.sX (by omega) (by omega) ?_
              conv => cbv
              obtain ⟨x17, hx17⟩ := get_ex (xs := best_9) (i := Int.toNat 0) (by omega)
              have lx17 := g2.rows _ _ hx17
              have mx17 := get_mem hx17
              refine r_oload m.sX hx17 (Nat.le_of_ble_eq_true rfl) ?_
              conv => cbv
              refine r_oload m.sX hx17 (Nat.le_of_ble_eq_true rfl) ?_
              conv => cbv
              refine r_oindex m.sX (by omega) (by omega) ?_
              conv => cbv
              refine r_oload m.sX hx17 (Nat.le_of_ble_eq_true rfl) ?_
              conv => cbv
              obtain ⟨⟨rest_12A, rest_12B, rest_12C, rest_12D⟩, hrest_12⟩ := get_ex (xs := x17) (i := Int.toNat j_142) (by omega)
              have rv := g2.restA hl (by omega) hx17 hrest_12 (by omega) (by omega) (by omega)
              refine r_oload m.sX hrest_12 (Nat.le_of_ble_eq_true rfl) ?_
              conv => cbv
              refine r_draw m (by kernel_rfl) ?_
              conv => cbv
              refine r_islice (i := i_7) (j := j_142) m.sY (by omega) (by omega) (by omega) fun zs19 hzs19 => ?_
              have lzs19 : (zs19.length : Int) = j_142 - i_7 := by rw [hzs19]; first | done | (simp; done) | (simp; omega)
              conv => cbv
              obtain ⟨z1, z2, z3⟩ := hp.cut (i := i_7.toNat) (j := j_142.toNat) (by omega) (by omega) hzs19
              refine r_callFS ib m.sY (paLine_ok zs19 (rA, rB, rC) measure false (by first | rfl | assumption | omega | (simp at *; omega)) (by first | rfl | assumption | omega | (simp at *; omega)) (by first | rfl | assumption | omega | (simp at *; omega)) (by first | rfl | assumption | omega | (simp at *; omega))) (by first | trivial | exact noFr_tup2 trivial trivial | exact noFr_tup3 trivial trivial trivial) fun v hcost_11 => ?_
              obtain ⟨cost_11, ok_13⟩ := v
              conv => cbv
              try dsimp only at hcost_11
              have lp := lineA_paL z3 hcost_11
              have cl := cost_le z1 z2.1 z4 z5 hcost_11
              rcases Bool.eq_false_or_eq_true ok_13 with rfl | rfl <;> conv => cbv
              · rcases Bool.eq_false_or_eq_true rest_12A with rfl | rfl <;> conv => cbv
                · refine r_gtrF m.sX (by omega) ?_
                  conv => cbv
                  have rv1 := rv
                  obtain ⟨wc1, wc2, wc3, wc4, wc5⟩ := pV_cost hp _ (by rw [mdq]; unfold nxM; split <;> omega) (by omega) rv1
                  dsimp only at wc1 wc2 wc3 wc4 wc5
                  refine r_appendL cInt [j_142] m.sX (by simp only [rows_cons, rows_nil]; rfl) (by first | decide | (simp; omega) | omega) (by first | decide | (simp; omega) | omega) fun breaks_22 hbreaks_22 => ?_
                  conv => cbv
                  rcases Bool.eq_false_or_eq_true f16 with rfl | rfl <;> conv => cbv
                  · refine r_addf m.sX (by omega) (by omega) fun r228 hr228 => ?_
                    conv => cbv
                    refine r_lss m.sX (fun h106 => ?_) (fun h106 => ?_) <;> conv => cbv
                    · refine r_addf m.sX (by omega) (by omega) fun r229 hr229 => ?_
                      conv => cbv
                      refine r_addf m.sX (by omega) (by omega) fun r230 hr230 => ?_
                      conv => cbv
                      refine r_subf m.sX (by omega) (by omega) fun j_149 hj_149 => ?_
                      conv => cbv
                      refine hE3 _ _ (true, r229, breaks_22, r230, j_149) (haveI := m.z; chg_sealB (k := 992) (b := 113) (p := 2) (e := 3) (z := 1) (by rfl) (by rfl) (by rfl) (by decide)) ?_ ?_ (by (try dsimp only) <;> (first | exact fo.skip (by omega) (by omega) (.inr (by simpa using lp)) | exact fo.skip (by omega) (by omega) (.inl (by omega)) | exact fo.dead (by omega) (by omega) rv rfl | exact fo.yes (by omega) (by omega) (by omega) rv1 (by omega) (by simpa using lp) (by omega) (by assumption) (by omega) (.inl rfl) | exact fo.yes (by omega) (by omega) (by omega) rv1 (by omega) (by simpa using lp) (by omega) (by assumption) (by omega) (.inr (.inl (by omega))) | exact fo.yes (by omega) (by omega) (by omega) rv1 (by omega) (by simpa using lp) (by omega) (by assumption) (by omega) (.inr (.inr ⟨by omega, by assumption⟩)) | exact fo.no (by omega) (by omega) (by omega) rv1 (by omega) (by simpa using lp) (by assumption) (by omega) rfl (by omega) (fun _ => by assumption) | exact fo.no (by omega) (by omega) (by omega) rv1 (by omega) (by simpa using lp) (by assumption) (by omega) rfl (by omega) (fun q1 => by omega))) (by first | omega | (dsimp only; omega))
                      · cbv
                      · cbv
                    · refine r_addf m.sX (by omega) (by omega) fun r231 hr231 => ?_
                      conv => cbv
                      refine r_eql m.sX (fun h107 => ?_) (fun h107 => ?_) <;> conv => cbv
                      · refine .inl (r_callBO m.sX ((tyLess_ok breaks_22 ys6).ok flat_bool) (fun h108 => ?_) (fun h108 => ?_)) <;> conv => cbv
                        · refine r_addf m.sX (by omega) (by omega) fun r232 hr232 => ?_
                          conv => cbv
                          refine r_addf m.sX (by omega) (by omega) fun r233 hr233 => ?_
                          conv => cbv
                          refine r_subf m.sX (by omega) (by omega) fun j_150 hj_150 => ?_
                          conv => cbv
                          refine hE3 _ _ (true, r232, breaks_22, r233, j_150) (haveI := m.z; chg_sealB (k := 992) (b := 113) (p := 2) (e := 3) (z := 1) (by rfl) (by rfl) (by rfl) (by decide)) ?_ ?_ (by (try dsimp only) <;> (first | exact fo.skip (by omega) (by omega) (.inr (by simpa using lp)) | exact fo.skip (by omega) (by omega) (.inl (by omega)) | exact fo.dead (by omega) (by omega) rv rfl | exact fo.yes (by omega) (by omega) (by omega) rv1 (by omega) (by simpa using lp) (by omega) (by assumption) (by omega) (.inl rfl) | exact fo.yes (by omega) (by omega) (by omega) rv1 (by omega) (by simpa using lp) (by omega) (by assumption) (by omega) (.inr (.inl (by omega))) | exact fo.yes (by omega) (by omega) (by omega) rv1 (by omega) (by simpa using lp) (by omega) (by assumption) (by omega) (.inr (.inr ⟨by omega, by assumption⟩)) | exact fo.no (by omega) (by omega) (by omega) rv1 (by omega) (by simpa using lp) (by assumption) (by omega) rfl (by omega) (fun _ => by assumption) | exact fo.no (by omega) (by omega) (by omega) rv1 (by omega) (by simpa using lp) (by assumption) (by omega) rfl (by omega) (fun q1 => by omega))) (by first | omega | (dsimp only; omega))
                          · cbv
                          · cbv
                        · refine r_addf m.sX (by omega) (by omega) fun r234 hr234 => ?_
                          conv => cbv
                          refine r_subf m.sX (by omega) (by omega) fun j_151 hj_151 => ?_
                          conv => cbv
                          refine hE3 _ _ (true, f17, ys6, r234, j_151) (Chg.refl _) ?_ ?_ (by (try dsimp only) <;> (first | exact fo.skip (by omega) (by omega) (.inr (by simpa using lp)) | exact fo.skip (by omega) (by omega) (.inl (by omega)) | exact fo.dead (by omega) (by omega) rv rfl | exact fo.yes (by omega) (by omega) (by omega) rv1 (by omega) (by simpa using lp) (by omega) (by assumption) (by omega) (.inl rfl) | exact fo.yes (by omega) (by omega) (by omega) rv1 (by omega) (by simpa using lp) (by omega) (by assumption) (by omega) (.inr (.inl (by omega))) | exact fo.yes (by omega) (by omega) (by omega) rv1 (by omega) (by simpa using lp) (by omega) (by assumption) (by omega) (.inr (.inr ⟨by omega, by assumption⟩)) | exact fo.no (by omega) (by omega) (by omega) rv1 (by omega) (by simpa using lp) (by assumption) (by omega) rfl (by omega) (fun _ => by assumption) | exact fo.no (by omega) (by omega) (by omega) rv1 (by omega) (by simpa using lp) (by assumption) (by omega) rfl (by omega) (fun q1 => by omega))) (by first | omega | (dsimp only; omega))
                          · cbv
                          · cbv
                      · refine r_addf m.sX (by omega) (by omega) fun r235 hr235 => ?_
                        conv => cbv
                        refine r_subf m.sX (by omega) (by omega) fun j_152 hj_152 => ?_
                        conv => cbv
                        refine hE3 _ _ (true, f17, ys6, r235, j_152) (Chg.refl _) ?_ ?_ (by (try dsimp only) <;> (first | exact fo.skip (by omega) (by omega) (.inr (by simpa using lp)) | exact fo.skip (by omega) (by omega) (.inl (by omega)) | exact fo.dead (by omega) (by omega) rv rfl | exact fo.yes (by omega) (by omega) (by omega) rv1 (by omega) (by simpa using lp) (by omega) (by assumption) (by omega) (.inl rfl) | exact fo.yes (by omega) (by omega) (by omega) rv1 (by omega) (by simpa using lp) (by omega) (by assumption) (by omega) (.inr (.inl (by omega))) | exact fo.yes (by omega) (by omega) (by omega) rv1 (by omega) (by simpa using lp) (by omega) (by assumption) (by omega) (.inr (.inr ⟨by omega, by assumption⟩)) | exact fo.no (by omega) (by omega) (by omega) rv1 (by omega) (by simpa using lp) (by assumption) (by omega) rfl (by omega) (fun _ => by assumption) | exact fo.no (by omega) (by omega) (by omega) rv1 (by omega) (by simpa using lp) (by assumption) (by omega) rfl (by omega) (fun q1 => by omega))) (by first | omega | (dsimp only; omega))
                        · cbv
                        · cbv
                  · refine r_addf m.sX (by omega) (by omega) fun r236 hr236 => ?_
                    conv => cbv
                    refine r_addf m.sX (by omega) (by omega) fun r237 hr237 => ?_
                    conv => cbv
                    refine r_subf m.sX (by omega) (by omega) fun j_153 hj_153 => ?_
                    conv => cbv
                    refine hE3 _ _ (true, r236, breaks_22, r237, j_153) (haveI := m.z; chg_sealB (k := 992) (b := 113) (p := 2) (e := 3) (z := 1) (by rfl) (by rfl) (by rfl) (by decide)) ?_ ?_ (by (try dsimp only) <;> (first | exact fo.skip (by omega) (by omega) (.inr (by simpa using lp)) | exact fo.skip (by omega) (by omega) (.inl (by omega)) | exact fo.dead (by omega) (by omega) rv rfl | exact fo.yes (by omega) (by omega) (by omega) rv1 (by omega) (by simpa using lp) (by omega) (by assumption) (by omega) (.inl rfl) | exact fo.yes (by omega) (by omega) (by omega) rv1 (by omega) (by simpa using lp) (by omega) (by assumption) (by omega) (.inr (.inl (by omega))) | exact fo.yes (by omega) (by omega) (by omega) rv1 (by omega) (by simpa using lp) (by omega) (by assumption) (by omega) (.inr (.inr ⟨by omega, by assumption⟩)) | exact fo.no (by omega) (by omega) (by omega) rv1 (by omega) (by simpa using lp) (by assumption) (by omega) rfl (by omega) (fun _ => by assumption) | exact fo.no (by omega) (by omega) (by omega) rv1 (by omega) (by simpa using lp) (by assumption) (by omega) rfl (by omega) (fun q1 => by omega))) (by first | omega | (dsimp only; omega))
                    · cbv
                    · cbv
                · refine r_subf m.sX (by omega) (by omega) fun j_154 hj_154 => ?_
                  conv => cbv
                  refine hE3 _ _ (f16, f17, ys6, f18, j_154) (Chg.refl _) ?_ ?_ (by (try dsimp only) <;> (first | exact fo.skip (by omega) (by omega) (.inr (by simpa using lp)) | exact fo.skip (by omega) (by omega) (.inl (by omega)) | exact fo.dead (by omega) (by omega) rv rfl | exact fo.yes (by omega) (by omega) (by omega) rv1 (by omega) (by simpa using lp) (by omega) (by assumption) (by omega) (.inl rfl) | exact fo.yes (by omega) (by omega) (by omega) rv1 (by omega) (by simpa using lp) (by omega) (by assumption) (by omega) (.inr (.inl (by omega))) | exact fo.yes (by omega) (by omega) (by omega) rv1 (by omega) (by simpa using lp) (by omega) (by assumption) (by omega) (.inr (.inr ⟨by omega, by assumption⟩)) | exact fo.no (by omega) (by omega) (by omega) rv1 (by omega) (by simpa using lp) (by assumption) (by omega) rfl (by omega) (fun _ => by assumption) | exact fo.no (by omega) (by omega) (by omega) rv1 (by omega) (by simpa using lp) (by assumption) (by omega) rfl (by omega) (fun q1 => by omega))) (by first | omega | (dsimp only; omega))
                  · cbv
                  · cbv
              · refine r_subf m.sX (by omega) (by omega) fun j_155 hj_155 => ?_
                conv => cbv
                refine hE3 _ _ (f16, f17, ys6, f18, j_155) (Chg.refl _) ?_ ?_ (by (try dsimp only) <;> (first | exact fo.skip (by omega) (by omega) (.inr (by simpa using lp)) | exact fo.skip (by omega) (by omega) (.inl (by omega)) | exact fo.dead (by omega) (by omega) rv rfl | exact fo.yes (by omega) (by omega) (by omega) rv1 (by omega) (by simpa using lp) (by omega) (by assumption) (by omega) (.inl rfl) | exact fo.yes (by omega) (by omega) (by omega) rv1 (by omega) (by simpa using lp) (by omega) (by assumption) (by omega) (.inr (.inl (by omega))) | exact fo.yes (by omega) (by omega) (by omega) rv1 (by omega) (by simpa using lp) (by omega) (by assumption) (by omega) (.inr (.inr ⟨by omega, by assumption⟩)) | exact fo.no (by omega) (by omega) (by omega) rv1 (by omega) (by simpa using lp) (by assumption) (by omega) rfl (by omega) (fun _ => by assumption) | exact fo.no (by omega) (by omega) (by omega) rv1 (by omega) (by simpa using lp) (by assumption) (by omega) rfl (by omega) (fun q1 => by omega))) (by first | omega | (dsimp only; omega))
                · cbv
                · cbv
            · refine hF3 _ _ ?_
              conv => cbv
              refine r_draw m (by kernel_rfl) ?_
              conv => cbv
              refine r_oindex m.sY (by omega) (by omega) ?_
              conv => cbv
              obtain ⟨x18, hx18⟩ := get_ex (xs := best_9) (i := Int.toNat i2) (by omega)
              have lx18 := g2.rows _ _ hx18
              have mx18 := get_mem hx18
              have dx18 := drop_cons hx18
              have kx18 := take_snoc hx18
              have jx18 : (i2 + 1).toNat = Int.toNat i2 + 1 := by omega
              refine r_oload m.sY hx18 (Nat.le_of_ble_eq_true rfl) ?_
              conv => cbv
              refine r_oload m.sY hx18 (Nat.le_of_ble_eq_true rfl) ?_
              conv => cbv
              refine r_oindex m.sY (by omega) (by omega) ?_
              conv => cbv
              refine r_oload m.sY hx18 (Nat.le_of_ble_eq_true rfl) ?_
              conv => cbv
              obtain ⟨y7, hy7⟩ := get_ex (xs := x18) (i := Int.toNat i_7) (by omega)
              have my7 := get_mem hy7
              refine r_ostore (l := Int.toNat i_7) (f16, f17, ys6, f18) m.sY hy7 (Nat.le_of_ble_eq_true rfl) rfl fun zs21 hzs21 => ?_
              have lzs21 : (zs21.length : Int) = x18.length := by rw [hzs21]; first | done | (simp; done) | (simp; omega)
              conv => cbv
              refine r_ostore (l := Int.toNat i2) zs21 m.sY hx18 (Nat.le_of_ble_eq_true rfl) rfl fun best_12 hbest_12 => ?_
              have lbest_12 : (best_12.length : Int) = best_9.length := by rw [hbest_12]; first | done | (simp; done) | (simp; omega)
              conv => cbv
              have lbest_12 : (best_12.length : Int) = best_9.length := by rw [hbest_12]; simp
              refine r_subf m.sX (by omega) (by omega) fun i_10 hi_10 => ?_
              conv => cbv
              refine hE2 _ (best_12, i_10) ?_ ?_ ⟨(by (try dsimp only) <;> (first | exact g2.set (by omega) hx12 hzs15 hbest_10 (by omega) (by omega) (fo.done (by omega)) (by omega) (by omega) | exact g2.set (by omega) hx18 hzs21 hbest_12 (by omega) (by omega) (fo.done (by omega)) (by omega) (by omega))), (by (try dsimp only) <;> (omega))⟩ (by first | omega | (dsimp only; omega))
              · cbv
              · cbv
        · refine hF2 _ _ ?_
          conv => cbv
          refine r_addf m.sX (by omega) (by omega) fun r258 hr258 => ?_
          conv => cbv
          try have tr258 : Int.toNat r258 = Int.toNat i2 + 1 := by omega
          refine hE _ (best_9, r258) ?_ ?_ ⟨(by (try dsimp only); first | omega | (simp; omega)), (by (try dsimp only); first | omega | (simp; omega)), (by (try dsimp only) <;> (first | exact g1.skip (by omega) (by omega) | exact g2.next (by omega) (by omega) (by omega) (by omega)))⟩ (by first | omega | (dsimp only; omega))
          · cbv
          · cbv
      · have dz_i2 := drop_end (xs := best_2) (i := Int.toNat i2) (by omega)
        have tz_i2 := take_end (xs := best_2) (i := Int.toNat i2) (by omega)
        refine hF _ _ ?_
        conv => cbv
        refine r_oindex m.sX (by omega) (by omega) ?_
        conv => cbv
        obtain ⟨x19, hx19⟩ := get_ex (xs := best_4) (i := Int.toNat lines) (by omega)
        have lx19 := g1.rows _ _ hx19
        have mx19 := get_mem hx19
        refine r_oload m.sX hx19 (Nat.le_of_ble_eq_true rfl) ?_
        conv => cbv
        refine r_oload m.sX hx19 (Nat.le_of_ble_eq_true rfl) ?_
        conv => cbv
        refine r_oindex m.sX (by omega) (by omega) ?_
        conv => cbv
        refine r_oload m.sX hx19 (Nat.le_of_ble_eq_true rfl) ?_
        conv => cbv
        obtain ⟨⟨x20A, x20B, x20C, x20D⟩, hx20⟩ := get_ex (xs := x19) (i := Int.toNat 0) (by omega)
        refine r_oload m.sX hx20 (Nat.le_of_ble_eq_true rfl) ?_
        conv => cbv
        exact hQ (.agg [.bool x20A, .int .i64 x20B, .isl 1 (rows cInt x20C), .int .i64 x20D]) (Eq.trans (by first | rfl | (simp only [lb, lbI, rows_cons, rows_nil, unnilT, unnil, unnilTI, unnilI]; try rfl)) (congrArg ((fun x => PV.agg (cPaWay x))) (show (x20A, x20B, x20C, x20D) = pV words (rA, rB, rC) measure (-1) 0 from by exact g1.ansA (by omega) (by omega) hx19 hx20 (by omega))))

end Go.Proofs.Ytiaodmfipeoegaa.Ai
