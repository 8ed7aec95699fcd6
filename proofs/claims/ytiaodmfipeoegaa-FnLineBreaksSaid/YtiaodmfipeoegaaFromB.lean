/- The least ways through a paragraph, with a number of lines that is given (printed by mk39d.py). -/
import Derived.Test.YtiaodmfipeoegaaFromA
set_option linter.unusedVariables false
set_option linter.unusedSimpArgs false
set_option maxRecDepth 10000
set_option maxHeartbeats 8000000
namespace Go.Proofs.Ytiaodmfipeoegaa.Ai
open Go Go.Proofs
theorem paFromB_ok (words : List Int) (r : JRule) (measure : Int) (lines : Int) (hp : Pin words r measure) (hl : 1 ≤ lines ∧ lines ≤ 30) : OkA Try.prog 107 [.isl 1 (rows cInt words), .agg (cRule r), .int .i64 measure, .int .i64 lines] (· = (fun x => PV.agg (cPaWay x)) (pV words r measure lines 0)) := by
  obtain ⟨rA, rB, rC⟩ := r
  try dsimp only at *
  exact fn_intro (nestIn_ok 150 wayEnv) (nestIn_fields 150 (zeroIn_fields (T := 126) (cs := zWay) fieldsOk)) mixed Try.func107 rfl fun κ X Y L Q m hQ => by
    have sp := okPara_spec hp.para
    try dsimp only at sp
    have sp2 := sp.2
    try dsimp only at sp2
    have z4 := hp.rule; have z5 := hp.meas
    try dsimp only at z4
    conv => cbv
    refine r_lenR m.sX fun n hn mn => ?_
    conv => cbv
    refine r_addf m.sX (by omega) (by omega) fun r1 hr1 => ?_
    conv => cbv
    refine r_make cRunP [] m.sX (by first | (simp only [cRunP, rows_nil]; done) | (simp only [cRunP, rows_nil]; rfl)) (by omega) (by omega) (by dsimp only; omega) (by omega) fun best hbest => ?_
    have lbest : (best.length : Int) = r1 := by rw [hbest]; first | done | (simp; done) | (simp; omega)
    conv => cbv
    refine r_lenR m.sX fun n1 hn1 mn1 => ?_
    conv => cbv
    refine r_loopF (α := List (List PW) × Int) m 180 [0, 2, 3, 9, 28, 29] [⟨5, 41, 0, 0, 0⟩, ⟨8, 65, 0, 0, 0⟩, ⟨10, 81, 151 + 1000000, 1, 0⟩] (fun σ => [(0, .isl 1 (rows cInt words)), (2, .int .i64 measure), (3, .int .i64 lines), (5, .optr 41 0 3 0 0), (8, .optr 65 0 4 0 0), (9, .int .i64 n), (10, .osl 81 0), (28, .int .i64 n1), (29, .int .i64 σ.2)]) (fun σ => [(41, 0, .box [.int .i64 rA, .int .i64 rB, .int .i64 rC]), (65, 0, .box [.bool false, .int .i64 0, .isl 1 [], .int .i64 0]), (81, 0, .tree 151 1 (rows cRunP σ.1))])
      (fun σ => (0 ≤ σ.2) ∧ (σ.2 ≤ n1) ∧ (FT0 words lines σ.1 σ.2)) (fun σ => (n1 - σ.2).toNat) (best, 0) ?_ ?_ ?_ ?_
    · cbv
    · cbv
    · exact ⟨(by (try dsimp only); first | omega | (simp; omega)), (by (try dsimp only); first | omega | (simp; omega)), (by (try dsimp only) <;> (exact ⟨by omega, fun t x hx ht => by omega⟩))⟩
    rintro ⟨best_2, i1⟩ ⟨lo1, hi1, g0⟩ E hE F hF
    dsimp only at lo1 hi1 g0
    have bl1 := g0.len
    try dsimp only at bl1
    conv => cbv
    refine r_lss m.sX (fun h1 => ?_) (fun h1 => ?_) <;> conv => cbv
    · refine r_addf m.sX (by omega) (by omega) fun r2 hr2 => ?_
      conv => cbv
      refine r_make cPaWay (false, 0, [], 0) m.sX (by first | (simp only [cPaWay, rows_nil]; done) | (simp only [cPaWay, rows_nil]; rfl)) (by omega) (by omega) (by dsimp only; omega) (by omega) fun zs1 hzs1 => ?_
      have lzs1 : (zs1.length : Int) = r2 := by rw [hzs1]; first | done | (simp; done) | (simp; omega)
      conv => cbv
      refine r_oindex m.sX (by omega) (by omega) ?_
      conv => cbv
      obtain ⟨y1, hy1⟩ := get_ex (xs := best_2) (i := Int.toNat i1) (by omega)
      refine r_ostore (l := Int.toNat i1) zs1 m.sX hy1 (Nat.le_of_ble_eq_true rfl) rfl fun best_3 hbest_3 => ?_
      have lbest_3 : (best_3.length : Int) = best_2.length := by rw [hbest_3]; first | done | (simp; done) | (simp; omega)
      conv => cbv
      refine r_clean m.sX cRunP_clean ?_
      conv => cbv
      refine r_addf m.sX (by omega) (by omega) fun r3 hr3 => ?_
      conv => cbv
      try have tr3 : Int.toNat r3 = Int.toNat i1 + 1 := by omega
      refine hE _ (best_3, r3) ?_ ?_ ⟨(by (try dsimp only); first | omega | (simp; omega)), (by (try dsimp only); first | omega | (simp; omega)), (by (try dsimp only) <;> (exact g0.step (by omega) (by omega) hbest_3 (by omega)))⟩ (by first | omega | (dsimp only; omega))
      · cbv
      · cbv
    · have dz_i1 := drop_end (xs := best) (i := Int.toNat i1) (by omega)
      have tz_i1 := take_end (xs := best) (i := Int.toNat i1) (by omega)
      refine hF _ _ ?_
      conv => cbv
      refine r_lenR m.sX fun n2 hn2 mn2 => ?_
      conv => cbv
      refine r_loopF (α := List (List PW) × Int) m 180 [0, 2, 3, 9, 40, 41] [⟨5, 41, 0, 0, 0⟩, ⟨8, 65, 0, 0, 0⟩, ⟨10, 81, 151 + 1000000, 1, 0⟩] (fun σ => [(0, .isl 1 (rows cInt words)), (2, .int .i64 measure), (3, .int .i64 lines), (5, .optr 41 0 3 0 0), (8, .optr 65 0 4 0 0), (9, .int .i64 n), (10, .osl 81 0), (40, .int .i64 n2), (41, .int .i64 σ.2)]) (fun σ => [(41, 0, .box [.int .i64 rA, .int .i64 rB, .int .i64 rC]), (65, 0, .box [.bool false, .int .i64 0, .isl 1 [], .int .i64 0]), (81, 0, .tree 151 1 (rows cRunP σ.1))])
        (fun σ => (0 ≤ σ.2) ∧ (σ.2 ≤ n2) ∧ (FT words (rA, rB, rC) measure lines σ.1 σ.2 ((words.length : Int) - 1))) (fun σ => (n2 - σ.2).toNat) (best_2, 0) ?_ ?_ ?_ ?_
      · cbv
      · cbv
      · exact ⟨(by (try dsimp only); first | omega | (simp; omega)), (by (try dsimp only); first | omega | (simp; omega)), (by (try dsimp only) <;> (exact FT.start g0 (by omega)))⟩
      rintro ⟨best_4, i2⟩ ⟨lo2, hi2, g1⟩ E hE F hF
      dsimp only at lo2 hi2 g1
      have bl2 := g1.len
      try dsimp only at bl2
      conv => cbv
      refine r_lss m.sX (fun h2 => ?_) (fun h2 => ?_) <;> conv => cbv
      · refine r_gtrT m.sX (by omega) ?_
        conv => cbv
        refine r_eql m.sX (fun h4 => ?_) (fun h4 => ?_) <;> conv => cbv
        · refine r_addf m.sX (by omega) (by omega) fun r4 hr4 => ?_
          conv => cbv
          try have tr4 : Int.toNat r4 = Int.toNat i2 + 1 := by omega
          refine hE _ (best_4, r4) ?_ ?_ ⟨(by (try dsimp only); first | omega | (simp; omega)), (by (try dsimp only); first | omega | (simp; omega)), (by (try dsimp only) <;> (first | exact g1.skip (by omega) (by omega) | exact g2.next (by omega) (by omega) (by omega) (by omega)))⟩ (by first | omega | (dsimp only; omega))
          · cbv
          · cbv
        · refine r_subf m.sX (by omega) (by omega) fun i hi => ?_
          conv => cbv
          refine r_loopF (α := List (List PW) × Int) m 180 [0, 2, 3, 9, 12, 13, 40, 41] [⟨5, 41, 0, 0, 0⟩, ⟨8, 65, 0, 0, 0⟩, ⟨10, 81, 151 + 1000000, 1, 0⟩] (fun σ => [(0, .isl 1 (rows cInt words)), (2, .int .i64 measure), (3, .int .i64 lines), (5, .optr 41 0 3 0 0), (8, .optr 65 0 4 0 0), (9, .int .i64 n), (10, .osl 81 0), (12, .int .i64 i2), (13, .int .i64 σ.2), (40, .int .i64 n2), (41, .int .i64 i2)]) (fun σ => [(41, 0, .box [.int .i64 rA, .int .i64 rB, .int .i64 rC]), (65, 0, .box [.bool false, .int .i64 0, .isl 1 [], .int .i64 0]), (81, 0, .tree 151 1 (rows cRunP σ.1))])
            (fun σ => (FT words (rA, rB, rC) measure lines σ.1 i2 σ.2) ∧ (-1 ≤ σ.2 ∧ σ.2 ≤ (words.length : Int) - 1)) (fun σ => (σ.2 + 1).toNat) (best_4, i) ?_ ?_ ?_ ?_
          · cbv
          · cbv
          · exact ⟨(by (try dsimp only) <;> (rw [show i = (words.length : Int) - 1 by omega]; exact g1)), (by (try dsimp only) <;> (omega))⟩
          rintro ⟨best_5, i_2⟩ ⟨g2, g3⟩ E2 hE2 F2 hF2
          dsimp only at g2 g3
          have bl3 := g2.len
          try dsimp only at bl3
          have mdq : md lines i2 = i2 := by unfold md; rw [if_neg (by omega)]
          conv => cbv
          refine r_geq m.sX (fun h5 => ?_) (fun h5 => ?_) <;> conv => cbv
          · refine r_draw m (by kernel_rfl) ?_
            conv => cbv
            refine r_islice' (i := i_2) m.sY (by omega) (by omega) fun zs2 hzs2 => ?_
            have lzs2 : (zs2.length : Int) = words.length - i_2 := by rw [hzs2]; first | done | (simp; done) | (simp; omega)
            conv => cbv
            obtain ⟨z1, z2⟩ := hp.tail (i := i_2.toNat) (by omega) hzs2
            refine r_callFS ib m.sY (paLine_ok zs2 (rA, rB, rC) measure true (by first | rfl | assumption | omega | (simp at *; omega)) (by first | rfl | assumption | omega | (simp at *; omega)) (by first | rfl | assumption | omega | (simp at *; omega)) (by first | rfl | assumption | omega | (simp at *; omega))) (by first | trivial | exact noFr_tup2 trivial trivial | exact noFr_tup3 trivial trivial trivial) fun v hv1 => ?_
            obtain ⟨v1, ok⟩ := v
            conv => cbv
            try dsimp only at hv1
            have he := lineS_E hzs2 hv1
            rcases Bool.eq_false_or_eq_true ok with rfl | rfl <;> conv => cbv
            · refine r_leq m.sX (fun h6 => ?_) (fun h6 => ?_) <;> conv => cbv
              · refine r_subf m.sX (by omega) (by omega) fun j hj => ?_
                conv => cbv
                refine r_loopC (α := Bool × Int × List Int × Int × Int) m 180 [0, 2, 3, 9, 12, 13, 17, 40, 41] [⟨5, 41, 0, 0, 0⟩, ⟨8, 65, 0, 0, 0⟩, ⟨10, 81, 151 + 1000000, 1, 0⟩, ⟨14, 113, 0, 0, 0⟩] (fun σ => [(0, .isl 1 (rows cInt words)), (2, .int .i64 measure), (3, .int .i64 lines), (5, .optr 41 0 3 0 0), (8, .optr 65 0 4 0 0), (9, .int .i64 n), (10, .osl 81 0), (12, .int .i64 i2), (13, .int .i64 i_2), (14, .optr 113 0 4 0 0), (17, .int .i64 σ.2.2.2.2), (40, .int .i64 n2), (41, .int .i64 i2)]) (fun σ => [(41, 0, .box [.int .i64 rA, .int .i64 rB, .int .i64 rC]), (65, 0, .box [.bool false, .int .i64 0, .isl 1 [], .int .i64 0]), (81, 0, .tree 151 1 (rows cRunP best_5)), (113, 0, .box [.bool σ.1, .int .i64 σ.2.1, .isl 1 (rows cInt σ.2.2.1), .int .i64 σ.2.2.2.1])])
                  (fun σ => FO words (rA, rB, rC) measure (md lines i2) i_2 (σ.1, σ.2.1, σ.2.2.1, σ.2.2.2.1) σ.2.2.2.2) (fun σ => (σ.2.2.2.2 + 1).toNat) (true, 0, [], 1, j) ?_ ?_ ?_ ?_
                · cbv
                · (try dsimp only); (try simp only [rows_cons, rows_nil]); cbv
                · exact (by (try dsimp only) <;> (exact FO.startY (by omega) (by omega) he (.inl (by omega)) (by omega)))
                rintro ⟨f1, f2, ys1, f3, j_2⟩ fo E3 hE3 F3 hF3
                dsimp only at fo
                have fl := fo.lo; have fh := fo.hi; have fi := fo.i0; have fw := fo.wb; dsimp only at fw
                try dsimp only at fl
                conv => cbv
                refine r_gtr m.sX (fun h7 => ?_) (fun h7 => ?_) <;> conv => cbv
                · refine r_subf m.sX (by omega) (by omega) fun r5 hr5 => ?_
                  conv => cbv
                  refine r_callF (PV.int .i64) m.sX (l1Most_ok r5 0) fun r6 hr6 => ?_
                  conv => cbv
                  try dsimp only at hr6
                  have mr6 : (r5 ≤ 0 → r6 = 0) ∧ (0 < r5 → r6 = r5) := by constructor <;> intro _ <;> omega
                  refine r_oindex m.sX (by omega) (by omega) ?_
                  conv => cbv
                  obtain ⟨x1, hx1⟩ := get_ex (xs := best_5) (i := Int.toNat r6) (by omega)
                  have lx1 := g2.rows _ _ hx1
                  have mx1 := get_mem hx1
                  refine r_oload m.sX hx1 (Nat.le_of_ble_eq_true rfl) ?_
                  conv => cbv
                  refine r_oload m.sX hx1 (Nat.le_of_ble_eq_true rfl) ?_
                  conv => cbv
                  refine r_oindex m.sX (by omega) (by omega) ?_
                  conv => cbv
                  refine r_oload m.sX hx1 (Nat.le_of_ble_eq_true rfl) ?_
                  conv => cbv
                  obtain ⟨⟨restA, restB, restC, restD⟩, hrest⟩ := get_ex (xs := x1) (i := Int.toNat j_2) (by omega)
                  have rv : 1 < i2 → ((restA, restB, restC, restD) : PW) = pV words (rA, rB, rC) measure (nxM (md lines i2)) (Int.toNat j_2) := fun hk => g2.restB (by omega) hk (by omega) hx1 hrest (by omega) (by omega)
                  refine r_oload m.sX hrest (Nat.le_of_ble_eq_true rfl) ?_
                  conv => cbv
                  refine r_eqlF m.sX (by omega) ?_
                  conv => cbv
                  refine r_draw m (by kernel_rfl) ?_
                  conv => cbv
                  refine r_islice (i := i_2) (j := j_2) m.sY (by omega) (by omega) (by omega) fun zs4 hzs4 => ?_
                  have lzs4 : (zs4.length : Int) = j_2 - i_2 := by rw [hzs4]; first | done | (simp; done) | (simp; omega)
                  conv => cbv
                  obtain ⟨z1, z2, z3⟩ := hp.cut (i := i_2.toNat) (j := j_2.toNat) (by omega) (by omega) hzs4
                  refine r_callFS ib m.sY (paLine_ok zs4 (rA, rB, rC) measure false (by first | rfl | assumption | omega | (simp at *; omega)) (by first | rfl | assumption | omega | (simp at *; omega)) (by first | rfl | assumption | omega | (simp at *; omega)) (by first | rfl | assumption | omega | (simp at *; omega))) (by first | trivial | exact noFr_tup2 trivial trivial | exact noFr_tup3 trivial trivial trivial) fun v hcost_2 => ?_
                  obtain ⟨cost_2, ok_3⟩ := v
                  conv => cbv
                  try dsimp only at hcost_2
                  have lp := lineA_paL z3 hcost_2
                  have cl := cost_le z1 z2.1 z4 z5 hcost_2
                  rcases Bool.eq_false_or_eq_true ok_3 with rfl | rfl <;> conv => cbv
                  · rcases Bool.eq_false_or_eq_true restA with rfl | rfl <;> conv => cbv
                    · refine r_gtrT m.sX (by omega) ?_
                      conv => cbv
                      refine r_eql m.sX (fun h18 => ?_) (fun h18 => ?_) <;> conv => cbv
                      · refine r_subf m.sX (by omega) (by omega) fun j_16 hj_16 => ?_
                        conv => cbv
                        refine hE3 _ _ (f1, f2, ys1, f3, j_16) (Chg.refl _) ?_ ?_ (by (try dsimp only) <;> (first | exact fo.skip (by omega) (by omega) (.inr (by simpa using lp)) | exact fo.skip (by omega) (by omega) (.inl (by omega)) | (rcases (show i2 = 1 ∨ 1 < i2 by omega) with q1 | q1; exact fo.skip (by omega) (by omega) (.inl (by omega)); exact fo.dead (by omega) (by omega) (rv q1) rfl) | exact fo.yes (by omega) (by omega) (by omega) rv1 (by omega) (by simpa using lp) (by omega) (by assumption) (by omega) (.inl rfl) | exact fo.yes (by omega) (by omega) (by omega) rv1 (by omega) (by simpa using lp) (by omega) (by assumption) (by omega) (.inr (.inl (by omega))) | exact fo.yes (by omega) (by omega) (by omega) rv1 (by omega) (by simpa using lp) (by omega) (by assumption) (by omega) (.inr (.inr ⟨by omega, by assumption⟩)) | exact fo.no (by omega) (by omega) (by omega) rv1 (by omega) (by simpa using lp) (by assumption) (by omega) rfl (by omega) (fun _ => by assumption) | exact fo.no (by omega) (by omega) (by omega) rv1 (by omega) (by simpa using lp) (by assumption) (by omega) rfl (by omega) (fun q1 => by omega))) (by first | omega | (dsimp only; omega))
                        · cbv
                        · cbv
                      · have i21 : 1 < i2 := by omega
                        have rv1 := rv i21
                        obtain ⟨wc1, wc2, wc3, wc4, wc5⟩ := pV_cost hp _ (by rw [mdq]; unfold nxM; split <;> omega) (by omega) rv1
                        dsimp only at wc1 wc2 wc3 wc4 wc5
                        refine r_appendL cInt [j_2] m.sX (by simp only [rows_cons, rows_nil]; rfl) (by first | decide | (simp; omega) | omega) (by first | decide | (simp; omega) | omega) fun breaks_3 hbreaks_3 => ?_
                        conv => cbv
                        rcases Bool.eq_false_or_eq_true f1 with rfl | rfl <;> conv => cbv
                        · refine r_addf m.sX (by omega) (by omega) fun r27 hr27 => ?_
                          conv => cbv
                          refine r_lss m.sX (fun h19 => ?_) (fun h19 => ?_) <;> conv => cbv
                          · refine r_addf m.sX (by omega) (by omega) fun r28 hr28 => ?_
                            conv => cbv
                            refine r_addf m.sX (by omega) (by omega) fun r29 hr29 => ?_
                            conv => cbv
                            refine r_subf m.sX (by omega) (by omega) fun j_17 hj_17 => ?_
                            conv => cbv
                            refine hE3 _ _ (true, r28, breaks_3, r29, j_17) (haveI := m.z; chg_sealB (k := 992) (b := 113) (p := 2) (e := 3) (z := 1) (by rfl) (by rfl) (by rfl) (by decide)) ?_ ?_ (by (try dsimp only) <;> (first | exact fo.skip (by omega) (by omega) (.inr (by simpa using lp)) | exact fo.skip (by omega) (by omega) (.inl (by omega)) | (rcases (show i2 = 1 ∨ 1 < i2 by omega) with q1 | q1; exact fo.skip (by omega) (by omega) (.inl (by omega)); exact fo.dead (by omega) (by omega) (rv q1) rfl) | exact fo.yes (by omega) (by omega) (by omega) rv1 (by omega) (by simpa using lp) (by omega) (by assumption) (by omega) (.inl rfl) | exact fo.yes (by omega) (by omega) (by omega) rv1 (by omega) (by simpa using lp) (by omega) (by assumption) (by omega) (.inr (.inl (by omega))) | exact fo.yes (by omega) (by omega) (by omega) rv1 (by omega) (by simpa using lp) (by omega) (by assumption) (by omega) (.inr (.inr ⟨by omega, by assumption⟩)) | exact fo.no (by omega) (by omega) (by omega) rv1 (by omega) (by simpa using lp) (by assumption) (by omega) rfl (by omega) (fun _ => by assumption) | exact fo.no (by omega) (by omega) (by omega) rv1 (by omega) (by simpa using lp) (by assumption) (by omega) rfl (by omega) (fun q1 => by omega))) (by first | omega | (dsimp only; omega))
                            · cbv
                            · cbv
                          · refine r_addf m.sX (by omega) (by omega) fun r30 hr30 => ?_
                            conv => cbv
                            refine r_eql m.sX (fun h20 => ?_) (fun h20 => ?_) <;> conv => cbv
                            · refine .inl (r_callBO m.sX ((tyLess_ok breaks_3 ys1).ok flat_bool) (fun h21 => ?_) (fun h21 => ?_)) <;> conv => cbv
                              · refine r_addf m.sX (by omega) (by omega) fun r31 hr31 => ?_
                                conv => cbv
                                refine r_addf m.sX (by omega) (by omega) fun r32 hr32 => ?_
                                conv => cbv
                                refine r_subf m.sX (by omega) (by omega) fun j_18 hj_18 => ?_
                                conv => cbv
                                refine hE3 _ _ (true, r31, breaks_3, r32, j_18) (haveI := m.z; chg_sealB (k := 992) (b := 113) (p := 2) (e := 3) (z := 1) (by rfl) (by rfl) (by rfl) (by decide)) ?_ ?_ (by (try dsimp only) <;> (first | exact fo.skip (by omega) (by omega) (.inr (by simpa using lp)) | exact fo.skip (by omega) (by omega) (.inl (by omega)) | (rcases (show i2 = 1 ∨ 1 < i2 by omega) with q1 | q1; exact fo.skip (by omega) (by omega) (.inl (by omega)); exact fo.dead (by omega) (by omega) (rv q1) rfl) | exact fo.yes (by omega) (by omega) (by omega) rv1 (by omega) (by simpa using lp) (by omega) (by assumption) (by omega) (.inl rfl) | exact fo.yes (by omega) (by omega) (by omega) rv1 (by omega) (by simpa using lp) (by omega) (by assumption) (by omega) (.inr (.inl (by omega))) | exact fo.yes (by omega) (by omega) (by omega) rv1 (by omega) (by simpa using lp) (by omega) (by assumption) (by omega) (.inr (.inr ⟨by omega, by assumption⟩)) | exact fo.no (by omega) (by omega) (by omega) rv1 (by omega) (by simpa using lp) (by assumption) (by omega) rfl (by omega) (fun _ => by assumption) | exact fo.no (by omega) (by omega) (by omega) rv1 (by omega) (by simpa using lp) (by assumption) (by omega) rfl (by omega) (fun q1 => by omega))) (by first | omega | (dsimp only; omega))
                                · cbv
                                · cbv
                              · refine r_addf m.sX (by omega) (by omega) fun r33 hr33 => ?_
                                conv => cbv
                                refine r_subf m.sX (by omega) (by omega) fun j_19 hj_19 => ?_
                                conv => cbv
                                refine hE3 _ _ (true, f2, ys1, r33, j_19) (Chg.refl _) ?_ ?_ (by (try dsimp only) <;> (first | exact fo.skip (by omega) (by omega) (.inr (by simpa using lp)) | exact fo.skip (by omega) (by omega) (.inl (by omega)) | (rcases (show i2 = 1 ∨ 1 < i2 by omega) with q1 | q1; exact fo.skip (by omega) (by omega) (.inl (by omega)); exact fo.dead (by omega) (by omega) (rv q1) rfl) | exact fo.yes (by omega) (by omega) (by omega) rv1 (by omega) (by simpa using lp) (by omega) (by assumption) (by omega) (.inl rfl) | exact fo.yes (by omega) (by omega) (by omega) rv1 (by omega) (by simpa using lp) (by omega) (by assumption) (by omega) (.inr (.inl (by omega))) | exact fo.yes (by omega) (by omega) (by omega) rv1 (by omega) (by simpa using lp) (by omega) (by assumption) (by omega) (.inr (.inr ⟨by omega, by assumption⟩)) | exact fo.no (by omega) (by omega) (by omega) rv1 (by omega) (by simpa using lp) (by assumption) (by omega) rfl (by omega) (fun _ => by assumption) | exact fo.no (by omega) (by omega) (by omega) rv1 (by omega) (by simpa using lp) (by assumption) (by omega) rfl (by omega) (fun q1 => by omega))) (by first | omega | (dsimp only; omega))
                                · cbv
                                · cbv
                            · refine r_addf m.sX (by omega) (by omega) fun r34 hr34 => ?_
                              conv => cbv
                              refine r_subf m.sX (by omega) (by omega) fun j_20 hj_20 => ?_
                              conv => cbv
                              refine hE3 _ _ (true, f2, ys1, r34, j_20) (Chg.refl _) ?_ ?_ (by (try dsimp only) <;> (first | exact fo.skip (by omega) (by omega) (.inr (by simpa using lp)) | exact fo.skip (by omega) (by omega) (.inl (by omega)) | (rcases (show i2 = 1 ∨ 1 < i2 by omega) with q1 | q1; exact fo.skip (by omega) (by omega) (.inl (by omega)); exact fo.dead (by omega) (by omega) (rv q1) rfl) | exact fo.yes (by omega) (by omega) (by omega) rv1 (by omega) (by simpa using lp) (by omega) (by assumption) (by omega) (.inl rfl) | exact fo.yes (by omega) (by omega) (by omega) rv1 (by omega) (by simpa using lp) (by omega) (by assumption) (by omega) (.inr (.inl (by omega))) | exact fo.yes (by omega) (by omega) (by omega) rv1 (by omega) (by simpa using lp) (by omega) (by assumption) (by omega) (.inr (.inr ⟨by omega, by assumption⟩)) | exact fo.no (by omega) (by omega) (by omega) rv1 (by omega) (by simpa using lp) (by assumption) (by omega) rfl (by omega) (fun _ => by assumption) | exact fo.no (by omega) (by omega) (by omega) rv1 (by omega) (by simpa using lp) (by assumption) (by omega) rfl (by omega) (fun q1 => by omega))) (by first | omega | (dsimp only; omega))
                              · cbv
                              · cbv
                        · refine r_addf m.sX (by omega) (by omega) fun r35 hr35 => ?_
                          conv => cbv
                          refine r_addf m.sX (by omega) (by omega) fun r36 hr36 => ?_
                          conv => cbv
                          refine r_subf m.sX (by omega) (by omega) fun j_21 hj_21 => ?_
                          conv => cbv
                          refine hE3 _ _ (true, r35, breaks_3, r36, j_21) (haveI := m.z; chg_sealB (k := 992) (b := 113) (p := 2) (e := 3) (z := 1) (by rfl) (by rfl) (by rfl) (by decide)) ?_ ?_ (by (try dsimp only) <;> (first | exact fo.skip (by omega) (by omega) (.inr (by simpa using lp)) | exact fo.skip (by omega) (by omega) (.inl (by omega)) | (rcases (show i2 = 1 ∨ 1 < i2 by omega) with q1 | q1; exact fo.skip (by omega) (by omega) (.inl (by omega)); exact fo.dead (by omega) (by omega) (rv q1) rfl) | exact fo.yes (by omega) (by omega) (by omega) rv1 (by omega) (by simpa using lp) (by omega) (by assumption) (by omega) (.inl rfl) | exact fo.yes (by omega) (by omega) (by omega) rv1 (by omega) (by simpa using lp) (by omega) (by assumption) (by omega) (.inr (.inl (by omega))) | exact fo.yes (by omega) (by omega) (by omega) rv1 (by omega) (by simpa using lp) (by omega) (by assumption) (by omega) (.inr (.inr ⟨by omega, by assumption⟩)) | exact fo.no (by omega) (by omega) (by omega) rv1 (by omega) (by simpa using lp) (by assumption) (by omega) rfl (by omega) (fun _ => by assumption) | exact fo.no (by omega) (by omega) (by omega) rv1 (by omega) (by simpa using lp) (by assumption) (by omega) rfl (by omega) (fun q1 => by omega))) (by first | omega | (dsimp only; omega))
                          · cbv
                          · cbv
                    · refine r_subf m.sX (by omega) (by omega) fun j_27 hj_27 => ?_
                      conv => cbv
                      refine hE3 _ _ (f1, f2, ys1, f3, j_27) (Chg.refl _) ?_ ?_ (by (try dsimp only) <;> (first | exact fo.skip (by omega) (by omega) (.inr (by simpa using lp)) | exact fo.skip (by omega) (by omega) (.inl (by omega)) | (rcases (show i2 = 1 ∨ 1 < i2 by omega) with q1 | q1; exact fo.skip (by omega) (by omega) (.inl (by omega)); exact fo.dead (by omega) (by omega) (rv q1) rfl) | exact fo.yes (by omega) (by omega) (by omega) rv1 (by omega) (by simpa using lp) (by omega) (by assumption) (by omega) (.inl rfl) | exact fo.yes (by omega) (by omega) (by omega) rv1 (by omega) (by simpa using lp) (by omega) (by assumption) (by omega) (.inr (.inl (by omega))) | exact fo.yes (by omega) (by omega) (by omega) rv1 (by omega) (by simpa using lp) (by omega) (by assumption) (by omega) (.inr (.inr ⟨by omega, by assumption⟩)) | exact fo.no (by omega) (by omega) (by omega) rv1 (by omega) (by simpa using lp) (by assumption) (by omega) rfl (by omega) (fun _ => by assumption) | exact fo.no (by omega) (by omega) (by omega) rv1 (by omega) (by simpa using lp) (by assumption) (by omega) rfl (by omega) (fun q1 => by omega))) (by first | omega | (dsimp only; omega))
                      · cbv
                      · cbv
                  · refine r_subf m.sX (by omega) (by omega) fun j_28 hj_28 => ?_
                    conv => cbv
                    refine hE3 _ _ (f1, f2, ys1, f3, j_28) (Chg.refl _) ?_ ?_ (by (try dsimp only) <;> (first | exact fo.skip (by omega) (by omega) (.inr (by simpa using lp)) | exact fo.skip (by omega) (by omega) (.inl (by omega)) | (rcases (show i2 = 1 ∨ 1 < i2 by omega) with q1 | q1; exact fo.skip (by omega) (by omega) (.inl (by omega)); exact fo.dead (by omega) (by omega) (rv q1) rfl) | exact fo.yes (by omega) (by omega) (by omega) rv1 (by omega) (by simpa using lp) (by omega) (by assumption) (by omega) (.inl rfl) | exact fo.yes (by omega) (by omega) (by omega) rv1 (by omega) (by simpa using lp) (by omega) (by assumption) (by omega) (.inr (.inl (by omega))) | exact fo.yes (by omega) (by omega) (by omega) rv1 (by omega) (by simpa using lp) (by omega) (by assumption) (by omega) (.inr (.inr ⟨by omega, by assumption⟩)) | exact fo.no (by omega) (by omega) (by omega) rv1 (by omega) (by simpa using lp) (by assumption) (by omega) rfl (by omega) (fun _ => by assumption) | exact fo.no (by omega) (by omega) (by omega) rv1 (by omega) (by simpa using lp) (by assumption) (by omega) rfl (by omega) (fun q1 => by omega))) (by first | omega | (dsimp only; omega))
                    · cbv
                    · cbv
                · refine hF3 _ _ ?_
                  conv => cbv
                  refine r_draw m (by kernel_rfl) ?_
                  conv => cbv
                  refine r_oindex m.sY (by omega) (by omega) ?_
                  conv => cbv
                  obtain ⟨x3, hx3⟩ := get_ex (xs := best_5) (i := Int.toNat i2) (by omega)
                  have lx3 := g2.rows _ _ hx3
                  have mx3 := get_mem hx3
                  have dx3 := drop_cons hx3
                  have kx3 := take_snoc hx3
                  have jx3 : (i2 + 1).toNat = Int.toNat i2 + 1 := by omega
                  refine r_oload m.sY hx3 (Nat.le_of_ble_eq_true rfl) ?_
                  conv => cbv
                  refine r_oload m.sY hx3 (Nat.le_of_ble_eq_true rfl) ?_
                  conv => cbv
                  refine r_oindex m.sY (by omega) (by omega) ?_
                  conv => cbv
                  refine r_oload m.sY hx3 (Nat.le_of_ble_eq_true rfl) ?_
                  conv => cbv
                  obtain ⟨y2, hy2⟩ := get_ex (xs := x3) (i := Int.toNat i_2) (by omega)
                  have my2 := get_mem hy2
                  refine r_ostore (l := Int.toNat i_2) (f1, f2, ys1, f3) m.sY hy2 (Nat.le_of_ble_eq_true rfl) rfl fun zs5 hzs5 => ?_
                  have lzs5 : (zs5.length : Int) = x3.length := by rw [hzs5]; first | done | (simp; done) | (simp; omega)
                  conv => cbv
                  refine r_ostore (l := Int.toNat i2) zs5 m.sY hx3 (Nat.le_of_ble_eq_true rfl) rfl fun best_6 hbest_6 => ?_
                  have lbest_6 : (best_6.length : Int) = best_5.length := by rw [hbest_6]; first | done | (simp; done) | (simp; omega)
                  conv => cbv
                  have lbest_6 : (best_6.length : Int) = best_5.length := by rw [hbest_6]; simp
                  refine r_subf m.sX (by omega) (by omega) fun i_3 hi_3 => ?_
                  conv => cbv
                  refine hE2 _ (best_6, i_3) ?_ ?_ ⟨(by (try dsimp only) <;> (first | exact g2.set (by omega) hx3 hzs5 hbest_6 (by omega) (by omega) (fo.done (by omega)) (by omega) (by omega) | exact g2.set (by omega) hx6 hzs8 hbest_7 (by omega) (by omega) (fo.done (by omega)) (by omega) (by omega) | exact g2.set (by omega) hx9 hzs11 hbest_8 (by omega) (by omega) (fo.done (by omega)) (by omega) (by omega))), (by (try dsimp only) <;> (omega))⟩ (by first | omega | (dsimp only; omega))
                  · cbv
                  · cbv
              · refine r_subf m.sX (by omega) (by omega) fun j_29 hj_29 => ?_
                conv => cbv
                refine r_loopC (α := Bool × Int × List Int × Int × Int) m 180 [0, 2, 3, 9, 12, 13, 17, 40, 41] [⟨5, 41, 0, 0, 0⟩, ⟨8, 65, 0, 0, 0⟩, ⟨10, 81, 151 + 1000000, 1, 0⟩, ⟨14, 113, 0, 0, 0⟩] (fun σ => [(0, .isl 1 (rows cInt words)), (2, .int .i64 measure), (3, .int .i64 lines), (5, .optr 41 0 3 0 0), (8, .optr 65 0 4 0 0), (9, .int .i64 n), (10, .osl 81 0), (12, .int .i64 i2), (13, .int .i64 i_2), (14, .optr 113 0 4 0 0), (17, .int .i64 σ.2.2.2.2), (40, .int .i64 n2), (41, .int .i64 i2)]) (fun σ => [(41, 0, .box [.int .i64 rA, .int .i64 rB, .int .i64 rC]), (65, 0, .box [.bool false, .int .i64 0, .isl 1 [], .int .i64 0]), (81, 0, .tree 151 1 (rows cRunP best_5)), (113, 0, .box [.bool σ.1, .int .i64 σ.2.1, .isl 1 (rows cInt σ.2.2.1), .int .i64 σ.2.2.2.1])])
                  (fun σ => FO words (rA, rB, rC) measure (md lines i2) i_2 (σ.1, σ.2.1, σ.2.2.1, σ.2.2.2.1) σ.2.2.2.2) (fun σ => (σ.2.2.2.2 + 1).toNat) (false, 0, [], 0, j_29) ?_ ?_ ?_ ?_
                · cbv
                · (try dsimp only); (try simp only [rows_cons, rows_nil]); cbv
                · exact (by (try dsimp only) <;> (exact FO.startN (by omega) (by omega) (.inr (by omega)) (by omega)))
                rintro ⟨f4, f5, ys2, f6, j_30⟩ fo E3 hE3 F3 hF3
                dsimp only at fo
                have fl := fo.lo; have fh := fo.hi; have fi := fo.i0; have fw := fo.wb; dsimp only at fw
                try dsimp only at fl
                conv => cbv
                refine r_gtr m.sX (fun h25 => ?_) (fun h25 => ?_) <;> conv => cbv
                · refine r_subf m.sX (by omega) (by omega) fun r47 hr47 => ?_
                  conv => cbv
                  refine r_callF (PV.int .i64) m.sX (l1Most_ok r47 0) fun r48 hr48 => ?_
                  conv => cbv
                  try dsimp only at hr48
                  have mr48 : (r47 ≤ 0 → r48 = 0) ∧ (0 < r47 → r48 = r47) := by constructor <;> intro _ <;> omega
                  refine r_oindex m.sX (by omega) (by omega) ?_
                  conv => cbv
                  obtain ⟨x4, hx4⟩ := get_ex (xs := best_5) (i := Int.toNat r48) (by omega)
                  have lx4 := g2.rows _ _ hx4
                  have mx4 := get_mem hx4
                  refine r_oload m.sX hx4 (Nat.le_of_ble_eq_true rfl) ?_
                  conv => cbv
                  refine r_oload m.sX hx4 (Nat.le_of_ble_eq_true rfl) ?_
                  conv => cbv
                  refine r_oindex m.sX (by omega) (by omega) ?_
                  conv => cbv
                  refine r_oload m.sX hx4 (Nat.le_of_ble_eq_true rfl) ?_
                  conv => cbv
                  obtain ⟨⟨rest_3A, rest_3B, rest_3C, rest_3D⟩, hrest_3⟩ := get_ex (xs := x4) (i := Int.toNat j_30) (by omega)
                  have rv : 1 < i2 → ((rest_3A, rest_3B, rest_3C, rest_3D) : PW) = pV words (rA, rB, rC) measure (nxM (md lines i2)) (Int.toNat j_30) := fun hk => g2.restB (by omega) hk (by omega) hx4 hrest_3 (by omega) (by omega)
                  refine r_oload m.sX hrest_3 (Nat.le_of_ble_eq_true rfl) ?_
                  conv => cbv
                  refine r_eqlF m.sX (by omega) ?_
                  conv => cbv
                  refine r_draw m (by kernel_rfl) ?_
                  conv => cbv
                  refine r_islice (i := i_2) (j := j_30) m.sY (by omega) (by omega) (by omega) fun zs7 hzs7 => ?_
                  have lzs7 : (zs7.length : Int) = j_30 - i_2 := by rw [hzs7]; first | done | (simp; done) | (simp; omega)
                  conv => cbv
                  obtain ⟨z1, z2, z3⟩ := hp.cut (i := i_2.toNat) (j := j_30.toNat) (by omega) (by omega) hzs7
                  refine r_callFS ib m.sY (paLine_ok zs7 (rA, rB, rC) measure false (by first | rfl | assumption | omega | (simp at *; omega)) (by first | rfl | assumption | omega | (simp at *; omega)) (by first | rfl | assumption | omega | (simp at *; omega)) (by first | rfl | assumption | omega | (simp at *; omega))) (by first | trivial | exact noFr_tup2 trivial trivial | exact noFr_tup3 trivial trivial trivial) fun v hcost_4 => ?_
                  obtain ⟨cost_4, ok_5⟩ := v
                  conv => cbv
                  try dsimp only at hcost_4
                  have lp := lineA_paL z3 hcost_4
                  have cl := cost_le z1 z2.1 z4 z5 hcost_4
                  rcases Bool.eq_false_or_eq_true ok_5 with rfl | rfl <;> conv => cbv
                  · rcases Bool.eq_false_or_eq_true rest_3A with rfl | rfl <;> conv => cbv
                    · refine r_gtrT m.sX (by omega) ?_
                      conv => cbv
                      refine r_eql m.sX (fun h36 => ?_) (fun h36 => ?_) <;> conv => cbv
                      · refine r_subf m.sX (by omega) (by omega) fun j_44 hj_44 => ?_
                        conv => cbv
                        refine hE3 _ _ (f4, f5, ys2, f6, j_44) (Chg.refl _) ?_ ?_ (by (try dsimp only) <;> (first | exact fo.skip (by omega) (by omega) (.inr (by simpa using lp)) | exact fo.skip (by omega) (by omega) (.inl (by omega)) | (rcases (show i2 = 1 ∨ 1 < i2 by omega) with q1 | q1; exact fo.skip (by omega) (by omega) (.inl (by omega)); exact fo.dead (by omega) (by omega) (rv q1) rfl) | exact fo.yes (by omega) (by omega) (by omega) rv1 (by omega) (by simpa using lp) (by omega) (by assumption) (by omega) (.inl rfl) | exact fo.yes (by omega) (by omega) (by omega) rv1 (by omega) (by simpa using lp) (by omega) (by assumption) (by omega) (.inr (.inl (by omega))) | exact fo.yes (by omega) (by omega) (by omega) rv1 (by omega) (by simpa using lp) (by omega) (by assumption) (by omega) (.inr (.inr ⟨by omega, by assumption⟩)) | exact fo.no (by omega) (by omega) (by omega) rv1 (by omega) (by simpa using lp) (by assumption) (by omega) rfl (by omega) (fun _ => by assumption) | exact fo.no (by omega) (by omega) (by omega) rv1 (by omega) (by simpa using lp) (by assumption) (by omega) rfl (by omega) (fun q1 => by omega))) (by first | omega | (dsimp only; omega))
                        · cbv
                        · cbv
                      · have i21 : 1 < i2 := by omega
                        have rv1 := rv i21
                        obtain ⟨wc1, wc2, wc3, wc4, wc5⟩ := pV_cost hp _ (by rw [mdq]; unfold nxM; split <;> omega) (by omega) rv1
                        dsimp only at wc1 wc2 wc3 wc4 wc5
                        refine r_appendL cInt [j_30] m.sX (by simp only [rows_cons, rows_nil]; rfl) (by first | decide | (simp; omega) | omega) (by first | decide | (simp; omega) | omega) fun breaks_7 hbreaks_7 => ?_
                        conv => cbv
                        rcases Bool.eq_false_or_eq_true f4 with rfl | rfl <;> conv => cbv
                        · refine r_addf m.sX (by omega) (by omega) fun r69 hr69 => ?_
                          conv => cbv
                          refine r_lss m.sX (fun h37 => ?_) (fun h37 => ?_) <;> conv => cbv
                          · refine r_addf m.sX (by omega) (by omega) fun r70 hr70 => ?_
                            conv => cbv
                            refine r_addf m.sX (by omega) (by omega) fun r71 hr71 => ?_
                            conv => cbv
                            refine r_subf m.sX (by omega) (by omega) fun j_45 hj_45 => ?_
                            conv => cbv
                            refine hE3 _ _ (true, r70, breaks_7, r71, j_45) (haveI := m.z; chg_sealB (k := 992) (b := 113) (p := 2) (e := 3) (z := 1) (by rfl) (by rfl) (by rfl) (by decide)) ?_ ?_ (by (try dsimp only) <;> (first | exact fo.skip (by omega) (by omega) (.inr (by simpa using lp)) | exact fo.skip (by omega) (by omega) (.inl (by omega)) | (rcases (show i2 = 1 ∨ 1 < i2 by omega) with q1 | q1; exact fo.skip (by omega) (by omega) (.inl (by omega)); exact fo.dead (by omega) (by omega) (rv q1) rfl) | exact fo.yes (by omega) (by omega) (by omega) rv1 (by omega) (by simpa using lp) (by omega) (by assumption) (by omega) (.inl rfl) | exact fo.yes (by omega) (by omega) (by omega) rv1 (by omega) (by simpa using lp) (by omega) (by assumption) (by omega) (.inr (.inl (by omega))) | exact fo.yes (by omega) (by omega) (by omega) rv1 (by omega) (by simpa using lp) (by omega) (by assumption) (by omega) (.inr (.inr ⟨by omega, by assumption⟩)) | exact fo.no (by omega) (by omega) (by omega) rv1 (by omega) (by simpa using lp) (by assumption) (by omega) rfl (by omega) (fun _ => by assumption) | exact fo.no (by omega) (by omega) (by omega) rv1 (by omega) (by simpa using lp) (by assumption) (by omega) rfl (by omega) (fun q1 => by omega))) (by first | omega | (dsimp only; omega))
                            · cbv
                            · cbv
                          · refine r_addf m.sX (by omega) (by omega) fun r72 hr72 => ?_
                            conv => cbv
                            refine r_eql m.sX (fun h38 => ?_) (fun h38 => ?_) <;> conv => cbv
                            · refine .inl (r_callBO m.sX ((tyLess_ok breaks_7 ys2).ok flat_bool) (fun h39 => ?_) (fun h39 => ?_)) <;> conv => cbv
                              · refine r_addf m.sX (by omega) (by omega) fun r73 hr73 => ?_
                                conv => cbv
                                refine r_addf m.sX (by omega) (by omega) fun r74 hr74 => ?_
                                conv => cbv
                                refine r_subf m.sX (by omega) (by omega) fun j_46 hj_46 => ?_
                                conv => cbv
                                refine hE3 _ _ (true, r73, breaks_7, r74, j_46) (haveI := m.z; chg_sealB (k := 992) (b := 113) (p := 2) (e := 3) (z := 1) (by rfl) (by rfl) (by rfl) (by decide)) ?_ ?_ (by (try dsimp only) <;> (first | exact fo.skip (by omega) (by omega) (.inr (by simpa using lp)) | exact fo.skip (by omega) (by omega) (.inl (by omega)) | (rcases (show i2 = 1 ∨ 1 < i2 by omega) with q1 | q1; exact fo.skip (by omega) (by omega) (.inl (by omega)); exact fo.dead (by omega) (by omega) (rv q1) rfl) | exact fo.yes (by omega) (by omega) (by omega) rv1 (by omega) (by simpa using lp) (by omega) (by assumption) (by omega) (.inl rfl) | exact fo.yes (by omega) (by omega) (by omega) rv1 (by omega) (by simpa using lp) (by omega) (by assumption) (by omega) (.inr (.inl (by omega))) | exact fo.yes (by omega) (by omega) (by omega) rv1 (by omega) (by simpa using lp) (by omega) (by assumption) (by omega) (.inr (.inr ⟨by omega, by assumption⟩)) | exact fo.no (by omega) (by omega) (by omega) rv1 (by omega) (by simpa using lp) (by assumption) (by omega) rfl (by omega) (fun _ => by assumption) | exact fo.no (by omega) (by omega) (by omega) rv1 (by omega) (by simpa using lp) (by assumption) (by omega) rfl (by omega) (fun q1 => by omega))) (by first | omega | (dsimp only; omega))
                                · cbv
                                · cbv
                              · refine r_addf m.sX (by omega) (by omega) fun r75 hr75 => ?_
                                conv => cbv
                                refine r_subf m.sX (by omega) (by omega) fun j_47 hj_47 => ?_
                                conv => cbv
                                refine hE3 _ _ (true, f5, ys2, r75, j_47) (Chg.refl _) ?_ ?_ (by (try dsimp only) <;> (first | exact fo.skip (by omega) (by omega) (.inr (by simpa using lp)) | exact fo.skip (by omega) (by omega) (.inl (by omega)) | (rcases (show i2 = 1 ∨ 1 < i2 by omega) with q1 | q1; exact fo.skip (by omega) (by omega) (.inl (by omega)); exact fo.dead (by omega) (by omega) (rv q1) rfl) | exact fo.yes (by omega) (by omega) (by omega) rv1 (by omega) (by simpa using lp) (by omega) (by assumption) (by omega) (.inl rfl) | exact fo.yes (by omega) (by omega) (by omega) rv1 (by omega) (by simpa using lp) (by omega) (by assumption) (by omega) (.inr (.inl (by omega))) | exact fo.yes (by omega) (by omega) (by omega) rv1 (by omega) (by simpa using lp) (by omega) (by assumption) (by omega) (.inr (.inr ⟨by omega, by assumption⟩)) | exact fo.no (by omega) (by omega) (by omega) rv1 (by omega) (by simpa using lp) (by assumption) (by omega) rfl (by omega) (fun _ => by assumption) | exact fo.no (by omega) (by omega) (by omega) rv1 (by omega) (by simpa using lp) (by assumption) (by omega) rfl (by omega) (fun q1 => by omega))) (by first | omega | (dsimp only; omega))
                                · cbv
                                · cbv
                            · refine r_addf m.sX (by omega) (by omega) fun r76 hr76 => ?_
                              conv => cbv
                              refine r_subf m.sX (by omega) (by omega) fun j_48 hj_48 => ?_
                              conv => cbv
                              refine hE3 _ _ (true, f5, ys2, r76, j_48) (Chg.refl _) ?_ ?_ (by (try dsimp only) <;> (first | exact fo.skip (by omega) (by omega) (.inr (by simpa using lp)) | exact fo.skip (by omega) (by omega) (.inl (by omega)) | (rcases (show i2 = 1 ∨ 1 < i2 by omega) with q1 | q1; exact fo.skip (by omega) (by omega) (.inl (by omega)); exact fo.dead (by omega) (by omega) (rv q1) rfl) | exact fo.yes (by omega) (by omega) (by omega) rv1 (by omega) (by simpa using lp) (by omega) (by assumption) (by omega) (.inl rfl) | exact fo.yes (by omega) (by omega) (by omega) rv1 (by omega) (by simpa using lp) (by omega) (by assumption) (by omega) (.inr (.inl (by omega))) | exact fo.yes (by omega) (by omega) (by omega) rv1 (by omega) (by simpa using lp) (by omega) (by assumption) (by omega) (.inr (.inr ⟨by omega, by assumption⟩)) | exact fo.no (by omega) (by omega) (by omega) rv1 (by omega) (by simpa using lp) (by assumption) (by omega) rfl (by omega) (fun _ => by assumption) | exact fo.no (by omega) (by omega) (by omega) rv1 (by omega) (by simpa using lp) (by assumption) (by omega) rfl (by omega) (fun q1 => by omega))) (by first | omega | (dsimp only; omega))
                              · cbv
                              · cbv
                        · refine r_addf m.sX (by omega) (by omega) fun r77 hr77 => ?_
                          conv => cbv
                          refine r_addf m.sX (by omega) (by omega) fun r78 hr78 => ?_
                          conv => cbv
                          refine r_subf m.sX (by omega) (by omega) fun j_49 hj_49 => ?_
                          conv => cbv
                          refine hE3 _ _ (true, r77, breaks_7, r78, j_49) (haveI := m.z; chg_sealB (k := 992) (b := 113) (p := 2) (e := 3) (z := 1) (by rfl) (by rfl) (by rfl) (by decide)) ?_ ?_ (by (try dsimp only) <;> (first | exact fo.skip (by omega) (by omega) (.inr (by simpa using lp)) | exact fo.skip (by omega) (by omega) (.inl (by omega)) | (rcases (show i2 = 1 ∨ 1 < i2 by omega) with q1 | q1; exact fo.skip (by omega) (by omega) (.inl (by omega)); exact fo.dead (by omega) (by omega) (rv q1) rfl) | exact fo.yes (by omega) (by omega) (by omega) rv1 (by omega) (by simpa using lp) (by omega) (by assumption) (by omega) (.inl rfl) | exact fo.yes (by omega) (by omega) (by omega) rv1 (by omega) (by simpa using lp) (by omega) (by assumption) (by omega) (.inr (.inl (by omega))) | exact fo.yes (by omega) (by omega) (by omega) rv1 (by omega) (by simpa using lp) (by omega) (by assumption) (by omega) (.inr (.inr ⟨by omega, by assumption⟩)) | exact fo.no (by omega) (by omega) (by omega) rv1 (by omega) (by simpa using lp) (by assumption) (by omega) rfl (by omega) (fun _ => by assumption) | exact fo.no (by omega) (by omega) (by omega) rv1 (by omega) (by simpa using lp) (by assumption) (by omega) rfl (by omega) (fun q1 => by omega))) (by first | omega | (dsimp only; omega))
                          · cbv
                          · cbv
                    · refine r_subf m.sX (by omega) (by omega) fun j_55 hj_55 => ?_
                      conv => cbv
                      refine hE3 _ _ (f4, f5, ys2, f6, j_55) (Chg.refl _) ?_ ?_ (by (try dsimp only) <;> (first | exact fo.skip (by omega) (by omega) (.inr (by simpa using lp)) | exact fo.skip (by omega) (by omega) (.inl (by omega)) | (rcases (show i2 = 1 ∨ 1 < i2 by omega) with q1 | q1; exact fo.skip (by omega) (by omega) (.inl (by omega)); exact fo.dead (by omega) (by omega) (rv q1) rfl) | exact fo.yes (by omega) (by omega) (by omega) rv1 (by omega) (by simpa using lp) (by omega) (by assumption) (by omega) (.inl rfl) | exact fo.yes (by omega) (by omega) (by omega) rv1 (by omega) (by simpa using lp) (by omega) (by assumption) (by omega) (.inr (.inl (by omega))) | exact fo.yes (by omega) (by omega) (by omega) rv1 (by omega) (by simpa using lp) (by omega) (by assumption) (by omega) (.inr (.inr ⟨by omega, by assumption⟩)) | exact fo.no (by omega) (by omega) (by omega) rv1 (by omega) (by simpa using lp) (by assumption) (by omega) rfl (by omega) (fun _ => by assumption) | exact fo.no (by omega) (by omega) (by omega) rv1 (by omega) (by simpa using lp) (by assumption) (by omega) rfl (by omega) (fun q1 => by omega))) (by first | omega | (dsimp only; omega))
                      · cbv
                      · cbv
                  · refine r_subf m.sX (by omega) (by omega) fun j_56 hj_56 => ?_
                    conv => cbv
                    refine hE3 _ _ (f4, f5, ys2, f6, j_56) (Chg.refl _) ?_ ?_ (by (try dsimp only) <;> (first | exact fo.skip (by omega) (by omega) (.inr (by simpa using lp)) | exact fo.skip (by omega) (by omega) (.inl (by omega)) | (rcases (show i2 = 1 ∨ 1 < i2 by omega) with q1 | q1; exact fo.skip (by omega) (by omega) (.inl (by omega)); exact fo.dead (by omega) (by omega) (rv q1) rfl) | exact fo.yes (by omega) (by omega) (by omega) rv1 (by omega) (by simpa using lp) (by omega) (by assumption) (by omega) (.inl rfl) | exact fo.yes (by omega) (by omega) (by omega) rv1 (by omega) (by simpa using lp) (by omega) (by assumption) (by omega) (.inr (.inl (by omega))) | exact fo.yes (by omega) (by omega) (by omega) rv1 (by omega) (by simpa using lp) (by omega) (by assumption) (by omega) (.inr (.inr ⟨by omega, by assumption⟩)) | exact fo.no (by omega) (by omega) (by omega) rv1 (by omega) (by simpa using lp) (by assumption) (by omega) rfl (by omega) (fun _ => by assumption) | exact fo.no (by omega) (by omega) (by omega) rv1 (by omega) (by simpa using lp) (by assumption) (by omega) rfl (by omega) (fun q1 => by omega))) (by first | omega | (dsimp only; omega))
                    · cbv
                    · cbv
                · refine hF3 _ _ ?_
                  conv => cbv
                  refine r_draw m (by kernel_rfl) ?_
                  conv => cbv
                  refine r_oindex m.sY (by omega) (by omega) ?_
                  conv => cbv
                  obtain ⟨x6, hx6⟩ := get_ex (xs := best_5) (i := Int.toNat i2) (by omega)
                  have lx6 := g2.rows _ _ hx6
                  have mx6 := get_mem hx6
                  have dx6 := drop_cons hx6
                  have kx6 := take_snoc hx6
                  have jx6 : (i2 + 1).toNat = Int.toNat i2 + 1 := by omega
                  refine r_oload m.sY hx6 (Nat.le_of_ble_eq_true rfl) ?_
                  conv => cbv
                  refine r_oload m.sY hx6 (Nat.le_of_ble_eq_true rfl) ?_
                  conv => cbv
                  refine r_oindex m.sY (by omega) (by omega) ?_
                  conv => cbv
                  refine r_oload m.sY hx6 (Nat.le_of_ble_eq_true rfl) ?_
                  conv => cbv
                  obtain ⟨y3, hy3⟩ := get_ex (xs := x6) (i := Int.toNat i_2) (by omega)
                  have my3 := get_mem hy3
                  refine r_ostore (l := Int.toNat i_2) (f4, f5, ys2, f6) m.sY hy3 (Nat.le_of_ble_eq_true rfl) rfl fun zs8 hzs8 => ?_
                  have lzs8 : (zs8.length : Int) = x6.length := by rw [hzs8]; first | done | (simp; done) | (simp; omega)
                  conv => cbv
                  refine r_ostore (l := Int.toNat i2) zs8 m.sY hx6 (Nat.le_of_ble_eq_true rfl) rfl fun best_7 hbest_7 => ?_
                  have lbest_7 : (best_7.length : Int) = best_5.length := by rw [hbest_7]; first | done | (simp; done) | (simp; omega)
                  conv => cbv
                  have lbest_7 : (best_7.length : Int) = best_5.length := by rw [hbest_7]; simp
                  refine r_subf m.sX (by omega) (by omega) fun i_4 hi_4 => ?_
                  conv => cbv
                  refine hE2 _ (best_7, i_4) ?_ ?_ ⟨(by (try dsimp only) <;> (first | exact g2.set (by omega) hx3 hzs5 hbest_6 (by omega) (by omega) (fo.done (by omega)) (by omega) (by omega) | exact g2.set (by omega) hx6 hzs8 hbest_7 (by omega) (by omega) (fo.done (by omega)) (by omega) (by omega) | exact g2.set (by omega) hx9 hzs11 hbest_8 (by omega) (by omega) (fo.done (by omega)) (by omega) (by omega))), (by (try dsimp only) <;> (omega))⟩ (by first | omega | (dsimp only; omega))
                  · cbv
                  · cbv
            · refine r_subf m.sX (by omega) (by omega) fun j_57 hj_57 => ?_
              conv => cbv
              refine r_loopC (α := Bool × Int × List Int × Int × Int) m 180 [0, 2, 3, 9, 12, 13, 17, 40, 41] [⟨5, 41, 0, 0, 0⟩, ⟨8, 65, 0, 0, 0⟩, ⟨10, 81, 151 + 1000000, 1, 0⟩, ⟨14, 113, 0, 0, 0⟩] (fun σ => [(0, .isl 1 (rows cInt words)), (2, .int .i64 measure), (3, .int .i64 lines), (5, .optr 41 0 3 0 0), (8, .optr 65 0 4 0 0), (9, .int .i64 n), (10, .osl 81 0), (12, .int .i64 i2), (13, .int .i64 i_2), (14, .optr 113 0 4 0 0), (17, .int .i64 σ.2.2.2.2), (40, .int .i64 n2), (41, .int .i64 i2)]) (fun σ => [(41, 0, .box [.int .i64 rA, .int .i64 rB, .int .i64 rC]), (65, 0, .box [.bool false, .int .i64 0, .isl 1 [], .int .i64 0]), (81, 0, .tree 151 1 (rows cRunP best_5)), (113, 0, .box [.bool σ.1, .int .i64 σ.2.1, .isl 1 (rows cInt σ.2.2.1), .int .i64 σ.2.2.2.1])])
                (fun σ => FO words (rA, rB, rC) measure (md lines i2) i_2 (σ.1, σ.2.1, σ.2.2.1, σ.2.2.2.1) σ.2.2.2.2) (fun σ => (σ.2.2.2.2 + 1).toNat) (false, 0, [], 0, j_57) ?_ ?_ ?_ ?_
              · cbv
              · (try dsimp only); (try simp only [rows_cons, rows_nil]); cbv
              · exact (by (try dsimp only) <;> (exact FO.startN (by omega) (by omega) (.inl he) (by omega)))
              rintro ⟨f7, f8, ys3, f9, j_58⟩ fo E3 hE3 F3 hF3
              dsimp only at fo
              have fl := fo.lo; have fh := fo.hi; have fi := fo.i0; have fw := fo.wb; dsimp only at fw
              try dsimp only at fl
              conv => cbv
              refine r_gtr m.sX (fun h43 => ?_) (fun h43 => ?_) <;> conv => cbv
              · refine r_subf m.sX (by omega) (by omega) fun r89 hr89 => ?_
                conv => cbv
                refine r_callF (PV.int .i64) m.sX (l1Most_ok r89 0) fun r90 hr90 => ?_
                conv => cbv
                try dsimp only at hr90
                have mr90 : (r89 ≤ 0 → r90 = 0) ∧ (0 < r89 → r90 = r89) := by constructor <;> intro _ <;> omega
                refine r_oindex m.sX (by omega) (by omega) ?_
                conv => cbv
                obtain ⟨x7, hx7⟩ := get_ex (xs := best_5) (i := Int.toNat r90) (by omega)
                have lx7 := g2.rows _ _ hx7
                have mx7 := get_mem hx7
                refine r_oload m.sX hx7 (Nat.le_of_ble_eq_true rfl) ?_
                conv => cbv
                refine r_oload m.sX hx7 (Nat.le_of_ble_eq_true rfl) ?_
                conv => cbv
                refine r_oindex m.sX (by omega) (by omega) ?_
                conv => cbv
                refine r_oload m.sX hx7 (Nat.le_of_ble_eq_true rfl) ?_
                conv => cbv
                obtain ⟨⟨rest_5A, rest_5B, rest_5C, rest_5D⟩, hrest_5⟩ := get_ex (xs := x7) (i := Int.toNat j_58) (by omega)
                have rv : 1 < i2 → ((rest_5A, rest_5B, rest_5C, rest_5D) : PW) = pV words (rA, rB, rC) measure (nxM (md lines i2)) (Int.toNat j_58) := fun hk => g2.restB (by omega) hk (by omega) hx7 hrest_5 (by omega) (by omega)
                refine r_oload m.sX hrest_5 (Nat.le_of_ble_eq_true rfl) ?_
                conv => cbv
                refine r_eqlF m.sX (by omega) ?_
                conv => cbv
                refine r_draw m (by kernel_rfl) ?_
                conv => cbv
                refine r_islice (i := i_2) (j := j_58) m.sY (by omega) (by omega) (by omega) fun zs10 hzs10 => ?_
                have lzs10 : (zs10.length : Int) = j_58 - i_2 := by rw [hzs10]; first | done | (simp; done) | (simp; omega)
                conv => cbv
                obtain ⟨z1, z2, z3⟩ := hp.cut (i := i_2.toNat) (j := j_58.toNat) (by omega) (by omega) hzs10
                refine r_callFS ib m.sY (paLine_ok zs10 (rA, rB, rC) measure false (by first | rfl | assumption | omega | (simp at *; omega)) (by first | rfl | assumption | omega | (simp at *; omega)) (by first | rfl | assumption | omega | (simp at *; omega)) (by first | rfl | assumption | omega | (simp at *; omega))) (by first | trivial | exact noFr_tup2 trivial trivial | exact noFr_tup3 trivial trivial trivial) fun v hcost_6 => ?_
                obtain ⟨cost_6, ok_7⟩ := v
                conv => cbv
                try dsimp only at hcost_6
                have lp := lineA_paL z3 hcost_6
                have cl := cost_le z1 z2.1 z4 z5 hcost_6
                rcases Bool.eq_false_or_eq_true ok_7 with rfl | rfl <;> conv => cbv
                · rcases Bool.eq_false_or_eq_true rest_5A with rfl | rfl <;> conv => cbv
                  · refine r_gtrT m.sX (by omega) ?_
                    conv => cbv
                    refine r_eql m.sX (fun h54 => ?_) (fun h54 => ?_) <;> conv => cbv
                    · refine r_subf m.sX (by omega) (by omega) fun j_72 hj_72 => ?_
                      conv => cbv
                      refine hE3 _ _ (f7, f8, ys3, f9, j_72) (Chg.refl _) ?_ ?_ (by (try dsimp only) <;> (first | exact fo.skip (by omega) (by omega) (.inr (by simpa using lp)) | exact fo.skip (by omega) (by omega) (.inl (by omega)) | (rcases (show i2 = 1 ∨ 1 < i2 by omega) with q1 | q1; exact fo.skip (by omega) (by omega) (.inl (by omega)); exact fo.dead (by omega) (by omega) (rv q1) rfl) | exact fo.yes (by omega) (by omega) (by omega) rv1 (by omega) (by simpa using lp) (by omega) (by assumption) (by omega) (.inl rfl) | exact fo.yes (by omega) (by omega) (by omega) rv1 (by omega) (by simpa using lp) (by omega) (by assumption) (by omega) (.inr (.inl (by omega))) | exact fo.yes (by omega) (by omega) (by omega) rv1 (by omega) (by simpa using lp) (by omega) (by assumption) (by omega) (.inr (.inr ⟨by omega, by assumption⟩)) | exact fo.no (by omega) (by omega) (by omega) rv1 (by omega) (by simpa using lp) (by assumption) (by omega) rfl (by omega) (fun _ => by assumption) | exact fo.no (by omega) (by omega) (by omega) rv1 (by omega) (by simpa using lp) (by assumption) (by omega) rfl (by omega) (fun q1 => by omega))) (by first | omega | (dsimp only; omega))
                      · cbv
                      · cbv
                    · have i21 : 1 < i2 := by omega
                      have rv1 := rv i21
                      obtain ⟨wc1, wc2, wc3, wc4, wc5⟩ := pV_cost hp _ (by rw [mdq]; unfold nxM; split <;> omega) (by omega) rv1
                      dsimp only at wc1 wc2 wc3 wc4 wc5
                      refine r_appendL cInt [j_58] m.sX (by simp only [rows_cons, rows_nil]; rfl) (by first | decide | (simp; omega) | omega) (by first | decide | (simp; omega) | omega) fun breaks_11 hbreaks_11 => ?_
                      conv => cbv
                      rcases Bool.eq_false_or_eq_true f7 with rfl | rfl <;> conv => cbv
                      · refine r_addf m.sX (by omega) (by omega) fun r111 hr111 => ?_
                        conv => cbv
                        refine r_lss m.sX (fun h55 => ?_) (fun h55 => ?_) <;> conv => cbv
                        · refine r_addf m.sX (by omega) (by omega) fun r112 hr112 => ?_
                          conv => cbv
                          refine r_addf m.sX (by omega) (by omega) fun r113 hr113 => ?_
                          conv => cbv
                          refine r_subf m.sX (by omega) (by omega) fun j_73 hj_73 => ?_
                          conv => cbv
                          refine hE3 _ _ (true, r112, breaks_11, r113, j_73) (haveI := m.z; chg_sealB (k := 992) (b := 113) (p := 2) (e := 3) (z := 1) (by rfl) (by rfl) (by rfl) (by decide)) ?_ ?_ (by (try dsimp only) <;> (first | exact fo.skip (by omega) (by omega) (.inr (by simpa using lp)) | exact fo.skip (by omega) (by omega) (.inl (by omega)) | (rcases (show i2 = 1 ∨ 1 < i2 by omega) with q1 | q1; exact fo.skip (by omega) (by omega) (.inl (by omega)); exact fo.dead (by omega) (by omega) (rv q1) rfl) | exact fo.yes (by omega) (by omega) (by omega) rv1 (by omega) (by simpa using lp) (by omega) (by assumption) (by omega) (.inl rfl) | exact fo.yes (by omega) (by omega) (by omega) rv1 (by omega) (by simpa using lp) (by omega) (by assumption) (by omega) (.inr (.inl (by omega))) | exact fo.yes (by omega) (by omega) (by omega) rv1 (by omega) (by simpa using lp) (by omega) (by assumption) (by omega) (.inr (.inr ⟨by omega, by assumption⟩)) | exact fo.no (by omega) (by omega) (by omega) rv1 (by omega) (by simpa using lp) (by assumption) (by omega) rfl (by omega) (fun _ => by assumption) | exact fo.no (by omega) (by omega) (by omega) rv1 (by omega) (by simpa using lp) (by assumption) (by omega) rfl (by omega) (fun q1 => by omega))) (by first | omega | (dsimp only; omega))
                          · cbv
                          · cbv
                        · refine r_addf m.sX (by omega) (by omega) fun r114 hr114 => ?_
                          conv => cbv
                          refine r_eql m.sX (fun h56 => ?_) (fun h56 => ?_) <;> conv => cbv
                          · refine .inl (r_callBO m.sX ((tyLess_ok breaks_11 ys3).ok flat_bool) (fun h57 => ?_) (fun h57 => ?_)) <;> conv => cbv
                            · refine r_addf m.sX (by omega) (by omega) fun r115 hr115 => ?_
                              conv => cbv
                              refine r_addf m.sX (by omega) (by omega) fun r116 hr116 => ?_
                              conv => cbv
                              refine r_subf m.sX (by omega) (by omega) fun j_74 hj_74 => ?_
                              conv => cbv
                              refine hE3 _ _ (true, r115, breaks_11, r116, j_74) (haveI := m.z; chg_sealB (k := 992) (b := 113) (p := 2) (e := 3) (z := 1) (by rfl) (by rfl) (by rfl) (by decide)) ?_ ?_ (by (try dsimp only) <;> (first | exact fo.skip (by omega) (by omega) (.inr (by simpa using lp)) | exact fo.skip (by omega) (by omega) (.inl (by omega)) | (rcases (show i2 = 1 ∨ 1 < i2 by omega) with q1 | q1; exact fo.skip (by omega) (by omega) (.inl (by omega)); exact fo.dead (by omega) (by omega) (rv q1) rfl) | exact fo.yes (by omega) (by omega) (by omega) rv1 (by omega) (by simpa using lp) (by omega) (by assumption) (by omega) (.inl rfl) | exact fo.yes (by omega) (by omega) (by omega) rv1 (by omega) (by simpa using lp) (by omega) (by assumption) (by omega) (.inr (.inl (by omega))) | exact fo.yes (by omega) (by omega) (by omega) rv1 (by omega) (by simpa using lp) (by omega) (by assumption) (by omega) (.inr (.inr ⟨by omega, by assumption⟩)) | exact fo.no (by omega) (by omega) (by omega) rv1 (by omega) (by simpa using lp) (by assumption) (by omega) rfl (by omega) (fun _ => by assumption) | exact fo.no (by omega) (by omega) (by omega) rv1 (by omega) (by simpa using lp) (by assumption) (by omega) rfl (by omega) (fun q1 => by omega))) (by first | omega | (dsimp only; omega))
                              · cbv
                              · cbv
                            · refine r_addf m.sX (by omega) (by omega) fun r117 hr117 => ?_
                              conv => cbv
                              refine r_subf m.sX (by omega) (by omega) fun j_75 hj_75 => ?_
                              conv => cbv
                              refine hE3 _ _ (true, f8, ys3, r117, j_75) (Chg.refl _) ?_ ?_ (by (try dsimp only) <;> (first | exact fo.skip (by omega) (by omega) (.inr (by simpa using lp)) | exact fo.skip (by omega) (by omega) (.inl (by omega)) | (rcases (show i2 = 1 ∨ 1 < i2 by omega) with q1 | q1; exact fo.skip (by omega) (by omega) (.inl (by omega)); exact fo.dead (by omega) (by omega) (rv q1) rfl) | exact fo.yes (by omega) (by omega) (by omega) rv1 (by omega) (by simpa using lp) (by omega) (by assumption) (by omega) (.inl rfl) | exact fo.yes (by omega) (by omega) (by omega) rv1 (by omega) (by simpa using lp) (by omega) (by assumption) (by omega) (.inr (.inl (by omega))) | exact fo.yes (by omega) (by omega) (by omega) rv1 (by omega) (by simpa using lp) (by omega) (by assumption) (by omega) (.inr (.inr ⟨by omega, by assumption⟩)) | exact fo.no (by omega) (by omega) (by omega) rv1 (by omega) (by simpa using lp) (by assumption) (by omega) rfl (by omega) (fun _ => by assumption) | exact fo.no (by omega) (by omega) (by omega) rv1 (by omega) (by simpa using lp) (by assumption) (by omega) rfl (by omega) (fun q1 => by omega))) (by first | omega | (dsimp only; omega))
                              · cbv
                              · cbv
                          · refine r_addf m.sX (by omega) (by omega) fun r118 hr118 => ?_
                            conv => cbv
                            refine r_subf m.sX (by omega) (by omega) fun j_76 hj_76 => ?_
                            conv => cbv
                            refine hE3 _ _ (true, f8, ys3, r118, j_76) (Chg.refl _) ?_ ?_ (by (try dsimp only) <;> (first | exact fo.skip (by omega) (by omega) (.inr (by simpa using lp)) | exact fo.skip (by omega) (by omega) (.inl (by omega)) | (rcases (show i2 = 1 ∨ 1 < i2 by omega) with q1 | q1; exact fo.skip (by omega) (by omega) (.inl (by omega)); exact fo.dead (by omega) (by omega) (rv q1) rfl) | exact fo.yes (by omega) (by omega) (by omega) rv1 (by omega) (by simpa using lp) (by omega) (by assumption) (by omega) (.inl rfl) | exact fo.yes (by omega) (by omega) (by omega) rv1 (by omega) (by simpa using lp) (by omega) (by assumption) (by omega) (.inr (.inl (by omega))) | exact fo.yes (by omega) (by omega) (by omega) rv1 (by omega) (by simpa using lp) (by omega) (by assumption) (by omega) (.inr (.inr ⟨by omega, by assumption⟩)) | exact fo.no (by omega) (by omega) (by omega) rv1 (by omega) (by simpa using lp) (by assumption) (by omega) rfl (by omega) (fun _ => by assumption) | exact fo.no (by omega) (by omega) (by omega) rv1 (by omega) (by simpa using lp) (by assumption) (by omega) rfl (by omega) (fun q1 => by omega))) (by first | omega | (dsimp only; omega))
                            · cbv
                            · cbv
                      · refine r_addf m.sX (by omega) (by omega) fun r119 hr119 => ?_
                        conv => cbv
                        refine r_addf m.sX (by omega) (by omega) fun r120 hr120 => ?_
                        conv => cbv
                        refine r_subf m.sX (by omega) (by omega) fun j_77 hj_77 => ?_
                        conv => cbv
                        refine hE3 _ _ (true, r119, breaks_11, r120, j_77) (haveI := m.z; chg_sealB (k := 992) (b := 113) (p := 2) (e := 3) (z := 1) (by rfl) (by rfl) (by rfl) (by decide)) ?_ ?_ (by (try dsimp only) <;> (first | exact fo.skip (by omega) (by omega) (.inr (by simpa using lp)) | exact fo.skip (by omega) (by omega) (.inl (by omega)) | (rcases (show i2 = 1 ∨ 1 < i2 by omega) with q1 | q1; exact fo.skip (by omega) (by omega) (.inl (by omega)); exact fo.dead (by omega) (by omega) (rv q1) rfl) | exact fo.yes (by omega) (by omega) (by omega) rv1 (by omega) (by simpa using lp) (by omega) (by assumption) (by omega) (.inl rfl) | exact fo.yes (by omega) (by omega) (by omega) rv1 (by omega) (by simpa using lp) (by omega) (by assumption) (by omega) (.inr (.inl (by omega))) | exact fo.yes (by omega) (by omega) (by omega) rv1 (by omega) (by simpa using lp) (by omega) (by assumption) (by omega) (.inr (.inr ⟨by omega, by assumption⟩)) | exact fo.no (by omega) (by omega) (by omega) rv1 (by omega) (by simpa using lp) (by assumption) (by omega) rfl (by omega) (fun _ => by assumption) | exact fo.no (by omega) (by omega) (by omega) rv1 (by omega) (by simpa using lp) (by assumption) (by omega) rfl (by omega) (fun q1 => by omega))) (by first | omega | (dsimp only; omega))
                        · cbv
                        · cbv
                  · refine r_subf m.sX (by omega) (by omega) fun j_83 hj_83 => ?_
                    conv => cbv
                    refine hE3 _ _ (f7, f8, ys3, f9, j_83) (Chg.refl _) ?_ ?_ (by (try dsimp only) <;> (first | exact fo.skip (by omega) (by omega) (.inr (by simpa using lp)) | exact fo.skip (by omega) (by omega) (.inl (by omega)) | (rcases (show i2 = 1 ∨ 1 < i2 by omega) with q1 | q1; exact fo.skip (by omega) (by omega) (.inl (by omega)); exact fo.dead (by omega) (by omega) (rv q1) rfl) | exact fo.yes (by omega) (by omega) (by omega) rv1 (by omega) (by simpa using lp) (by omega) (by assumption) (by omega) (.inl rfl) | exact fo.yes (by omega) (by omega) (by omega) rv1 (by omega) (by simpa using lp) (by omega) (by assumption) (by omega) (.inr (.inl (by omega))) | exact fo.yes (by omega) (by omega) (by omega) rv1 (by omega) (by simpa using lp) (by omega) (by assumption) (by omega) (.inr (.inr ⟨by omega, by assumption⟩)) | exact fo.no (by omega) (by omega) (by omega) rv1 (by omega) (by simpa using lp) (by assumption) (by omega) rfl (by omega) (fun _ => by assumption) | exact fo.no (by omega) (by omega) (by omega) rv1 (by omega) (by simpa using lp) (by assumption) (by omega) rfl (by omega) (fun q1 => by omega))) (by first | omega | (dsimp only; omega))
                    · cbv
                    · cbv
                · refine r_subf m.sX (by omega) (by omega) fun j_84 hj_84 => ?_
                  conv => cbv
                  refine hE3 _ _ (f7, f8, ys3, f9, j_84) (Chg.refl _) ?_ ?_ (by (try dsimp only) <;> (first | exact fo.skip (by omega) (by omega) (.inr (by simpa using lp)) | exact fo.skip (by omega) (by omega) (.inl (by omega)) | (rcases (show i2 = 1 ∨ 1 < i2 by omega) with q1 | q1; exact fo.skip (by omega) (by omega) (.inl (by omega)); exact fo.dead (by omega) (by omega) (rv q1) rfl) | exact fo.yes (by omega) (by omega) (by omega) rv1 (by omega) (by simpa using lp) (by omega) (by assumption) (by omega) (.inl rfl) | exact fo.yes (by omega) (by omega) (by omega) rv1 (by omega) (by simpa using lp) (by omega) (by assumption) (by omega) (.inr (.inl (by omega))) | exact fo.yes (by omega) (by omega) (by omega) rv1 (by omega) (by simpa using lp) (by omega) (by assumption) (by omega) (.inr (.inr ⟨by omega, by assumption⟩)) | exact fo.no (by omega) (by omega) (by omega) rv1 (by omega) (by simpa using lp) (by assumption) (by omega) rfl (by omega) (fun _ => by assumption) | exact fo.no (by omega) (by omega) (by omega) rv1 (by omega) (by simpa using lp) (by assumption) (by omega) rfl (by omega) (fun q1 => by omega))) (by first | omega | (dsimp only; omega))
                  · cbv
                  · cbv
              · refine hF3 _ _ ?_
                conv => cbv
                refine r_draw m (by kernel_rfl) ?_
                conv => cbv
                refine r_oindex m.sY (by omega) (by omega) ?_
                conv => cbv
                obtain ⟨x9, hx9⟩ := get_ex (xs := best_5) (i := Int.toNat i2) (by omega)
                have lx9 := g2.rows _ _ hx9
                have mx9 := get_mem hx9
                have dx9 := drop_cons hx9
                have kx9 := take_snoc hx9
                have jx9 : (i2 + 1).toNat = Int.toNat i2 + 1 := by omega
                refine r_oload m.sY hx9 (Nat.le_of_ble_eq_true rfl) ?_
                conv => cbv
                refine r_oload m.sY hx9 (Nat.le_of_ble_eq_true rfl) ?_
                conv => cbv
                refine r_oindex m.sY (by omega) (by omega) ?_
                conv => cbv
                refine r_oload m.sY hx9 (Nat.le_of_ble_eq_true rfl) ?_
                conv => cbv
                obtain ⟨y4, hy4⟩ := get_ex (xs := x9) (i := Int.toNat i_2) (by omega)
                have my4 := get_mem hy4
                refine r_ostore (l := Int.toNat i_2) (f7, f8, ys3, f9) m.sY hy4 (Nat.le_of_ble_eq_true rfl) rfl fun zs11 hzs11 => ?_
                have lzs11 : (zs11.length : Int) = x9.length := by rw [hzs11]; first | done | (simp; done) | (simp; omega)
                conv => cbv
                refine r_ostore (l := Int.toNat i2) zs11 m.sY hx9 (Nat.le_of_ble_eq_true rfl) rfl fun best_8 hbest_8 => ?_
                have lbest_8 : (best_8.length : Int) = best_5.length := by rw [hbest_8]; first | done | (simp; done) | (simp; omega)
                conv => cbv
                have lbest_8 : (best_8.length : Int) = best_5.length := by rw [hbest_8]; simp
                refine r_subf m.sX (by omega) (by omega) fun i_5 hi_5 => ?_
                conv => cbv
                refine hE2 _ (best_8, i_5) ?_ ?_ ⟨(by (try dsimp only) <;> (first | exact g2.set (by omega) hx3 hzs5 hbest_6 (by omega) (by omega) (fo.done (by omega)) (by omega) (by omega) | exact g2.set (by omega) hx6 hzs8 hbest_7 (by omega) (by omega) (fo.done (by omega)) (by omega) (by omega) | exact g2.set (by omega) hx9 hzs11 hbest_8 (by omega) (by omega) (fo.done (by omega)) (by omega) (by omega))), (by (try dsimp only) <;> (omega))⟩ (by first | omega | (dsimp only; omega))
                · cbv
                · cbv
          · refine hF2 _ _ ?_
            conv => cbv
            refine r_addf m.sX (by omega) (by omega) fun r131 hr131 => ?_
            conv => cbv
            try have tr131 : Int.toNat r131 = Int.toNat i2 + 1 := by omega
            refine hE _ (best_5, r131) ?_ ?_ ⟨(by (try dsimp only); first | omega | (simp; omega)), (by (try dsimp only); first | omega | (simp; omega)), (by (try dsimp only) <;> (first | exact g1.skip (by omega) (by omega) | exact g2.next (by omega) (by omega) (by omega) (by omega)))⟩ (by first | omega | (dsimp only; omega))
            · cbv
            · cbv
      · have dz_i2 := drop_end (xs := best_2) (i := Int.toNat i2) (by omega)
        have tz_i2 := take_end (xs := best_2) (i := Int.toNat i2) (by omega)
        refine hF _ _ ?_
        conv => cbv
        refine r_oindex m.sX (by omega) (by omega) ?_
        conv => cbv
        obtain ⟨x19, hx19⟩ := get_ex (xs := best_4) (i := Int.toNat lines) (by omega)
        have lx19 := g1.rows _ _ hx19
        have mx19 := get_mem hx19
        refine r_oload m.sX hx19 (Nat.le_of_ble_eq_true rfl) ?_
        conv => cbv
        refine r_oload m.sX hx19 (Nat.le_of_ble_eq_true rfl) ?_
        conv => cbv
        refine r_oindex m.sX (by omega) (by omega) ?_
        conv => cbv
        refine r_oload m.sX hx19 (Nat.le_of_ble_eq_true rfl) ?_
        conv => cbv
        obtain ⟨⟨x20A, x20B, x20C, x20D⟩, hx20⟩ := get_ex (xs := x19) (i := Int.toNat 0) (by omega)
        refine r_oload m.sX hx20 (Nat.le_of_ble_eq_true rfl) ?_
        conv => cbv
        exact hQ (.agg [.bool x20A, .int .i64 x20B, .isl 1 (rows cInt x20C), .int .i64 x20D]) (Eq.trans (by first | rfl | (simp only [lb, lbI, rows_cons, rows_nil, unnilT, unnil, unnilTI, unnilI]; try rfl)) (congrArg ((fun x => PV.agg (cPaWay x))) (show (x20A, x20B, x20C, x20D) = pV words (rA, rB, rC) measure lines 0 from by exact g1.ansB (by omega) (by omega) hx19 hx20 (by omega))))

end Go.Proofs.Ytiaodmfipeoegaa.Ai
