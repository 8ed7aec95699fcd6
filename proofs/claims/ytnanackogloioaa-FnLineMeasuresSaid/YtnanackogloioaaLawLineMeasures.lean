/- The law FnLineMeasures: its body returns true. -/
import Derived.Test.YtnanackogloioaaLineDraw
import Derived.Test.YtnanackogloioaaAiCut
namespace Go.Proofs.Ytnanackogloioaa.Ai
open Go Go.Proofs
set_option maxRecDepth 10000
set_option maxHeartbeats 4000000
set_option linter.unusedVariables false


theorem runs_okB {me n : Int} {l : List CutIn} {r : List (List Int)} {b : Bool} (h : (r, b) = runsAns me l n) : (goodC me l && inB n 0 300) = b := by
  unfold runsAns at h
  split at h <;> simp_all
theorem runs_val {me n : Int} {l : List CutIn} {r : List (List Int)} (h : (r, true) = runsAns me l n) : goodC me l = true ∧ (0 ≤ n ∧ n ≤ 300) ∧ r = runsF (measL me l n) := by
  have o := runs_okB h
  rw [runsAns, if_pos o] at h
  rw [Bool.and_eq_true] at o
  exact ⟨o.1, inB_spec o.2, (Prod.mk.inj h).1⟩
theorem line_okB {me n : Int} {l : List CutIn} {r : List Int} {b : Bool} (h : (r, b) = lineAns me l n) : (goodC me l && inB n 0 300) = b := by
  unfold lineAns at h
  split at h <;> simp_all
theorem ind_okB {me n : Int} {l : List CutIn} {r : List Int} {b : Bool} (h : (r, b) = indAns me l n) : (goodC me l && inB n 0 300) = b := by
  unfold indAns at h
  split at h <;> simp_all
theorem ind_val {me n : Int} {l : List CutIn} {r : List Int} (h : (r, true) = indAns me l n) : r = indL l n := by
  have o := ind_okB h
  rw [indAns, if_pos o] at h
  exact (Prod.mk.inj h).1
theorem room_okB {me n r : Int} {l : List CutIn} {b : Bool} (h : (r, b) = roomAns me l n) : (goodC me l && inB n 0 300) = b := by
  unfold roomAns at h
  split at h <;> simp_all
theorem room_val {me n r : Int} {l : List CutIn} (h : (r, true) = roomAns me l n) : r = roomS me (measL me l n) := by
  have o := room_okB h
  rw [roomAns, if_pos o] at h
  exact (Prod.mk.inj h).1
theorem need_val2 {me want t : Int} {l : List CutIn} (h : (t, true) = needAns me l want) : goodC me l = true ∧ (0 ≤ t ∧ t ≤ 300) ∧ want ≤ (measL me l t).sum ∧ ∀ j, 0 ≤ j → j < t → (measL me l j).sum < want := by
  unfold needAns at h
  split at h
  case isFalse => simp at h
  rename_i ho
  rw [Bool.and_eq_true] at ho
  split at h
  case isFalse => simp at h
  rename_i hf
  obtain rfl := (Prod.mk.inj h).1
  obtain ⟨f1, f2, f3, f4⟩ := firstN_low (me := me) (l := l) (want := want) 301 0
  exact ⟨ho.1, ⟨f1, hf⟩, f3 (by omega), f4⟩
theorem runOk_nth {r : List Int} (h : runOk r) : r.length = 2 ∧ (1 ≤ nth r 0 ∧ nth r 0 ≤ 300) ∧ 40 ≤ nth r 1 ∧ nth r 1 ≤ 600 := by
  obtain ⟨c, k, rfl, h1, h2, h3, h4⟩ := h
  exact ⟨rfl, ⟨h1, h2⟩, h3, h4⟩
theorem cnt_one (r : List Int) : cntS [r] = nth r 0 := by simp [cntS]
theorem all_one (r : List Int) : allS [r] = nth r 0 * nth r 1 := by simp [allS]
theorem roo_one (me : Int) (r : List Int) : rooS me [r] = if nth r 1 < me then nth r 0 * nth r 1 else 0 := by simp [rooS]
theorem meas_fits {me : Int} {l : List CutIn} (h : goodC me l = true) (n : Int) (hn : n ≤ 300) : SumFits (measL me l n) := by
  refine sumfits_of 600 (fun m hm => ?_) ?_
  · have := measL_mem h hm
    have := (goodC_spec h).2.2.1
    omega
  · simp only [measL, List.length_map, List.length_range]; omega

theorem sameLists_ok (l : List (List Int))  : OkA Try.prog 76 [.isl 1 (rows (cSl 1 cInt) l), .isl 1 (rows (cSl 1 cInt) l)] (· = .bool (true)) :=
  fn_intro envOk fieldsOk mixed Try.func76 rfl fun κ X Y L Q m hQ => by
    conv => cbv
    refine r_lenR m.sX fun n1 hn1 mn1 => ?_
    conv => cbv
    refine r_lenR m.sX fun n2 hn2 mn2 => ?_
    conv => cbv
    refine r_neqF m.sX (by omega) ?_
    conv => cbv
    refine r_lenR m.sX fun n3 hn3 mn3 => ?_
    conv => cbv
    refine r_loopF (α := Int) m 27 [0, 1, 12, 13] [] (fun σ => [(0, .isl 1 (rows (cSl 1 cInt) l)), (1, .isl 1 (rows (cSl 1 cInt) l)), (12, .int .i64 n3), (13, .int .i64 σ)]) (fun σ => [])
      (fun σ => (0 ≤ σ) ∧ (σ ≤ n3)) (fun σ => (n3 - σ).toNat) 0 ?_ ?_ ?_ ?_
    · cbv
    · cbv
    · exact ⟨(by (try dsimp only); first | omega | (simp only [List.length_nil]; omega)), (by (try dsimp only); first | omega | (simp only [List.length_nil]; omega))⟩
    rintro i1 ⟨lo1, hi1⟩ E hE F hF
    conv => cbv
    refine r_lss m.sX (fun h2 => ?_) (fun h2 => ?_) <;> conv => cbv
    · refine r_draw m (by kernel_rfl) ?_
      conv => cbv
      refine r_index m.sY (by omega) (by omega) fun x1 hx1 => ?_
      conv => cbv
      have mx1 := get_mem hx1
      have dx1 := drop_cons hx1
      have kx1 := take_snoc hx1
      have jx1 : (i1 + 1).toNat = Int.toNat i1 + 1 := by omega
      refine r_index m.sY (by omega) (by omega) fun x2 hx2 => ?_
      conv => cbv
      have mx2 := get_mem hx2
      have dx2 := drop_cons hx2
      have kx2 := take_snoc hx2
      have jx2 : (i1 + 1).toNat = Int.toNat i1 + 1 := by omega
      obtain rfl : x1 = x2 := Option.some.inj (hx1.symm.trans hx2)
      refine r_callBTS m.sY (sameInts_ok x1 x1) (by first | assumption | exact decide_eq_true rfl | (simp [*]; done) | omega) ?_   -- h3
      conv => cbv
      refine r_addf m.sX (by omega) (by omega) fun r1 hr1 => ?_
      conv => cbv
      have tr1 : Int.toNat r1 = Int.toNat i1 + 1 := by omega
      refine hE _ r1 ?_ ?_ ⟨(by (try dsimp only); first | omega | (simp only [List.length_nil]; omega)), (by (try dsimp only); first | omega | (simp only [List.length_nil]; omega))⟩ (by first | omega | (dsimp only; omega))
      · cbv
      · cbv
    · have dz_i1 := drop_end (xs := l) (i := Int.toNat i1) (by omega)
      have tz_i1 := take_end (xs := l) (i := Int.toNat i1) (by omega)
      refine hF _ _ ?_
      conv => cbv
      exact hQ _ (congrArg PV.bool (by first | rfl | omega | (simp [*]; done) | (subst_vars; simp [*]; done)))   -- leaf 1

noncomputable abbrev midLineMeasures (more : List Int) : List (Nat × PV) := [(1, .isl 1 (rows cU8 more))]

section
variable {κ : Ctx} {X Y : Req → (PV → Prop) → Prop} {L : Code → (Ex → St → Prop) → St → Prop} {Q : PV → Prop}

theorem lineMeasures_part1 (m : Mach Try.prog G κ X Y L) (hQ : ∀ r, r = PV.bool true → Q r) (code more : List Int) (hf : ∀ x ∈ code, 0 ≤ x ∧ x ≤ 255) (E0 : St → Prop)
    (hE0 : ∀ (s' : St) (a : Unit), headOk s' [] = true → Ai.norm [1] [] s' = St.at 370 (midLineMeasures more) [] → (more.length : Int) ≤ 9223372036854775807 → E0 s') :
    Ai.code X L G (front 13 (Try.f7.body.getD .skip)) (fun e s' => match e with | .normal => E0 s' | .exit i => EndsIn (post G Try.f7.results.toList Q) (.exit i) s' | .ret => EndsIn (post G Try.f7.results.toList Q) .ret s') (start 370 [.isl 1 (rows cU8 code), .isl 1 (rows cU8 more)] []) := by
  conv => cbv
  refine r_callB m.sX (big_ok code more) (fun h1 => ?_) (fun h1 => ?_) <;> conv => cbv
  · exact hQ _ (congrArg PV.bool (by first | rfl | omega | (simp [*]; done) | (subst_vars; simp [*]; done)))   -- leaf 1
  · rw [Bool.or_eq_false_iff, decide_eq_false_iff_not, decide_eq_false_iff_not] at h1
    have h : CurIn code := ⟨by omega, hf⟩
    have hmr : (more.length : Int) ≤ 9223372036854775807 := by omega
    refine r_callE m.sX ((drawRunsOf_ok code h).iceE) ?_
    rintro _ ⟨_, ⟨measure, l, n, rfl, bmeasure_1, bmeasure_2⟩, rfl⟩
    conv => cbv
    refine r_callF (lbI 1 (cSl 1 cInt)) m.sX (RunsOf_ok measure l n (by omega) (by omega)) fun v hr => ?_
    obtain ⟨r, ok⟩ := v
    conv => cbv
    refine r_callF (lbI 1 (cSl 1 cInt)) m.sX (specRunsOf_ok measure l n (by omega) (by omega)) fun y1 hy1 => ?_
    obtain rfl := hr.trans hy1.symm
    clear hy1
    conv => cbv
    refine r_callF (lbI 1 cInt) m.sX ((LineMeasures_ok measure l n (by first | rfl | assumption | omega | (simp only [List.length_append, List.length_cons, List.length_nil] at *; omega)) (by first | rfl | assumption | omega | (simp only [List.length_append, List.length_cons, List.length_nil] at *; omega))).ice) fun v hm_ => ?_
    obtain ⟨m_, one⟩ := v
    conv => cbv
    refine r_callF (lbI 1 cInt) m.sX ((specLineMeasures_ok measure l n (by first | rfl | assumption | omega | (simp only [List.length_append, List.length_cons, List.length_nil] at *; omega)) (by first | rfl | assumption | omega | (simp only [List.length_append, List.length_cons, List.length_nil] at *; omega))).ice) fun y2 hy2 => ?_
    obtain rfl := hm_.trans hy2.symm
    clear hy2
    conv => cbv
    refine r_callF (lbI 1 cInt) m.sX ((IndentsOf_ok measure l n (by first | rfl | assumption | omega | (simp only [List.length_append, List.length_cons, List.length_nil] at *; omega)) (by first | rfl | assumption | omega | (simp only [List.length_append, List.length_cons, List.length_nil] at *; omega))).ice) fun v hd => ?_
    obtain ⟨d, three⟩ := v
    conv => cbv
    refine r_callF (lbI 1 cInt) m.sX ((specIndentsOf_ok measure l n (by first | rfl | assumption | omega | (simp only [List.length_append, List.length_cons, List.length_nil] at *; omega)) (by first | rfl | assumption | omega | (simp only [List.length_append, List.length_cons, List.length_nil] at *; omega))).ice) fun y3 hy3 => ?_
    obtain rfl := hd.trans hy3.symm
    clear hy3
    conv => cbv
    refine r_callF ib m.sX (RoomBeside_ok measure l n (by first | rfl | assumption | omega | (simp only [List.length_append, List.length_cons, List.length_nil] at *; omega)) (by first | rfl | assumption | omega | (simp only [List.length_append, List.length_cons, List.length_nil] at *; omega))) fun v hb => ?_
    obtain ⟨b, five⟩ := v
    conv => cbv
    refine r_callF ib m.sX (specRoomBeside_ok measure l n (by first | rfl | assumption | omega | (simp only [List.length_append, List.length_cons, List.length_nil] at *; omega)) (by first | rfl | assumption | omega | (simp only [List.length_append, List.length_cons, List.length_nil] at *; omega))) fun y4 hy4 => ?_
    obtain rfl := hb.trans hy4.symm
    clear hy4
    conv => cbv
    rcases Bool.eq_false_or_eq_true ok with rfl | rfl <;> conv => cbv
    · obtain ⟨hg, nb, er⟩ := runs_val hr
      have o1 := runs_okB hr
      refine r_callBT m.sX (sameLists_ok r) (by first | assumption | exact decide_eq_true rfl | (simp [*]; done) | omega) ?_   -- h2
      conv => cbv
      obtain rfl : one = true := by exact (line_okB hm_).symm.trans o1
      conv => cbv
      refine r_callBT m.sX (sameInts_ok m_ m_) (by first | assumption | exact decide_eq_true rfl | (simp [*]; done) | omega) ?_   -- h3
      conv => cbv
      obtain rfl : three = true := by exact (ind_okB hd).symm.trans o1
      conv => cbv
      refine r_callBT m.sX (sameInts_ok d d) (by first | assumption | exact decide_eq_true rfl | (simp [*]; done) | omega) ?_   -- h4
      conv => cbv
      obtain rfl : five = true := by exact (room_okB hb).symm.trans o1
      conv => cbv
      obtain ⟨-, -, em⟩ := line_val hm_
      have ed := ind_val hd
      have eb := room_val hb
      have ml : (m_.length : Int) = n := by rw [em]; exact measL_len nb.1
      have dl : (d.length : Int) = n := by rw [ed]; exact indL_len nb.1
      have mb : ∀ x ∈ m_, 40 ≤ x ∧ x ≤ 600 := fun x hx => by have h1 := measL_mem hg (em ▸ hx); have h2 := (goodC_spec hg).2.2.1; omega
      obtain ⟨rk, rl⟩ := runs_ok m_.length m_ rfl (by omega) mb
      rw [em, ← er] at rk rl
      obtain ⟨s1, s2, s3⟩ := runs_sums (me := measure) m_.length m_ rfl
      rw [em, ← er] at s1 s2 s3
      rw [← em] at s1 s2 s3 rl
      have wf : SumFits m_ := by rw [em]; exact meas_fits hg n nb.2
      refine r_neqF m.sX (by omega) ?_
      conv => cbv
      refine r_lenR m.sX fun n1 hn1 mn1 => ?_
      conv => cbv
      refine r_loopF (α := Int × Int × Int × Int) m 370 [1, 5, 7, 14, 18, 22, 24, 25, 26, 171, 172, 173] [] (fun σ => [(1, .isl 1 (rows cU8 more)), (5, .int .i64 measure), (7, .int .i64 n), (14, .isl 1 (rows cInt m_)), (18, .isl 1 (rows cInt d)), (22, .int .i64 b), (24, .int .i64 σ.1), (25, .int .i64 σ.2.1), (26, .int .i64 σ.2.2.1), (171, .isl 1 (rows (cSl 1 cInt) r)), (172, .int .i64 n1), (173, .int .i64 σ.2.2.2)]) (fun σ => [])
        (fun σ => (0 ≤ σ.2.2.2) ∧ (σ.2.2.2 ≤ n1) ∧ (σ.1 = cntS (r.take σ.2.2.2.toNat)) ∧ (σ.2.1 = allS (r.take σ.2.2.2.toNat)) ∧ (σ.2.2.1 = rooS measure (r.take σ.2.2.2.toNat)) ∧ (0 ≤ σ.1 ∧ σ.1 ≤ 300 * σ.2.2.2) ∧ (0 ≤ σ.2.1 ∧ σ.2.1 ≤ 180000 * σ.2.2.2) ∧ (0 ≤ σ.2.2.1 ∧ σ.2.2.1 ≤ 180000 * σ.2.2.2)) (fun σ => (n1 - σ.2.2.2).toNat) (0, 0, 0, 0) ?_ ?_ ?_ ?_
      · cbv
      · cbv
      · exact ⟨(by (try dsimp only); first | omega | (simp only [List.length_nil]; omega)), (by (try dsimp only); first | omega | (simp only [List.length_nil]; omega)), (by (try dsimp only) <;> (rfl)), (by (try dsimp only) <;> (rfl)), (by (try dsimp only) <;> (rfl)), (by (try dsimp only) <;> first | omega | rfl | (simp [*]; done)), (by (try dsimp only) <;> first | omega | rfl | (simp [*]; done)), (by (try dsimp only) <;> first | omega | rfl | (simp [*]; done))⟩
      rintro ⟨lines, sum, room, i1⟩ ⟨lo1, hi1, q1, q2, q3, b, b2, b3⟩ E hE F hF
      dsimp only at lo1 hi1 q1 q2 q3 b b2 b3
      conv => cbv
      refine r_lss m.sX (fun h6 => ?_) (fun h6 => ?_) <;> conv => cbv
      · refine r_index m.sX (by omega) (by omega) fun run hrun => ?_
        conv => cbv
        have mrun := get_mem hrun
        have drun := drop_cons hrun
        have krun := take_snoc hrun
        have jrun : (i1 + 1).toNat = Int.toNat i1 + 1 := by omega
        obtain ⟨l2, y1, y2⟩ := runOk_nth (rk run mrun)
        refine r_index m.sX (by omega) (by omega) fun x1 hx1 => ?_
        conv => cbv
        have mx1 := get_mem hx1
        have vx1 := nth_some hx1
        have w1 : x1 = nth run 0 := vx1.symm
        refine r_addf m.sX (by omega) (by omega) fun lines_2 hlines_2 => ?_
        conv => cbv
        refine r_draw m (by kernel_rfl) ?_
        conv => cbv
        refine r_index m.sY (by omega) (by omega) fun x2 hx2 => ?_
        conv => cbv
        have mx2 := get_mem hx2
        have vx2 := nth_some hx2
        obtain rfl : x1 = x2 := Option.some.inj (hx1.symm.trans hx2)
        refine r_index m.sY (by omega) (by omega) fun x3 hx3 => ?_
        conv => cbv
        have mx3 := get_mem hx3
        have vx3 := nth_some hx3
        have w3 : x3 = nth run 1 := vx3.symm
        have g1 := mul_bound (show 0 ≤ x1 by omega) (show x1 ≤ 300 by omega) (show 0 ≤ x3 by omega) (show x3 ≤ 600 by omega)
        refine r_mulf m.sY (by omega) (by omega) fun r1 hr1 => ?_
        conv => cbv
        refine r_addf m.sY (by omega) (by omega) fun sum_2 hsum_2 => ?_
        conv => cbv
        refine r_index m.sX (by omega) (by omega) fun x4 hx4 => ?_
        conv => cbv
        have mx4 := get_mem hx4
        have vx4 := nth_some hx4
        obtain rfl : x3 = x4 := Option.some.inj (hx3.symm.trans hx4)
        refine r_lss m.sX (fun h7 => ?_) (fun h7 => ?_) <;> conv => cbv
        · refine r_draw m (by kernel_rfl) ?_
          conv => cbv
          refine r_index m.sY (by omega) (by omega) fun x5 hx5 => ?_
          conv => cbv
          have mx5 := get_mem hx5
          have vx5 := nth_some hx5
          obtain rfl : x1 = x5 := Option.some.inj (hx1.symm.trans hx5)
          refine r_index m.sY (by omega) (by omega) fun x6 hx6 => ?_
          conv => cbv
          have mx6 := get_mem hx6
          have vx6 := nth_some hx6
          obtain rfl : x3 = x6 := Option.some.inj (hx3.symm.trans hx6)
          refine r_mulf m.sY (by omega) (by omega) fun r2 hr2 => ?_
          conv => cbv
          refine r_addf m.sY (by omega) (by omega) fun room_2 hroom_2 => ?_
          conv => cbv
          refine r_addf m.sX (by omega) (by omega) fun r3 hr3 => ?_
          conv => cbv
          have tr3 : Int.toNat r3 = Int.toNat i1 + 1 := by omega
          refine hE _ (lines_2, sum_2, room_2, r3) ?_ ?_ ⟨(by (try dsimp only); first | omega | (simp only [List.length_nil]; omega)), (by (try dsimp only); first | omega | (simp only [List.length_nil]; omega)), (by (try dsimp only) <;> (rw [tr3, krun, cntS_app, cnt_one, ← q1]; omega)), (by (try dsimp only) <;> (rw [tr3, krun, allS_app, all_one, ← q2, ← w1, ← w3, hsum_2, hr1])), (by (try dsimp only) <;> (first | (rw [tr3, krun, rooS_app, roo_one, ← q3, ← w1, ← w3, if_pos h7, hroom_2, hr2]; done) | (rw [tr3, krun, rooS_app, roo_one, ← q3, ← w1, ← w3, if_neg (by omega), Int.add_zero]; done))), (by (try dsimp only) <;> first | omega | rfl | (simp [*]; done) | (rw [b]; simp [*]; done)), (by (try dsimp only) <;> first | omega | rfl | (simp [*]; done) | (rw [b2]; simp [*]; done)), (by (try dsimp only) <;> first | omega | rfl | (simp [*]; done) | (rw [b3]; simp [*]; done))⟩ (by first | omega | (dsimp only; omega))
          · cbv
          · cbv
        · refine r_addf m.sX (by omega) (by omega) fun r4 hr4 => ?_
          conv => cbv
          have tr4 : Int.toNat r4 = Int.toNat i1 + 1 := by omega
          refine hE _ (lines_2, sum_2, room, r4) ?_ ?_ ⟨(by (try dsimp only); first | omega | (simp only [List.length_nil]; omega)), (by (try dsimp only); first | omega | (simp only [List.length_nil]; omega)), (by (try dsimp only) <;> (rw [tr4, krun, cntS_app, cnt_one, ← q1]; omega)), (by (try dsimp only) <;> (rw [tr4, krun, allS_app, all_one, ← q2, ← w1, ← w3, hsum_2, hr1])), (by (try dsimp only) <;> (first | (rw [tr4, krun, rooS_app, roo_one, ← q3, ← w1, ← w3, if_pos h7, hroom_2, hr2]; done) | (rw [tr4, krun, rooS_app, roo_one, ← q3, ← w1, ← w3, if_neg (by omega), Int.add_zero]; done))), (by (try dsimp only) <;> first | omega | rfl | (simp [*]; done) | (rw [b]; simp [*]; done)), (by (try dsimp only) <;> first | omega | rfl | (simp [*]; done) | (rw [b2]; simp [*]; done)), (by (try dsimp only) <;> first | omega | rfl | (simp [*]; done) | (rw [b3]; simp [*]; done))⟩ (by first | omega | (dsimp only; omega))
          · cbv
          · cbv
      · have dz_i1 := drop_end (xs := r) (i := Int.toNat i1) (by omega)
        have tz_i1 := take_end (xs := r) (i := Int.toNat i1) (by omega)
        refine hF _ _ ?_
        conv => cbv
        refine r_neqF m.sX ((by rw [q1, tz_i1, s1]; omega)) ?_
        conv => cbv
        refine r_callF (PV.int .i64) m.sX (pSum_ok m_ (by first | rfl | assumption | omega | (simp only [List.length_append, List.length_cons, List.length_nil] at *; omega))) fun r5 hr5 => ?_
        conv => cbv
        refine r_neqF m.sX ((by rw [q2, tz_i1, s2, hr5])) ?_
        conv => cbv
        refine r_neqF m.sX ((by rw [q3, tz_i1, s3, eb, em])) ?_
        conv => cbv
        refine r_lenR m.sX fun n2 hn2 mn2 => ?_
        conv => cbv
        refine r_neqF m.sX (by omega) ?_
        conv => cbv
        refine r_lenR m.sX fun n3 hn3 mn3 => ?_
        conv => cbv
        refine r_loopF (α := Int) m 370 [1, 5, 14, 226, 227, 228] [] (fun σ => [(1, .isl 1 (rows cU8 more)), (5, .int .i64 measure), (14, .isl 1 (rows cInt m_)), (226, .isl 1 (rows cInt d)), (227, .int .i64 n3), (228, .int .i64 σ)]) (fun σ => [])
          (fun σ => (0 ≤ σ) ∧ (σ ≤ n3)) (fun σ => (n3 - σ).toNat) 0 ?_ ?_ ?_ ?_
        · cbv
        · cbv
        · exact ⟨(by (try dsimp only); first | omega | (simp only [List.length_nil]; omega)), (by (try dsimp only); first | omega | (simp only [List.length_nil]; omega))⟩
        rintro i2 ⟨lo2, hi2⟩ E hE F hF
        conv => cbv
        refine r_lss m.sX (fun h12 => ?_) (fun h12 => ?_) <;> conv => cbv
        · refine r_index m.sX (by omega) (by omega) fun indent hindent => ?_
          conv => cbv
          have mindent := get_mem hindent
          have dindent := drop_cons hindent
          have kindent := take_snoc hindent
          have jindent : (i2 + 1).toNat = Int.toNat i2 + 1 := by omega
          have vindent := nth_some hindent
          have a1 := indL_get (n := n) (l := l) (i := i2.toNat) (by rw [← ed]; exact hindent)
          have fb := indF_bound (line := (i2.toNat : Int)) (m := measure) (okFrom_mem (goodC_spec hg).1)
          refine r_index m.sX (by omega) (by omega) fun x7 hx7 => ?_
          conv => cbv
          have mx7 := get_mem hx7
          have dx7 := drop_cons hx7
          have kx7 := take_snoc hx7
          have jx7 : (i2 + 1).toNat = Int.toNat i2 + 1 := by omega
          have vx7 := nth_some hx7
          have a7 := measL_get (me := measure) (n := n) (l := l) (i := i2.toNat) (by rw [← em]; exact hx7)
          have mb7 := meas_bound (k := (i2.toNat : Int)) hg (by omega)
          refine r_addf m.sX (by omega) (by omega) fun r6 hr6 => ?_
          conv => cbv
          refine r_gtrF m.sX (by omega) ?_
          conv => cbv
          refine r_index m.sX (by omega) (by omega) fun x8 hx8 => ?_
          conv => cbv
          have mx8 := get_mem hx8
          have dx8 := drop_cons hx8
          have kx8 := take_snoc hx8
          have jx8 : (i2 + 1).toNat = Int.toNat i2 + 1 := by omega
          have vx8 := nth_some hx8
          obtain rfl : x7 = x8 := Option.some.inj (hx7.symm.trans hx8)
          refine r_lssF m.sX (by omega) ?_
          conv => cbv
          refine r_addf m.sX (by omega) (by omega) fun r7 hr7 => ?_
          conv => cbv
          have tr7 : Int.toNat r7 = Int.toNat i2 + 1 := by omega
          refine hE _ r7 ?_ ?_ ⟨(by (try dsimp only); first | omega | (simp only [List.length_nil]; omega)), (by (try dsimp only); first | omega | (simp only [List.length_nil]; omega))⟩ (by first | omega | (dsimp only; omega))
          · cbv
          · cbv
        · have dz_i2 := drop_end (xs := d) (i := Int.toNat i2) (by omega)
          have tz_i2 := take_end (xs := d) (i := Int.toNat i2) (by omega)
          refine hF _ _ ?_
          conv => cbv
          exact hE0 _ () (by cbv) (by cbv) hmr
    · have o1 := runs_okB hr
      refine r_callBT m.sX (sameLists_ok r) (by first | assumption | exact decide_eq_true rfl | (simp [*]; done) | omega) ?_   -- h15
      conv => cbv
      obtain rfl : one = false := by exact (line_okB hm_).symm.trans o1
      conv => cbv
      refine r_callBT m.sX (sameInts_ok m_ m_) (by first | assumption | exact decide_eq_true rfl | (simp [*]; done) | omega) ?_   -- h16
      conv => cbv
      obtain rfl : three = false := by exact (ind_okB hd).symm.trans o1
      conv => cbv
      refine r_callBT m.sX (sameInts_ok d d) (by first | assumption | exact decide_eq_true rfl | (simp [*]; done) | omega) ?_   -- h17
      conv => cbv
      obtain rfl : five = false := by exact (room_okB hb).symm.trans o1
      conv => cbv
      refine r_neqF m.sX (by omega) ?_
      conv => cbv
      exact hE0 _ () (by cbv) (by cbv) hmr

theorem lineMeasures_part2 (m : Mach Try.prog G κ X Y L) (hQ : ∀ r, r = PV.bool true → Q r) (more : List Int) (h : CurIn more) (E0 : St → Prop)
    (hE0 : ∀ (s' : St) (a : Unit), headOk s' [] = true → Ai.norm [1] [] s' = St.at 370 (midLineMeasures more) [] → True → E0 s') :
    Ai.code X L G (front 5 (rest 13 (Try.f7.body.getD .skip))) (fun e s' => match e with | .normal => E0 s' | .exit i => EndsIn (post G Try.f7.results.toList Q) (.exit i) s' | .ret => EndsIn (post G Try.f7.results.toList Q) .ret s') (St.at 370 (midLineMeasures more) []) := by
  conv => cbv
  refine r_callE m.sX ((drawLinesFor_ok more h).iceE) ?_
  rintro _ ⟨_, ⟨x, u, want, rfl, bx_1, bx_2⟩, rfl⟩
  conv => cbv
  refine r_callF ib m.sX (LinesFor_ok x u want (by first | rfl | assumption | omega | (simp only [List.length_append, List.length_cons, List.length_nil] at *; omega)) (by first | rfl | assumption | omega | (simp only [List.length_append, List.length_cons, List.length_nil] at *; omega))) fun v ht => ?_
  obtain ⟨t, seven⟩ := v
  conv => cbv
  refine r_callF ib m.sX (specLinesFor_ok x u want (by first | rfl | assumption | omega | (simp only [List.length_append, List.length_cons, List.length_nil] at *; omega)) (by first | rfl | assumption | omega | (simp only [List.length_append, List.length_cons, List.length_nil] at *; omega))) fun y1 hy1 => ?_
  obtain rfl := ht.trans hy1.symm
  clear hy1
  conv => cbv
  rcases Bool.eq_false_or_eq_true seven with rfl | rfl <;> conv => cbv
  · obtain ⟨n1, n2, n3, n4⟩ := need_val2 ht
    refine r_neqF m.sX (by omega) ?_
    conv => cbv
    refine r_callF (lbI 1 cInt) m.sX ((LineMeasures_ok x u t (by first | rfl | assumption | omega | (simp only [List.length_append, List.length_cons, List.length_nil] at *; omega)) (by first | rfl | assumption | omega | (simp only [List.length_append, List.length_cons, List.length_nil] at *; omega))).ice) fun v hall => ?_
    obtain ⟨all, nine⟩ := v
    conv => cbv
    obtain rfl : nine = true := by exact (line_okB hall).symm.trans (by rw [n1, inB]; simp; omega)
    conv => cbv
    obtain ⟨-, -, ea⟩ := line_val hall
    have wf : SumFits all := by rw [ea]; exact meas_fits n1 t n2.2
    have la : (all.length : Int) = t := by rw [ea]; exact measL_len n2.1
    rw [← ea] at n3
    refine r_callF (PV.int .i64) m.sX (pSum_ok all (by first | rfl | assumption | omega | (simp only [List.length_append, List.length_cons, List.length_nil] at *; omega))) fun r1 hr1 => ?_
    conv => cbv
    refine r_lssF m.sX (by omega) ?_
    conv => cbv
    refine r_gtr m.sX (fun h3 => ?_) (fun h3 => ?_) <;> conv => cbv
    · refine r_subf m.sX (by omega) (by omega) fun r2 hr2 => ?_
      conv => cbv
      refine r_islice (i := 0) (j := r2) m.sX (by omega) (by omega) (by omega) fun zs1 hzs1 => ?_   -- zs1 = all[None:r2]
      have lzs1 : (zs1.length : Int) = r2 - 0 := by rw [hzs1]; first | done | (simp; done) | (simp; omega)
      have e1 : zs1 = measL x u r2 := by rw [hzs1, ea]; simp only [Int.toNat_zero, List.drop_zero]; exact measL_take (by omega)
      have n5 := n4 r2 (by omega) (by omega)
      rw [← e1] at n5
      have wf2 : SumFits zs1 := by rw [e1]; exact meas_fits n1 r2 (by omega)
      conv => cbv
      refine r_callF (PV.int .i64) m.sX (pSum_ok zs1 (by first | rfl | assumption | omega | (simp only [List.length_append, List.length_cons, List.length_nil] at *; omega))) fun r3 hr3 => ?_
      conv => cbv
      refine r_geqF m.sX (by omega) ?_
      conv => cbv
      exact hE0 _ () (by cbv) (by cbv) trivial
    · exact hE0 _ () (by cbv) (by cbv) trivial
  · refine r_neqF m.sX (by omega) ?_
    conv => cbv
    exact hE0 _ () (by cbv) (by cbv) trivial

theorem lineMeasures_part3 (m : Mach Try.prog G κ X Y L) (hQ : ∀ r, r = PV.bool true → Q r) (more : List Int) (h : CurIn more) :
    Ai.code X L G (rest 5 (rest 13 (Try.f7.body.getD .skip))) (EndsIn (post G Try.f7.results.toList Q)) (St.at 370 (midLineMeasures more) []) := by
  conv => cbv
  refine r_callE m.sX (drawLinesOfInitial_ok more h) ?_
  rintro _ ⟨size, body, lead, rfl⟩
  conv => cbv
  refine r_callF iib m.sX (LinesOfInitial_ok size body lead) fun v hk => ?_
  obtain ⟨k, over, nine⟩ := v
  conv => cbv
  refine r_callF iib m.sX (specLinesOfInitial_ok size body lead) fun y1 hy1 => ?_
  obtain rfl := hk.trans hy1.symm
  clear hy1
  conv => cbv
  rcases Bool.eq_false_or_eq_true nine with rfl | rfl <;> conv => cbv
  · obtain ⟨k1, k2, k3, k4, k5, k6, k7, k8⟩ := ini_val hk
    have g1 := mul_bound (show 0 ≤ k by omega) (show k ≤ 2000 by omega) (show 0 ≤ body by omega) (show body ≤ 72 by omega)
    have g2 := mul_bound (show 0 ≤ k - 1 by omega) (show k - 1 ≤ 2000 by omega) k3.1 k3.2
    have e1 : k * (body + lead) = k * body + k * lead := Int.mul_add _ _ _
    have e2 : (k - 1) * lead = k * lead - lead := by rw [Int.sub_mul, Int.one_mul]
    refine r_eqlT m.sX (by omega) ?_
    conv => cbv
    refine r_eqlT m.sX (by omega) ?_
    conv => cbv
    refine r_mulf m.sX (by omega) (by omega) fun r1 hr1 => ?_
    conv => cbv
    refine r_subf m.sX (by omega) (by omega) fun r2 hr2 => ?_
    conv => cbv
    have e3 : r2 * lead = (k - 1) * lead := by rw [hr2]
    refine r_mulf m.sX (by omega) (by omega) fun r3 hr3 => ?_
    conv => cbv
    refine r_addf m.sX (by omega) (by omega) fun r4 hr4 => ?_
    conv => cbv
    refine r_addf m.sX (by omega) (by omega) fun r5 hr5 => ?_
    conv => cbv
    refine r_eqlT m.sX (by omega) ?_
    conv => cbv
    refine r_geqT m.sX (by omega) ?_
    conv => cbv
    refine r_addf m.sX (by omega) (by omega) fun r6 hr6 => ?_
    conv => cbv
    refine r_lssT m.sX (by omega) ?_
    conv => cbv
    exact hQ _ (congrArg PV.bool (by first | rfl | omega | (simp [*]; done) | (subst_vars; simp [*]; done)))   -- leaf 2
  · refine r_eqlT m.sX (by omega) ?_
    conv => cbv
    refine r_eqlT m.sX (by omega) ?_
    conv => cbv
    exact hQ _ (congrArg PV.bool (by first | rfl | omega | (simp [*]; done) | (subst_vars; simp [*]; done)))   -- leaf 3

end

theorem lawLineMeasures_ok (code more : List Int) (hf : ∀ x ∈ code, 0 ≤ x ∧ x ≤ 255) (hg : ∀ x ∈ more, 0 ≤ x ∧ x ≤ 255) : OkA Try.prog 7 [.isl 1 (rows cU8 code), .isl 1 (rows cU8 more)] (· = .bool true) :=
  fn_introW envOk fieldsOk mixed Try.func7 rfl (c := Try.f7.body.getD .skip) rfl fun κ X Y L Q m hQ =>
    W_cut m 13 370 [1] [] (fun _ : Unit => midLineMeasures more) (fun _ => []) (fun _ => (more.length : Int) ≤ 9223372036854775807) (lineMeasures_part1 m hQ code more hf) fun _ hl =>
    W_cut m 5 370 [1] [] (fun _ : Unit => midLineMeasures more) (fun _ => []) (fun _ => True) (lineMeasures_part2 m hQ more ⟨hl, hg⟩) fun _ _ =>
    W_last m (lineMeasures_part3 m hQ more ⟨hl, hg⟩)

end Go.Proofs.Ytnanackogloioaa.Ai
