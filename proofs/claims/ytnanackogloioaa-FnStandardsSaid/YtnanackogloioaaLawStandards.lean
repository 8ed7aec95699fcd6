/- The law FnStandards: its body returns true. -/
import Derived.Test.YtnanackogloioaaStrikeDraw
import Derived.Test.YtnanackogloioaaAiCut
namespace Go.Proofs.Ytnanackogloioaa.Ai
open Go Go.Proofs
set_option maxRecDepth 10000
set_option maxHeartbeats 4000000
set_option linter.unusedVariables false

theorem can_ok {s t : Strike} {c o : Bool} (h : (c, o) = canAns s t) (hs : okStr s = true) (ht : okStr t = true) : o = true ∧ c = canS s t := by
  rw [canAns, hs, ht] at h
  exact ⟨(Prod.mk.inj h).2, (Prod.mk.inj h).1⟩
theorem least_val {l : List Strike} {t : Strike} {i n : Int} (h : (i, n, true) = leastAns l t) : okStrs l = true ∧ okStr t = true ∧ leastG t 0 (-1) 0 l = (i, n) ∧ 0 ≤ i := by
  unfold leastAns at h
  split at h
  case isFalse => simp at h
  rename_i ho
  rw [Bool.and_eq_true] at ho
  split at h
  case isTrue => simp at h
  rename_i hb
  simp only [Prod.mk.injEq, and_true] at h
  exact ⟨ho.1, ho.2, by rw [h.1, h.2], by omega⟩
theorem fil_val {s t : Strike} {f : List Int} (h : (f, true) = filAns s t) : okStr s = true ∧ okStr t = true ∧ canS s t = true ∧ f = filL s t := by
  unfold filAns at h
  split at h
  case isFalse => simp at h
  rename_i ho
  simp only [Bool.and_eq_true] at ho
  exact ⟨ho.1, ho.2.1, ho.2.2, (Prod.mk.inj h).1⟩

noncomputable abbrev midStandards (more : List Int) : List (Nat × PV) := [(1, .isl 1 (rows cU8 more))]

section
variable {κ : Ctx} {X Y : Req → (PV → Prop) → Prop} {L : Code → (Ex → St → Prop) → St → Prop} {Q : PV → Prop}

theorem standards_part1 (m : Mach Try.prog G κ X Y L) (hQ : ∀ r, r = PV.bool true → Q r) (code more : List Int) (hf : ∀ x ∈ code, 0 ≤ x ∧ x ≤ 255) (E0 : St → Prop)
    (hE0 : ∀ (s' : St) (a : Unit), headOk s' [] = true → Ai.norm [1] [] s' = St.at 212 (midStandards more) [] → (more.length : Int) ≤ 9223372036854775807 → E0 s') :
    Ai.code X L G (front 7 (Try.f4.body.getD .skip)) (fun e s' => match e with | .normal => E0 s' | .exit i => EndsIn (post G Try.f4.results.toList Q) (.exit i) s' | .ret => EndsIn (post G Try.f4.results.toList Q) .ret s') (start 212 [.isl 1 (rows cU8 code), .isl 1 (rows cU8 more)] []) := by
  conv => cbv
  refine r_callB m.sX (big_ok code more) (fun h1 => ?_) (fun h1 => ?_) <;> conv => cbv
  · exact hQ _ (congrArg PV.bool (by first | rfl | omega | (simp [*]; done) | (subst_vars; simp [*]; done)))   -- leaf 1
  · rw [Bool.or_eq_false_iff, decide_eq_false_iff_not, decide_eq_false_iff_not] at h1
    have h : CurIn code := ⟨by omega, hf⟩
    have hmr : (more.length : Int) ≤ 9223372036854775807 := by omega
    refine r_callE m.sX ((drawStandardFor_ok code h).iceE) ?_
    rintro _ ⟨_, ⟨l, rfl, bl_1⟩, rfl⟩
    conv => cbv
    refine r_callF stdPV m.sX (StandardFor_ok l) fun v hs_A => ?_
    obtain ⟨⟨s_A, s_B, s_C, s_D, s_E⟩, ok⟩ := v
    conv => cbv
    try dsimp only at hs_
    have hs_ := hs_A
    refine r_callF stdPV m.sX (specStandardFor_ok l) fun y1 hy1 => ?_
    obtain rfl := hs_.trans hy1.symm
    clear hy1
    conv => cbv
    rcases Bool.eq_false_or_eq_true ok with rfl | rfl <;> conv => cbv
    · obtain ⟨o1, o2, o3, z, hz, hG⟩ := std_ok hs_
      have tt := okStrs_spec o1
      try dsimp only at tt
      obtain ⟨g0, g1, g2, g3, g4, g5, g6⟩ := stdG_spec hG
      refine r_aeq_same [.int .i64 0, .int .i64 0, .int .i64 0, .int .i64 0, .int .i64 0] m.sX (by kernel_rfl) rfl ?_
      conv => cbv
      refine r_lenR m.sX fun n1 hn1 mn1 => ?_
      conv => cbv
      refine r_loopF (α := Bool × Bool × Int) m 212 [1, 10, 11, 61, 62, 63] [⟨6, 49, 0, 0, 0⟩, ⟨8, 65, 0, 0, 0⟩] (fun σ => [(1, .isl 1 (rows cU8 more)), (6, .optr 49 0 5 0 0), (8, .optr 65 0 5 0 0), (10, .bool σ.1), (11, .bool σ.2.1), (61, .isl 5 (rows cStrike l)), (62, .int .i64 n1), (63, .int .i64 σ.2.2)]) (fun σ => [(49, 0, .box [.int .i64 s_A, .int .i64 s_B, .int .i64 s_C, .int .i64 s_D, .int .i64 s_E]), (65, 0, .box [.int .i64 s_A, .int .i64 s_B, .int .i64 s_C, .int .i64 s_D, .int .i64 s_E])])
        (fun σ => (0 ≤ σ.2.2) ∧ (σ.2.2 ≤ n1) ∧ (σ.1 = (l.take σ.2.2.toNat).any fun y => decide (y.1 = s_A)) ∧ (σ.2.1 = (l.take σ.2.2.toNat).any fun y => decide (y.2.2.2.2 = s_E))) (fun σ => (n1 - σ.2.2).toNat) (false, false, 0) ?_ ?_ ?_ ?_
      · cbv
      · cbv
      · exact ⟨(by (try dsimp only); first | omega | (simp only [List.length_nil]; omega)), (by (try dsimp only); first | omega | (simp only [List.length_nil]; omega)), (by (try dsimp only) <;> first | omega | rfl | (simp [*]; done)), (by (try dsimp only) <;> first | omega | rfl | (simp [*]; done))⟩
      rintro ⟨depth, foot, i1⟩ ⟨lo1, hi1, d, f⟩ E hE F hF
      dsimp only at lo1 hi1 d f
      conv => cbv
      refine r_lss m.sX (fun h2 => ?_) (fun h2 => ?_) <;> conv => cbv
      · refine r_index m.sX (by omega) (by omega) fun v hxA => ?_
        obtain ⟨xA, xB, xC, xD, xE⟩ := v
        conv => cbv
        have hx := hxA
        have mx := get_mem hx
        have dx := drop_cons hx
        have kx := take_snoc hx
        have jx : (i1 + 1).toNat = Int.toNat i1 + 1 := by omega
        refine r_callF bb m.sX (CanBeJustified_ok (xA, xB, xC, xD, xE) (s_A, s_B, s_C, s_D, s_E)) fun v hcan => ?_
        obtain ⟨can, one⟩ := v
        conv => cbv
        try dsimp only at hcan
        obtain rfl : one = true := by exact (can_ok hcan (tt.1 _ mx) o3).1
        conv => cbv
        obtain rfl : can = true := by exact (can_ok hcan (tt.1 _ mx) o3).2.trans (g5 _ mx)
        conv => cbv
        rcases Bool.eq_false_or_eq_true depth with rfl | rfl <;> conv => cbv
        · rcases Bool.eq_false_or_eq_true foot with rfl | rfl <;> conv => cbv
          · refine r_addf m.sX (by omega) (by omega) fun r1 hr1 => ?_
            conv => cbv
            have tr1 : Int.toNat r1 = Int.toNat i1 + 1 := by omega
            refine hE _ (true, true, r1) ?_ ?_ ⟨(by (try dsimp only); first | omega | (simp only [List.length_nil]; omega)), (by (try dsimp only); first | omega | (simp only [List.length_nil]; omega)), (by (try dsimp only) <;> (rw [tr1, kx, List.any_append, ← d]; clear d f; first | rfl | (simp [*]; done))), (by (try dsimp only) <;> (rw [tr1, kx, List.any_append, ← f]; clear d f; first | rfl | (simp [*]; done)))⟩ (by first | omega | (dsimp only; omega))
            · cbv
            · cbv
          · refine r_eql m.sX (fun h3 => ?_) (fun h3 => ?_) <;> conv => cbv
            · refine r_addf m.sX (by omega) (by omega) fun r2 hr2 => ?_
              conv => cbv
              have tr2 : Int.toNat r2 = Int.toNat i1 + 1 := by omega
              refine hE _ (true, true, r2) ?_ ?_ ⟨(by (try dsimp only); first | omega | (simp only [List.length_nil]; omega)), (by (try dsimp only); first | omega | (simp only [List.length_nil]; omega)), (by (try dsimp only) <;> (rw [tr2, kx, List.any_append, ← d]; clear d f; first | rfl | (simp [*]; done))), (by (try dsimp only) <;> (rw [tr2, kx, List.any_append, ← f]; clear d f; first | rfl | (simp [*]; done)))⟩ (by first | omega | (dsimp only; omega))
              · cbv
              · cbv
            · refine r_addf m.sX (by omega) (by omega) fun r3 hr3 => ?_
              conv => cbv
              have tr3 : Int.toNat r3 = Int.toNat i1 + 1 := by omega
              refine hE _ (true, false, r3) ?_ ?_ ⟨(by (try dsimp only); first | omega | (simp only [List.length_nil]; omega)), (by (try dsimp only); first | omega | (simp only [List.length_nil]; omega)), (by (try dsimp only) <;> (rw [tr3, kx, List.any_append, ← d]; clear d f; first | rfl | (simp [*]; done))), (by (try dsimp only) <;> (rw [tr3, kx, List.any_append, ← f]; clear d f; first | rfl | (simp [*]; done)))⟩ (by first | omega | (dsimp only; omega))
              · cbv
              · cbv
        · refine r_eql m.sX (fun h4 => ?_) (fun h4 => ?_) <;> conv => cbv
          · rcases Bool.eq_false_or_eq_true foot with rfl | rfl <;> conv => cbv
            · refine r_addf m.sX (by omega) (by omega) fun r4 hr4 => ?_
              conv => cbv
              have tr4 : Int.toNat r4 = Int.toNat i1 + 1 := by omega
              refine hE _ (true, true, r4) ?_ ?_ ⟨(by (try dsimp only); first | omega | (simp only [List.length_nil]; omega)), (by (try dsimp only); first | omega | (simp only [List.length_nil]; omega)), (by (try dsimp only) <;> (rw [tr4, kx, List.any_append, ← d]; clear d f; first | rfl | (simp [*]; done))), (by (try dsimp only) <;> (rw [tr4, kx, List.any_append, ← f]; clear d f; first | rfl | (simp [*]; done)))⟩ (by first | omega | (dsimp only; omega))
              · cbv
              · cbv
            · refine r_eql m.sX (fun h5 => ?_) (fun h5 => ?_) <;> conv => cbv
              · refine r_addf m.sX (by omega) (by omega) fun r5 hr5 => ?_
                conv => cbv
                have tr5 : Int.toNat r5 = Int.toNat i1 + 1 := by omega
                refine hE _ (true, true, r5) ?_ ?_ ⟨(by (try dsimp only); first | omega | (simp only [List.length_nil]; omega)), (by (try dsimp only); first | omega | (simp only [List.length_nil]; omega)), (by (try dsimp only) <;> (rw [tr5, kx, List.any_append, ← d]; clear d f; first | rfl | (simp [*]; done))), (by (try dsimp only) <;> (rw [tr5, kx, List.any_append, ← f]; clear d f; first | rfl | (simp [*]; done)))⟩ (by first | omega | (dsimp only; omega))
                · cbv
                · cbv
              · refine r_addf m.sX (by omega) (by omega) fun r6 hr6 => ?_
                conv => cbv
                have tr6 : Int.toNat r6 = Int.toNat i1 + 1 := by omega
                refine hE _ (true, false, r6) ?_ ?_ ⟨(by (try dsimp only); first | omega | (simp only [List.length_nil]; omega)), (by (try dsimp only); first | omega | (simp only [List.length_nil]; omega)), (by (try dsimp only) <;> (rw [tr6, kx, List.any_append, ← d]; clear d f; first | rfl | (simp [*]; done))), (by (try dsimp only) <;> (rw [tr6, kx, List.any_append, ← f]; clear d f; first | rfl | (simp [*]; done)))⟩ (by first | omega | (dsimp only; omega))
                · cbv
                · cbv
          · rcases Bool.eq_false_or_eq_true foot with rfl | rfl <;> conv => cbv
            · refine r_addf m.sX (by omega) (by omega) fun r7 hr7 => ?_
              conv => cbv
              have tr7 : Int.toNat r7 = Int.toNat i1 + 1 := by omega
              refine hE _ (false, true, r7) ?_ ?_ ⟨(by (try dsimp only); first | omega | (simp only [List.length_nil]; omega)), (by (try dsimp only); first | omega | (simp only [List.length_nil]; omega)), (by (try dsimp only) <;> (rw [tr7, kx, List.any_append, ← d]; clear d f; first | rfl | (simp [*]; done))), (by (try dsimp only) <;> (rw [tr7, kx, List.any_append, ← f]; clear d f; first | rfl | (simp [*]; done)))⟩ (by first | omega | (dsimp only; omega))
              · cbv
              · cbv
            · refine r_eql m.sX (fun h6 => ?_) (fun h6 => ?_) <;> conv => cbv
              · refine r_addf m.sX (by omega) (by omega) fun r8 hr8 => ?_
                conv => cbv
                have tr8 : Int.toNat r8 = Int.toNat i1 + 1 := by omega
                refine hE _ (false, true, r8) ?_ ?_ ⟨(by (try dsimp only); first | omega | (simp only [List.length_nil]; omega)), (by (try dsimp only); first | omega | (simp only [List.length_nil]; omega)), (by (try dsimp only) <;> (rw [tr8, kx, List.any_append, ← d]; clear d f; first | rfl | (simp [*]; done))), (by (try dsimp only) <;> (rw [tr8, kx, List.any_append, ← f]; clear d f; first | rfl | (simp [*]; done)))⟩ (by first | omega | (dsimp only; omega))
                · cbv
                · cbv
              · refine r_addf m.sX (by omega) (by omega) fun r9 hr9 => ?_
                conv => cbv
                have tr9 : Int.toNat r9 = Int.toNat i1 + 1 := by omega
                refine hE _ (false, false, r9) ?_ ?_ ⟨(by (try dsimp only); first | omega | (simp only [List.length_nil]; omega)), (by (try dsimp only); first | omega | (simp only [List.length_nil]; omega)), (by (try dsimp only) <;> (rw [tr9, kx, List.any_append, ← d]; clear d f; first | rfl | (simp [*]; done))), (by (try dsimp only) <;> (rw [tr9, kx, List.any_append, ← f]; clear d f; first | rfl | (simp [*]; done)))⟩ (by first | omega | (dsimp only; omega))
                · cbv
                · cbv
      · have dz_i1 := drop_end (xs := l) (i := Int.toNat i1) (by omega)
        have tz_i1 := take_end (xs := l) (i := Int.toNat i1) (by omega)
        refine hF _ _ ?_
        conv => cbv
        obtain rfl : depth = true := by rw [d, tz_i1, List.any_eq_true]; rcases g6.1 with e | ⟨w, hw, e⟩; exact ⟨z, get_mem hz, by simpa using e.symm⟩; exact ⟨w, hw, by simpa using e.symm⟩
        conv => cbv
        obtain rfl : foot = true := by rw [f, tz_i1, List.any_eq_true]; rcases g6.2.2.2 with e | ⟨w, hw, e⟩; exact ⟨z, get_mem hz, by simpa using e.symm⟩; exact ⟨w, hw, by simpa using e.symm⟩
        conv => cbv
        exact hE0 _ () (by cbv) (by cbv) hmr
    · refine r_aeq_same [.int .i64 0, .int .i64 0, .int .i64 0, .int .i64 0, .int .i64 0] m.sX (by kernel_rfl) rfl ?_
      conv => cbv
      exact hE0 _ () (by cbv) (by cbv) hmr

theorem standards_part2 (m : Mach Try.prog G κ X Y L) (hQ : ∀ r, r = PV.bool true → Q r) (more : List Int) (h : CurIn more) (E0 : St → Prop)
    (hE0 : ∀ (s' : St) (a : Unit), headOk s' [] = true → Ai.norm [1] [] s' = St.at 212 (midStandards more) [] → True → E0 s') :
    Ai.code X L G (front 5 (rest 7 (Try.f4.body.getD .skip))) (fun e s' => match e with | .normal => E0 s' | .exit i => EndsIn (post G Try.f4.results.toList Q) (.exit i) s' | .ret => EndsIn (post G Try.f4.results.toList Q) .ret s') (St.at 212 (midStandards more) []) := by
  conv => cbv
  refine r_callE m.sX ((drawLeastFiled_ok more h).iceE) ?_
  rintro _ ⟨_, ⟨u, ⟨wantA, wantB, wantC, wantD, wantE⟩, rfl, bu_1⟩, rfl⟩
  conv => cbv
  refine r_callF iib m.sX (LeastFiled_ok u (wantA, wantB, wantC, wantD, wantE)) fun v hi => ?_
  obtain ⟨i, n, one⟩ := v
  conv => cbv
  try dsimp only at hi
  refine r_callF iib m.sX (specLeastFiled_ok u (wantA, wantB, wantC, wantD, wantE)) fun y1 hy1 => ?_
  obtain rfl := hi.trans hy1.symm
  clear hy1
  conv => cbv
  rcases Bool.eq_false_or_eq_true one with rfl | rfl <;> conv => cbv
  · obtain ⟨o1, o2, o3, o4⟩ := least_val hi
    obtain ⟨c1, c2, c3⟩ := leastG_spec (Int.le_refl 0) (show (-1 : Int) ≤ -1 ∧ (-1 : Int) < 0 by omega) o3
    refine r_neqF m.sX (by omega) ?_
    conv => cbv
    refine r_neqF m.sX (by omega) ?_
    conv => cbv
    refine r_lenR m.sX fun n1 hn1 mn1 => ?_
    conv => cbv
    refine r_loopF (α := Int) m 212 [1, 21, 22, 135, 136, 137] [⟨17, 137, 0, 0, 0⟩] (fun σ => [(1, .isl 1 (rows cU8 more)), (17, .optr 137 0 5 0 0), (21, .int .i64 i), (22, .int .i64 n), (135, .isl 5 (rows cStrike u)), (136, .int .i64 n1), (137, .int .i64 σ)]) (fun σ => [(137, 0, .box [.int .i64 wantA, .int .i64 wantB, .int .i64 wantC, .int .i64 wantD, .int .i64 wantE])])
      (fun σ => (0 ≤ σ) ∧ (σ ≤ n1)) (fun σ => (n1 - σ).toNat) 0 ?_ ?_ ?_ ?_
    · cbv
    · cbv
    · exact ⟨(by (try dsimp only); first | omega | (simp only [List.length_nil]; omega)), (by (try dsimp only); first | omega | (simp only [List.length_nil]; omega))⟩
    rintro i1 ⟨lo2, hi2⟩ E hE F hF
    conv => cbv
    refine r_lss m.sX (fun h3 => ?_) (fun h3 => ?_) <;> conv => cbv
    · refine r_index m.sX (by omega) (by omega) fun v hxA => ?_
      obtain ⟨xA, xB, xC, xD, xE⟩ := v
      conv => cbv
      have hx := hxA
      have mx := get_mem hx
      have dx := drop_cons hx
      have kx := take_snoc hx
      have jx : (i1 + 1).toNat = Int.toNat i1 + 1 := by omega
      refine r_callF (lbI 1 cInt) m.sX ((FilingsFor_ok (xA, xB, xC, xD, xE) (wantA, wantB, wantC, wantD, wantE)).ice) fun v hf => ?_
      obtain ⟨f, three⟩ := v
      conv => cbv
      try dsimp only at hf
      refine r_callF (lbI 1 cInt) m.sX ((specFilingsFor_ok (xA, xB, xC, xD, xE) (wantA, wantB, wantC, wantD, wantE)).ice) fun y2 hy2 => ?_
      obtain rfl := hf.trans hy2.symm
      clear hy2
      conv => cbv
      rcases Bool.eq_false_or_eq_true three with rfl | rfl <;> conv => cbv
      · obtain ⟨k1, k2, k3, k4⟩ := fil_val hf
        have wf : SumFits f := k4 ▸ filL_fits k1 k2
        have c := c3 (Int.toNat i1) _ hx k3
        try dsimp only at c
        rw [← k4] at c
        refine r_callBT m.sX (sameInts_ok f f) (by first | assumption | exact decide_eq_true rfl | (simp [*]; done) | omega) ?_   -- h4
        conv => cbv
        refine r_callF (PV.int .i64) m.sX (pSum_ok f (by first | rfl | assumption | omega | (simp only [List.length_append, List.length_cons, List.length_nil] at *; omega))) fun r1 hr1 => ?_
        conv => cbv
        try dsimp only at hr1
        refine r_lssF m.sX (by omega) ?_
        conv => cbv
        refine r_lss m.sX (fun h6 => ?_) (fun h6 => ?_) <;> conv => cbv
        · refine r_callF (PV.int .i64) m.sX (pSum_ok f (by first | rfl | assumption | omega | (simp only [List.length_append, List.length_cons, List.length_nil] at *; omega))) fun y3 hy3 => ?_
          obtain rfl := hr1.trans hy3.symm
          clear hy3
          conv => cbv
          refine r_eqlF m.sX (by omega) ?_
          conv => cbv
          refine r_addf m.sX (by omega) (by omega) fun r2 hr2 => ?_
          conv => cbv
          have tr2 : Int.toNat r2 = Int.toNat i1 + 1 := by omega
          refine hE _ r2 ?_ ?_ ⟨(by (try dsimp only); first | omega | (simp only [List.length_nil]; omega)), (by (try dsimp only); first | omega | (simp only [List.length_nil]; omega))⟩ (by first | omega | (dsimp only; omega))
          · cbv
          · cbv
        · refine r_addf m.sX (by omega) (by omega) fun r3 hr3 => ?_
          conv => cbv
          have tr3 : Int.toNat r3 = Int.toNat i1 + 1 := by omega
          refine hE _ r3 ?_ ?_ ⟨(by (try dsimp only); first | omega | (simp only [List.length_nil]; omega)), (by (try dsimp only); first | omega | (simp only [List.length_nil]; omega))⟩ (by first | omega | (dsimp only; omega))
          · cbv
          · cbv
      · refine r_callBT m.sX (sameInts_ok f f) (by first | assumption | exact decide_eq_true rfl | (simp [*]; done) | omega) ?_   -- h8
        conv => cbv
        refine r_addf m.sX (by omega) (by omega) fun r4 hr4 => ?_
        conv => cbv
        have tr4 : Int.toNat r4 = Int.toNat i1 + 1 := by omega
        refine hE _ r4 ?_ ?_ ⟨(by (try dsimp only); first | omega | (simp only [List.length_nil]; omega)), (by (try dsimp only); first | omega | (simp only [List.length_nil]; omega))⟩ (by first | omega | (dsimp only; omega))
        · cbv
        · cbv
    · have dz_i1 := drop_end (xs := u) (i := Int.toNat i1) (by omega)
      have tz_i1 := take_end (xs := u) (i := Int.toNat i1) (by omega)
      refine hF _ _ ?_
      conv => cbv
      exact hE0 _ () (by cbv) (by cbv) trivial
  · refine r_neqF m.sX (by omega) ?_
    conv => cbv
    refine r_neqF m.sX (by omega) ?_
    conv => cbv
    exact hE0 _ () (by cbv) (by cbv) trivial

theorem standards_part3 (m : Mach Try.prog G κ X Y L) (hQ : ∀ r, r = PV.bool true → Q r) (more : List Int) (h : CurIn more) :
    Ai.code X L G (rest 5 (rest 7 (Try.f4.body.getD .skip))) (EndsIn (post G Try.f4.results.toList Q)) (St.at 212 (midStandards more) []) := by
  conv => cbv
  refine r_callE m.sX ((drawOffStandard_ok more h).iceE) ?_
  rintro _ ⟨_, ⟨v, ⟨aimA, aimB, aimC, aimD, aimE⟩, most, rfl, bv_1⟩, rfl⟩
  conv => cbv
  refine r_callF (lbI 1 cInt) m.sX ((OffStandard_ok v (aimA, aimB, aimC, aimD, aimE) most).ice) fun v ho => ?_
  obtain ⟨o, three⟩ := v
  conv => cbv
  try dsimp only at ho
  refine r_callF (lbI 1 cInt) m.sX ((specOffStandard_ok v (aimA, aimB, aimC, aimD, aimE) most).ice) fun y1 hy1 => ?_
  obtain rfl := ho.trans hy1.symm
  clear hy1
  conv => cbv
  rcases Bool.eq_false_or_eq_true three with rfl | rfl <;> conv => cbv
  · refine r_callBT m.sX (sameInts_ok o o) (by first | assumption | exact decide_eq_true rfl | (simp [*]; done) | omega) ?_   -- h1
    conv => cbv
    exact hQ _ (congrArg PV.bool (by first | rfl | omega | (simp [*]; done) | (subst_vars; simp [*]; done)))   -- leaf 2
  · refine r_callBT m.sX (sameInts_ok o o) (by first | assumption | exact decide_eq_true rfl | (simp [*]; done) | omega) ?_   -- h2
    conv => cbv
    exact hQ _ (congrArg PV.bool (by first | rfl | omega | (simp [*]; done) | (subst_vars; simp [*]; done)))   -- leaf 3

end

theorem lawStandards_ok (code more : List Int) (hf : ∀ x ∈ code, 0 ≤ x ∧ x ≤ 255) (hg : ∀ x ∈ more, 0 ≤ x ∧ x ≤ 255) : OkA Try.prog 4 [.isl 1 (rows cU8 code), .isl 1 (rows cU8 more)] (· = .bool true) :=
  fn_introW envOk fieldsOk mixed Try.func4 rfl (c := Try.f4.body.getD .skip) rfl fun κ X Y L Q m hQ =>
    W_cut m 7 212 [1] [] (fun _ : Unit => midStandards more) (fun _ => []) (fun _ => (more.length : Int) ≤ 9223372036854775807) (standards_part1 m hQ code more hf) fun _ hl =>
    W_cut m 5 212 [1] [] (fun _ : Unit => midStandards more) (fun _ => []) (fun _ => True) (standards_part2 m hQ more ⟨hl, hg⟩) fun _ _ =>
    W_last m (standards_part3 m hQ more ⟨hl, hg⟩)

end Go.Proofs.Ytnanackogloioaa.Ai
