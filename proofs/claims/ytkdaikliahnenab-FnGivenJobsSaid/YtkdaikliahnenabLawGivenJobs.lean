/- The law FnGivenJobs: its body returns true. -/
import Derived.Test.YtkdaikliahnenabPeopleDraw
import Derived.Test.YtkdaikliahnenabJobLaw
import Derived.Test.YtkdaikliahnenabAiCut
namespace Go.Proofs.Ytkdaikliahnenab.Ai
open Go Go.Proofs
set_option maxRecDepth 10000
set_option maxHeartbeats 4000000
set_option linter.unusedVariables false
noncomputable abbrev midGivenJobs (more : List Int) : List (Nat × PV) := [(1, .isl 1 (rows cU8 more))]

section
variable {κ : Ctx} {X Y : Req → (PV → Prop) → Prop} {L : Code → (Ex → St → Prop) → St → Prop} {Q : PV → Prop}

theorem givenJobs_part1 (m : Mach Try.prog G κ X Y L) (hQ : ∀ r, r = PV.bool true → Q r) (code more : List Int) (hf : ∀ x ∈ code, 0 ≤ x ∧ x ≤ 255) (E0 : St → Prop)
    (hE0 : ∀ (s' : St) (a : Unit), headOk s' [] = true → Ai.norm [1] [] s' = St.at 296 (midGivenJobs more) [] → (more.length : Int) ≤ 9223372036854775807 → E0 s') :
    Ai.code X L G (front 7 (Try.f6.body.getD .skip)) (fun e s' => match e with | .normal => E0 s' | .exit i => EndsIn (post G Try.f6.results.toList Q) (.exit i) s' | .ret => EndsIn (post G Try.f6.results.toList Q) .ret s') (start 296 [.isl 1 (rows cU8 code), .isl 1 (rows cU8 more)] []) := by
  conv => cbv
  refine r_callB m.sX (big_ok code more) (fun h1 => ?_) (fun h1 => ?_) <;> conv => cbv
  · exact hQ _ (congrArg PV.bool (by first | rfl | omega | (simp [*]; done) | (subst_vars; simp [*]; done)))   -- leaf 1
  · rw [Bool.or_eq_false_iff, decide_eq_false_iff_not, decide_eq_false_iff_not] at h1
    have h : CurIn code := ⟨by omega, hf⟩
    have hmr : (more.length : Int) ≤ 9223372036854775807 := by omega
    refine r_callE m.sX ((drawGiveJobs_ok code h).iceE) ?_
    rintro _ ⟨_, ⟨l, people, jobs, rfl, bl_1, bl_2, bl_3⟩, rfl⟩
    conv => cbv
    refine r_callF (lbI 1 cInt) m.sX ((GiveJobs_ok l people jobs).ice) fun v hg => ?_
    obtain ⟨g, ok⟩ := v
    conv => cbv
    refine r_callF (lbI 1 cInt) m.sX ((specGiveJobs_ok l people jobs).ice) fun y1 hy1 => ?_
    obtain rfl := hg.trans hy1.symm
    clear hy1
    conv => cbv
    rcases Bool.eq_false_or_eq_true ok with rfl | rfl <;> conv => cbv
    · have GL := given_law hg
      have gl := GL.len
      have gf := GL.few
      refine r_callBT m.sX (sameInts_ok g g) (by first | omega | assumption | exact decide_eq_true rfl | (subst_vars; omega) | exact decide_eq_true (k3 (by omega) _ (by assumption))) ?_   -- h2
      conv => cbv
      refine r_lenR m.sX fun n1 hn1 mn1 => ?_
      conv => cbv
      refine r_lenR m.sX fun n2 hn2 mn2 => ?_
      conv => cbv
      refine r_neqF m.sX ((by first | omega | assumption | exact decide_eq_true rfl | (subst_vars; omega) | exact decide_eq_true (k3 (by omega) _ (by assumption)))) ?_
      conv => cbv
      refine r_lenR m.sX fun n3 hn3 mn3 => ?_
      conv => cbv
      refine r_loopF (α := Int) m 296 [1, 5, 6, 7, 10, 84, 85, 86] [] (fun σ => [(1, .isl 1 (rows cU8 more)), (5, .isl 2 (rows cCraft l)), (6, .isl 1 (rows (cSl 1 cInt) people)), (7, .isl 1 (rows cInt jobs)), (10, .isl 1 (rows cInt g)), (84, .isl 1 (rows cInt g)), (85, .int .i64 n3), (86, .int .i64 σ)]) (fun σ => [])
        (fun σ => (0 ≤ σ) ∧ (σ ≤ n3)) (fun σ => (n3 - σ).toNat) 0 ?_ ?_ ?_ ?_
      · cbv
      · cbv
      · exact ⟨(by (try dsimp only); first | omega | (simp only [List.length_nil]; omega)), (by (try dsimp only); first | omega | (simp only [List.length_nil]; omega))⟩
      rintro i1 ⟨lo1, hi1⟩ E hE F hF
      conv => cbv
      refine r_lss m.sX (fun h4 => ?_) (fun h4 => ?_) <;> conv => cbv
      · refine r_index m.sX (by omega) (by omega) fun who hwho => ?_
        conv => cbv
        have mwho := get_mem hwho
        have dwho := drop_cons hwho
        have kwho := take_snoc hwho
        have jwho : (i1 + 1).toNat = Int.toNat i1 + 1 := by omega
        have vwho := nth_some hwho
        refine r_index m.sX (by omega) (by omega) fun x1 hx1 => ?_
        conv => cbv
        have mx1 := get_mem hx1
        have dx1 := drop_cons hx1
        have kx1 := take_snoc hx1
        have jx1 : (i1 + 1).toNat = Int.toNat i1 + 1 := by omega
        have vx1 := nth_some hx1
        refine r_callF (lbI 1 cInt) m.sX ((WhoMay_ok l people x1).ice) fun v hmay => ?_
        obtain ⟨may, one⟩ := v
        conv => cbv
        obtain ⟨k1, k2, k3⟩ := GL.ok _ _ _ hx1 hwho _ _ hmay
        refine r_index m.sX (by omega) (by omega) fun x2 hx2 => ?_
        conv => cbv
        have mx2 := get_mem hx2
        have dx2 := drop_cons hx2
        have kx2 := take_snoc hx2
        have jx2 : (i1 + 1).toNat = Int.toNat i1 + 1 := by omega
        have vx2 := nth_some hx2
        obtain rfl : x1 = x2 := Option.some.inj (hx1.symm.trans hx2)
        refine r_callF (lbI 1 cInt) m.sX ((specWhoMay_ok l people x1).ice) fun y2 hy2 => ?_
        obtain rfl := hmay.trans hy2.symm
        clear hy2
        conv => cbv
        obtain rfl : one = true := by exact k1
        conv => cbv
        refine r_callBT m.sX (sameInts_ok may may) (by first | omega | assumption | exact decide_eq_true rfl | (subst_vars; omega) | exact decide_eq_true (k3 (by omega) _ (by assumption))) ?_   -- h5
        conv => cbv
        refine r_geq m.sX (fun h6 => ?_) (fun h6 => ?_) <;> conv => cbv
        · refine r_callBT m.sX (pIn_ok may who) (by exact decide_eq_true (k2 (by omega)).1) ?_   -- h7
          conv => cbv
          refine r_islice (i := 0) (j := i1) m.sX (by omega) (by omega) (by omega) fun zs1 hzs1 => ?_   -- zs1 = g[None:i1]
          have lzs1 : (zs1.length : Int) = i1 - 0 := by rw [hzs1]; first | done | (simp; done) | (simp; omega)
          conv => cbv
          refine r_callBF m.sX (pIn_ok zs1 who) (by exact decide_eq_false (by rw [hzs1]; simpa using (k2 (by omega)).2)) ?_   -- h8
          conv => cbv
          refine r_lenR m.sX fun n4 hn4 mn4 => ?_
          conv => cbv
          refine r_loopF (α := Int) m 296 [1, 5, 6, 7, 10, 13, 84, 85, 86, 140, 141, 142] [] (fun σ => [(1, .isl 1 (rows cU8 more)), (5, .isl 2 (rows cCraft l)), (6, .isl 1 (rows (cSl 1 cInt) people)), (7, .isl 1 (rows cInt jobs)), (10, .isl 1 (rows cInt g)), (13, .int .i64 who), (84, .isl 1 (rows cInt g)), (85, .int .i64 n3), (86, .int .i64 i1), (140, .isl 1 (rows cInt may)), (141, .int .i64 n4), (142, .int .i64 σ)]) (fun σ => [])
            (fun σ => (0 ≤ σ) ∧ (σ ≤ n4)) (fun σ => (n4 - σ).toNat) 0 ?_ ?_ ?_ ?_
          · cbv
          · cbv
          · exact ⟨(by (try dsimp only); first | omega | (simp only [List.length_nil]; omega)), (by (try dsimp only); first | omega | (simp only [List.length_nil]; omega))⟩
          rintro i2 ⟨lo2, hi2⟩ E2 hE2 F2 hF2
          conv => cbv
          refine r_lss m.sX (fun h9 => ?_) (fun h9 => ?_) <;> conv => cbv
          · refine r_index m.sX (by omega) (by omega) fun i hi => ?_
            conv => cbv
            have mi := get_mem hi
            have di := drop_cons hi
            have ki := take_snoc hi
            have ji : (i2 + 1).toNat = Int.toNat i2 + 1 := by omega
            have vi := nth_some hi
            refine r_lss m.sX (fun h10 => ?_) (fun h10 => ?_) <;> conv => cbv
            · refine r_callBT m.sX (pIn_ok g i) (by first | omega | assumption | exact decide_eq_true rfl | (subst_vars; omega) | exact decide_eq_true (k3 (by omega) _ (by assumption))) ?_   -- h11
              conv => cbv
              refine r_addf m.sX (by omega) (by omega) fun r1 hr1 => ?_
              conv => cbv
              try have tr1 : Int.toNat r1 = Int.toNat i2 + 1 := by omega
              refine hE2 _ r1 ?_ ?_ ⟨(by (try dsimp only); first | omega | (simp only [List.length_nil]; omega)), (by (try dsimp only); first | omega | (simp only [List.length_nil]; omega))⟩ (by first | omega | (dsimp only; omega))
              · cbv
              · cbv
            · refine r_addf m.sX (by omega) (by omega) fun r2 hr2 => ?_
              conv => cbv
              try have tr2 : Int.toNat r2 = Int.toNat i2 + 1 := by omega
              refine hE2 _ r2 ?_ ?_ ⟨(by (try dsimp only); first | omega | (simp only [List.length_nil]; omega)), (by (try dsimp only); first | omega | (simp only [List.length_nil]; omega))⟩ (by first | omega | (dsimp only; omega))
              · cbv
              · cbv
          · have dz_i2 := drop_end (xs := may) (i := Int.toNat i2) (by omega)
            have tz_i2 := take_end (xs := may) (i := Int.toNat i2) (by omega)
            refine hF2 _ _ ?_
            conv => cbv
            refine r_addf m.sX (by omega) (by omega) fun r3 hr3 => ?_
            conv => cbv
            try have tr3 : Int.toNat r3 = Int.toNat i1 + 1 := by omega
            refine hE _ r3 ?_ ?_ ⟨(by (try dsimp only); first | omega | (simp only [List.length_nil]; omega)), (by (try dsimp only); first | omega | (simp only [List.length_nil]; omega))⟩ (by first | omega | (dsimp only; omega))
            · cbv
            · cbv
        · refine r_lenR m.sX fun n5 hn5 mn5 => ?_
          conv => cbv
          refine r_loopF (α := Int) m 296 [1, 5, 6, 7, 10, 13, 84, 85, 86, 140, 141, 142] [] (fun σ => [(1, .isl 1 (rows cU8 more)), (5, .isl 2 (rows cCraft l)), (6, .isl 1 (rows (cSl 1 cInt) people)), (7, .isl 1 (rows cInt jobs)), (10, .isl 1 (rows cInt g)), (13, .int .i64 who), (84, .isl 1 (rows cInt g)), (85, .int .i64 n3), (86, .int .i64 i1), (140, .isl 1 (rows cInt may)), (141, .int .i64 n5), (142, .int .i64 σ)]) (fun σ => [])
            (fun σ => (0 ≤ σ) ∧ (σ ≤ n5)) (fun σ => (n5 - σ).toNat) 0 ?_ ?_ ?_ ?_
          · cbv
          · cbv
          · exact ⟨(by (try dsimp only); first | omega | (simp only [List.length_nil]; omega)), (by (try dsimp only); first | omega | (simp only [List.length_nil]; omega))⟩
          rintro i3 ⟨lo3, hi3⟩ E2 hE2 F2 hF2
          conv => cbv
          refine r_lss m.sX (fun h12 => ?_) (fun h12 => ?_) <;> conv => cbv
          · refine r_index m.sX (by omega) (by omega) fun i_2 hi_2 => ?_
            conv => cbv
            have mi_2 := get_mem hi_2
            have di_2 := drop_cons hi_2
            have ki_2 := take_snoc hi_2
            have ji_2 : (i3 + 1).toNat = Int.toNat i3 + 1 := by omega
            have vi_2 := nth_some hi_2
            refine r_lss m.sX (fun h13 => ?_) (fun h13 => ?_) <;> conv => cbv
            · refine r_callBT m.sX (pIn_ok g i_2) (by first | omega | assumption | exact decide_eq_true rfl | (subst_vars; omega) | exact decide_eq_true (k3 (by omega) _ (by assumption))) ?_   -- h14
              conv => cbv
              refine r_addf m.sX (by omega) (by omega) fun r4 hr4 => ?_
              conv => cbv
              try have tr4 : Int.toNat r4 = Int.toNat i3 + 1 := by omega
              refine hE2 _ r4 ?_ ?_ ⟨(by (try dsimp only); first | omega | (simp only [List.length_nil]; omega)), (by (try dsimp only); first | omega | (simp only [List.length_nil]; omega))⟩ (by first | omega | (dsimp only; omega))
              · cbv
              · cbv
            · refine r_addf m.sX (by omega) (by omega) fun r5 hr5 => ?_
              conv => cbv
              try have tr5 : Int.toNat r5 = Int.toNat i3 + 1 := by omega
              refine hE2 _ r5 ?_ ?_ ⟨(by (try dsimp only); first | omega | (simp only [List.length_nil]; omega)), (by (try dsimp only); first | omega | (simp only [List.length_nil]; omega))⟩ (by first | omega | (dsimp only; omega))
              · cbv
              · cbv
          · have dz_i3 := drop_end (xs := may) (i := Int.toNat i3) (by omega)
            have tz_i3 := take_end (xs := may) (i := Int.toNat i3) (by omega)
            refine hF2 _ _ ?_
            conv => cbv
            refine r_addf m.sX (by omega) (by omega) fun r6 hr6 => ?_
            conv => cbv
            try have tr6 : Int.toNat r6 = Int.toNat i1 + 1 := by omega
            refine hE _ r6 ?_ ?_ ⟨(by (try dsimp only); first | omega | (simp only [List.length_nil]; omega)), (by (try dsimp only); first | omega | (simp only [List.length_nil]; omega))⟩ (by first | omega | (dsimp only; omega))
            · cbv
            · cbv
      · have dz_i1 := drop_end (xs := g) (i := Int.toNat i1) (by omega)
        have tz_i1 := take_end (xs := g) (i := Int.toNat i1) (by omega)
        refine hF _ _ ?_
        conv => cbv
        exact hE0 _ () (by cbv) (by cbv) hmr
    · refine r_callBT m.sX (sameInts_ok g g) (by first | omega | assumption | exact decide_eq_true rfl | (subst_vars; omega) | exact decide_eq_true (k3 (by omega) _ (by assumption))) ?_   -- h15
      conv => cbv
      exact hE0 _ () (by cbv) (by cbv) hmr

theorem givenJobs_part2 (m : Mach Try.prog G κ X Y L) (hQ : ∀ r, r = PV.bool true → Q r) (more : List Int) (h : CurIn more) (E0 : St → Prop)
    (hE0 : ∀ (s' : St) (a : Unit), headOk s' [] = true → Ai.norm [1] [] s' = St.at 296 (midGivenJobs more) [] → True → E0 s') :
    Ai.code X L G (front 5 (rest 7 (Try.f6.body.getD .skip))) (fun e s' => match e with | .normal => E0 s' | .exit i => EndsIn (post G Try.f6.results.toList Q) (.exit i) s' | .ret => EndsIn (post G Try.f6.results.toList Q) .ret s') (St.at 296 (midGivenJobs more) []) := by
  conv => cbv
  refine r_callE m.sX ((drawRarestCraft_ok more h).iceE) ?_
  rintro _ ⟨_, ⟨u, v, rfl, bu_1, bu_2⟩, rfl⟩
  conv => cbv
  refine r_callF iib m.sX (rarestCraft_ok u v) fun v hr => ?_
  obtain ⟨r, n, one⟩ := v
  conv => cbv
  refine r_callF iib m.sX (specRarestCraft_ok u v) fun y1 hy1 => ?_
  obtain rfl := hr.trans hy1.symm
  clear hy1
  conv => cbv
  rcases Bool.eq_false_or_eq_true one with rfl | rfl <;> conv => cbv
  · refine r_neqF m.sX ((by first | omega | assumption | exact decide_eq_true rfl | (subst_vars; omega) | exact decide_eq_true (k3 (by omega) _ (by assumption)))) ?_
    conv => cbv
    refine r_neqF m.sX ((by first | omega | assumption | exact decide_eq_true rfl | (subst_vars; omega) | exact decide_eq_true (k3 (by omega) _ (by assumption)))) ?_
    conv => cbv
    refine r_lenR m.sX fun n1 hn1 mn1 => ?_
    conv => cbv
    refine r_loopF (α := Int) m 296 [1, 20, 21, 25, 26, 190, 191] [] (fun σ => [(1, .isl 1 (rows cU8 more)), (20, .isl 2 (rows cCraft u)), (21, .isl 1 (rows (cSl 1 cInt) v)), (25, .int .i64 r), (26, .int .i64 n), (190, .int .i64 n1), (191, .int .i64 σ)]) (fun σ => [])
      (fun σ => (0 ≤ σ) ∧ (σ ≤ n1)) (fun σ => (n1 - σ).toNat) 0 ?_ ?_ ?_ ?_
    · cbv
    · cbv
    · exact ⟨(by (try dsimp only); first | omega | (simp only [List.length_nil]; omega)), (by (try dsimp only); first | omega | (simp only [List.length_nil]; omega))⟩
    rintro i1 ⟨lo4, hi4⟩ E hE F hF
    conv => cbv
    refine r_lss m.sX (fun h3 => ?_) (fun h3 => ?_) <;> conv => cbv
    · refine r_callF (lbI 1 cInt) m.sX ((WhoMay_ok u v i1).ice) fun v hwho => ?_
      obtain ⟨who, three⟩ := v
      conv => cbv
      obtain ⟨k1, k2, k3⟩ := rare_law hr i1 (by omega) (by omega) _ _ hwho
      obtain rfl : three = true := by exact k1
      conv => cbv
      refine r_lenR m.sX fun n2 hn2 mn2 => ?_
      conv => cbv
      refine r_lssF m.sX ((by first | omega | assumption | exact decide_eq_true rfl | (subst_vars; omega) | exact decide_eq_true (k3 (by omega) _ (by assumption)))) ?_
      conv => cbv
      refine r_eql m.sX (fun h5 => ?_) (fun h5 => ?_) <;> conv => cbv
      · refine r_lenR m.sX fun n3 hn3 mn3 => ?_
        conv => cbv
        have k4 := k3 h5
        refine r_neqF m.sX ((by first | omega | assumption | exact decide_eq_true rfl | (subst_vars; omega) | exact decide_eq_true (k3 (by omega) _ (by assumption)))) ?_
        conv => cbv
        refine r_addf m.sX (by omega) (by omega) fun r1 hr1 => ?_
        conv => cbv
        try have tr1 : Int.toNat r1 = Int.toNat i1 + 1 := by omega
        refine hE _ r1 ?_ ?_ ⟨(by (try dsimp only); first | omega | (simp only [List.length_nil]; omega)), (by (try dsimp only); first | omega | (simp only [List.length_nil]; omega))⟩ (by first | omega | (dsimp only; omega))
        · cbv
        · cbv
      · refine r_addf m.sX (by omega) (by omega) fun r2 hr2 => ?_
        conv => cbv
        try have tr2 : Int.toNat r2 = Int.toNat i1 + 1 := by omega
        refine hE _ r2 ?_ ?_ ⟨(by (try dsimp only); first | omega | (simp only [List.length_nil]; omega)), (by (try dsimp only); first | omega | (simp only [List.length_nil]; omega))⟩ (by first | omega | (dsimp only; omega))
        · cbv
        · cbv
    · have dz_i1 := drop_end (xs := u) (i := Int.toNat i1) (by omega)
      have tz_i1 := take_end (xs := u) (i := Int.toNat i1) (by omega)
      refine hF _ _ ?_
      conv => cbv
      exact hE0 _ () (by cbv) (by cbv) trivial
  · refine r_neqF m.sX ((by first | omega | assumption | exact decide_eq_true rfl | (subst_vars; omega) | exact decide_eq_true (k3 (by omega) _ (by assumption)))) ?_
    conv => cbv
    refine r_neqF m.sX ((by first | omega | assumption | exact decide_eq_true rfl | (subst_vars; omega) | exact decide_eq_true (k3 (by omega) _ (by assumption)))) ?_
    conv => cbv
    exact hE0 _ () (by cbv) (by cbv) trivial

theorem givenJobs_part3 (m : Mach Try.prog G κ X Y L) (hQ : ∀ r, r = PV.bool true → Q r) (more : List Int) (h : CurIn more) :
    Ai.code X L G (rest 5 (rest 7 (Try.f6.body.getD .skip))) (EndsIn (post G Try.f6.results.toList Q)) (St.at 296 (midGivenJobs more) []) := by
  conv => cbv
  refine r_callE m.sX ((drawWhoMay_ok more h).iceE) ?_
  rintro _ ⟨_, ⟨x, y, craft, rfl, bx_1, bx_2⟩, rfl⟩
  conv => cbv
  refine r_callF (lbI 1 cInt) m.sX ((WhoMay_ok x y craft).ice) fun v hw => ?_
  obtain ⟨w, three⟩ := v
  conv => cbv
  refine r_callF (lbI 1 cInt) m.sX ((specWhoMay_ok x y craft).ice) fun y1 hy1 => ?_
  obtain rfl := hw.trans hy1.symm
  clear hy1
  conv => cbv
  refine r_callE m.sX ((drawWageOf_ok more h).iceE) ?_
  rintro _ ⟨_, ⟨a, set, base, by_, rfl, ba_1, ba_2⟩, rfl⟩
  conv => cbv
  refine r_callF ib m.sX (wageOf_ok a set base by_) fun v hp => ?_
  obtain ⟨p, five⟩ := v
  conv => cbv
  refine r_callF ib m.sX (specWageOf_ok a set base by_) fun y2 hy2 => ?_
  obtain rfl := hp.trans hy2.symm
  clear hy2
  conv => cbv
  rcases Bool.eq_false_or_eq_true three with rfl | rfl <;> conv => cbv
  · refine r_callBT m.sX (sameInts_ok w w) (by first | omega | assumption | exact decide_eq_true rfl | (subst_vars; omega) | exact decide_eq_true (k3 (by omega) _ (by assumption))) ?_   -- h1
    conv => cbv
    rcases Bool.eq_false_or_eq_true five with rfl | rfl <;> conv => cbv
    · obtain ⟨w1, w2, w3⟩ := wage_law hp (by omega)
      refine r_eqlT m.sX ((by first | omega | assumption | exact decide_eq_true rfl | (subst_vars; omega) | exact decide_eq_true (k3 (by omega) _ (by assumption)))) ?_
      conv => cbv
      refine r_lenR m.sX fun n1 hn1 mn1 => ?_
      conv => cbv
      have mb := mul_bound w2.1 w2.2 (show 0 ≤ n1 by omega) (show n1 ≤ 20 by omega)
      refine r_mulf m.sX (by first | omega | (subst_vars; omega)) (by first | omega | (subst_vars; omega)) fun r1 hr1 => ?_
      conv => cbv
      refine r_addf m.sX (by omega) (by omega) fun r2 hr2 => ?_
      conv => cbv
      refine r_eqlT m.sX ((by rw [w1, hr2, hr1, hn1])) ?_
      conv => cbv
      exact hQ _ (congrArg PV.bool (by first | rfl | omega | (simp [*]; done) | (subst_vars; simp [*]; done)))   -- leaf 2
    · refine r_eqlT m.sX ((by first | omega | assumption | exact decide_eq_true rfl | (subst_vars; omega) | exact decide_eq_true (k3 (by omega) _ (by assumption)))) ?_
      conv => cbv
      exact hQ _ (congrArg PV.bool (by first | rfl | omega | (simp [*]; done) | (subst_vars; simp [*]; done)))   -- leaf 3
  · refine r_callBT m.sX (sameInts_ok w w) (by first | omega | assumption | exact decide_eq_true rfl | (subst_vars; omega) | exact decide_eq_true (k3 (by omega) _ (by assumption))) ?_   -- h5
    conv => cbv
    rcases Bool.eq_false_or_eq_true five with rfl | rfl <;> conv => cbv
    · obtain ⟨w1, w2, w3⟩ := wage_law hp (by omega)
      refine r_eqlT m.sX ((by first | omega | assumption | exact decide_eq_true rfl | (subst_vars; omega) | exact decide_eq_true (k3 (by omega) _ (by assumption)))) ?_
      conv => cbv
      refine r_lenR m.sX fun n2 hn2 mn2 => ?_
      conv => cbv
      have mb := mul_bound w2.1 w2.2 (show 0 ≤ n2 by omega) (show n2 ≤ 20 by omega)
      refine r_mulf m.sX (by first | omega | (subst_vars; omega)) (by first | omega | (subst_vars; omega)) fun r3 hr3 => ?_
      conv => cbv
      refine r_addf m.sX (by omega) (by omega) fun r4 hr4 => ?_
      conv => cbv
      refine r_eqlT m.sX ((by rw [w1, hr4, hr3, hn2])) ?_
      conv => cbv
      exact hQ _ (congrArg PV.bool (by first | rfl | omega | (simp [*]; done) | (subst_vars; simp [*]; done)))   -- leaf 4
    · refine r_eqlT m.sX ((by first | omega | assumption | exact decide_eq_true rfl | (subst_vars; omega) | exact decide_eq_true (k3 (by omega) _ (by assumption)))) ?_
      conv => cbv
      exact hQ _ (congrArg PV.bool (by first | rfl | omega | (simp [*]; done) | (subst_vars; simp [*]; done)))   -- leaf 5

end

theorem lawGivenJobs_ok (code more : List Int) (hf : ∀ x ∈ code, 0 ≤ x ∧ x ≤ 255) (hg : ∀ x ∈ more, 0 ≤ x ∧ x ≤ 255) : OkA Try.prog 6 [.isl 1 (rows cU8 code), .isl 1 (rows cU8 more)] (· = .bool true) :=
  fn_introW envOk fieldsOk mixed Try.func6 rfl (c := Try.f6.body.getD .skip) rfl fun κ X Y L Q m hQ =>
    W_cut m 7 296 [1] [] (fun _ : Unit => midGivenJobs more) (fun _ => []) (fun _ => (more.length : Int) ≤ 9223372036854775807) (givenJobs_part1 m hQ code more hf) fun _ hl =>
    W_cut m 5 296 [1] [] (fun _ : Unit => midGivenJobs more) (fun _ => []) (fun _ => True) (givenJobs_part2 m hQ more ⟨hl, hg⟩) fun _ _ =>
    W_last m (givenJobs_part3 m hQ more ⟨hl, hg⟩)

end Go.Proofs.Ytkdaikliahnenab.Ai
