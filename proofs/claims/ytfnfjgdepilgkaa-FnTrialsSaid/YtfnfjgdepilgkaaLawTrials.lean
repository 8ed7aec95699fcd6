/- The law FnTrials: its body returns true. -/
import Derived.Test.YtfnfjgdepilgkaaTrialDraw
import Derived.Test.YtfnfjgdepilgkaaAiCut
namespace Go.Proofs.Ytfnfjgdepilgkaa.Ai
open Go Go.Proofs
set_option maxRecDepth 10000
set_option maxHeartbeats 4000000
set_option linter.unusedVariables false

theorem mean_three {l : List Int} {a b : Int} {ok : Bool} (h : (a, b, ok) = meanA l) : trialB l = ok := by
  unfold meanA at h
  split at h <;> simp_all
theorem spread_two {l : List Int} {a : Int} {ok : Bool} (h : (a, ok) = spreadA l) : trialB l = ok := by
  unfold spreadA at h
  split at h <;> simp_all
theorem med_two {l : List Int} {a : Int} {ok : Bool} (h : (a, ok) = medA l) : trialB l = ok := by
  unfold medA at h
  split at h <;> simp_all
theorem spread_val {l : List Int} {a : Int} (h : (a, true) = spreadA l) : a = spreadI l := by
  unfold spreadA at h
  split at h
  · exact (Prod.mk.inj h).1
  · simp at h
theorem med_val {l : List Int} {a : Int} (h : (a, true) = medA l) : a = medI l := by
  unfold medA at h
  split at h
  · exact (Prod.mk.inj h).1
  · simp at h
theorem filter_take {p : Int → Bool} {l : List Int} {i : Nat} {x : Int} (h : l[i]? = some x) : ((l.take (i + 1)).filter p).length = ((l.take i).filter p).length + (if p x = true then 1 else 0) := by
  have hi := (List.getElem?_eq_some_iff.1 h).1
  rw [List.take_succ_eq_append_getElem hi, List.filter_append, List.length_append, (List.getElem?_eq_some_iff.1 h).2]
  simp only [List.filter_cons, List.filter_nil]
  split <;> simp

theorem mul_abs {a b A B : Int} (h1 : -A ≤ a ∧ a ≤ A) (h2 : 0 ≤ b ∧ b ≤ B) : -(A * B) ≤ a * b ∧ a * b ≤ A * B := by
  have hA : 0 ≤ A := by omega
  have e1 := Int.mul_le_mul_of_nonneg_right h1.2 h2.1
  have e2 := Int.mul_le_mul_of_nonneg_left h2.2 hA
  have e3 := Int.mul_le_mul_of_nonneg_right h1.1 h2.1
  rw [Int.neg_mul] at e3
  omega

noncomputable abbrev midTrials (more : List Int) : List (Nat × PV) := [(1, .isl 1 (rows cU8 more))]

section
variable {κ : Ctx} {X Y : Req → (PV → Prop) → Prop} {L : Code → (Ex → St → Prop) → St → Prop} {Q : PV → Prop}

theorem trials_part1 (m : Mach Try.prog G κ X Y L) (hQ : ∀ r, r = PV.bool true → Q r) (code more : List Int) (hf : ∀ x ∈ code, 0 ≤ x ∧ x ≤ 255) (E0 : St → Prop)
    (hE0 : ∀ (s' : St) (σ : List Int × Bool × Int × Int × Int × Int), headOk s' [] = true → Ai.norm [1, 5, 8, 9, 10, 14, 18] [] s' = St.at 319 [(1, .isl 1 (rows cU8 more)), (5, .isl 1 (rows cInt σ.1)), (8, .bool σ.2.1), (9, .int .i64 σ.2.2.1), (10, .int .i64 σ.2.2.2.1), (14, .int .i64 σ.2.2.2.2.1), (18, .int .i64 σ.2.2.2.2.2)] [] → ((more.length : Int) ≤ 9223372036854775807 ∧ (((σ.2.2.1, σ.2.2.2.1, σ.2.1) = meanA σ.1) ∧ (σ.2.1 = true → σ.2.2.2.2.1 = spreadI σ.1) ∧ (σ.2.1 = true → σ.2.2.2.2.2 = medI σ.1))) → E0 s') :
    Ai.code X L G (front 10 (Try.f3.body.getD .skip)) (fun e s' => match e with | .normal => E0 s' | .exit i => EndsIn (post G Try.f3.results.toList Q) (.exit i) s' | .ret => EndsIn (post G Try.f3.results.toList Q) .ret s') (start 319 [.isl 1 (rows cU8 code), .isl 1 (rows cU8 more)] []) := by
  conv => cbv
  refine r_callB m.sX (big_ok code more) (fun h1 => ?_) (fun h1 => ?_) <;> conv => cbv
  · exact hQ _ (congrArg PV.bool (by first | rfl | omega | (simp [*]; done) | (subst_vars; simp [*]; done)))   -- leaf 1
  · rw [Bool.or_eq_false_iff, decide_eq_false_iff_not, decide_eq_false_iff_not] at h1
    have h : CurIn code := ⟨by omega, hf⟩
    have hmr : (more.length : Int) ≤ 9223372036854775807 := by omega
    refine r_callE m.sX ((drawMeanOff_ok code h).iceE) ?_
    rintro _ ⟨_, ⟨l, rfl, bl_1⟩, rfl⟩
    conv => cbv
    refine r_callF iib m.sX (MeanOff_ok l) fun v ha => ?_
    obtain ⟨a, b, ok⟩ := v
    conv => cbv
    have F1 := mean_three ha
    refine r_callF iib m.sX (specMeanOff_ok l) fun y1 hy1 => ?_
    obtain rfl := ha.trans hy1.symm
    clear hy1
    conv => cbv
    refine r_callF ib m.sX (SpreadOff_ok l) fun v hs_ => ?_
    obtain ⟨s_, one⟩ := v
    conv => cbv
    have F2 := spread_two hs_
    refine r_callF ib m.sX (specSpreadOff_ok l) fun y2 hy2 => ?_
    obtain rfl := hs_.trans hy2.symm
    clear hy2
    conv => cbv
    refine r_callF ib m.sX (MedianOff_ok l) fun v hm_ => ?_
    obtain ⟨m_, three⟩ := v
    conv => cbv
    have F3 := med_two hm_
    refine r_callF ib m.sX (specMedianOff_ok l) fun y3 hy3 => ?_
    obtain rfl := hm_.trans hy3.symm
    clear hy3
    conv => cbv
    rcases Bool.eq_false_or_eq_true ok with rfl | rfl <;> conv => cbv
    · refine r_neqF m.sX ((by first | omega | assumption | exact decide_eq_true rfl | (subst_vars; omega))) ?_
      conv => cbv
      refine r_neqF m.sX ((by first | omega | assumption | exact decide_eq_true rfl | (subst_vars; omega))) ?_
      conv => cbv
      obtain rfl : one = true := by exact F2.symm.trans F1
      conv => cbv
      refine r_neqF m.sX ((by first | omega | assumption | exact decide_eq_true rfl | (subst_vars; omega))) ?_
      conv => cbv
      obtain rfl : three = true := by exact F3.symm.trans F1
      conv => cbv
      refine r_neqF m.sX ((by first | omega | assumption | exact decide_eq_true rfl | (subst_vars; omega))) ?_
      conv => cbv
      refine r_callBT m.sX (IsTrial_ok l) (by first | omega | assumption | exact decide_eq_true rfl | (subst_vars; omega)) ?_   -- h6
      conv => cbv
      exact hE0 _ (l, true, a, b, s_, m_) (by cbv) (by cbv) ⟨hmr, ⟨(by (try dsimp only) <;> (first | assumption | omega | (simp [*]; done))), (by (try dsimp only) <;> (first | (intro _; exact spread_val hs_) | (intro e_; cases e_))), (by (try dsimp only) <;> (first | (intro _; exact med_val hm_) | (intro e_; cases e_)))⟩⟩
    · refine r_neqF m.sX ((by first | omega | assumption | exact decide_eq_true rfl | (subst_vars; omega))) ?_
      conv => cbv
      refine r_neqF m.sX ((by first | omega | assumption | exact decide_eq_true rfl | (subst_vars; omega))) ?_
      conv => cbv
      obtain rfl : one = false := by exact F2.symm.trans F1
      conv => cbv
      refine r_neqF m.sX ((by first | omega | assumption | exact decide_eq_true rfl | (subst_vars; omega))) ?_
      conv => cbv
      obtain rfl : three = false := by exact F3.symm.trans F1
      conv => cbv
      refine r_neqF m.sX ((by first | omega | assumption | exact decide_eq_true rfl | (subst_vars; omega))) ?_
      conv => cbv
      refine r_callBF m.sX (IsTrial_ok l) (by first | omega | assumption | exact decide_eq_true rfl | (subst_vars; omega)) ?_   -- h11
      conv => cbv
      exact hE0 _ (l, false, a, b, s_, m_) (by cbv) (by cbv) ⟨hmr, ⟨(by (try dsimp only) <;> (first | assumption | omega | (simp [*]; done))), (by (try dsimp only) <;> (first | (intro _; exact spread_val hs_) | (intro e_; cases e_))), (by (try dsimp only) <;> (first | (intro _; exact med_val hm_) | (intro e_; cases e_)))⟩⟩

theorem trials_part2 (m : Mach Try.prog G κ X Y L) (hQ : ∀ r, r = PV.bool true → Q r) (more : List Int) (h : CurIn more) (l : List Int) (ok : Bool) (sum : Int) (count : Int) (spread : Int) (median : Int) (cm : (sum, count, ok) = meanA l) (cs : ok = true → spread = spreadI l) (cd : ok = true → median = medI l) (E0 : St → Prop)
    (hE0 : ∀ (s' : St) (σ : Unit), headOk s' [] = true → Ai.norm [1] [] s' = St.at 319 [(1, .isl 1 (rows cU8 more))] [] → (True ∧ ((True))) → E0 s') :
    Ai.code X L G (front 1 (rest 10 (Try.f3.body.getD .skip))) (fun e s' => match e with | .normal => E0 s' | .exit i => EndsIn (post G Try.f3.results.toList Q) (.exit i) s' | .ret => EndsIn (post G Try.f3.results.toList Q) .ret s') (St.at 319 [(1, .isl 1 (rows cU8 more)), (5, .isl 1 (rows cInt l)), (8, .bool ok), (9, .int .i64 sum), (10, .int .i64 count), (14, .int .i64 spread), (18, .int .i64 median)] []) := by
  conv => cbv
  rcases Bool.eq_false_or_eq_true ok with rfl | rfl <;> conv => cbv
  · have mo := mean_ok cm
    have mt := mo.2.2.2.2.2
    have sf := mt.fits
    have ll := mt.len
    have ss := mt.sum
    have es := cs rfl
    have ed := cd rfl
    have ml := med_low (l := l) (by omega)
    have mh := med_high (l := l) (by omega)
    have sn := spread_nn (l := l) (by omega)
    rw [← ed] at ml mh
    rw [← es] at sn
    refine r_lenR m.sX fun n1 hn1 mn1 => ?_
    conv => cbv
    refine r_loopF (α := Int × Int × Int) m 319 [1, 5, 9, 10, 14, 18, 20, 21, 133, 134, 135] [] (fun σ => [(1, .isl 1 (rows cU8 more)), (5, .isl 1 (rows cInt l)), (9, .int .i64 sum), (10, .int .i64 count), (14, .int .i64 spread), (18, .int .i64 median), (20, .int .i64 σ.1), (21, .int .i64 σ.2.1), (133, .isl 1 (rows cInt l)), (134, .int .i64 n1), (135, .int .i64 σ.2.2)]) (fun σ => [])
      (fun σ => (0 ≤ σ.2.2) ∧ (σ.2.2 ≤ n1) ∧ (σ.1 = (((l.take σ.2.2.toNat).filter fun x => decide (x < median)).length : Int)) ∧ (σ.2.1 = (((l.take σ.2.2.toNat).filter fun x => decide (median < x)).length : Int)) ∧ (0 ≤ σ.1 ∧ σ.1 ≤ σ.2.2) ∧ (0 ≤ σ.2.1 ∧ σ.2.1 ≤ σ.2.2)) (fun σ => (n1 - σ.2.2).toNat) (0, 0, 0) ?_ ?_ ?_ ?_
    · cbv
    · cbv
    · exact ⟨(by (try dsimp only); first | omega | (simp only [List.length_nil]; omega)), (by (try dsimp only); first | omega | (simp only [List.length_nil]; omega)), (by (try dsimp only) <;> (rfl)), (by (try dsimp only) <;> (rfl)), (by (try dsimp only) <;> first | omega | rfl | (simp [*]; done)), (by (try dsimp only) <;> first | omega | rfl | (simp [*]; done))⟩
    rintro ⟨low, high, i1⟩ ⟨lo1, hi1, lw, hw, lb, hb⟩ E hE F hF
    dsimp only at lo1 hi1 lw hw lb hb
    conv => cbv
    refine r_lss m.sX (fun h1 => ?_) (fun h1 => ?_) <;> conv => cbv
    · refine r_index m.sX (by omega) (by omega) fun n hn => ?_
      conv => cbv
      have mn := get_mem hn
      have dn := drop_cons hn
      have kn := take_snoc hn
      have jn : (i1 + 1).toNat = Int.toNat i1 + 1 := by omega
      have vn := nth_some hn
      refine r_lss m.sX (fun h2 => ?_) (fun h2 => ?_) <;> conv => cbv
      · refine r_addf m.sX (by omega) (by omega) fun low_2 hlow_2 => ?_
        conv => cbv
        refine r_gtr m.sX (fun h3 => ?_) (fun h3 => ?_) <;> conv => cbv
        · refine r_addf m.sX (by omega) (by omega) fun high_2 hhigh_2 => ?_
          conv => cbv
          refine r_addf m.sX (by omega) (by omega) fun r1 hr1 => ?_
          conv => cbv
          try have tr1 : Int.toNat r1 = Int.toNat i1 + 1 := by omega
          refine hE _ (low_2, high_2, r1) ?_ ?_ ⟨(by (try dsimp only); first | omega | (simp only [List.length_nil]; omega)), (by (try dsimp only); first | omega | (simp only [List.length_nil]; omega)), (by (try dsimp only) <;> (first | (rw [tr1, filter_take hn, if_pos (decide_eq_true (by omega))]; omega) | (rw [tr1, filter_take hn, if_neg (by simp; omega)]; omega))), (by (try dsimp only) <;> (first | (rw [tr1, filter_take hn, if_pos (decide_eq_true (by omega))]; omega) | (rw [tr1, filter_take hn, if_neg (by simp; omega)]; omega))), (by (try dsimp only) <;> (omega)), (by (try dsimp only) <;> (omega))⟩ (by first | omega | (dsimp only; omega))
          · cbv
          · cbv
        · refine r_addf m.sX (by omega) (by omega) fun r2 hr2 => ?_
          conv => cbv
          try have tr2 : Int.toNat r2 = Int.toNat i1 + 1 := by omega
          refine hE _ (low_2, high, r2) ?_ ?_ ⟨(by (try dsimp only); first | omega | (simp only [List.length_nil]; omega)), (by (try dsimp only); first | omega | (simp only [List.length_nil]; omega)), (by (try dsimp only) <;> (first | (rw [tr2, filter_take hn, if_pos (decide_eq_true (by omega))]; omega) | (rw [tr2, filter_take hn, if_neg (by simp; omega)]; omega))), (by (try dsimp only) <;> (first | (rw [tr2, filter_take hn, if_pos (decide_eq_true (by omega))]; omega) | (rw [tr2, filter_take hn, if_neg (by simp; omega)]; omega))), (by (try dsimp only) <;> (omega)), (by (try dsimp only) <;> (omega))⟩ (by first | omega | (dsimp only; omega))
          · cbv
          · cbv
      · refine r_gtr m.sX (fun h4 => ?_) (fun h4 => ?_) <;> conv => cbv
        · refine r_addf m.sX (by omega) (by omega) fun high_3 hhigh_3 => ?_
          conv => cbv
          refine r_addf m.sX (by omega) (by omega) fun r3 hr3 => ?_
          conv => cbv
          try have tr3 : Int.toNat r3 = Int.toNat i1 + 1 := by omega
          refine hE _ (low, high_3, r3) ?_ ?_ ⟨(by (try dsimp only); first | omega | (simp only [List.length_nil]; omega)), (by (try dsimp only); first | omega | (simp only [List.length_nil]; omega)), (by (try dsimp only) <;> (first | (rw [tr3, filter_take hn, if_pos (decide_eq_true (by omega))]; omega) | (rw [tr3, filter_take hn, if_neg (by simp; omega)]; omega))), (by (try dsimp only) <;> (first | (rw [tr3, filter_take hn, if_pos (decide_eq_true (by omega))]; omega) | (rw [tr3, filter_take hn, if_neg (by simp; omega)]; omega))), (by (try dsimp only) <;> (omega)), (by (try dsimp only) <;> (omega))⟩ (by first | omega | (dsimp only; omega))
          · cbv
          · cbv
        · refine r_addf m.sX (by omega) (by omega) fun r4 hr4 => ?_
          conv => cbv
          try have tr4 : Int.toNat r4 = Int.toNat i1 + 1 := by omega
          refine hE _ (low, high, r4) ?_ ?_ ⟨(by (try dsimp only); first | omega | (simp only [List.length_nil]; omega)), (by (try dsimp only); first | omega | (simp only [List.length_nil]; omega)), (by (try dsimp only) <;> (first | (rw [tr4, filter_take hn, if_pos (decide_eq_true (by omega))]; omega) | (rw [tr4, filter_take hn, if_neg (by simp; omega)]; omega))), (by (try dsimp only) <;> (first | (rw [tr4, filter_take hn, if_pos (decide_eq_true (by omega))]; omega) | (rw [tr4, filter_take hn, if_neg (by simp; omega)]; omega))), (by (try dsimp only) <;> (omega)), (by (try dsimp only) <;> (omega))⟩ (by first | omega | (dsimp only; omega))
          · cbv
          · cbv
    · have dz_i1 := drop_end (xs := l) (i := Int.toNat i1) (by omega)
      have tz_i1 := take_end (xs := l) (i := Int.toNat i1) (by omega)
      refine hF _ _ ?_
      conv => cbv
      refine r_lenR m.sX fun n2 hn2 mn2 => ?_
      conv => cbv
      rw [tz_i1] at lw hw
      have m1 := mul_abs (a := sum) (b := n2) (A := 20000) (B := 40) (by omega) (by omega)
      refine r_mulf m.sX (by first | omega | (subst_vars; omega)) (by first | omega | (subst_vars; omega)) fun r5 hr5 => ?_
      conv => cbv
      refine r_callF (PV.int .i64) m.sX (pSum_ok l (by first | rfl | assumption | omega | (simp only [List.length_append, List.length_cons, List.length_nil] at *; omega))) fun r6 hr6 => ?_
      conv => cbv
      have m2 := mul_abs (a := r6) (b := count) (A := 20000) (B := 40) (by rw [hr6]; exact ss) (by omega)
      refine r_mulf m.sX (by first | omega | (subst_vars; omega)) (by first | omega | (subst_vars; omega)) fun r7 hr7 => ?_
      conv => cbv
      refine r_neqF m.sX ((by rw [hr5, hr7, hr6, hn2]; exact mo.1)) ?_
      conv => cbv
      refine r_lssF m.sX ((by first | omega | assumption | exact decide_eq_true rfl | (subst_vars; omega))) ?_
      conv => cbv
      refine r_mulf m.sX (by first | omega | (subst_vars; omega)) (by first | omega | (subst_vars; omega)) fun r8 hr8 => ?_
      conv => cbv
      refine r_lenR m.sX fun n3 hn3 mn3 => ?_
      conv => cbv
      refine r_gtrF m.sX ((by first | omega | assumption | exact decide_eq_true rfl | (subst_vars; omega))) ?_
      conv => cbv
      refine r_mulf m.sX (by first | omega | (subst_vars; omega)) (by first | omega | (subst_vars; omega)) fun r9 hr9 => ?_
      conv => cbv
      refine r_lenR m.sX fun n4 hn4 mn4 => ?_
      conv => cbv
      refine r_gtrF m.sX ((by first | omega | assumption | exact decide_eq_true rfl | (subst_vars; omega))) ?_
      conv => cbv
      refine r_lssF m.sX ((by first | omega | assumption | exact decide_eq_true rfl | (subst_vars; omega))) ?_
      conv => cbv
      exact hE0 _ () (by cbv) (by cbv) ⟨trivial, (by (try dsimp only) <;> (first | assumption | omega | (simp [*]; done)))⟩
  · exact hE0 _ () (by cbv) (by cbv) ⟨trivial, (by (try dsimp only) <;> (first | assumption | omega | (simp [*]; done)))⟩

theorem trials_part3 (m : Mach Try.prog G κ X Y L) (hQ : ∀ r, r = PV.bool true → Q r) (more : List Int) (h : CurIn more) (x1 : True) (E0 : St → Prop)
    (hE0 : ∀ (s' : St) (σ : Unit), headOk s' [] = true → Ai.norm [1] [] s' = St.at 319 [(1, .isl 1 (rows cU8 more))] [] → (True ∧ ((True))) → E0 s') :
    Ai.code X L G (front 5 (rest 1 (rest 10 (Try.f3.body.getD .skip)))) (fun e s' => match e with | .normal => E0 s' | .exit i => EndsIn (post G Try.f3.results.toList Q) (.exit i) s' | .ret => EndsIn (post G Try.f3.results.toList Q) .ret s') (St.at 319 [(1, .isl 1 (rows cU8 more))] []) := by
  conv => cbv
  refine r_callE m.sX ((drawLeastTolerance_ok more h).iceE) ?_
  rintro _ ⟨_, ⟨u, allowed, rfl, bu_1⟩, rfl⟩
  conv => cbv
  refine r_callF ib m.sX (LeastTolerance_ok u allowed) fun v ht => ?_
  obtain ⟨t, five⟩ := v
  conv => cbv
  refine r_callF ib m.sX (specLeastTolerance_ok u allowed) fun y1 hy1 => ?_
  obtain rfl := ht.trans hy1.symm
  clear hy1
  conv => cbv
  rcases Bool.eq_false_or_eq_true five with rfl | rfl <;> conv => cbv
  · have aa := accept_at ht
    have lf := (least_facts ht).2.2.1
    refine r_neqF m.sX ((by first | omega | assumption | exact decide_eq_true rfl | (subst_vars; omega))) ?_
    conv => cbv
    refine r_callF bb m.sX (IsAccepted_ok u t allowed) fun v his => ?_
    obtain ⟨is, seven⟩ := v
    conv => cbv
    obtain rfl : seven = true := by exact (Prod.mk.inj (his.trans aa.1)).2
    conv => cbv
    obtain rfl : is = true := by exact (Prod.mk.inj (his.trans aa.1)).1
    conv => cbv
    refine r_gtr m.sX (fun h2 => ?_) (fun h2 => ?_) <;> conv => cbv
    · refine r_subf m.sX (by omega) (by omega) fun r1 hr1 => ?_
      conv => cbv
      refine r_callF bb m.sX (IsAccepted_ok u r1 allowed) fun v hless => ?_
      obtain ⟨less, eight⟩ := v
      conv => cbv
      obtain rfl : eight = true := by exact (Prod.mk.inj (hless.trans (by rw [hr1]; exact aa.2 h2))).2
      conv => cbv
      obtain rfl : less = false := by exact (Prod.mk.inj (hless.trans (by rw [hr1]; exact aa.2 h2))).1
      conv => cbv
      exact hE0 _ () (by cbv) (by cbv) ⟨trivial, (by (try dsimp only) <;> (first | assumption | omega | (simp [*]; done)))⟩
    · exact hE0 _ () (by cbv) (by cbv) ⟨trivial, (by (try dsimp only) <;> (first | assumption | omega | (simp [*]; done)))⟩
  · refine r_neqF m.sX ((by first | omega | assumption | exact decide_eq_true rfl | (subst_vars; omega))) ?_
    conv => cbv
    exact hE0 _ () (by cbv) (by cbv) ⟨trivial, (by (try dsimp only) <;> (first | assumption | omega | (simp [*]; done)))⟩

theorem trials_part4 (m : Mach Try.prog G κ X Y L) (hQ : ∀ r, r = PV.bool true → Q r) (more : List Int) (h : CurIn more) (x1 : True) :
    Ai.code X L G (rest 5 (rest 1 (rest 10 (Try.f3.body.getD .skip)))) (EndsIn (post G Try.f3.results.toList Q)) (St.at 319 [(1, .isl 1 (rows cU8 more))] []) := by
  conv => cbv
  refine r_callE m.sX ((drawOutsideOff_ok more h).iceE) ?_
  rintro _ ⟨_, ⟨v, most, rfl, bv_1⟩, rfl⟩
  conv => cbv
  refine r_callF (lbI 1 cInt) m.sX ((OutsideOff_ok v most).ice) fun v ho => ?_
  obtain ⟨o, seven⟩ := v
  conv => cbv
  refine r_callF (lbI 1 cInt) m.sX ((specOutsideOff_ok v most).ice) fun y1 hy1 => ?_
  obtain rfl := ho.trans hy1.symm
  clear hy1
  conv => cbv
  refine r_callF (lbI 1 cInt) m.sX ((WithoutOutside_ok v most).ice) fun v hw => ?_
  obtain ⟨w, nine⟩ := v
  conv => cbv
  have F := with_nine ho hw
  refine r_callF (lbI 1 cInt) m.sX ((specWithoutOutside_ok v most).ice) fun y2 hy2 => ?_
  obtain rfl := hw.trans hy2.symm
  clear hy2
  conv => cbv
  rcases Bool.eq_false_or_eq_true seven with rfl | rfl <;> conv => cbv
  · refine r_callBT m.sX (sameInts_ok o o) (by first | omega | assumption | exact decide_eq_true rfl | (subst_vars; omega)) ?_   -- h1
    conv => cbv
    rcases Bool.eq_false_or_eq_true nine with rfl | rfl <;> conv => cbv
    · refine r_callBT m.sX (sameInts_ok w w) (by first | omega | assumption | exact decide_eq_true rfl | (subst_vars; omega)) ?_   -- h2
      conv => cbv
      refine r_lenR m.sX fun n1 hn1 mn1 => ?_
      conv => cbv
      refine r_lenR m.sX fun n2 hn2 mn2 => ?_
      conv => cbv
      obtain ⟨wq, we1, we2, we3⟩ := with_left hw
      have wo := we3 _ _ ho
      refine r_lssT m.sX ((by have z := F.symm; simp at z; omega)) ?_
      conv => cbv
      refine r_callF (lbI 1 cInt) m.sX ((OutsideOff_ok w most).ice) fun v hleft => ?_
      obtain ⟨left, eleven⟩ := v
      conv => cbv
      obtain rfl : eleven = true := by exact (Prod.mk.inj (hleft.trans we1)).2
      conv => cbv
      refine r_lenR m.sX fun n3 hn3 mn3 => ?_
      conv => cbv
      refine r_eqlT m.sX ((by rw [hn3, (Prod.mk.inj (hleft.trans we1)).1, we2]; rfl)) ?_
      conv => cbv
      refine r_lenR m.sX fun n4 hn4 mn4 => ?_
      conv => cbv
      refine r_lenR m.sX fun n5 hn5 mn5 => ?_
      conv => cbv
      refine r_addf m.sX (by omega) (by omega) fun r1 hr1 => ?_
      conv => cbv
      refine r_lenR m.sX fun n6 hn6 mn6 => ?_
      conv => cbv
      refine r_eqlT m.sX ((by have z := we3 _ _ ho; omega)) ?_
      conv => cbv
      exact hQ _ (congrArg PV.bool (by first | rfl | omega | (simp [*]; done) | (subst_vars; simp [*]; done)))   -- leaf 2
    · refine r_callBT m.sX (sameInts_ok w w) (by first | omega | assumption | exact decide_eq_true rfl | (subst_vars; omega)) ?_   -- h6
      conv => cbv
      refine r_lenR m.sX fun n7 hn7 mn7 => ?_
      conv => cbv
      refine r_lenR m.sX fun n8 hn8 mn8 => ?_
      conv => cbv
      refine r_lssF m.sX ((by have z := F.symm; simp at z; omega)) ?_
      conv => cbv
      exact hQ _ (congrArg PV.bool (by first | rfl | omega | (simp [*]; done) | (subst_vars; simp [*]; done)))   -- leaf 3
  · refine r_callBT m.sX (sameInts_ok o o) (by first | omega | assumption | exact decide_eq_true rfl | (subst_vars; omega)) ?_   -- h8
    conv => cbv
    obtain rfl : nine = false := by exact F
    conv => cbv
    refine r_callBT m.sX (sameInts_ok w w) (by first | omega | assumption | exact decide_eq_true rfl | (subst_vars; omega)) ?_   -- h9
    conv => cbv
    exact hQ _ (congrArg PV.bool (by first | rfl | omega | (simp [*]; done) | (subst_vars; simp [*]; done)))   -- leaf 4

end

theorem lawTrials_ok (code more : List Int) (hf : ∀ x ∈ code, 0 ≤ x ∧ x ≤ 255) (hg : ∀ x ∈ more, 0 ≤ x ∧ x ≤ 255) : OkA Try.prog 3 [.isl 1 (rows cU8 code), .isl 1 (rows cU8 more)] (· = .bool true) :=
  fn_introW envOk fieldsOk mixed Try.func3 rfl (c := Try.f3.body.getD .skip) rfl fun κ X Y L Q m hQ =>
    W_cut m 10 319 [1, 5, 8, 9, 10, 14, 18] [] (fun σ : List Int × Bool × Int × Int × Int × Int => [(1, .isl 1 (rows cU8 more)), (5, .isl 1 (rows cInt σ.1)), (8, .bool σ.2.1), (9, .int .i64 σ.2.2.1), (10, .int .i64 σ.2.2.2.1), (14, .int .i64 σ.2.2.2.2.1), (18, .int .i64 σ.2.2.2.2.2)]) (fun σ => []) (fun σ => (more.length : Int) ≤ 9223372036854775807 ∧ (((σ.2.2.1, σ.2.2.2.1, σ.2.1) = meanA σ.1) ∧ (σ.2.1 = true → σ.2.2.2.2.1 = spreadI σ.1) ∧ (σ.2.1 = true → σ.2.2.2.2.2 = medI σ.1))) (trials_part1 m hQ code more hf) fun ⟨l, ok, sum, count, spread, median⟩ ⟨hl, ⟨cm, cs, cd⟩⟩ =>
    W_cut m 1 319 [1] [] (fun σ : Unit => [(1, .isl 1 (rows cU8 more))]) (fun σ => []) (fun σ => True ∧ ((True))) (trials_part2 m hQ more ⟨hl, hg⟩ l ok sum count spread median cm cs cd) fun _ ⟨_, x1⟩ =>
    W_cut m 5 319 [1] [] (fun σ : Unit => [(1, .isl 1 (rows cU8 more))]) (fun σ => []) (fun σ => True ∧ ((True))) (trials_part3 m hQ more ⟨hl, hg⟩ x1) fun _ ⟨_, x1⟩ =>
    W_last m (trials_part4 m hQ more ⟨hl, hg⟩ x1)

end Go.Proofs.Ytfnfjgdepilgkaa.Ai
