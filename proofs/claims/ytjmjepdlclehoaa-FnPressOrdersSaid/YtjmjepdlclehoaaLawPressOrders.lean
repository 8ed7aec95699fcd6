/- The law FnPressOrders: its body returns true. -/
import Derived.Test.YtjmjepdlclehoaaLeastV
import Derived.Test.YtjmjepdlclehoaaPressDraw2
import Derived.Test.YtjmjepdlclehoaaAiCut
namespace Go.Proofs.Ytjmjepdlclehoaa.Ai
open Go Go.Proofs
set_option linter.unusedSimpArgs false
set_option maxRecDepth 10000
set_option maxHeartbeats 4000000
set_option linter.unusedVariables false
theorem endsPA_both {p : Press} {ink : Int} {l : List PressJob} {o : List Int} {e : List Int} {b : Bool} (h : (e, b) = endsPA p ink l o) : b = pAskB p ink l o ∧ (b = true → e = endsP p l ink 0 o) := by
  unfold endsPA at h
  split at h
  · rename_i hc; rw [hc]; exact ⟨(Prod.mk.inj h).2, fun _ => (Prod.mk.inj h).1⟩
  · rename_i hc; rw [Bool.not_eq_true] at hc; rw [hc]; exact ⟨(Prod.mk.inj h).2, fun e => by rw [(Prod.mk.inj h).2] at e; cases e⟩
theorem washPA_both {p : Press} {ink : Int} {l : List PressJob} {o : List Int} {e : Int} {b : Bool} (h : (e, b) = washPA p ink l o) : b = pAskB p ink l o ∧ (b = true → e = washP p l ink o) := by
  unfold washPA at h
  split at h
  · rename_i hc; rw [hc]; exact ⟨(Prod.mk.inj h).2, fun _ => (Prod.mk.inj h).1⟩
  · rename_i hc; rw [Bool.not_eq_true] at hc; rw [hc]; exact ⟨(Prod.mk.inj h).2, fun e => by rw [(Prod.mk.inj h).2] at e; cases e⟩
theorem latePA_both {p : Press} {ink : Int} {l : List PressJob} {o : List Int} {e : List Int} {b : Bool} (h : (e, b) = latePA p ink l o) : b = pAskB p ink l o ∧ (b = true → e = sortI (lateP p l ink o)) := by
  unfold latePA at h
  split at h
  · rename_i hc; rw [hc]; exact ⟨(Prod.mk.inj h).2, fun _ => (Prod.mk.inj h).1⟩
  · rename_i hc; rw [Bool.not_eq_true] at hc; rw [hc]; exact ⟨(Prod.mk.inj h).2, fun e => by rw [(Prod.mk.inj h).2] at e; cases e⟩
theorem delayPA_both {p : Press} {ink : Int} {l : List PressJob} {o : List Int} {e : Int} {b : Bool} (h : (e, b) = delayPA p ink l o) : b = pAskB p ink l o ∧ (b = true → e = delayP p l ink o) := by
  unfold delayPA at h
  split at h
  · rename_i hc; rw [hc]; exact ⟨(Prod.mk.inj h).2, fun _ => (Prod.mk.inj h).1⟩
  · rename_i hc; rw [Bool.not_eq_true] at hc; rw [hc]; exact ⟨(Prod.mk.inj h).2, fun e => by rw [(Prod.mk.inj h).2] at e; cases e⟩
theorem pAsk_of {p : Press} {ink : Int} {l : List PressJob} {o : List Int} (h1 : workB p ink l = true) (h2 : o.length = l.length) (h3 : Diff l.length o) : pAskB p ink l o = true := by
  rw [pAskB, h1, decide_eq_true h2, fineB_diff.2 h3]; rfl
theorem washPA_true {p : Press} {ink : Int} {l : List PressJob} {o : List Int} {t : Int} {b : Bool} (h1 : workB p ink l = true) (h2 : o.length = l.length) (h3 : Diff l.length o) (h : (t, b) = washPA p ink l o) : t = washP p l ink o ∧ b = true := by
  rw [washPA, pAsk_of h1 h2 h3] at h
  exact Prod.mk.inj h
theorem delayPA_true {p : Press} {ink : Int} {l : List PressJob} {o : List Int} {t : Int} {b : Bool} (h1 : workB p ink l = true) (h2 : o.length = l.length) (h3 : Diff l.length o) (h : (t, b) = delayPA p ink l o) : t = delayP p l ink o ∧ b = true := by
  rw [delayPA, pAsk_of h1 h2 h3] at h
  exact Prod.mk.inj h
theorem leastPA_both {C : List Int → Int} {ok : Bool} {n : Nat} {b : List Int} {t : Int} {s : Bool} (h : (b, t, s) = leastPA C ok n) : s = ok := by
  unfold leastPA at h
  cases ok with
  | true => exact (Prod.mk.inj (Prod.mk.inj h).2).2
  | false => exact (Prod.mk.inj (Prod.mk.inj h).2).2
theorem leastPA_spec {C : List Int → Int} {ok : Bool} {n : Nat} {b : List Int} {t : Int} {s : Bool} (hC : IsCost C) (hok : ok = true) (h : (b, t, s) = leastPA C ok n) : Diff n b ∧ b.length = n ∧ t = C b ∧ ∀ p, Diff n p → p.length = n → t ≤ C p := by
  subst hok
  obtain ⟨f1, f2, f3, f4⟩ := leastF_spec (n := n) hC
  obtain ⟨a1, a2⟩ := Prod.mk.inj (show (b, t, s) = ((leastF C n).1, (leastF C n).2, true) from h)
  obtain ⟨a3, a4⟩ := Prod.mk.inj a2
  subst a1; subst a3
  exact ⟨f1, f2, f3, f4⟩
/-- How a run of a press goes on. -/
def EndsQ (p : Press) (l : List PressJob) (order ends : List Int) (k : Nat) (time : Int) : Prop := ∃ c : Int, endsP p l c time (order.drop k) = ends.drop k
theorem EndsQ.zero {p : Press} {l : List PressJob} {order ends : List Int} {ink : Int} (h : ends = endsP p l ink 0 order) : EndsQ p l order ends 0 0 := ⟨ink, by rw [h]; rfl⟩
theorem EndsQ.next {p : Press} {l : List PressJob} {order ends : List Int} {k : Nat} {time i : Int} {x : PressJob} (hp : okPress p = true) (h : EndsQ p l order ends k time) (hi : order[k]? = some i) (hx : l[i.toNat]? = some x) :
    ∃ e, ends[k]? = some e ∧ time + minsF p x ≤ e ∧ EndsQ p l order ends (k + 1) e := by
  obtain ⟨c, h1⟩ := h
  rw [drop_cons hi, endsP, jobAt_some hx] at h1
  have he : ends[k]? = some (endAt p l c time i) := by
    have := congrArg List.head? h1
    rw [List.head?_drop] at this
    exact this.symm
  have hw := washF_pos (okPress_spec hp).1 c x.1
  refine ⟨_, he, by rw [endAt_some hx]; omega, x.1, ?_⟩
  rw [drop_cons he] at h1
  exact (List.cons.inj h1).2
theorem min_true {p : Press} {x : PressJob} {t : Int} {b : Bool} (hp : okPress p = true) (hx : okJob x = true) (h : (t, b) = minAns p x) : t = minsF p x ∧ b = true := by
  rw [minAns, hp, hx] at h
  exact Prod.mk.inj h
theorem late_sorted {p : Press} {l : List PressJob} {k : Int} {o a : List Int} (ha : a = sortI (lateP p l k o)) : 0 < delayP p l k o ↔ 0 < a.length := by
  rw [ha, sortI_len, late_any, List.length_pos_iff]
theorem late_in {p : Press} {l : List PressJob} {k : Int} {o a : List Int} (ha : a = sortI (lateP p l k o)) (hd : o.Nodup) {j : Nat} {i e : Int} (hi : o[j]? = some i) (he : (endsP p l k 0 o)[j]? = some e) : i ∈ a ↔ (jobAt l i).2.2 < e := by
  rw [ha]; exact (sortI_perm _).mem_iff.trans (late_mem hd hi he)
theorem specLeastWashing_ok (p : Press) (ink : Int) (l : List PressJob)  : OkA Try.prog 44 [.agg (cPress p), .int .i64 ink, .isl 3 (rows cPressJob l)] (· = (licI 1 cInt) (leastPA (washP p l ink) (workB p ink l) l.length)) := by
  obtain ⟨pA, pB, pC, pD⟩ := p
  try dsimp only at *
  exact OkA.iceI 1 (fn_intro envOk fieldsOk mixed Try.func44 rfl fun κ X Y L Q m hQ => by
    conv => cbv
    refine r_callB m.sX (prBoth_ok (pA, pB, pC, pD) ink l) (fun h1 => ?_) (fun h1 => ?_) <;> conv => cbv
    · obtain ⟨w1, w2, w3⟩ := workB_spec h1
      refine r_draw m (by kernel_rfl) ?_
      conv => cbv
      refine r_callFS (fun l => PV.isl _ (rows _ l)) m.sY ((prTimes_ok (pA, pB, pC, pD) l (by first | rfl | assumption | omega | (simp only [List.length_append, List.length_cons, List.length_nil] at *; omega)) (by first | rfl | assumption | omega | (simp only [List.length_append, List.length_cons, List.length_nil] at *; omega))).ice) trivial fun v1 hv1 => ?_
      conv => cbv
      try dsimp only at hv1
      refine r_callFS (licI 1 cInt) m.sY (prBest_ok (pA, pB, pC, pD) ink l v1 false (by assumption) (by assumption)) (by first | trivial | exact noFr_tup2 trivial trivial | exact noFr_tup3 trivial trivial trivial) fun v hv2 => ?_
      obtain ⟨v2, v3, v4⟩ := v
      conv => cbv
      try dsimp only at hv2
      exact hQ (.tup [.isl 1 (rows cInt v2), .int .i64 v3, .bool v4]) (Eq.trans (by first | rfl | (simp only [lic, licI, lb, lbI, rows_cons, rows_nil, unnilT, unnil, unnilTI, unnilI]; done) | (simp only [lic, licI, lb, lbI, rows_cons, rows_nil, unnilT, unnil, unnilTI, unnilI]; rfl)) (congrArg ((licI 1 cInt)) (show (v2, v3, v4) = leastPA (washP (pA, pB, pC, pD) l ink) (workB (pA, pB, pC, pD) ink l) l.length from by rw [h1]; exact hv2)))   -- leaf 1
    · exact hQ (.tup [.nil, .int .i64 0, .bool false]) (Eq.trans (by first | rfl | (simp only [lic, licI, lb, lbI, rows_cons, rows_nil, unnilT, unnil, unnilTI, unnilI]; done) | (simp only [lic, licI, lb, lbI, rows_cons, rows_nil, unnilT, unnil, unnilTI, unnilI]; rfl)) (congrArg ((licI 1 cInt)) (show ([], 0, false) = leastPA (washP (pA, pB, pC, pD) l ink) (workB (pA, pB, pC, pD) ink l) l.length from by rw [h1]; rfl))))   -- leaf 2

theorem specLeastDelay_ok (p : Press) (ink : Int) (l : List PressJob)  : OkA Try.prog 46 [.agg (cPress p), .int .i64 ink, .isl 3 (rows cPressJob l)] (· = (licI 1 cInt) (leastPA (delayP p l ink) (workB p ink l) l.length)) := by
  obtain ⟨pA, pB, pC, pD⟩ := p
  try dsimp only at *
  exact OkA.iceI 1 (fn_intro envOk fieldsOk mixed Try.func46 rfl fun κ X Y L Q m hQ => by
    conv => cbv
    refine r_callB m.sX (prBoth_ok (pA, pB, pC, pD) ink l) (fun h1 => ?_) (fun h1 => ?_) <;> conv => cbv
    · obtain ⟨w1, w2, w3⟩ := workB_spec h1
      refine r_draw m (by kernel_rfl) ?_
      conv => cbv
      refine r_callFS (fun l => PV.isl _ (rows _ l)) m.sY ((prTimes_ok (pA, pB, pC, pD) l (by first | rfl | assumption | omega | (simp only [List.length_append, List.length_cons, List.length_nil] at *; omega)) (by first | rfl | assumption | omega | (simp only [List.length_append, List.length_cons, List.length_nil] at *; omega))).ice) trivial fun v1 hv1 => ?_
      conv => cbv
      try dsimp only at hv1
      refine r_callFS (licI 1 cInt) m.sY (prBest_ok (pA, pB, pC, pD) ink l v1 true (by assumption) (by assumption)) (by first | trivial | exact noFr_tup2 trivial trivial | exact noFr_tup3 trivial trivial trivial) fun v hv2 => ?_
      obtain ⟨v2, v3, v4⟩ := v
      conv => cbv
      try dsimp only at hv2
      exact hQ (.tup [.isl 1 (rows cInt v2), .int .i64 v3, .bool v4]) (Eq.trans (by first | rfl | (simp only [lic, licI, lb, lbI, rows_cons, rows_nil, unnilT, unnil, unnilTI, unnilI]; done) | (simp only [lic, licI, lb, lbI, rows_cons, rows_nil, unnilT, unnil, unnilTI, unnilI]; rfl)) (congrArg ((licI 1 cInt)) (show (v2, v3, v4) = leastPA (delayP (pA, pB, pC, pD) l ink) (workB (pA, pB, pC, pD) ink l) l.length from by rw [h1]; exact hv2)))   -- leaf 1
    · exact hQ (.tup [.nil, .int .i64 0, .bool false]) (Eq.trans (by first | rfl | (simp only [lic, licI, lb, lbI, rows_cons, rows_nil, unnilT, unnil, unnilTI, unnilI]; done) | (simp only [lic, licI, lb, lbI, rows_cons, rows_nil, unnilT, unnil, unnilTI, unnilI]; rfl)) (congrArg ((licI 1 cInt)) (show ([], 0, false) = leastPA (delayP (pA, pB, pC, pD) l ink) (workB (pA, pB, pC, pD) ink l) l.length from by rw [h1]; rfl))))   -- leaf 2

theorem pIn_ok (l : List Int) (n : Int)  : OkA Try.prog 48 [.isl 1 (rows cInt l), .int .i64 n] (· = .bool (decide (n ∈ l))) :=
  fn_intro envOk fieldsOk mixed Try.func48 rfl fun κ X Y L Q m hQ => by
    conv => cbv
    refine r_lenR m.sX fun n1 hn1 mn1 => ?_
    conv => cbv
    refine r_loopF (α := Int) m 17 [1, 7, 8, 9] [] (fun σ => [(1, .int .i64 n), (7, .isl 1 (rows cInt l)), (8, .int .i64 n1), (9, .int .i64 σ)]) (fun σ => [])
      (fun σ => (0 ≤ σ) ∧ (σ ≤ n1) ∧ (decide (n ∈ l) = decide (n ∈ l.drop σ.toNat))) (fun σ => (n1 - σ).toNat) 0 ?_ ?_ ?_ ?_
    · cbv
    · cbv
    · exact ⟨(by (try dsimp only); first | omega | (simp only [List.length_nil]; omega) | (simp only [List.length_cons, List.length_nil]; omega)), (by (try dsimp only); first | omega | (simp only [List.length_nil]; omega) | (simp only [List.length_cons, List.length_nil]; omega)), (by (try dsimp only) <;> first | omega | rfl | (simp [*]; done))⟩
    rintro i1 ⟨lo1, hi1, q⟩ E hE F hF
    conv => cbv
    refine r_lss m.sX (fun h1 => ?_) (fun h1 => ?_) <;> conv => cbv
    · refine r_index m.sX (by omega) (by omega) fun x hx => ?_
      conv => cbv
      have mx := get_mem hx
      have dx := drop_cons hx
      have kx := take_snoc hx
      have jx : (i1 + 1).toNat = Int.toNat i1 + 1 := by omega
      have vx := nth_some hx
      refine r_eql m.sX (fun h2 => ?_) (fun h2 => ?_) <;> conv => cbv
      · refine hF _ _ ?_
        conv => cbv
        exact hQ _ (congrArg PV.bool (by rw [q]; simp [*]))   -- leaf 1
      · refine r_addf m.sX (by omega) (by omega) fun r1 hr1 => ?_
        conv => cbv
        try have tr1 : Int.toNat r1 = Int.toNat i1 + 1 := by omega
        refine hE _ r1 ?_ ?_ ⟨(by (try dsimp only); first | omega | (simp only [List.length_nil]; omega) | (simp only [List.length_cons, List.length_nil]; omega)), (by (try dsimp only); first | omega | (simp only [List.length_nil]; omega) | (simp only [List.length_cons, List.length_nil]; omega)), (by (try dsimp only) <;> (rw [q, dx, tr1]; simp [Ne.symm h2]))⟩ (by first | omega | (dsimp only; omega))
        · cbv
        · cbv
    · have dz_i1 := drop_end (xs := l) (i := Int.toNat i1) (by omega)
      have tz_i1 := take_end (xs := l) (i := Int.toNat i1) (by omega)
      refine hF _ _ ?_
      conv => cbv
      exact hQ _ (congrArg PV.bool (by rw [q]; simp [*]))   -- leaf 2

noncomputable abbrev midPressOrders (more : List Int) : List (Nat × PV) := [(1, .isl 1 (rows cU8 more))]

section
variable {κ : Ctx} {X Y : Req → (PV → Prop) → Prop} {L : Code → (Ex → St → Prop) → St → Prop} {Q : PV → Prop}

theorem pressOrders_part1 (m : Mach Try.prog G κ X Y L) (hQ : ∀ r, r = PV.bool true → Q r) (code more : List Int) (hf : ∀ x ∈ code, 0 ≤ x ∧ x ≤ 255) (hg : ∀ x ∈ more, 0 ≤ x ∧ x ≤ 255) :
    Ai.code X L G (Try.f5.body.getD .skip) (EndsIn (post G Try.f5.results.toList Q)) (start 354 [.isl 1 (rows cU8 code), .isl 1 (rows cU8 more)] []) := by
  conv => cbv
  refine r_callB m.sX (big_ok code more) (fun h1 => ?_) (fun h1 => ?_) <;> conv => cbv
  · exact hQ _ (congrArg PV.bool (by first | rfl | omega | (simp [*]; done) | (subst_vars; simp [*]; done)))   -- leaf 1
  · rw [Bool.or_eq_false_iff, decide_eq_false_iff_not, decide_eq_false_iff_not] at h1
    have h : CurIn code := ⟨by omega, hf⟩
    have hmr : (more.length : Int) ≤ 9223372036854775807 := by omega
    refine r_callE m.sX ((drawPressEnds_ok code h).iceE) ?_
    rintro _ ⟨_, ⟨⟨pA, pB, pC, pD⟩, ink, l, order, rfl, bp_1, bp_2⟩, rfl⟩
    conv => cbv
    refine r_callF (lbI 1 cInt) m.sX ((PressEnds_ok (pA, pB, pC, pD) ink l order).ice) fun v he => ?_
    obtain ⟨e, ok⟩ := v
    conv => cbv
    try dsimp only at he
    have F1 := endsPA_both he
    try dsimp only at F1
    refine r_callF (lbI 1 cInt) m.sX ((specPressEnds_ok (pA, pB, pC, pD) ink l order).ice) fun y1 hy1 => ?_
    obtain rfl := he.trans hy1.symm
    clear hy1
    conv => cbv
    refine r_callF ib m.sX (WashingIn_ok (pA, pB, pC, pD) ink l order) fun v hw => ?_
    obtain ⟨w, one⟩ := v
    conv => cbv
    try dsimp only at hw
    have F2 := washPA_both hw
    try dsimp only at F2
    refine r_callF ib m.sX (specWashingIn_ok (pA, pB, pC, pD) ink l order) fun y2 hy2 => ?_
    obtain rfl := hw.trans hy2.symm
    clear hy2
    conv => cbv
    refine r_callF (lbI 1 cInt) m.sX ((LateJobs_ok (pA, pB, pC, pD) ink l order).ice) fun v ha => ?_
    obtain ⟨a, three⟩ := v
    conv => cbv
    try dsimp only at ha
    have F3 := latePA_both ha
    try dsimp only at F3
    refine r_callF (lbI 1 cInt) m.sX ((specLateJobs_ok (pA, pB, pC, pD) ink l order).ice) fun y3 hy3 => ?_
    obtain rfl := ha.trans hy3.symm
    clear hy3
    conv => cbv
    refine r_callF ib m.sX (GreatestDelay_ok (pA, pB, pC, pD) ink l order) fun v hd => ?_
    obtain ⟨d, five⟩ := v
    conv => cbv
    try dsimp only at hd
    have F4 := delayPA_both hd
    try dsimp only at F4
    refine r_callF ib m.sX (specGreatestDelay_ok (pA, pB, pC, pD) ink l order) fun y4 hy4 => ?_
    obtain rfl := hd.trans hy4.symm
    clear hy4
    conv => cbv
    rcases Bool.eq_false_or_eq_true ok with rfl | rfl <;> conv => cbv
    · have ask : pAskB (pA, pB, pC, pD) ink l order = true := F1.1.symm
      obtain ⟨g1, g2, g3⟩ := pAskB_spec ask
      obtain ⟨w1, w2, w3⟩ := workB_spec g1
      refine r_callBT m.sX (sameInts_ok e e) (by first | assumption | exact decide_eq_true rfl | (simp [*]; done) | omega) ?_   -- h2
      conv => cbv
      obtain rfl : one = true := by exact F2.1.trans F1.1.symm
      conv => cbv
      refine r_neqF m.sX (by first | omega | rfl) ?_
      conv => cbv
      obtain rfl : three = true := by exact F3.1.trans F1.1.symm
      conv => cbv
      refine r_callBT m.sX (sameInts_ok a a) (by first | assumption | exact decide_eq_true rfl | (simp [*]; done) | omega) ?_   -- h4
      conv => cbv
      obtain rfl : five = true := by exact F4.1.trans F1.1.symm
      conv => cbv
      refine r_neqF m.sX (by first | omega | rfl) ?_
      conv => cbv
      refine r_callF (licI 1 cInt) m.sX ((LeastWashing_ok (pA, pB, pC, pD) ink l).ice) fun v hb => ?_
      obtain ⟨b, n, seven⟩ := v
      conv => cbv
      try dsimp only at hb
      have F5 := leastPA_both hb
      try dsimp only at F5
      refine r_callF (licI 1 cInt) m.sX (specLeastWashing_ok (pA, pB, pC, pD) ink l) fun y5 hy5 => ?_
      obtain rfl := hb.trans hy5.symm
      clear hy5
      conv => cbv
      refine r_callF (licI 1 cInt) m.sX ((LeastDelay_ok (pA, pB, pC, pD) ink l).ice) fun v hc => ?_
      obtain ⟨c, m_, nine⟩ := v
      conv => cbv
      try dsimp only at hc
      have F6 := leastPA_both hc
      try dsimp only at F6
      refine r_callF (licI 1 cInt) m.sX (specLeastDelay_ok (pA, pB, pC, pD) ink l) fun y6 hy6 => ?_
      obtain rfl := hc.trans hy6.symm
      clear hy6
      conv => cbv
      obtain rfl : seven = true := by exact F5.trans g1
      conv => cbv
      refine r_callBT m.sX (sameInts_ok b b) (by first | assumption | exact decide_eq_true rfl | (simp [*]; done) | omega) ?_   -- h6
      conv => cbv
      refine r_neqF m.sX (by first | omega | rfl) ?_
      conv => cbv
      obtain rfl : nine = true := by exact F6.trans g1
      conv => cbv
      refine r_callBT m.sX (sameInts_ok c c) (by first | assumption | exact decide_eq_true rfl | (simp [*]; done) | omega) ?_   -- h8
      conv => cbv
      refine r_neqF m.sX (by first | omega | rfl) ?_
      conv => cbv
      refine r_lenR m.sX fun n1 hn1 mn1 => ?_
      conv => cbv
      have ev := F1.2 rfl
      try dsimp only at ev
      have wv := F2.2 rfl
      try dsimp only at wv
      have av := F3.2 rfl
      try dsimp only at av
      have dv := F4.2 rfl
      try dsimp only at dv
      have elen : e.length = order.length := by rw [ev, endsP_length]
      have ol := diff_len _ _ (fineB_diff.1 g3)
      try dsimp only at ol
      have ll := okJobs_len7 w3
      try dsimp only at ll
      obtain ⟨b1, b2, b3, b4⟩ := leastPA_spec (wash_cost l ink w1) g1 hb
      obtain ⟨c1, c2, c3, c4⟩ := leastPA_spec (delay_cost (pA, pB, pC, pD) l ink) g1 hc
      refine r_loopF (α := Int × Int) m 354 [6, 7, 11, 15, 19, 23, 25, 27, 29, 31, 35, 37, 250, 251, 252] [⟨5, 41, 0, 0, 0⟩] (fun σ => [(5, .optr 41 0 4 0 0), (6, .int .i64 ink), (7, .isl 3 (rows cPressJob l)), (11, .isl 1 (rows cInt e)), (15, .int .i64 w), (19, .isl 1 (rows cInt a)), (23, .int .i64 d), (25, .isl 1 (rows cInt b)), (27, .bool true), (29, .int .i64 n), (31, .isl 1 (rows cInt c)), (35, .int .i64 m_), (37, .int .i64 σ.1), (250, .isl 1 (rows cInt order)), (251, .int .i64 n1), (252, .int .i64 σ.2)]) (fun σ => [(41, 0, .box [.int .i64 pA, .int .i64 pB, .int .i64 pC, .isl 1 (rows cInt pD)])])
        (fun σ => (0 ≤ σ.2) ∧ (σ.2 ≤ n1) ∧ (EndsQ (pA, pB, pC, pD) l order e σ.2.toNat σ.1) ∧ (0 ≤ σ.1 ∧ σ.1 ≤ 28000000)) (fun σ => (n1 - σ.2).toNat) (0, 0) ?_ ?_ ?_ ?_
      · cbv
      · cbv
      · exact ⟨(by (try dsimp only); first | omega | (simp only [List.length_nil]; omega) | (simp only [List.length_cons, List.length_nil]; omega)), (by (try dsimp only); first | omega | (simp only [List.length_nil]; omega) | (simp only [List.length_cons, List.length_nil]; omega)), (by (try dsimp only) <;> (exact EndsQ.zero ev)), (by (try dsimp only) <;> first | omega | rfl | (simp [*]; done))⟩
      rintro ⟨time, i1⟩ ⟨lo1, hi1, es, tb⟩ E hE F hF
      dsimp only at lo1 hi1 es tb
      conv => cbv
      refine r_lss m.sX (fun h10 => ?_) (fun h10 => ?_) <;> conv => cbv
      · refine r_index m.sX (by omega) (by omega) fun i hi => ?_
        conv => cbv
        have mi := get_mem hi
        have di := drop_cons hi
        have ki := take_snoc hi
        have ji : (i1 + 1).toNat = Int.toNat i1 + 1 := by omega
        have vi := nth_some hi
        have bi := (fineB_iff.1 g3).2 i mi
        try dsimp only at bi
        refine r_draw m (by kernel_rfl) ?_
        conv => cbv
        refine r_index m.sY (by omega) (by omega) fun v hx1A => ?_
        obtain ⟨x1A, x1B, x1C⟩ := v
        conv => cbv
        have hx1 := hx1A
        have mx1 := get_mem hx1
        have xk := okJobs_mem w3 _ mx1
        try dsimp only at xk
        have xm := mins_bound w1 xk
        try dsimp only at xm
        obtain ⟨q3, hq3, hle, hes⟩ := EndsQ.next w1 es hi hx1
        refine r_callFS ib m.sY (JobMinutes_ok (pA, pB, pC, pD) (x1A, x1B, x1C)) (by first | trivial | exact noFr_tup2 trivial trivial | exact noFr_tup3 trivial trivial trivial) fun v hminutes => ?_
        obtain ⟨minutes, eleven⟩ := v
        conv => cbv
        try dsimp only at hminutes
        obtain ⟨mv, mv2⟩ := min_true w1 xk hminutes
        refine r_draw m (by kernel_rfl) ?_
        conv => cbv
        obtain rfl : eleven = true := by first | assumption | (simp [*]; done) | omega
        conv => cbv
        refine r_index m.sY (by omega) (by omega) fun x2 hx2 => ?_
        conv => cbv
        have mx2 := get_mem hx2
        have dx2 := drop_cons hx2
        have kx2 := take_snoc hx2
        have jx2 : (i1 + 1).toNat = Int.toNat i1 + 1 := by omega
        have vx2 := nth_some hx2
        have e4 : q3 = x2 := Option.some.inj (hq3.symm.trans hx2)
        rw [e4] at hle hes
        have eb := endsP_bound w1 w3 order ink 0 (fineB_iff.1 g3).2 x2 (by rw [← ev]; exact get_mem hx2)
        try dsimp only at eb
        have lm2 := late_in av (fineB_iff.1 g3).1 hi (by rw [← ev]; exact hx2)
        try dsimp only at lm2
        rw [jobAt_some hx1] at lm2
        refine r_addf m.sY (by omega) (by omega) fun r1 hr1 => ?_
        conv => cbv
        refine r_lssF m.sY (by first | omega | rfl) ?_
        conv => cbv
        refine r_callBS m.sY (pIn_ok a i) (fun h12 => ?_) (fun h12 => ?_) <;> conv => cbv
        · have lt := lm2.1 (of_decide_eq_true h12)
          try dsimp only at lt
          refine r_index m.sY (by omega) (by omega) fun x3 hx3 => ?_
          conv => cbv
          have mx3 := get_mem hx3
          have dx3 := drop_cons hx3
          have kx3 := take_snoc hx3
          have jx3 : (i1 + 1).toNat = Int.toNat i1 + 1 := by omega
          have vx3 := nth_some hx3
          obtain rfl : x2 = x3 := Option.some.inj (hx2.symm.trans hx3)
          refine r_index m.sY (by omega) (by omega) fun v hx4A => ?_
          obtain ⟨x4A, x4B, x4C⟩ := v
          conv => cbv
          have hx4 := hx4A
          have mx4 := get_mem hx4
          obtain ⟨rfl, rfl, rfl⟩ : x1A = x4A ∧ x1B = x4B ∧ x1C = x4C := by have := Option.some.inj (hx1.symm.trans hx4); simpa using this
          refine r_gtrT m.sY (by first | omega | rfl) ?_
          conv => cbv
          refine r_index m.sX (by omega) (by omega) fun time_2 htime_2 => ?_
          conv => cbv
          have mtime_2 := get_mem htime_2
          have dtime_2 := drop_cons htime_2
          have ktime_2 := take_snoc htime_2
          have jtime_2 : (i1 + 1).toNat = Int.toNat i1 + 1 := by omega
          have vtime_2 := nth_some htime_2
          obtain rfl : x2 = time_2 := Option.some.inj (hx2.symm.trans htime_2)
          refine r_addf m.sX (by omega) (by omega) fun r2 hr2 => ?_
          conv => cbv
          try have tr2 : Int.toNat r2 = Int.toNat i1 + 1 := by omega
          refine hE _ (x2, r2) ?_ ?_ ⟨(by (try dsimp only); first | omega | (simp only [List.length_nil]; omega) | (simp only [List.length_cons, List.length_nil]; omega)), (by (try dsimp only); first | omega | (simp only [List.length_nil]; omega) | (simp only [List.length_cons, List.length_nil]; omega)), (by (try dsimp only) <;> (rw [tr2]; exact hes)), (by (try dsimp only) <;> first | omega | rfl | (simp [*]; done) | (rw [tb]; simp [*]; done))⟩ (by first | omega | (dsimp only; omega))
          · cbv
          · cbv
        · have lt : ¬ (x1C < x2) := fun e => of_decide_eq_false h12 (lm2.2 e)
          refine r_index m.sY (by omega) (by omega) fun x5 hx5 => ?_
          conv => cbv
          have mx5 := get_mem hx5
          have dx5 := drop_cons hx5
          have kx5 := take_snoc hx5
          have jx5 : (i1 + 1).toNat = Int.toNat i1 + 1 := by omega
          have vx5 := nth_some hx5
          obtain rfl : x2 = x5 := Option.some.inj (hx2.symm.trans hx5)
          refine r_index m.sY (by omega) (by omega) fun v hx6A => ?_
          obtain ⟨x6A, x6B, x6C⟩ := v
          conv => cbv
          have hx6 := hx6A
          have mx6 := get_mem hx6
          obtain ⟨rfl, rfl, rfl⟩ : x1A = x6A ∧ x1B = x6B ∧ x1C = x6C := by have := Option.some.inj (hx1.symm.trans hx6); simpa using this
          refine r_gtrF m.sY (by first | omega | rfl) ?_
          conv => cbv
          refine r_index m.sX (by omega) (by omega) fun time_3 htime_3 => ?_
          conv => cbv
          have mtime_3 := get_mem htime_3
          have dtime_3 := drop_cons htime_3
          have ktime_3 := take_snoc htime_3
          have jtime_3 : (i1 + 1).toNat = Int.toNat i1 + 1 := by omega
          have vtime_3 := nth_some htime_3
          obtain rfl : x2 = time_3 := Option.some.inj (hx2.symm.trans htime_3)
          refine r_addf m.sX (by omega) (by omega) fun r3 hr3 => ?_
          conv => cbv
          try have tr3 : Int.toNat r3 = Int.toNat i1 + 1 := by omega
          refine hE _ (x2, r3) ?_ ?_ ⟨(by (try dsimp only); first | omega | (simp only [List.length_nil]; omega) | (simp only [List.length_cons, List.length_nil]; omega)), (by (try dsimp only); first | omega | (simp only [List.length_nil]; omega) | (simp only [List.length_cons, List.length_nil]; omega)), (by (try dsimp only) <;> (rw [tr3]; exact hes)), (by (try dsimp only) <;> first | omega | rfl | (simp [*]; done) | (rw [tb]; simp [*]; done))⟩ (by first | omega | (dsimp only; omega))
          · cbv
          · cbv
      · have m1 := b4 order (fineB_diff.1 g3) g2
        try dsimp only at m1
        rw [← wv] at m1
        have m2 := c4 order (fineB_diff.1 g3) g2
        try dsimp only at m2
        rw [← dv] at m2
        have la := late_sorted av
        try dsimp only at la
        rw [← dv] at la
        have dz_i1 := drop_end (xs := order) (i := Int.toNat i1) (by omega)
        have tz_i1 := take_end (xs := order) (i := Int.toNat i1) (by omega)
        refine hF _ _ ?_
        conv => cbv
        refine r_lssF m.sX (by first | omega | rfl) ?_
        conv => cbv
        refine r_lssF m.sX (by first | omega | rfl) ?_
        conv => cbv
        refine r_gtr m.sX (fun h17 => ?_) (fun h17 => ?_) <;> conv => cbv
        · refine r_lenR m.sX fun n2 hn2 mn2 => ?_
          conv => cbv
          refine r_gtrT m.sX (by first | omega | rfl) ?_
          conv => cbv
          refine r_callF ib m.sX (WashingIn_ok (pA, pB, pC, pD) ink l b) fun v hown => ?_
          obtain ⟨own, eleven_2⟩ := v
          conv => cbv
          try dsimp only at hown
          obtain ⟨o1, o2⟩ := washPA_true g1 b2 b1 hown
          refine r_callF ib m.sX (GreatestDelay_ok (pA, pB, pC, pD) ink l c) fun v hgreatest => ?_
          obtain ⟨greatest, twelve⟩ := v
          conv => cbv
          try dsimp only at hgreatest
          obtain ⟨o3, o4⟩ := delayPA_true g1 c2 c1 hgreatest
          obtain rfl : eleven_2 = true := by first | assumption | (simp [*]; done) | omega
          conv => cbv
          refine r_eqlT m.sX (by first | omega | rfl) ?_
          conv => cbv
          obtain rfl : twelve = true := by first | assumption | (simp [*]; done) | omega
          conv => cbv
          refine r_eqlT m.sX (by first | omega | rfl) ?_
          conv => cbv
          refine r_callBT m.sX (IsPress_ok (pA, pB, pC, pD)) (by first | assumption | exact decide_eq_true rfl | (simp [*]; done) | omega) ?_   -- h21
          conv => cbv
          refine r_callBT m.sX (ArePressJobs_ok l) (by first | assumption | exact decide_eq_true rfl | (simp [*]; done) | omega) ?_   -- h22
          conv => cbv
          exact hQ _ (congrArg PV.bool (by first | rfl | omega | (simp [*]; done) | (subst_vars; simp [*]; done) | (rw [es]; simp [*]; done) | (rw [tb]; simp [*]; done)))   -- leaf 2
        · refine r_lenR m.sX fun n3 hn3 mn3 => ?_
          conv => cbv
          refine r_gtrF m.sX (by first | omega | rfl) ?_
          conv => cbv
          refine r_callF ib m.sX (WashingIn_ok (pA, pB, pC, pD) ink l b) fun v hown_2 => ?_
          obtain ⟨own_2, eleven_3⟩ := v
          conv => cbv
          try dsimp only at hown_2
          obtain ⟨o1, o2⟩ := washPA_true g1 b2 b1 hown_2
          refine r_callF ib m.sX (GreatestDelay_ok (pA, pB, pC, pD) ink l c) fun v hgreatest_2 => ?_
          obtain ⟨greatest_2, twelve_2⟩ := v
          conv => cbv
          try dsimp only at hgreatest_2
          obtain ⟨o3, o4⟩ := delayPA_true g1 c2 c1 hgreatest_2
          obtain rfl : eleven_3 = true := by first | assumption | (simp [*]; done) | omega
          conv => cbv
          refine r_eqlT m.sX (by first | omega | rfl) ?_
          conv => cbv
          obtain rfl : twelve_2 = true := by first | assumption | (simp [*]; done) | omega
          conv => cbv
          refine r_eqlT m.sX (by first | omega | rfl) ?_
          conv => cbv
          refine r_callBT m.sX (IsPress_ok (pA, pB, pC, pD)) (by first | assumption | exact decide_eq_true rfl | (simp [*]; done) | omega) ?_   -- h26
          conv => cbv
          refine r_callBT m.sX (ArePressJobs_ok l) (by first | assumption | exact decide_eq_true rfl | (simp [*]; done) | omega) ?_   -- h27
          conv => cbv
          exact hQ _ (congrArg PV.bool (by first | rfl | omega | (simp [*]; done) | (subst_vars; simp [*]; done) | (rw [es]; simp [*]; done) | (rw [tb]; simp [*]; done)))   -- leaf 3
    · refine r_callBT m.sX (sameInts_ok e e) (by first | assumption | exact decide_eq_true rfl | (simp [*]; done) | omega) ?_   -- h28
      conv => cbv
      obtain rfl : one = false := by exact F2.1.trans F1.1.symm
      conv => cbv
      refine r_neqF m.sX (by first | omega | rfl) ?_
      conv => cbv
      obtain rfl : three = false := by exact F3.1.trans F1.1.symm
      conv => cbv
      refine r_callBT m.sX (sameInts_ok a a) (by first | assumption | exact decide_eq_true rfl | (simp [*]; done) | omega) ?_   -- h30
      conv => cbv
      obtain rfl : five = false := by exact F4.1.trans F1.1.symm
      conv => cbv
      refine r_neqF m.sX (by first | omega | rfl) ?_
      conv => cbv
      refine r_callF (licI 1 cInt) m.sX ((LeastWashing_ok (pA, pB, pC, pD) ink l).ice) fun v hb_2 => ?_
      obtain ⟨b_2, n_2, seven_2⟩ := v
      conv => cbv
      try dsimp only at hb_2
      have F5 := leastPA_both hb_2
      try dsimp only at F5
      refine r_callF (licI 1 cInt) m.sX (specLeastWashing_ok (pA, pB, pC, pD) ink l) fun y7 hy7 => ?_
      obtain rfl := hb_2.trans hy7.symm
      clear hy7
      conv => cbv
      refine r_callF (licI 1 cInt) m.sX ((LeastDelay_ok (pA, pB, pC, pD) ink l).ice) fun v hc_2 => ?_
      obtain ⟨c_2, m__2, nine_2⟩ := v
      conv => cbv
      try dsimp only at hc_2
      have F6 := leastPA_both hc_2
      try dsimp only at F6
      refine r_callF (licI 1 cInt) m.sX (specLeastDelay_ok (pA, pB, pC, pD) ink l) fun y8 hy8 => ?_
      obtain rfl := hc_2.trans hy8.symm
      clear hy8
      conv => cbv
      rcases Bool.eq_false_or_eq_true seven_2 with rfl | rfl <;> conv => cbv
      · refine r_callBT m.sX (sameInts_ok b_2 b_2) (by first | assumption | exact decide_eq_true rfl | (simp [*]; done) | omega) ?_   -- h32
        conv => cbv
        refine r_neqF m.sX (by first | omega | rfl) ?_
        conv => cbv
        obtain rfl : nine_2 = true := by exact F6.trans F5.symm
        conv => cbv
        refine r_callBT m.sX (sameInts_ok c_2 c_2) (by first | assumption | exact decide_eq_true rfl | (simp [*]; done) | omega) ?_   -- h34
        conv => cbv
        refine r_neqF m.sX (by first | omega | rfl) ?_
        conv => cbv
        refine r_callF ib m.sX (WashingIn_ok (pA, pB, pC, pD) ink l b_2) fun v hown_3 => ?_
        obtain ⟨own_3, eleven_4⟩ := v
        conv => cbv
        try dsimp only at hown_3
        have g1 : workB (pA, pB, pC, pD) ink l = true := F5.symm
        obtain ⟨w1, w2, w3⟩ := workB_spec g1
        obtain ⟨b1, b2, b3, b4⟩ := leastPA_spec (wash_cost l ink w1) g1 hb_2
        obtain ⟨c1, c2, c3, c4⟩ := leastPA_spec (delay_cost (pA, pB, pC, pD) l ink) g1 hc_2
        obtain ⟨o1, o2⟩ := washPA_true g1 b2 b1 hown_3
        refine r_callF ib m.sX (GreatestDelay_ok (pA, pB, pC, pD) ink l c_2) fun v hgreatest_3 => ?_
        obtain ⟨greatest_3, twelve_3⟩ := v
        conv => cbv
        try dsimp only at hgreatest_3
        obtain ⟨o3, o4⟩ := delayPA_true g1 c2 c1 hgreatest_3
        obtain rfl : eleven_4 = true := by first | assumption | (simp [*]; done) | omega
        conv => cbv
        refine r_eqlT m.sX (by first | omega | rfl) ?_
        conv => cbv
        obtain rfl : twelve_3 = true := by first | assumption | (simp [*]; done) | omega
        conv => cbv
        refine r_eqlT m.sX (by first | omega | rfl) ?_
        conv => cbv
        refine r_callBT m.sX (IsPress_ok (pA, pB, pC, pD)) (by first | assumption | exact decide_eq_true rfl | (simp [*]; done) | omega) ?_   -- h38
        conv => cbv
        refine r_callBT m.sX (ArePressJobs_ok l) (by first | assumption | exact decide_eq_true rfl | (simp [*]; done) | omega) ?_   -- h39
        conv => cbv
        exact hQ _ (congrArg PV.bool (by first | rfl | omega | (simp [*]; done) | (subst_vars; simp [*]; done)))   -- leaf 4
      · refine r_callBT m.sX (sameInts_ok b_2 b_2) (by first | assumption | exact decide_eq_true rfl | (simp [*]; done) | omega) ?_   -- h40
        conv => cbv
        refine r_neqF m.sX (by first | omega | rfl) ?_
        conv => cbv
        obtain rfl : nine_2 = false := by exact F6.trans F5.symm
        conv => cbv
        refine r_callBT m.sX (sameInts_ok c_2 c_2) (by first | assumption | exact decide_eq_true rfl | (simp [*]; done) | omega) ?_   -- h42
        conv => cbv
        refine r_neqF m.sX (by first | omega | rfl) ?_
        conv => cbv
        exact hQ _ (congrArg PV.bool (by first | rfl | omega | (simp [*]; done) | (subst_vars; simp [*]; done)))   -- leaf 5

end

theorem lawPressOrders_ok (code more : List Int) (hf : ∀ x ∈ code, 0 ≤ x ∧ x ≤ 255) (hg : ∀ x ∈ more, 0 ≤ x ∧ x ≤ 255) : OkA Try.prog 5 [.isl 1 (rows cU8 code), .isl 1 (rows cU8 more)] (· = .bool true) :=
  fn_introW envOk fieldsOk mixed Try.func5 rfl (c := Try.f5.body.getD .skip) rfl fun κ X Y L Q m hQ =>
    W_last m (pressOrders_part1 m hQ code more hf hg)

end Go.Proofs.Ytjmjepdlclehoaa.Ai
