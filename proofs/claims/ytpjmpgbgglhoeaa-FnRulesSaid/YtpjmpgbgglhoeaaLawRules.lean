/- The law FnRules: its body returns true. -/
import Derived.Test.YtpjmpgbgglhoeaaRuleDraw
import Derived.Test.YtpjmpgbgglhoeaaAiCut
namespace Go.Proofs.Ytpjmpgbgglhoeaa.Ai
open Go Go.Proofs
set_option maxRecDepth 10000
set_option maxHeartbeats 4000000
set_option linter.unusedVariables false

theorem rule_ok {l : List Slip} {n : Int} {r : List Int} {b : Bool} (h : (r, b) = ruleA l n) : (okSt l && (inB n 1 400 && decide (0 ≤ fewC l.reverse n))) = b := by
  unfold ruleA at h
  split at h <;> simp_all
theorem rule_val {l : List Slip} {n : Int} {r : List Int} (h : (r, true) = ruleA l n) : r = (cntC l.reverse n).reverse := by
  have e := rule_ok h
  rw [ruleA, if_pos e] at h
  exact (Prod.mk.inj h).1
theorem pieces_ok {l : List Slip} {c : List Int} {p n : Int} {b : Bool} (h : (p, n, b) = piecesA l c) : okCn l c = b := by
  unfold piecesA at h
  split at h <;> simp_all
theorem pieces_val {l : List Slip} {c : List Int} {p n : Int} (h : (p, n, true) = piecesA l c) : p = c.sum ∧ n = dot c (l.map Prod.fst) := by
  have e := pieces_ok h
  rw [piecesA, if_pos e] at h
  simp only [Prod.mk.injEq] at h
  exact ⟨h.1, h.2.1⟩
theorem restA_ok {l q : List Slip} {c : List Int} {b : Bool} (h : (q, b) = restA l c) : okCn l c = b := by
  unfold restA at h
  split at h <;> simp_all
theorem restA_val {l q : List Slip} {c : List Int} (h : (q, true) = restA l c) : q = restL l c := by
  have e := restA_ok h
  rw [restA, if_pos e] at h
  exact (Prod.mk.inj h).1
theorem stockA_ok {l : List Slip} {n : Int} {b : Bool} (h : (n, b) = stockA l) : okSt l = b := by
  unfold stockA at h
  split at h <;> simp_all
theorem stockA_val {l : List Slip} {n : Int} (h : (n, true) = stockA l) : n = lenS l := by
  have e := stockA_ok h
  rw [stockA, if_pos e] at h
  exact (Prod.mk.inj h).1
theorem lenS_bound : ∀ {l : List Slip}, (∀ x ∈ l, (1 ≤ x.1 ∧ x.1 ≤ 200) ∧ (0 ≤ x.2 ∧ x.2 ≤ 20)) → 0 ≤ lenS l ∧ lenS l ≤ 4000 * l.length
  | [], _ => by simp [lenS]
  | x :: r, h => by
    have h1 := lenS_bound (l := r) fun y hy => h y (by simp [hy])
    have h2 := h x (by simp)
    have g := mul_bound (show 0 ≤ x.1 by omega) h2.1.2 h2.2.1 h2.2.2
    simp only [lenS, List.map_cons, List.sum_cons, List.length_cons] at h1 ⊢
    omega
theorem rule_cn {l : List Slip} {n : Int} (hs : okSt l = true) (h : 0 ≤ fewC l.reverse n) : okCn l (cntC l.reverse n).reverse = true := by
  have lk : ∀ p ∈ l.reverse, 1 ≤ p.1 := fun p hp => ((okSt_spec hs).1 p (List.mem_reverse.1 hp)).1.1
  have e : (cntC l.reverse n).length = l.length := by rw [cntC_length, List.length_reverse]
  rw [okCn, hs, decide_eq_true (by rw [List.length_reverse, e]), Bool.true_and, Bool.true_and]
  refine cnG_of fun i m x hm hx => ?_
  have hi := (List.getElem?_eq_some_iff.1 hx).1
  rw [List.getElem?_reverse (by omega)] at hm
  have hx' : l.reverse[(cntC l.reverse n).length - 1 - i]? = some x := by
    rw [List.getElem?_reverse (by omega), ← hx]
    congr 1; omega
  exact cntC_stock lk h _ m x hm hx'
theorem rule_dot {l : List Slip} {n : Int} (hs : okSt l = true) (h : 0 ≤ fewC l.reverse n) : dot (cntC l.reverse n).reverse (l.map Prod.fst) = n := by
  have lk : ∀ p ∈ l.reverse, 1 ≤ p.1 := fun p hp => ((okSt_spec hs).1 p (List.mem_reverse.1 hp)).1.1
  have e := cntC_dot lk h
  have := dot_reverse (a := cntC l.reverse n) (b := l.reverse.map Prod.fst) (by rw [cntC_length, List.length_map])
  rw [e, List.map_reverse, List.reverse_reverse] at this
  exact this
theorem restL_ok {l : List Slip} {c : List Int} (h : okCn l c = true) : okSt (restL l c) = true := by
  simp only [okCn, Bool.and_eq_true] at h
  have hs := h.1
  simp only [okSt, Bool.and_eq_true] at hs ⊢
  exact ⟨restL_slG hs.1 h.2.2, by rw [restL_length]; exact hs.2⟩
theorem miss_ok' {l : List Slip} {n m : Int} (h : (m, true) = missA l n) : okSt l = true ∧ (1 ≤ n ∧ n ≤ 400) ∧ 0 ≤ m ∧ n + m ≤ 400 ∧ canR l (n + m) = true ∧ ∀ j, n ≤ j → j < n + m → canR l j = false := by
  unfold missA at h
  split at h
  · rename_i e
    rw [Bool.and_eq_true] at e
    have b := inB_spec e.2
    split at h
    · cases h
    · rename_i k hk
      obtain ⟨a1, a2, a3, a4⟩ := firstUp_some hk
      obtain rfl := (Prod.mk.inj h).1
      rw [show n + (k - n) = k by omega]
      exact ⟨e.1, b, by omega, by omega, a3, a4⟩
  · cases h
theorem upto_ok {l : List Slip} {n : Int} {a : List Int} {b : Bool} (h : (a, b) = uptoA l n) : (okSt l && inB n 0 400) = b := by
  unfold uptoA at h
  split at h <;> simp_all
theorem upto_val {l : List Slip} {n : Int} {a : List Int} {b : Bool} (h : (a, b) = uptoA l n) : ∀ x ∈ a, okSt l = true ∧ 1 ≤ x ∧ x ≤ 400 ∧ canR l x = true := by
  intro x hx
  unfold uptoA at h
  split at h
  · rename_i e
    rw [Bool.and_eq_true] at e
    have b := inB_spec e.2
    rw [(Prod.mk.inj h).1] at hx
    obtain ⟨c1, c2, c3⟩ := filtR_mem hx
    exact ⟨e.1, c1, by omega, c3⟩
  · rw [(Prod.mk.inj h).1] at hx; cases hx
theorem upto_last {l : List Slip} {w m r : Int} {a : List Int} {b : Bool} (h : (a, b) = uptoA l r) (hr : r = w + m) (h1 : okSt l = true) (h2 : 1 ≤ w ∧ w ≤ 400) (h3 : 0 ≤ m) (h4 : w + m ≤ 400) (h5 : canR l (w + m) = true) (h6 : ∀ j, w ≤ j → j < w + m → canR l j = false) :
    a = filtR (canR l) (w - 1).toNat 1 ++ [w + m] := by
  subst hr
  rw [uptoA, h1, show inB (w + m) 0 400 = true by simp [inB]; omega] at h
  rw [(Prod.mk.inj h).1]
  exact filtR_last h2.1 (by omega) h5 h6

noncomputable abbrev midRules (more : List Int) : List (Nat × PV) := [(1, .isl 1 (rows cU8 more))]

section
variable {κ : Ctx} {X Y : Req → (PV → Prop) → Prop} {L : Code → (Ex → St → Prop) → St → Prop} {Q : PV → Prop}

theorem rules_part1 (m : Mach Try.prog G κ X Y L) (hQ : ∀ r, r = PV.bool true → Q r) (code more : List Int) (hf : ∀ x ∈ code, 0 ≤ x ∧ x ≤ 255) (E0 : St → Prop)
    (hE0 : ∀ (s' : St) (a : Unit), headOk s' [] = true → Ai.norm [1] [] s' = St.at 280 (midRules more) [] → (more.length : Int) ≤ 9223372036854775807 → E0 s') :
    Ai.code X L G (front 7 (Try.f9.body.getD .skip)) (fun e s' => match e with | .normal => E0 s' | .exit i => EndsIn (post G Try.f9.results.toList Q) (.exit i) s' | .ret => EndsIn (post G Try.f9.results.toList Q) .ret s') (start 280 [.isl 1 (rows cU8 code), .isl 1 (rows cU8 more)] []) := by
  conv => cbv
  refine r_callB m.sX (big_ok code more) (fun h1 => ?_) (fun h1 => ?_) <;> conv => cbv
  · exact hQ _ (congrArg PV.bool (by first | rfl | omega | (simp [*]; done) | (subst_vars; simp [*]; done)))   -- leaf 1
  · rw [Bool.or_eq_false_iff, decide_eq_false_iff_not, decide_eq_false_iff_not] at h1
    have h : CurIn code := ⟨by omega, hf⟩
    have hmr : (more.length : Int) ≤ 9223372036854775807 := by omega
    refine r_callE m.sX ((drawRuleOf_ok code h).iceE) ?_
    rintro _ ⟨_, ⟨l, length, rfl, bl_1⟩, rfl⟩
    conv => cbv
    refine r_callF (lbI 1 cInt) m.sX ((RuleOf_ok l length).ice) fun v hr => ?_
    obtain ⟨r, ok⟩ := v
    conv => cbv
    have o1 := rule_ok hr
    refine r_callF (lbI 1 cInt) m.sX ((specRuleOf_ok l length).ice) fun y1 hy1 => ?_
    obtain rfl := hr.trans hy1.symm
    clear hy1
    conv => cbv
    rcases Bool.eq_false_or_eq_true ok with rfl | rfl <;> conv => cbv
    · have p1 : okSt l = true ∧ (1 ≤ length ∧ length ≤ 400) ∧ 0 ≤ fewC l.reverse length := by simp only [Bool.and_eq_true, decide_eq_true_eq] at o1; exact ⟨o1.1, inB_spec o1.2.1, o1.2.2⟩
      have rv := rule_val hr
      have cn := rule_cn p1.1 p1.2.2
      rw [← rv] at cn
      have dt := rule_dot p1.1 p1.2.2
      rw [← rv] at dt
      have oc := okCn_spec cn
      have lc : r.length = l.length := by have := oc.eq; omega
      refine r_callBT m.sX (sameInts_ok r r) (by first | assumption | exact decide_eq_true rfl | (simp [*]; done) | omega) ?_   -- h2
      conv => cbv
      refine r_callF iib m.sX (PiecesOf_ok l r) fun v hv1 => ?_
      obtain ⟨v1, own, one⟩ := v
      conv => cbv
      refine r_callF (lbI 2 cSlip) m.sX ((RestOfStock_ok l r).ice) fun v hrest => ?_
      obtain ⟨rest, two⟩ := v
      conv => cbv
      refine r_callF ib m.sX (StockLength_ok l) fun v hbefore => ?_
      obtain ⟨before, three⟩ := v
      conv => cbv
      refine r_callF ib m.sX (StockLength_ok rest) fun v hafter => ?_
      obtain ⟨after, four⟩ := v
      conv => cbv
      obtain rfl : one = true := by exact (pieces_ok hv1).symm.trans cn
      conv => cbv
      refine r_neqF m.sX ((by rw [(pieces_val hv1).2]; exact dt)) ?_
      conv => cbv
      obtain rfl : two = true := by exact (restA_ok hrest).symm.trans cn
      conv => cbv
      obtain rfl : three = true := by exact (stockA_ok hbefore).symm.trans p1.1
      conv => cbv
      obtain rfl : four = true := by rw [restA_val hrest] at hafter; exact (stockA_ok hafter).symm.trans (restL_ok cn)
      conv => cbv
      have v1_ := stockA_val hbefore
      have v2_ := stockA_val hafter
      have v3_ := restA_val hrest
      have b1_ := lenS_bound oc.sl
      have b2_ := lenS_bound (okSt_spec (restL_ok cn)).1
      rw [restL_length] at b2_
      have b3_ := rest_len lc
      rw [← v3_] at b2_ b3_
      have b4_ := oc.len
      refine r_subf m.sX (by omega) (by omega) fun r1 hr1 => ?_
      conv => cbv
      refine r_neqF m.sX ((by omega)) ?_
      conv => cbv
      exact hE0 _ () (by cbv) (by cbv) hmr
    · refine r_callBT m.sX (sameInts_ok r r) (by first | assumption | exact decide_eq_true rfl | (simp [*]; done) | omega) ?_   -- h5
      conv => cbv
      exact hE0 _ () (by cbv) (by cbv) hmr

theorem rules_part2 (m : Mach Try.prog G κ X Y L) (hQ : ∀ r, r = PV.bool true → Q r) (more : List Int) (h : CurIn more) (E0 : St → Prop)
    (hE0 : ∀ (s' : St) (a : Unit), headOk s' [] = true → Ai.norm [1] [] s' = St.at 280 (midRules more) [] → True → E0 s') :
    Ai.code X L G (front 5 (rest 7 (Try.f9.body.getD .skip))) (fun e s' => match e with | .normal => E0 s' | .exit i => EndsIn (post G Try.f9.results.toList Q) (.exit i) s' | .ret => EndsIn (post G Try.f9.results.toList Q) .ret s') (St.at 280 (midRules more) []) := by
  conv => cbv
  refine r_callE m.sX ((drawMissingFor_ok more h).iceE) ?_
  rintro _ ⟨_, ⟨u, want, rfl, bu_1⟩, rfl⟩
  conv => cbv
  refine r_callF ib m.sX (MissingFor_ok u want) fun v hm_ => ?_
  obtain ⟨m_, one⟩ := v
  conv => cbv
  refine r_callF ib m.sX (specMissingFor_ok u want) fun y1 hy1 => ?_
  obtain rfl := hm_.trans hy1.symm
  clear hy1
  conv => cbv
  rcases Bool.eq_false_or_eq_true one with rfl | rfl <;> conv => cbv
  · obtain ⟨m1, m2, m3, m4, m5, m6⟩ := miss_ok' hm_
    refine r_neqF m.sX (by omega) ?_
    conv => cbv
    refine r_addf m.sX (by omega) (by omega) fun r1 hr1 => ?_
    conv => cbv
    refine r_callF (lbI 1 cInt) m.sX ((LengthsUpTo_ok u r1).ice) fun v hall => ?_
    obtain ⟨all, three⟩ := v
    conv => cbv
    obtain rfl : three = true := by refine (upto_ok hall).symm.trans ?_; rw [m1]; simp [inB]; omega
    conv => cbv
    have al := upto_last hall (by omega) m1 m2 m3 m4 m5 m6
    have ln : (all.length : Int) = (filtR (canR u) (want - 1).toNat 1).length + 1 := by rw [al]; simp
    refine r_lenR m.sX fun n1 hn1 mn1 => ?_
    conv => cbv
    refine r_eqlF m.sX ((by omega)) ?_
    conv => cbv
    refine r_lenR m.sX fun n2 hn2 mn2 => ?_
    conv => cbv
    refine r_subf m.sX (by omega) (by omega) fun r2 hr2 => ?_
    conv => cbv
    refine r_index m.sX (by omega) (by omega) fun x1 hx1 => ?_
    conv => cbv
    have mx1 := get_mem hx1
    have vx1 := nth_some hx1
    refine r_addf m.sX (by omega) (by omega) fun r3 hr3 => ?_
    conv => cbv
    refine r_neqF m.sX ((by rw [← vx1, al, hr3]; exact nth_mid (by omega))) ?_
    conv => cbv
    refine r_lenR m.sX fun n3 hn3 mn3 => ?_
    conv => cbv
    refine r_gtr m.sX (fun h4 => ?_) (fun h4 => ?_) <;> conv => cbv
    · refine r_lenR m.sX fun n4 hn4 mn4 => ?_
      conv => cbv
      refine r_subf m.sX (by omega) (by omega) fun r4 hr4 => ?_
      conv => cbv
      refine r_index m.sX (by omega) (by omega) fun x2 hx2 => ?_
      conv => cbv
      have mx2 := get_mem hx2
      have vx2 := nth_some hx2
      have x2m : x2 ∈ filtR (canR u) (want - 1).toNat 1 := by rw [al, List.getElem?_append_left (by omega)] at hx2; exact List.mem_of_getElem? hx2
      have x2b := (filtR_mem x2m).2.1
      refine r_geqF m.sX ((by omega)) ?_
      conv => cbv
      exact hE0 _ () (by cbv) (by cbv) trivial
    · exact hE0 _ () (by cbv) (by cbv) trivial
  · refine r_neqF m.sX (by omega) ?_
    conv => cbv
    exact hE0 _ () (by cbv) (by cbv) trivial

theorem rules_part3 (m : Mach Try.prog G κ X Y L) (hQ : ∀ r, r = PV.bool true → Q r) (more : List Int) (h : CurIn more) (E0 : St → Prop)
    (hE0 : ∀ (s' : St) (a : Unit), headOk s' [] = true → Ai.norm [1] [] s' = St.at 280 (midRules more) [] → True → E0 s') :
    Ai.code X L G (front 5 (rest 5 (rest 7 (Try.f9.body.getD .skip)))) (fun e s' => match e with | .normal => E0 s' | .exit i => EndsIn (post G Try.f9.results.toList Q) (.exit i) s' | .ret => EndsIn (post G Try.f9.results.toList Q) .ret s') (St.at 280 (midRules more) []) := by
  conv => cbv
  refine r_callE m.sX ((drawLengthsUpTo_ok more h).iceE) ?_
  rintro _ ⟨_, ⟨v, most, rfl, bv_1⟩, rfl⟩
  conv => cbv
  refine r_callF (lbI 1 cInt) m.sX ((LengthsUpTo_ok v most).ice) fun v ha => ?_
  obtain ⟨a, three⟩ := v
  conv => cbv
  have av := upto_val ha
  refine r_callF (lbI 1 cInt) m.sX ((specLengthsUpTo_ok v most).ice) fun y1 hy1 => ?_
  obtain rfl := ha.trans hy1.symm
  clear hy1
  conv => cbv
  rcases Bool.eq_false_or_eq_true three with rfl | rfl <;> conv => cbv
  · refine r_callBT m.sX (sameInts_ok a a) (by first | assumption | exact decide_eq_true rfl | (simp [*]; done) | omega) ?_   -- h1
    conv => cbv
    refine r_lenR m.sX fun n1 hn1 mn1 => ?_
    conv => cbv
    refine r_loopF (α := Int) m 280 [1, 28, 219, 220, 221] [] (fun σ => [(1, .isl 1 (rows cU8 more)), (28, .isl 2 (rows cSlip v)), (219, .isl 1 (rows cInt a)), (220, .int .i64 n1), (221, .int .i64 σ)]) (fun σ => [])
      (fun σ => (0 ≤ σ) ∧ (σ ≤ n1)) (fun σ => (n1 - σ).toNat) 0 ?_ ?_ ?_ ?_
    · cbv
    · cbv
    · exact ⟨(by (try dsimp only); first | omega | (simp only [List.length_nil]; omega)), (by (try dsimp only); first | omega | (simp only [List.length_nil]; omega))⟩
    rintro i1 ⟨lo1, hi1⟩ E hE F hF
    conv => cbv
    refine r_lss m.sX (fun h2 => ?_) (fun h2 => ?_) <;> conv => cbv
    · refine r_index m.sX (by omega) (by omega) fun n hn => ?_
      conv => cbv
      have mn := get_mem hn
      have dn := drop_cons hn
      have kn := take_snoc hn
      have jn : (i1 + 1).toNat = Int.toNat i1 + 1 := by omega
      have vn := nth_some hn
      have nv := av n mn
      refine r_modf m.sX (by omega) (by omega) fun r1 hr1 br1 => ?_
      conv => cbv
      refine r_eql m.sX (fun h3 => ?_) (fun h3 => ?_) <;> conv => cbv
      · refine r_callF (lbI 1 cInt) m.sX ((RuleOf_ok v n).ice) fun v hv1 => ?_
        obtain ⟨v1, five⟩ := v
        conv => cbv
        obtain rfl : five = true := by refine (rule_ok hv1).symm.trans ?_; rw [nv.1, show inB n 1 400 = true by simp [inB]; omega, show decide (0 ≤ fewC v.reverse n) = true from nv.2.2.2]; rfl
        conv => cbv
        refine r_addf m.sX (by omega) (by omega) fun r2 hr2 => ?_
        conv => cbv
        have tr2 : Int.toNat r2 = Int.toNat i1 + 1 := by omega
        refine hE _ r2 ?_ ?_ ⟨(by (try dsimp only); first | omega | (simp only [List.length_nil]; omega)), (by (try dsimp only); first | omega | (simp only [List.length_nil]; omega))⟩ (by first | omega | (dsimp only; omega))
        · cbv
        · cbv
      · refine r_addf m.sX (by omega) (by omega) fun r3 hr3 => ?_
        conv => cbv
        have tr3 : Int.toNat r3 = Int.toNat i1 + 1 := by omega
        refine hE _ r3 ?_ ?_ ⟨(by (try dsimp only); first | omega | (simp only [List.length_nil]; omega)), (by (try dsimp only); first | omega | (simp only [List.length_nil]; omega))⟩ (by first | omega | (dsimp only; omega))
        · cbv
        · cbv
    · have dz_i1 := drop_end (xs := a) (i := Int.toNat i1) (by omega)
      have tz_i1 := take_end (xs := a) (i := Int.toNat i1) (by omega)
      refine hF _ _ ?_
      conv => cbv
      exact hE0 _ () (by cbv) (by cbv) trivial
  · refine r_callBT m.sX (sameInts_ok a a) (by first | assumption | exact decide_eq_true rfl | (simp [*]; done) | omega) ?_   -- h4
    conv => cbv
    refine r_lenR m.sX fun n2 hn2 mn2 => ?_
    conv => cbv
    refine r_loopF (α := Int) m 280 [1, 28, 219, 220, 221] [] (fun σ => [(1, .isl 1 (rows cU8 more)), (28, .isl 2 (rows cSlip v)), (219, .isl 1 (rows cInt a)), (220, .int .i64 n2), (221, .int .i64 σ)]) (fun σ => [])
      (fun σ => (0 ≤ σ) ∧ (σ ≤ n2)) (fun σ => (n2 - σ).toNat) 0 ?_ ?_ ?_ ?_
    · cbv
    · cbv
    · exact ⟨(by (try dsimp only); first | omega | (simp only [List.length_nil]; omega)), (by (try dsimp only); first | omega | (simp only [List.length_nil]; omega))⟩
    rintro i2 ⟨lo2, hi2⟩ E hE F hF
    conv => cbv
    refine r_lss m.sX (fun h5 => ?_) (fun h5 => ?_) <;> conv => cbv
    · refine r_index m.sX (by omega) (by omega) fun n_2 hn_2 => ?_
      conv => cbv
      have mn_2 := get_mem hn_2
      have dn_2 := drop_cons hn_2
      have kn_2 := take_snoc hn_2
      have jn_2 : (i2 + 1).toNat = Int.toNat i2 + 1 := by omega
      have vn_2 := nth_some hn_2
      have nv := av n_2 mn_2
      refine r_modf m.sX (by omega) (by omega) fun r4 hr4 br4 => ?_
      conv => cbv
      refine r_eql m.sX (fun h6 => ?_) (fun h6 => ?_) <;> conv => cbv
      · refine r_callF (lbI 1 cInt) m.sX ((RuleOf_ok v n_2).ice) fun v hv2 => ?_
        obtain ⟨v2, five_2⟩ := v
        conv => cbv
        obtain rfl : five_2 = true := by refine (rule_ok hv2).symm.trans ?_; rw [nv.1, show inB n_2 1 400 = true by simp [inB]; omega, show decide (0 ≤ fewC v.reverse n_2) = true from nv.2.2.2]; rfl
        conv => cbv
        refine r_addf m.sX (by omega) (by omega) fun r5 hr5 => ?_
        conv => cbv
        have tr5 : Int.toNat r5 = Int.toNat i2 + 1 := by omega
        refine hE _ r5 ?_ ?_ ⟨(by (try dsimp only); first | omega | (simp only [List.length_nil]; omega)), (by (try dsimp only); first | omega | (simp only [List.length_nil]; omega))⟩ (by first | omega | (dsimp only; omega))
        · cbv
        · cbv
      · refine r_addf m.sX (by omega) (by omega) fun r6 hr6 => ?_
        conv => cbv
        have tr6 : Int.toNat r6 = Int.toNat i2 + 1 := by omega
        refine hE _ r6 ?_ ?_ ⟨(by (try dsimp only); first | omega | (simp only [List.length_nil]; omega)), (by (try dsimp only); first | omega | (simp only [List.length_nil]; omega))⟩ (by first | omega | (dsimp only; omega))
        · cbv
        · cbv
    · have dz_i2 := drop_end (xs := a) (i := Int.toNat i2) (by omega)
      have tz_i2 := take_end (xs := a) (i := Int.toNat i2) (by omega)
      refine hF _ _ ?_
      conv => cbv
      exact hE0 _ () (by cbv) (by cbv) trivial

theorem rules_part4 (m : Mach Try.prog G κ X Y L) (hQ : ∀ r, r = PV.bool true → Q r) (more : List Int) (h : CurIn more) :
    Ai.code X L G (rest 5 (rest 5 (rest 7 (Try.f9.body.getD .skip)))) (EndsIn (post G Try.f9.results.toList Q)) (St.at 280 (midRules more) []) := by
  conv => cbv
  refine r_callE m.sX ((drawPiecesOf_ok more h).iceE) ?_
  rintro _ ⟨_, ⟨w, counts, rfl, bw_1⟩, rfl⟩
  conv => cbv
  refine r_callF iib m.sX (PiecesOf_ok w counts) fun v hp => ?_
  obtain ⟨p, n, five⟩ := v
  conv => cbv
  refine r_callF iib m.sX (specPiecesOf_ok w counts) fun y1 hy1 => ?_
  obtain rfl := hp.trans hy1.symm
  clear hy1
  conv => cbv
  rcases Bool.eq_false_or_eq_true five with rfl | rfl <;> conv => cbv
  · have oc := okCn_spec (pieces_ok hp)
    have sf : SumFits counts := sumfits_of 20 (fun z hz => by have := oc.mem z hz; omega) (by have := oc.eq; have := oc.len; omega)
    have pv := pieces_val hp
    refine r_eqlT m.sX (by omega) ?_
    conv => cbv
    refine r_eqlT m.sX (by omega) ?_
    conv => cbv
    refine r_callF (PV.int .i64) m.sX (pSum_ok counts (by first | rfl | assumption | omega | (simp only [List.length_append, List.length_cons, List.length_nil] at *; omega))) fun r1 hr1 => ?_
    conv => cbv
    refine r_eqlT m.sX (by omega) ?_
    conv => cbv
    exact hQ _ (congrArg PV.bool (by first | rfl | omega | (simp [*]; done) | (subst_vars; simp [*]; done)))   -- leaf 2
  · refine r_eqlT m.sX (by omega) ?_
    conv => cbv
    refine r_eqlT m.sX (by omega) ?_
    conv => cbv
    exact hQ _ (congrArg PV.bool (by first | rfl | omega | (simp [*]; done) | (subst_vars; simp [*]; done)))   -- leaf 3

end

theorem lawRules_ok (code more : List Int) (hf : ∀ x ∈ code, 0 ≤ x ∧ x ≤ 255) (hg : ∀ x ∈ more, 0 ≤ x ∧ x ≤ 255) : OkA Try.prog 9 [.isl 1 (rows cU8 code), .isl 1 (rows cU8 more)] (· = .bool true) :=
  fn_introW envOk fieldsOk mixed Try.func9 rfl (c := Try.f9.body.getD .skip) rfl fun κ X Y L Q m hQ =>
    W_cut m 7 280 [1] [] (fun _ : Unit => midRules more) (fun _ => []) (fun _ => (more.length : Int) ≤ 9223372036854775807) (rules_part1 m hQ code more hf) fun _ hl =>
    W_cut m 5 280 [1] [] (fun _ : Unit => midRules more) (fun _ => []) (fun _ => True) (rules_part2 m hQ more ⟨hl, hg⟩) fun _ _ =>
    W_cut m 5 280 [1] [] (fun _ : Unit => midRules more) (fun _ => []) (fun _ => True) (rules_part3 m hQ more ⟨hl, hg⟩) fun _ _ =>
    W_last m (rules_part4 m hQ more ⟨hl, hg⟩)

end Go.Proofs.Ytpjmpgbgglhoeaa.Ai
