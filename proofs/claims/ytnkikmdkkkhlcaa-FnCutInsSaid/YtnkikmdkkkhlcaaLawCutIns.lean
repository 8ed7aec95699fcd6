/- The law FnCutIns: its body returns true. -/
import Derived.Test.YtnkikmdkkkhlcaaCutDraw
import Derived.Test.YtnkikmdkkkhlcaaAiCut
namespace Go.Proofs.Ytnkikmdkkkhlcaa.Ai
open Go Go.Proofs
set_option maxRecDepth 10000
set_option maxHeartbeats 4000000
set_option linter.unusedVariables false

theorem first_spec {m : Int} {l : List CutIn} {u1 u2 u3 u4 p : Int} (h : (p, true) = firstF m l (u1, u2, u3, u4)) : u1 ≤ p ∧ addF m l (p, u2, u3, u4) = (l ++ [(p, u2, u3, u4)], true) ∧ (u1 < p → addF m l (u1, u2, u3, u4) = ([], false)) := by
  unfold firstF at h
  split at h
  case isFalse => simp at h
  rename_i hc
  rw [Bool.and_eq_true] at hc
  split at h
  case h_2 => simp at h
  rename_i q hq
  simp only [Prod.mk.injEq, and_true] at h
  subst h
  obtain ⟨h1, h2, h3⟩ := firstC_spec hq
  refine ⟨h1, by rw [addF, hc.1, h2]; rfl, fun hlt => ?_⟩
  have := h3 hlt
  rw [addF, hc.1, this]; rfl

theorem at_spec {m : Int} {l : List CutIn} {line side i : Int} (h : (i, true) = atF m l line side) : 0 ≤ i ∧ i < l.length ∧ ∃ x, l[i.toNat]? = some x ∧ isCut x = true ∧ x.2.2.2 = side ∧ beside x line = true := by
  unfold atF at h
  split at h
  case isFalse => simp at h
  rename_i hc
  rw [Bool.and_eq_true] at hc
  split at h
  case h_2 => simp at h
  rename_i q hq
  simp only [Prod.mk.injEq, and_true] at h
  subst h
  obtain ⟨h1, h2, x, hx, h3⟩ := atFrom_spec hq
  have hok : okFrom l 0 l = true := by have := hc.1; rw [goodC, Bool.and_eq_true] at this; exact this.1
  rw [Int.sub_zero] at hx
  exact ⟨h1, by omega, x, hx, okFrom_mem hok _ (get_mem hx), h3⟩

theorem moveF_by {m : Int} {l v : List CutIn} {i b : Int} (h : (v, true) = moveF m l i b) : -200 ≤ b ∧ b ≤ 200 ∧ v.length = l.length := by
  unfold moveF at h
  split at h
  case isFalse => simp at h
  rename_i hc
  simp only [Bool.and_eq_true] at hc
  have := inB_spec hc.2.2.1
  simp only [Prod.mk.injEq, and_true] at h
  exact ⟨this.1, this.2, by rw [h]; exact moveL_length l i b⟩

noncomputable abbrev midC (more : List Int) : List (Nat × PV) := [(1, .isl 1 (rows cU8 more))]

section
variable {κ : Ctx} {X Y : Req → (PV → Prop) → Prop} {L : Code → (Ex → St → Prop) → St → Prop} {Q : PV → Prop}

theorem cut_part1 (m : Mach Try.prog G κ X Y L) (hQ : ∀ r, r = PV.bool true → Q r) (code more : List Int) (hf : ∀ x ∈ code, 0 ≤ x ∧ x ≤ 255) (E : St → Prop)
    (hE : ∀ (s' : St) (a : Unit), headOk s' [] = true → Ai.norm [1] [] s' = St.at 263 (midC more) [] → (more.length : Int) ≤ 9223372036854775807 → E s') :
    Ai.code X L G (front 7 (Try.f5.body.getD .skip)) (fun e s' => match e with | .normal => E s' | .exit i => EndsIn (post G Try.f5.results.toList Q) (.exit i) s' | .ret => EndsIn (post G Try.f5.results.toList Q) .ret s')
      (start 263 [.isl 1 (rows cU8 code), .isl 1 (rows cU8 more)] []) := by
  conv => cbv
  refine r_callB m.sX (big_ok code more) (fun g => ?_) (fun g => ?_) <;> conv => cbv
  · exact hQ _ rfl
  rw [Bool.or_eq_false_iff, decide_eq_false_iff_not, decide_eq_false_iff_not] at g
  have hc : CurIn code := ⟨by omega, hf⟩
  have hd : (more.length : Int) ≤ 9223372036854775807 := by omega
  clear g hf
  refine r_callE m.sX ((drawFirstPlaceFor_ok code hc).iceE) ?_
  rintro _ ⟨_, ⟨me, l, ⟨u1, u2, u3, u4⟩, rfl, b1, b2, b3⟩, rfl⟩
  conv => cbv
  refine r_callF ib m.sX (FirstPlaceFor_ok me l (u1, u2, u3, u4) (by omega) (by omega) (by omega)) fun x hx => ?_
  obtain ⟨x1, x2⟩ := x
  conv => cbv
  refine r_callF ib m.sX (specFirstPlaceFor_ok me l (u1, u2, u3, u4) (by omega) (by omega) (by omega)) fun y hy => ?_
  obtain rfl := hy.trans hx.symm
  clear hy
  cases x2
  · conv => cbv
    refine r_neq_same m.sX ?_
    conv => cbv
    exact hE _ () (by cbv) (by cbv) hd
  · obtain ⟨e1, e2, e3⟩ := first_spec hx
    clear hx
    conv => cbv
    refine r_neq_same m.sX ?_
    conv => cbv
    refine r_callF (lb 58 4 cCutIn) m.sX (AddCutIn_ok me l (x1, u2, u3, u4) (by omega) (by omega) (by omega)) fun z hz => ?_
    rw [e2] at hz
    obtain ⟨z1, z2⟩ := z
    obtain ⟨hz1, rfl⟩ := Prod.mk.inj hz
    have hl1 : z1.length = l.length + 1 := by rw [hz1]; simp
    conv => cbv
    refine r_lenR m.sX fun n1 hn1 mn1 => ?_
    conv => cbv
    refine r_lenR m.sX fun n2 hn2 mn2 => ?_
    conv => cbv
    refine r_addf m.sX (by omega) (by omega) fun r1 hr1 => ?_
    conv => cbv
    refine r_neqF m.sX (by omega) ?_
    conv => cbv
    refine r_lssF m.sX (by omega) ?_
    conv => cbv
    refine r_gtr m.sX (fun g1 => ?_) (fun g1 => ?_) <;> conv => cbv
    · have e4 := e3 g1
      refine r_callF (lb 58 4 cCutIn) m.sX (AddCutIn_ok me l (u1, u2, u3, u4) (by omega) (by omega) (by omega)) fun w hw => ?_
      rw [e4] at hw
      obtain ⟨w1, w2⟩ := w
      obtain ⟨hw1, rfl⟩ := Prod.mk.inj hw
      conv => cbv
      exact hE _ () (by cbv) (by cbv) hd
    · exact hE _ () (by cbv) (by cbv) hd

theorem cut_part2 (m : Mach Try.prog G κ X Y L) (more : List Int) (hm : CurIn more) (R : Ex → St → Prop) (E : St → Prop)
    (hE : ∀ (s' : St) (a : Unit), headOk s' [] = true → Ai.norm [1] [] s' = St.at 263 (midC more) [] → True → E s') :
    Ai.code X L G (front 5 (rest 7 (Try.f5.body.getD .skip))) (fun e s' => match e with | .normal => E s' | .exit i => R (.exit i) s' | .ret => R .ret s') (St.at 263 (midC more) []) := by
  conv => cbv
  refine r_callE m.sX ((drawMoveCutIn_ok more hm).iceE) ?_
  rintro _ ⟨_, ⟨me, l, i, b, rfl, b1, b2, b3⟩, rfl⟩
  conv => cbv
  refine r_callF (lb 58 4 cCutIn) m.sX (MoveCutIn_ok me l i b (by omega) (by omega) (by omega)) fun x hx => ?_
  obtain ⟨x1, x2⟩ := x
  conv => cbv
  refine r_callF (lbI 4 cCutIn) m.sX (specMoveCutIn_ok me l i b (by omega) (by omega) (by omega)) fun y hy => ?_
  obtain rfl := hy.trans hx.symm
  clear hy
  cases x2
  · conv => cbv
    refine .inl (r_callO m.sX ((pSameCutIns_ok x1).ok flat_bool) ?_)
    conv => cbv
    exact hE _ () (by cbv) (by cbv) trivial
  · have hb := moveF_by hx
    have hback := move_back hx
    clear hx
    conv => cbv
    refine .inl (r_callO m.sX ((pSameCutIns_ok x1).ok flat_bool) ?_)
    conv => cbv
    refine r_neg m.sX fun r hr => ?_
    rw [wrap64 (by omega) (by omega)] at hr
    conv => cbv
    refine .inl (r_callFO (lb 58 4 cCutIn) m.sX ((MoveCutIn_ok me x1 i r (by omega) (by omega) (by omega)).ok (flat_lb flat_cCutIn)) fun z hz => ?_)
    rw [hr, hback.1] at hz
    obtain ⟨z1, z2⟩ := z
    obtain ⟨rfl, rfl⟩ := Prod.mk.inj hz
    conv => cbv
    refine .inl (r_callO m.sX ((pSameCutIns_ok z1).ok flat_bool) ?_)
    conv => cbv
    refine .inl (r_callBO m.sX ((AreCutIns_ok me x1 (by omega) (by omega) (by omega)).ok flat_bool) (fun h => ?_) (fun h => ?_))
    all_goals skip
    · conv => cbv
      exact hE _ () (by cbv) (by cbv) trivial
    · rw [hback.2] at h
      cases h

theorem cut_part3 (m : Mach Try.prog G κ X Y L) (more : List Int) (hm : CurIn more) (R : Ex → St → Prop) (E : St → Prop)
    (hE : ∀ (s' : St) (a : Unit), headOk s' [] = true → Ai.norm [1] [] s' = St.at 263 (midC more) [] → True → E s') :
    Ai.code X L G (front 4 (rest 5 (rest 7 (Try.f5.body.getD .skip)))) (fun e s' => match e with | .normal => E s' | .exit i => R (.exit i) s' | .ret => R .ret s') (St.at 263 (midC more) []) := by
  conv => cbv
  refine r_callE m.sX ((drawCutInAt_ok more hm).iceE) ?_
  rintro _ ⟨_, ⟨me, l, n, sd, rfl, b1, b2, b3⟩, rfl⟩
  conv => cbv
  refine r_callF ib m.sX (CutInAt_ok me l n sd (by omega) (by omega) (by omega)) fun x hx => ?_
  obtain ⟨x1, x2⟩ := x
  conv => cbv
  refine r_callF ib m.sX (specCutInAt_ok me l n sd (by omega) (by omega) (by omega)) fun y hy => ?_
  obtain rfl := hy.trans hx.symm
  clear hy
  cases x2
  · conv => cbv
    refine r_draw m (by kernel_rfl) ?_
    conv => cbv
    refine r_neq_same m.sY ?_
    conv => cbv
    exact hE _ () (by cbv) (by cbv) trivial
  · obtain ⟨i1, i2, ⟨u1, u2, u3, u4⟩, hu, hcu, hs, hbs⟩ := at_spec hx
    have hcs := isCut_spec hcu
    dsimp only at hs hcs
    have hbb := inB_spec hbs
    dsimp only at hbb
    clear hx
    conv => cbv
    refine r_draw m (by kernel_rfl) ?_
    conv => cbv
    refine r_neq_same m.sY ?_
    conv => cbv
    refine r_index m.sY (by omega) (by omega) fun v hv1 => ?_
    obtain ⟨v1, v2, v3, v4⟩ := v
    conv => cbv
    obtain ⟨rfl, rfl, rfl, rfl⟩ : u1 = v1 ∧ u2 = v2 ∧ u3 = v3 ∧ u4 = v4 := by
      have := Option.some.inj (hu.symm.trans hv1)
      simpa using this
    refine r_neqF m.sY (by omega) ?_
    conv => cbv
    refine r_index m.sY (by omega) (by omega) fun v hw1 => ?_
    obtain ⟨w1, w2, w3, w4⟩ := v
    conv => cbv
    obtain ⟨rfl, rfl, rfl, rfl⟩ : u1 = w1 ∧ u2 = w2 ∧ u3 = w3 ∧ u4 = w4 := by
      have := Option.some.inj (hu.symm.trans hw1)
      simpa using this
    refine r_lssF m.sY (by omega) ?_
    conv => cbv
    refine r_index m.sY (by omega) (by omega) fun v hp1 => ?_
    obtain ⟨p1, p2, p3, p4⟩ := v
    conv => cbv
    obtain ⟨rfl, rfl, rfl, rfl⟩ : u1 = p1 ∧ u2 = p2 ∧ u3 = p3 ∧ u4 = p4 := by
      have := Option.some.inj (hu.symm.trans hp1)
      simpa using this
    refine r_index m.sY (by omega) (by omega) fun v hq1 => ?_
    obtain ⟨q1, q2, q3, q4⟩ := v
    conv => cbv
    obtain ⟨rfl, rfl, rfl, rfl⟩ : u1 = q1 ∧ u2 = q2 ∧ u3 = q3 ∧ u4 = q4 := by
      have := Option.some.inj (hu.symm.trans hq1)
      simpa using this
    refine r_addf m.sY (by omega) (by omega) fun r1 hr1 => ?_
    conv => cbv
    refine r_geqF m.sY (by omega) ?_
    conv => cbv
    exact hE _ () (by cbv) (by cbv) trivial

theorem cut_part4 (m : Mach Try.prog G κ X Y L) (hQ : ∀ r, r = PV.bool true → Q r) (more : List Int) (hm : CurIn more) :
    Ai.code X L G (rest 4 (rest 5 (rest 7 (Try.f5.body.getD .skip)))) (EndsIn (post G Try.f5.results.toList Q)) (St.at 263 (midC more) []) := by
  conv => cbv
  refine r_callE m.sX ((drawAddCutIn_ok more hm).iceE) ?_
  rintro _ ⟨_, ⟨me, l, ⟨u1, u2, u3, u4⟩, rfl, b1, b2, b3⟩, rfl⟩
  conv => cbv
  refine r_callF (lb 58 4 cCutIn) m.sX (AddCutIn_ok me l (u1, u2, u3, u4) (by omega) (by omega) (by omega)) fun x hx => ?_
  obtain ⟨x1, x2⟩ := x
  conv => cbv
  refine r_callF (lbI 4 cCutIn) m.sX (specAddCutIn_ok me l (u1, u2, u3, u4) (by omega) (by omega) (by omega)) fun y hy => ?_
  obtain rfl := hy.trans hx.symm
  clear hy hx
  cases x2
  · conv => cbv
    refine .inl (r_callO m.sX ((pSameCutIns_ok x1).ok flat_bool) ?_)
    conv => cbv
    exact hQ _ rfl
  · conv => cbv
    refine .inl (r_callO m.sX ((pSameCutIns_ok x1).ok flat_bool) ?_)
    conv => cbv
    exact hQ _ rfl
end

theorem lawCutIns_ok (code more : List Int) (hf : ∀ x ∈ code, 0 ≤ x ∧ x ≤ 255) (hg : ∀ x ∈ more, 0 ≤ x ∧ x ≤ 255) : OkA Try.prog 5 [.isl 1 (rows cU8 code), .isl 1 (rows cU8 more)] (· = .bool true) :=
  fn_introW envOk fieldsOk mixed Try.func5 rfl (c := Try.f5.body.getD .skip) rfl fun κ X Y L Q m hQ =>
    W_cut m 7 263 [1] [] (fun _ : Unit => midC more) (fun _ => []) (fun _ => (more.length : Int) ≤ 9223372036854775807) (cut_part1 m hQ code more hf) fun _ hl =>
      W_cut m 5 263 [1] [] (fun _ : Unit => midC more) (fun _ => []) (fun _ => True) (cut_part2 m more ⟨hl, hg⟩ _) fun _ _ =>
        W_cut m 4 263 [1] [] (fun _ : Unit => midC more) (fun _ => []) (fun _ => True) (cut_part3 m more ⟨hl, hg⟩ _) fun _ _ =>
          W_last m (cut_part4 m hQ more ⟨hl, hg⟩)
end Go.Proofs.Ytnkikmdkkkhlcaa.Ai
