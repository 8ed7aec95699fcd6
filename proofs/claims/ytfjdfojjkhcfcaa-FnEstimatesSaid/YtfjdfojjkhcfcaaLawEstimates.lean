/- The law FnEstimates: its body returns true. -/
import Derived.Test.YtfjdfojjkhcfcaaEst
import Derived.Test.YtfjdfojjkhcfcaaAiCut
namespace Go.Proofs.Ytfjdfojjkhcfcaa.Ai
open Go Go.Proofs
set_option maxRecDepth 10000
set_option maxHeartbeats 4000000
set_option linter.unusedVariables false

theorem est1 {a b c d e p q x1 z1 : Int} {z2 : Bool} (hx : (x1, true) = jobPriceOf (a, b, c, d) e p q) (hz : (z1, z2) = settingOf (a, b, c, d) e) : z2 = true ∧ d ≤ x1 ∧ z1 ≤ x1 ∧ goodT (a, b, c, d) = true := by
  unfold jobPriceOf at hx
  split at hx
  case isFalse => simp at hx
  rename_i h
  rw [Bool.and_eq_true] at h
  have h2 := h.2
  rw [jobOk, Bool.and_eq_true, Bool.and_eq_true] at h2
  have hb := price_bounds h.1 (inB_spec h2.1.1) (inB_spec h2.1.2) (inB_spec h2.2)
  rw [settingOf, h.1, h2.1.1] at hz
  simp only [Bool.and_self, if_true, Prod.mk.injEq] at hz hx
  have e9 : priceF (a, b, c, d) e p q = max d (settingF a e + p * b + minutesF c q) := rfl
  exact ⟨hz.2, by omega, by omega, h.1⟩

theorem est2 {a b c d lo price c1 : Int} {c2 : Bool} (hg : (goodT (a, b, c, d) && inB price 0 1000000000) = true) (he : EnsFor a price lo) (hz : (c1, c2) = settingOf (a, b, c, d) lo) : c2 = true ∧ c1 ≤ price := by
  rw [Bool.and_eq_true] at hg
  rw [settingOf, hg.1, show inB lo 0 3000000 = true by simp [inB]; exact ⟨he.1, he.2.1⟩] at hz
  simp only [Bool.and_self, if_true, Prod.mk.injEq] at hz
  exact ⟨hz.2, by rw [hz.1]; exact he.2.2.1⟩

theorem est3 {a b c d lo price d1 : Int} (he : EnsFor a price lo) (hz : (d1, true) = settingOf (a, b, c, d) (lo + 1)) : price < d1 := by
  unfold settingOf at hz
  split at hz
  case isFalse => simp at hz
  rename_i h
  rw [Bool.and_eq_true] at h
  have := inB_spec h.2
  simp only [Prod.mk.injEq] at hz
  rw [hz.1]
  exact he.2.2.2 (by omega)

theorem est4 {e me l : Int} (h : (l, true) = linesOf e me) : 0 ≤ e ∧ e ≤ 3000000 ∧ 1 ≤ me ∧ me ≤ 200 ∧ 0 ≤ l ∧ l ≤ 3000200 ∧ e ≤ l * me ∧ l * me ≤ e + me - 1 := by
  unfold linesOf at h
  split at h
  case isFalse => simp at h
  rename_i hh
  rw [Bool.and_eq_true] at hh
  have b1 := inB_spec hh.1
  have b2 := inB_spec hh.2
  simp only [Prod.mk.injEq] at h
  have hu := upF_bound (n := e) (d := me) (by omega) (by omega)
  have e1 : l * me = me * ((e + me - 1) / me) := by rw [h.1, Int.mul_comm]; rfl
  have e2 := Int.mul_ediv_add_emod (e + me - 1) me
  have e3 := Int.emod_nonneg (e + me - 1) (show me ≠ 0 by omega)
  have e4 := Int.emod_lt_of_pos (e + me - 1) (show 0 < me by omega)
  rw [h.1] at *
  exact ⟨by omega, by omega, by omega, by omega, by omega, by omega, by omega, by omega⟩

noncomputable abbrev mid (more : List Int) : List (Nat × PV) := [(1, .isl 1 (rows cU8 more))]

section
variable {κ : Ctx} {X Y : Req → (PV → Prop) → Prop} {L : Code → (Ex → St → Prop) → St → Prop} {Q : PV → Prop}

theorem est_part1 (m : Mach Try.prog G κ X Y L) (hQ : ∀ r, r = PV.bool true → Q r) (code more : List Int) (hf : ∀ x ∈ code, 0 ≤ x ∧ x ≤ 255) (E : St → Prop)
    (hE : ∀ (s' : St) (a : Unit), headOk s' [] = true → Ai.norm [1] [] s' = St.at 251 (mid more) [] → (more.length : Int) ≤ 9223372036854775807 → E s') :
    Ai.code X L G (front 8 (Try.f3.body.getD .skip)) (fun e s' => match e with | .normal => E s' | .exit i => EndsIn (post G Try.f3.results.toList Q) (.exit i) s' | .ret => EndsIn (post G Try.f3.results.toList Q) .ret s')
      (start 251 [.isl 1 (rows cU8 code), .isl 1 (rows cU8 more)] []) := by
  conv => cbv
  refine r_lenR m.sX fun n hn mn => ?_
  conv => cbv
  refine r_lenR m.sX fun n' hn' mn' => ?_
  conv => cbv
  refine r_add m.sX fun s hs => ?_
  conv => cbv
  refine r_gtr m.sX (fun h0 => ?_) (fun h0 => ?_) <;> conv => cbv
  · exact hQ _ rfl
  have hc : CurIn code := ⟨by omega, hf⟩
  have hd : (more.length : Int) ≤ 9223372036854775807 := by omega
  clear hs h0 hn hn' mn mn' hf
  refine r_callE m.sX (drawPriceOfJob_ok code hc) ?_
  rintro _ ⟨t1, t2, t3, t4, e, p, q, rfl, -⟩
  conv => cbv
  refine r_callF ib m.sX (PriceOfJob_ok t1 t2 t3 t4 e p q) fun x hx => ?_
  obtain ⟨x1, x2⟩ := x
  conv => cbv
  refine r_callF ib m.sX (specPriceOfJob_ok t1 t2 t3 t4 e p q) fun y hy => ?_
  obtain rfl := hy.trans hx.symm
  conv => cbv
  refine r_callF ib m.sX (PriceOfSetting_ok t1 t2 t3 t4 e) fun z hz => ?_
  obtain ⟨z1, z2⟩ := z
  conv => cbv
  refine r_callF ib m.sX (specPriceOfSetting_ok t1 t2 t3 t4 e) fun z' hz' => ?_
  obtain rfl := hz'.trans hz.symm
  clear hy hz'
  cases x2
  · cases z2 <;> conv => cbv
    all_goals
      refine r_neq_same m.sX ?_
      conv => cbv
      refine r_neq_same m.sX ?_
      conv => cbv
      exact hE _ () (by cbv) (by cbv) hd
  · cases z2
    · exfalso
      have := (est1 hx hz).1
      cases this
    have e0 := est1 hx hz
    have e1 := e0.2.1
    have e2 := e0.2.2.1
    have e3 := e0.2.2.2
    clear e0
    conv => cbv
    refine r_neq_same m.sX ?_
    conv => cbv
    refine r_neq_same m.sX ?_
    conv => cbv
    refine r_lssF m.sX (by omega) ?_
    conv => cbv
    refine r_lssF m.sX (by omega) ?_
    conv => cbv
    refine r_callB m.sX (IsTariff_ok t1 t2 t3 t4) (fun h => ?_) (fun h => ?_)
    · conv => cbv
      exact hE _ () (by cbv) (by cbv) hd
    · rw [e3] at h
      cases h

theorem est_part2 (m : Mach Try.prog G κ X Y L) (more : List Int) (hm : CurIn more) (R : Ex → St → Prop) (E : St → Prop)
    (hE : ∀ (s' : St) (a : Unit), headOk s' [] = true → Ai.norm [1] [] s' = St.at 251 (mid more) [] → True → E s') :
    Ai.code X L G (front 5 (rest 8 (Try.f3.body.getD .skip))) (fun e s' => match e with | .normal => E s' | .exit i => R (.exit i) s' | .ret => R .ret s') (St.at 251 (mid more) []) := by
  conv => cbv
  refine r_callE m.sX (drawEnsForPrice_ok more hm) ?_
  rintro _ ⟨u1, u2, u3, u4, most, rfl, -⟩
  conv => cbv
  refine r_callE m.sX (EnsForPrice_ok u1 u2 u3 u4 most) ?_
  rintro _ ⟨lo, ok, rfl, o1, o2, o3⟩
  conv => cbv
  refine r_callE m.sX (specEnsForPrice_ok u1 u2 u3 u4 most) ?_
  rintro _ ⟨lo', ok', rfl, o1', o2', o3'⟩
  obtain rfl : ok' = ok := o1'.trans o1.symm
  obtain rfl : lo' = lo := by
    cases ok'
    · rw [o3 rfl, o3' rfl]
    · have hg := o1.symm
      rw [Bool.and_eq_true] at hg
      exact EnsFor.unique (goodT_spec hg.1).1.1 (o2' rfl) (o2 rfl)
  clear o1' o2' o3' o3
  cases ok'
  · conv => cbv
    refine r_neq_same m.sX ?_
    conv => cbv
    exact hE _ () (by cbv) (by cbv) trivial
  · have he := o2 rfl
    have hb1 := he.1
    have hb2 := he.2.1
    conv => cbv
    refine r_neq_same m.sX ?_
    conv => cbv
    refine r_callF ib m.sX (PriceOfSetting_ok u1 u2 u3 u4 lo') fun c hc => ?_
    obtain ⟨c1, c2⟩ := c
    have hc2 := est2 o1.symm he hc
    have hc1 := hc2.2
    obtain rfl : c2 = true := hc2.1
    conv => cbv
    refine r_addf m.sX (by omega) (by omega) fun lo1 hlo1 => ?_
    conv => cbv
    refine r_callF ib m.sX (PriceOfSetting_ok u1 u2 u3 u4 lo1) fun d hd => ?_
    obtain ⟨d1, d2⟩ := d
    cases d2
    · conv => cbv
      refine r_gtrF m.sX (by omega) ?_
      conv => cbv
      exact hE _ () (by cbv) (by cbv) trivial
    · have hd1 := est3 he (hlo1 ▸ hd)
      conv => cbv
      refine r_gtrF m.sX (by omega) ?_
      conv => cbv
      refine r_leqF m.sX (by omega) ?_
      conv => cbv
      exact hE _ () (by cbv) (by cbv) trivial

theorem est_part3 (m : Mach Try.prog G κ X Y L) (more : List Int) (hm : CurIn more) (R : Ex → St → Prop) (E : St → Prop)
    (hE : ∀ (s' : St) (a : Unit), headOk s' [] = true → Ai.norm [1] [] s' = St.at 251 (mid more) [] → True → E s') :
    Ai.code X L G (front 4 (rest 5 (rest 8 (Try.f3.body.getD .skip)))) (fun e s' => match e with | .normal => E s' | .exit i => R (.exit i) s' | .ret => R .ret s') (St.at 251 (mid more) []) := by
  conv => cbv
  refine r_callE m.sX (drawLinesForEns_ok more hm) ?_
  rintro _ ⟨e, me, rfl, -⟩
  conv => cbv
  refine r_callF ib m.sX (LinesForEns_ok e me) fun x hx => ?_
  obtain ⟨x1, x2⟩ := x
  conv => cbv
  refine r_callF ib m.sX (specLinesForEns_ok e me) fun y hy => ?_
  obtain rfl := hy.trans hx.symm
  clear hy
  cases x2
  · conv => cbv
    refine r_neq_same m.sX ?_
    conv => cbv
    exact hE _ () (by cbv) (by cbv) trivial
  · have hl := est4 hx
    conv => cbv
    refine r_neq_same m.sX ?_
    conv => cbv
    refine r_mulf m.sX (by omega) (by omega) fun p hp => ?_
    conv => cbv
    refine r_lssF m.sX (by omega) ?_
    conv => cbv
    refine r_gtr m.sX (fun h1 => ?_) (fun h1 => ?_) <;> conv => cbv
    · refine r_subf m.sX (by omega) (by omega) fun d hd => ?_
      conv => cbv
      have hd2 : d * me = x1 * me - me := by rw [hd, Int.sub_mul, Int.one_mul]
      refine r_mulf m.sX (by omega) (by omega) fun p2 hp2 => ?_
      conv => cbv
      refine r_geqF m.sX (by omega) ?_
      conv => cbv
      exact hE _ () (by cbv) (by cbv) trivial
    · exact hE _ () (by cbv) (by cbv) trivial

theorem est_part4 (m : Mach Try.prog G κ X Y L) (hQ : ∀ r, r = PV.bool true → Q r) (more : List Int) (hm : CurIn more) :
    Ai.code X L G (rest 4 (rest 5 (rest 8 (Try.f3.body.getD .skip)))) (EndsIn (post G Try.f3.results.toList Q)) (St.at 251 (mid more) []) := by
  conv => cbv
  refine r_callE m.sX (drawEnsOf_ok more hm) ?_
  rintro _ ⟨a, b, c, rfl, -⟩
  conv => cbv
  refine r_callF ib m.sX (EnsOf_ok a b c) fun x hx => ?_
  obtain ⟨x1, x2⟩ := x
  conv => cbv
  refine r_callF ib m.sX (specEnsOf_ok a b c) fun y hy => ?_
  obtain rfl := hy.trans hx.symm
  clear hy hx
  cases x2
  · conv => cbv
    refine r_eql_same m.sX ?_
    conv => cbv
    exact hQ _ rfl
  · conv => cbv
    refine r_eql_same m.sX ?_
    conv => cbv
    exact hQ _ rfl
end

theorem lawEstimates_ok (code more : List Int) (hf : ∀ x ∈ code, 0 ≤ x ∧ x ≤ 255) (hg : ∀ x ∈ more, 0 ≤ x ∧ x ≤ 255) : OkA Try.prog 3 [.isl 1 (rows cU8 code), .isl 1 (rows cU8 more)] (· = .bool true) :=
  fn_introW envOk fieldsOk mixed Try.func3 rfl (c := Try.f3.body.getD .skip) rfl fun κ X Y L Q m hQ =>
    W_cut m 8 251 [1] [] (fun _ : Unit => mid more) (fun _ => []) (fun _ => (more.length : Int) ≤ 9223372036854775807) (est_part1 m hQ code more hf) fun _ hl =>
      W_cut m 5 251 [1] [] (fun _ : Unit => mid more) (fun _ => []) (fun _ => True) (est_part2 m more ⟨hl, hg⟩ _) fun _ _ =>
        W_cut m 4 251 [1] [] (fun _ : Unit => mid more) (fun _ => []) (fun _ => True) (est_part3 m more ⟨hl, hg⟩ _) fun _ _ =>
          W_last m (est_part4 m hQ more ⟨hl, hg⟩)
end Go.Proofs.Ytfjdfojjkhcfcaa.Ai
