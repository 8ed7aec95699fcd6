/- One run in the text's order serves every order: the rule. -/
import Derived.Test.YtngefbdedbbplaaAiDraw3
set_option linter.unusedSectionVars false
namespace Go.Proofs.Ytngefbdedbbplaa.Ai
open Go Go.RowKit
set_option linter.unusedVariables false
set_option linter.unusedSimpArgs false

section
variable {P : Program} {G : Env} {full : List Oper} {tb : Tab}

theorem lend1_same {s s' : St} (v : PV) (h : ∀ id ∈ refs1 v, s'.H.get id = s.H.get id) : lend1 s' v = lend1 s v := by
  unfold lend1
  cases v <;> try rfl
  rename_i id ver
  simp only [h id (by simp [refs1])]

theorem lends_same {f g : PV → Option (Bool × PV)} : ∀ {l : List PV}, (∀ v ∈ l, f v = g v) → lends f l = lends g l
  | [], _ => rfl
  | v :: r, h => by
    simp only [lends, h v (by simp), lends_same (l := r) fun x hx => h x (by simp [hx])]

theorem lend_same {s s' : St} (v : PV) (h : ∀ id ∈ refsV v, s'.H.get id = s.H.get id) : lend s' v = lend s v := by
  cases v
  case agg cs =>
    simp only [lend]
    rw [lends_same (f := lend1 s') (g := lend1 s) fun c hc => lend1_same c fun id hid => h id (List.mem_flatMap.2 ⟨c, hc, hid⟩)]
  all_goals
    simp only [lend]
    exact lend1_same (s := s) (s' := s') _ fun id hid => h id hid

theorem memB_spec {x : Nat} : ∀ {l : List Nat}, memB x l = true → x ∈ l
  | y :: r, h => by
    unfold memB at h
    split at h
    · rename_i e; simp [e]
    · exact List.mem_cons_of_mem _ (memB_spec h)
theorem subB_spec : ∀ {l k : List Nat}, subB l k = true → ∀ x ∈ l, x ∈ k
  | [], _, _, x, hx => by cases hx
  | y :: r, k, h, x, hx => by
    unfold subB at h
    split at h
    · rename_i hm
      rcases List.mem_cons.1 hx with rfl | hx
      · exact memB_spec hm
      · exact subB_spec h x hx
    · cases h

/-- What a call's result makes of the state: new rows lie under the keys of its slot. -/
theorem bindC_spec (key : Nat) : ∀ (q : Nat) (cs : List PV) (s : St), ∃ cs' gs, (∀ u ∈ gs, u.1 ∈ keysC key q cs) ∧ ∀ t : St, (∀ k ∈ keysC key q cs, t.H.get k = s.H.get k) → bindC key q cs t = (cs', ⟨t.T, Heap.ups t.H gs⟩)
  | _, [], _ => ⟨[], [], (fun _ h => by cases h), fun _ _ => rfl⟩
  | q, c :: r, s => by
    by_cases hc : ∃ e sz es, c = .fr e sz es
    · obtain ⟨e, sz, es, rfl⟩ := hc
      obtain ⟨cs', gs, h1, h2⟩ := bindC_spec key (q + 1) r ⟨s.T, s.H.new (key + 1000000 * q) (.row e sz es)⟩
      refine ⟨.osl (key + 1000000 * q) ((s.H.get (key + 1000000 * q)).1 + 1) :: cs', (key + 1000000 * q, (s.H.get (key + 1000000 * q)).1 + 1, .row e sz es) :: gs, fun u hu => ?_, fun t ht => ?_⟩
      · rcases List.mem_cons.1 hu with rfl | hu
        · simp [keysC]
        · simp only [keysC, List.mem_cons]; exact .inr (h1 u hu)
      · have e0 : t.H.get (key + 1000000 * q) = s.H.get (key + 1000000 * q) := ht _ (by simp [keysC])
        have := h2 ⟨t.T, t.H.new (key + 1000000 * q) (.row e sz es)⟩ fun k hk => by
          simp only [Heap.new, Heap.get_put, e0]
          split
          · rfl
          · exact ht k (by simp only [keysC, List.mem_cons]; exact .inr hk)
        simp only [bindC, this, e0]
        simp only [Heap.new, e0]
        rfl
    · have hno : ∀ e sz es, c ≠ .fr e sz es := fun e sz es h => hc ⟨e, sz, es, h⟩
      have hk : keysC key q (c :: r) = keysC key (q + 1) r := by
        cases c <;> first | rfl | exact absurd rfl (hno _ _ _)
      obtain ⟨cs', gs, h1, h2⟩ := bindC_spec key (q + 1) r s
      refine ⟨c :: cs', gs, fun u hu => by rw [hk]; exact h1 u hu, fun t ht => ?_⟩
      rw [bindC_other hno, h2 t fun k hk' => ht k (by rw [hk]; exact hk')]
theorem bindAt_spec (d key : Nat) (s : St) (v : PV) : ∃ v' gs, (∀ u ∈ gs, u.1 ∈ keys1 key v) ∧ ∀ t : St, (∀ k ∈ keys1 key v, t.H.get k = s.H.get k) → bindAt d key t v = (v', ⟨t.T, Heap.ups t.H gs⟩) := by
  cases v
  case fr e sz es =>
    refine ⟨.osl key ((s.H.get key).1 + 1), [(key, (s.H.get key).1 + 1, .row e sz es)], fun u hu => ?_, fun t ht => ?_⟩
    · obtain rfl : u = _ := by simpa using hu
      simp [keys1]
    · have e0 : t.H.get key = s.H.get key := ht _ (by simp [keys1])
      simp only [bindAt, Heap.new, e0, Heap.ups]
  case agg cs =>
    obtain ⟨cs', gs, h1, h2⟩ := bindC_spec key 1 cs s
    refine ⟨.agg cs', gs, h1, fun t ht => ?_⟩
    simp only [bindAt, h2 t ht]
  all_goals exact ⟨_, [], (fun _ h => by cases h), fun _ _ => rfl⟩
theorem bindL_spec (d : Nat) : ∀ (j : Nat) (vs : List PV) (s : St), ∃ vs' gs, (∀ u ∈ gs, u.1 ∈ keysL d j vs) ∧ ∀ t : St, (∀ k ∈ keysL d j vs, t.H.get k = s.H.get k) → bindL d j vs t = (vs', ⟨t.T, Heap.ups t.H gs⟩)
  | _, [], _ => ⟨[], [], (fun _ h => by cases h), fun _ _ => rfl⟩
  | j, v :: r, s => by
    obtain ⟨v', g1, h1, h2⟩ := bindAt_spec d (8 * d + j) s v
    obtain ⟨vs', g2, h3, h4⟩ := bindL_spec d (j + 1) r ⟨s.T, s.H.ups g1⟩
    refine ⟨v' :: vs', g1 ++ g2, fun u hu => ?_, fun t ht => ?_⟩
    · simp only [keysL, List.mem_append]
      exact (List.mem_append.1 hu).imp (h1 u) (h3 u)
    · have t1 := h2 t fun k hk => ht k (by simp only [keysL, List.mem_append]; exact .inl hk)
      have t2 := h4 ⟨t.T, t.H.ups g1⟩ fun k hk => Heap.get_ups_congr (ht k (by simp only [keysL, List.mem_append]; exact .inr hk))
      simp only [bindL, t1, t2, Heap.ups_app]
theorem bind_spec (s : St) (d : Option Nat) (r : PV) : ∃ e : Eff, (∀ u ∈ e.ups, u.1 ∈ keysD d r) ∧ ∀ t : St, (∀ k ∈ keysD d r, t.H.get k = s.H.get k) → bind t d r = t.app d e := by
  cases d with
  | none => exact ⟨⟨r, []⟩, (fun _ h => by cases h), fun _ _ => rfl⟩
  | some d =>
    by_cases hr : ∃ vs, r = .tup vs
    · obtain ⟨vs, rfl⟩ := hr
      obtain ⟨vs', gs, h1, h2⟩ := bindL_spec d 2 vs s
      refine ⟨⟨.tup vs', gs⟩, h1, fun t ht => ?_⟩
      simp only [bind, h2 t ht, St.app, St.put]
    · obtain ⟨v', gs, h1, h2⟩ := bindAt_spec d (8 * d) s r
      have hk : keysD (some d) r = keys1 (8 * d) r := by
        cases r <;> first | rfl | exact absurd ⟨_, rfl⟩ hr
      refine ⟨⟨v', gs⟩, fun u hu => by rw [hk]; exact h1 u hu, fun t ht => ?_⟩
      have e : bind t (some d) r = (bindAt d (8 * d) t r).2.put (some d) (bindAt d (8 * d) t r).1 := by
        cases r <;> first | rfl | exact absurd ⟨_, rfl⟩ hr
      rw [e, h2 t fun k hk' => ht k (by rw [hk]; exact hk')]
      simp only [St.app, St.put]

/-- A call's outcomes. -/
def CallR (P : Program) (G : Env) (o : Oper) (s : St) (K : St → Prop) (R : Eff → Prop) : Prop :=
  (∃ e, R e) ∧ (∀ e, R e → ∀ u ∈ e.ups, u.1 ∈ wrO G o s ∧ (u.1 ∈ keyO G o ∨ (s.H.get u.1).2 ≠ .dead)) ∧
    (∀ s' K', SameOp G o s s' → (∀ e, R e → K' (s'.app o.dst e)) → opD (std true P) G o s' K') ∧ ∀ e, R e → K (s.app o.dst e)

theorem call_R {o : Oper} (hk : kindOf G o = 2 ∨ kindOf G o = 4) {s : St} {K : St → Prop} (hK : opD (std true P) G o s K) : ∃ R, CallR P G o s K R := by
  obtain ⟨dst, opx, type, pos, after, guard⟩ := o
  cases opx <;> simp only [kindOf] at hk <;> try omega
  case slice t x lo hi mx => cases mx <;> simp only at hk <;> omega
  case call c =>
    obtain ⟨callee, args, ts⟩ := c
    cases callee with
    | invoke r m => simp only at hk; omega
    | builtin b => exfalso; cases b <;> simp only at hk <;> omega
    | value f =>
      cases f <;> simp only at hk <;> try omega
      rename_i f
      have hmem : ∀ x ∈ args.toList, x ∈ (Op.call ⟨.value (.func f), args, ts⟩).operands.toList := fun x hx => by
        simp only [Op.operands, Call.operands, Array.toList_append, List.mem_append]
        exact .inr hx
      have hev : ∀ s', SameOp G ⟨dst, .call ⟨.value (.func f), args, ts⟩, type, pos, after, guard⟩ s s' → evs s' args.toList = evs s args.toList := fun s' hs => by
        unfold evs
        exact List.map_congr_left fun x hx => hs.ev x (hmem x hx)
      have href : ∀ s', SameOp G ⟨dst, .call ⟨.value (.func f), args, ts⟩, type, pos, after, guard⟩ s s' → ∀ v ∈ evs s args.toList, ∀ id ∈ refsV v, s'.H.get id = s.H.get id := fun s' hs v hv id hid => by
        obtain ⟨x, hx, rfl⟩ := List.mem_map.1 hv
        exact (hs.at (hmem x hx)) id hid
      by_cases h4 : kindOf G ⟨dst, .call ⟨.value (.func f), args, ts⟩, type, pos, after, guard⟩ = 4
      · have hkeep := hK
        simp only [opD] at hK
        rw [if_pos h4] at hK
        unfold opCallN at hK
        split at hK
        case h_2 => exact hK.elim
        rename_i id ver sz i off rest he
        split at hK
        case h_2 => exact hK.elim
        rename_i rest' s1 hp
        obtain ⟨gs, rfl, hgs, hpt⟩ := pargsN_spec hp
        split at hK
        case h_2 => exact hK.elim
        rename_i v' cs hg
        split at hK
        case isFalse => exact hK.elim
        rename_i e1
        split at hK
        case isFalse => exact hK.elim
        rename_i e2
        split at hK
        case isFalse => exact hK.elim
        rename_i e3
        split at hK
        case isFalse => exact hK.elim
        rename_i e4
        obtain ⟨Q, hok, hb, hQ⟩ := hK
        obtain ⟨r0, c0, hq0⟩ := hb rfl
        let o0 : Oper := ⟨dst, .call ⟨.value (.func f), args, ts⟩, type, pos, after, guard⟩
        let Spec : PV → List PV → Eff → Prop := fun r cs' e => subB (keysD dst r) (keyO G o0) = true ∧ ∃ eb : Eff, (∀ u ∈ eb.ups, u.1 ∈ keysD dst r) ∧ (∀ t : St, (∀ k ∈ keysD dst r, t.H.get k = ((s.H.ups gs).put id (ver, .box cs')).get k) → bind t dst r = t.app dst eb) ∧ e = ⟨eb.v, gs ++ [(id, ver, .box cs')] ++ eb.ups⟩
        have hspec : ∀ r cs', Q r cs' → ∃ e, Spec r cs' e := fun r cs' hq => by
          have h1 := hQ r cs' hq
          simp only at h1
          split at h1
          case isFalse => exact h1.elim
          rename_i hsub
          obtain ⟨eb, k1, k2⟩ := bind_spec ⟨s.T, (s.H.ups gs).put id (ver, .box cs')⟩ dst r
          exact ⟨_, hsub, eb, k1, k2, rfl⟩
        have hbind : ∀ (s' : St) r cs' e, (∀ k ∈ keyO G o0, s'.H.get k = s.H.get k) → Spec r cs' e → bind ⟨s'.T, (s'.H.ups gs).put id (ver, .box cs')⟩ dst r = s'.app dst e := fun s' r cs' e hk ⟨hsub, eb, k1, k2, e0⟩ => by
          subst e0
          rw [k2 ⟨s'.T, (s'.H.ups gs).put id (ver, .box cs')⟩ fun k hm => by
            simp only [Heap.get_put]
            split
            · rfl
            · exact Heap.get_ups_congr (hk k (subB_spec hsub k hm))]
          unfold St.app
          simp only [Heap.ups_app, Heap.ups]
          cases dst <;> rfl
        have hrefs : ∀ v ∈ evs s args.toList, ∀ k ∈ refsV v, k ∈ args.toList.flatMap fun x => refsV (s.ev x) := fun v hv k hk => by
          obtain ⟨x, hx, rfl⟩ := List.mem_map.1 hv
          exact List.mem_flatMap.2 ⟨x, hx, hk⟩
        obtain ⟨e00, hs00⟩ := hspec r0 c0 hq0
        refine ⟨fun e => ∃ r cs', Q r cs' ∧ Spec r cs' e, ⟨e00, r0, c0, hq0, hs00⟩, ?_, ?_, ?_⟩
        · rintro e ⟨r, cs', hq, hsub, eb, k1, _, rfl⟩ u hu
          simp only [wrO, h4, if_true, List.mem_append]
          rcases List.mem_append.1 hu with hu | hu
          case inr => exact ⟨.inl (subB_spec hsub _ (k1 u hu)), .inl (subB_spec hsub _ (k1 u hu))⟩
          rcases List.mem_append.1 hu with hu | hu
          · obtain ⟨a1, a2, -⟩ := hgs u hu
            obtain ⟨v, hv, hvu⟩ := List.mem_flatMap.1 a1
            exact ⟨.inr (hrefs v (by rw [he]; simp [hv]) _ hvu), .inr a2⟩
          · obtain rfl : u = _ := by simpa using hu
            refine ⟨.inr (hrefs (.optr id ver sz i off) (by rw [he]; simp) id (by simp [refsV, refs1])), .inr ?_⟩
            rcases Heap.get_ups_or (k := id) (u := gs) (h := s.H) (fun a ha => (hgs a ha).2.2) with e | e
            · rw [← e, hg]; simp
            · rw [hg] at e; cases e
        · intro s' K' hs hR
          simp only [opD]
          rw [if_pos h4, hev s' hs, he]
          unfold opCallN
          simp only
          rw [hpt s' fun k hk => by
            obtain ⟨v, hv, hvk⟩ := List.mem_flatMap.1 hk
            exact href s' hs v (by rw [he]; simp [hv]) k hvk]
          have hg' : (s'.H.ups gs).get id = (v', .box cs) := (Heap.get_ups_congr (href s' hs (.optr id ver sz i off) (by rw [he]; simp) id (by simp [refsV, refs1]))).trans hg
          simp only [hg', if_pos e1, if_pos e2, if_pos e3, if_pos e4]
          refine ⟨Q, hok, fun _ => ⟨r0, c0, hq0⟩, fun r cs' hq => ?_⟩
          obtain ⟨e9, hs9⟩ := hspec r cs' hq
          show if subB (keysD dst r) (keyO G o0) = true then K' (bind ⟨s'.T, (s'.H.ups gs).put id (ver, .box cs')⟩ dst r) else False
          rw [if_pos hs9.1, hbind s' r cs' e9 (fun k hk => hs.heap k (List.mem_append_right _ hk)) hs9]
          exact hR _ ⟨r, cs', hq, hs9⟩
        · rintro e ⟨r, cs', hq, hs9⟩
          have := hQ r cs' hq
          simp only at this
          rw [if_pos hs9.1] at this
          rwa [hbind s r cs' e (fun _ _ => rfl) hs9] at this
      -- the run itself
      have hopc : opCallD (std true P) f s (evs s args.toList) (keyO G ⟨dst, .call ⟨.value (.func f), args, ts⟩, type, pos, after, guard⟩) dst K ∧ ∀ s' K', SameOp G ⟨dst, .call ⟨.value (.func f), args, ts⟩, type, pos, after, guard⟩ s s' →
          opCallD (std true P) f s' (evs s args.toList) (keyO G ⟨dst, .call ⟨.value (.func f), args, ts⟩, type, pos, after, guard⟩) dst K' → opD (std true P) G ⟨dst, .call ⟨.value (.func f), args, ts⟩, type, pos, after, guard⟩ s' K' := by
        simp only [opD] at hK ⊢
        rw [if_neg h4] at hK
        split at hK
        · exact hK.elim
        · rename_i hne
          refine ⟨hK, fun s' K' hs hc => ?_⟩
          rw [if_neg h4, hev s' hs]
          split
          · rename_i he; exact absurd he (hne _ _ _ _ _ _)
          · exact hc
      obtain ⟨hc, back⟩ := hopc
      generalize hks : keyO G ⟨dst, .call ⟨.value (.func f), args, ts⟩, type, pos, after, guard⟩ = ks at hc back
      unfold opCallD at hc
      split at hc
      case h_2 => exact hc.elim
      rename_i own args' hlend
      have hls : ∀ s', SameOp G ⟨dst, .call ⟨.value (.func f), args, ts⟩, type, pos, after, guard⟩ s s' → lends (lend s') (evs s args.toList) = lends (lend s) (evs s args.toList) := fun s' hs => lends_same fun v hv => lend_same v (href s' hs v hv)
      have main : ∀ (b : Bool), std true P (.call f b args') (fun r => if subB (keysD dst r) ks then K (bind s dst r) else False) →
          (∀ s' (K' : St → Prop), SameOp G ⟨dst, .call ⟨.value (.func f), args, ts⟩, type, pos, after, guard⟩ s s' → std true P (.call f b args') (fun r => if subB (keysD dst r) ks then K' (bind s' dst r) else False) → opCallD (std true P) f s' (evs s args.toList) ks dst K') →
          ∃ R, CallR P G ⟨dst, .call ⟨.value (.func f), args, ts⟩, type, pos, after, guard⟩ s K R := fun b h1 h2 => by
        obtain ⟨Q, hok, hb, hQ⟩ := h1
        obtain ⟨r0, hq0⟩ := hb rfl
        let Spec : PV → Eff → Prop := fun r e => subB (keysD dst r) ks = true ∧ (∀ u ∈ e.ups, u.1 ∈ keysD dst r) ∧ ∀ t : St, (∀ k ∈ keysD dst r, t.H.get k = s.H.get k) → bind t dst r = t.app dst e
        have hspec : ∀ r, Q r → ∃ e, Spec r e := fun r hq => by
          have h1 := hQ r hq
          simp only at h1
          split at h1
          case isFalse => exact h1.elim
          rename_i hsub
          obtain ⟨eb, k1, k2⟩ := bind_spec s dst r
          exact ⟨eb, hsub, k1, k2⟩
        obtain ⟨e00, hs00⟩ := hspec r0 hq0
        refine ⟨fun e => ∃ r, Q r ∧ Spec r e, ⟨e00, r0, hq0, hs00⟩, ?_, ?_, ?_⟩
        · rintro e ⟨r, _, hsub, k1, _⟩ u hu
          have hk := subB_spec hsub _ (k1 u hu)
          rw [← hks] at hk
          exact ⟨List.mem_append_left _ hk, .inl hk⟩
        · intro s' K' hs hR
          refine back s' K' hs (h2 s' K' hs ⟨Q, hok, fun _ => ⟨r0, hq0⟩, fun v hv => ?_⟩)
          obtain ⟨e9, hs9⟩ := hspec v hv
          show if subB (keysD dst v) ks = true then K' (bind s' dst v) else False
          rw [if_pos hs9.1, hs9.2.2 s' fun k hk => hs.heap k (List.mem_append_right _ (by rw [hks]; exact subB_spec hs9.1 k hk))]
          exact hR _ ⟨v, hv, hs9⟩
        · rintro e ⟨r, hq, hs9⟩
          have := hQ r hq
          simp only at this
          rw [if_pos hs9.1, hs9.2.2 s fun _ _ => rfl] at this
          exact this
      split at hc
      · rename_i hb
        refine main true (hc.resolve_right id) fun s' K' hs hcc => ?_
        unfold opCallD
        rw [hls s' hs, hlend]
        simp only [hb, if_true]
        exact .inl hcc
      · rename_i hb
        refine main false hc fun s' K' hs hcc => ?_
        unfold opCallD
        rw [hls s' hs, hlend]
        simp only [hb]
        exact hcc

/-! ### Steps -/
/-- What an operation and its guard look at is the same in both states. -/
structure Same (G : Env) (full : List Oper) (o : Oper) (s s' : St) : Prop where
  T : ∀ t ∈ o.looksAt full.toArray, s'.T.getD t .undef = s.T.getD t .undef
  H : ∀ id ∈ fpO G o s, s'.H.get id = s.H.get id

theorem Same.ev {o : Oper} {s s' : St} (h : Same G full o s s') : ∀ x ∈ o.op.operands.toList, s'.ev x = s.ev x := fun x hx => by
  cases x with
  | tmp t => exact congrArg unv (h.T t (by
      unfold Oper.looksAt
      exact List.mem_append_left _ (List.mem_filterMap.2 ⟨.tmp t, hx, rfl⟩)))
  | _ => rfl

theorem Same.op {o : Oper} {s s' : St} (h : Same G full o s s') : SameOp G o s s' := ⟨h.ev, h.H⟩

theorem flatMap_congr {α β : Type} {f g : α → List β} : ∀ {l : List α}, (∀ x ∈ l, f x = g x) → l.flatMap f = l.flatMap g
  | [], _ => rfl
  | x :: r, h => by simp only [List.flatMap_cons, h x (by simp), flatMap_congr (l := r) fun y hy => h y (by simp [hy])]

theorem Same.fp {o : Oper} {s s' : St} (h : Same G full o s s') : fpO G o s' = fpO G o s := by
  unfold fpO refsO
  split
  · rw [flatMap_congr fun x hx => by rw [h.ev x hx]]
  · rfl

theorem firstRefs_same {s s' : St} {l : List Operand} (h : ∀ x ∈ l, s'.ev x = s.ev x) : firstRefs s' l = firstRefs s l := by
  cases l with
  | nil => rfl
  | cons x r => simp only [firstRefs, h x (by simp)]

theorem Same.wr {o : Oper} {s s' : St} (h : Same G full o s s') : wrO G o s' = wrO G o s := by
  unfold wrO
  cases hop : o.op with
  | call c =>
    have hf : firstRefs s' c.args.toList = firstRefs s c.args.toList := firstRefs_same fun x hx => h.ev x (by
      rw [hop]
      simp only [Op.operands, Call.operands, Array.toList_append, List.mem_append]
      exact .inr hx)
    have hr : c.args.toList.flatMap (fun x => refsV (s'.ev x)) = c.args.toList.flatMap fun x => refsV (s.ev x) := flatMap_congr fun x hx => by
      rw [h.ev x (by
        rw [hop]
        simp only [Op.operands, Call.operands, Array.toList_append, List.mem_append]
        exact .inr hx)]
    simp only [hf, hr]
  | buildSlice t n parts =>
    have hr : parts.toList.flatMap (fun p => refsV (s'.ev p.2)) = parts.toList.flatMap fun p => refsV (s.ev p.2) := flatMap_congr fun p hp => by
      rw [h.ev p.2 (by
        rw [hop]
        simp only [Op.operands, Array.toList_map]
        exact List.mem_map.2 ⟨p, hp, rfl⟩)]
    simp only [hr]
  | store t a v =>
    have ha : s'.ev a = s.ev a := h.ev a (by
      rw [hop]
      simp [Op.operands])
    simp only [ha]
  | _ => rfl

theorem Same.guard {o : Oper} {s s' : St} (h : Same G full o s s') {j : Nat} {want : Bool} (hg : o.guard = some (j, want)) {oj : Oper} (hj : full[j]? = some oj) {t : Nat} (ht : oj.dst = some t) : s'.T.getD t .undef = s.T.getD t .undef :=
  h.T t (by
    unfold Oper.looksAt
    refine List.mem_append_right _ ?_
    simp only [hg, List.getElem?_toArray, hj, Option.bind_some, ht]
    simp)

theorem Same.refl (o : Oper) (s : St) : Same G full o s s := ⟨fun _ _ => rfl, fun _ _ => rfl⟩
theorem Same.symm {o : Oper} {s s' : St} (h : Same G full o s s') : Same G full o s' s := ⟨fun t ht => (h.T t ht).symm, fun id hid => (h.H id (by rw [← h.fp]; exact hid)).symm⟩
theorem Same.trans {o : Oper} {s s' s'' : St} (h : Same G full o s s') (k : Same G full o s' s'') : Same G full o s s'' :=
  ⟨fun t ht => (k.T t ht).trans (h.T t ht), fun id hid => (k.H id (by rw [h.fp]; exact hid)).trans (h.H id hid)⟩

theorem put_T (s : St) {d : Option Nat} {v : PV} {t : Nat} (h : d ≠ some t) : (s.put d v).T.getD t .undef = s.T.getD t .undef := by
  cases d with
  | none => rfl
  | some d =>
    have : d ≠ t := fun e => h (e ▸ rfl)
    simp [St.put, List.getD, List.getElem?_set_ne this]

/-- An operation's effect does not touch what another one looks at. -/
theorem Same.app {o : Oper} {s : St} {d : Option Nat} {e : Eff} (h : ∀ t, d = some t → t ∉ o.looksAt full.toArray) (hu : ∀ u ∈ e.ups, u.1 ∉ fpO G o s) : Same G full o s (s.app d e) :=
  ⟨fun t ht => put_T s fun he => h t he ht, fun id hid => Heap.get_ups fun a ha he => hu a ha (he ▸ hid)⟩

theorem app_comm (s : St) {x y : Option Nat} (e f : Eff) (h : ∀ d, x = some d → y ≠ some d) (h1 : ∀ a ∈ e.ups, s.H.has a.1) (h2 : ∀ b ∈ f.ups, s.H.has b.1) (h3 : ∀ a ∈ e.ups, ∀ b ∈ f.ups, a.1 ≠ b.1) : (s.app x e).app y f = (s.app y f).app x e := by
  have hT : ((s.app x e).put y f.v).T = ((s.app y f).put x e.v).T := by
    cases x with
    | none => cases y <;> rfl
    | some d =>
      cases y with
      | none => rfl
      | some d' =>
        have hne : d ≠ d' := fun he => h d rfl (he ▸ rfl)
        simp [St.app, St.put, List.set_comm _ _ hne]
  show St.mk _ _ = St.mk _ _
  rw [hT]
  exact congrArg _ (Heap.ups_comm h1 h2 h3)

/-- The keys of the objects that a region makes are there. -/
def Tch (G : Env) (full : List Oper) (s : St) : Prop := ∀ o ∈ full, ∀ id ∈ keyO G o, s.H.has id
theorem Tch.app {s : St} (h : Tch G full s) (d : Option Nat) (e : Eff) : Tch G full (s.app d e) := fun o ho id hid => Heap.has_ups (h o ho id hid)

def kindOk (G : Env) (o : Oper) : Prop := detK G o = true ∨ kindOf G o = 2 ∨ kindOf G o = 4

/-- 'o' has any effect of R, in 's' and in every state that looks the same to it. -/
structure YR (P : Program) (G : Env) (full : List Oper) (tb : Tab) (n : Nat) (o : Oper) (R : Eff → Prop) (s : St) : Prop where
  ex : ∃ e, R e
  ids : ∀ e, R e → ∀ u ∈ e.ups, u.1 ∈ tabW tb n ∧ s.H.has u.1
  fp : ∀ id ∈ fpO G o s, id ∈ tabF tb n
  go : ∀ s' K', Same G full o s s' → (∀ e, R e → K' (s'.app o.dst e)) → stepG (std true P) G full tb n o s' K'
  det : detK G o = true → ∃ u, (∀ e, R e → e = u) ∧ ∀ s' K', Same G full o s s' → stepG (std true P) G full tb n o s' K' → K' (s'.app o.dst u)

theorem YR.same {n : Nat} {o : Oper} {R : Eff → Prop} {s s' : St} (h : YR P G full tb n o R s) (hs : Same G full o s s') (hh : ∀ id, s.H.has id → s'.H.has id) : YR P G full tb n o R s' :=
  ⟨h.ex, fun e he u hu => ⟨(h.ids e he u hu).1, hh _ (h.ids e he u hu).2⟩, fun id hid => h.fp id (by rw [← hs.fp]; exact hid), fun s'' K' h' hK => h.go s'' K' (hs.trans h') hK,
    fun hd => by obtain ⟨u, h1, h2⟩ := h.det hd; exact ⟨u, h1, fun s'' K' h' hK => h2 s'' K' (hs.trans h') hK⟩⟩

/-- The step, its checks and its guard taken apart. -/
theorem step_R {n : Nat} {o : Oper} (hk : kindOk G o) (ho : o ∈ full) {s : St} (ht : Tch G full s) {K : St → Prop} (h : stepG (std true P) G full tb n o s K) : ∃ R, YR P G full tb n o R s ∧ ∀ e, R e → K (s.app o.dst e) := by
  unfold stepG at h
  split at h
  case isFalse => exact h.elim
  rename_i hf
  split at h
  case isFalse => exact h.elim
  rename_i hw
  have chk : ∀ s' K', Same G full o s s' → (match o.guard with
      | none => opD (std true P) G o s' K'
      | some (j, want) => match full[j]? with
        | some oj => match oj.dst with
          | some t => match s'.T.getD t .undef with
            | .bool b => if b = want then opD (std true P) G o s' K' else K' (s'.put o.dst .skip)
            | .skip => K' (s'.put o.dst .skip)
            | _ => False
          | none => False
        | none => False) → stepG (std true P) G full tb n o s' K' := fun s' K' hs hh => by
    unfold stepG
    rw [hs.fp, if_pos hf, hs.wr, if_pos hw]
    exact hh
  have unchk : ∀ s' K', Same G full o s s' → stepG (std true P) G full tb n o s' K' → (match o.guard with
      | none => opD (std true P) G o s' K'
      | some (j, want) => match full[j]? with
        | some oj => match oj.dst with
          | some t => match s'.T.getD t .undef with
            | .bool b => if b = want then opD (std true P) G o s' K' else K' (s'.put o.dst .skip)
            | .skip => K' (s'.put o.dst .skip)
            | _ => False
          | none => False
        | none => False) := fun s' K' hs hh => by
    unfold stepG at hh
    rw [hs.fp, if_pos hf, hs.wr, if_pos hw] at hh
    exact hh
  have fp : ∀ id ∈ fpO G o s, id ∈ tabF tb n := subB_spec hf
  have wr : ∀ id ∈ wrO G o s, id ∈ tabW tb n := subB_spec hw
  have has : ∀ id, (id ∈ keyO G o ∨ (s.H.get id).2 ≠ .dead) → s.H.has id := fun id hid => by
    rcases hid with hid | hid
    · exact ht o ho id hid
    · exact Heap.has_get rfl hid
  -- the operation is run
  have run : (∀ s' K', Same G full o s s' → (opD (std true P) G o s' K' ↔ stepG (std true P) G full tb n o s' K')) → opD (std true P) G o s K → ∃ R, YR P G full tb n o R s ∧ ∀ e, R e → K (s.app o.dst e) := fun hr hop => by
    have calls : (kindOf G o = 2 ∨ kindOf G o = 4) → detK G o = false → ∃ R, YR P G full tb n o R s ∧ ∀ e, R e → K (s.app o.dst e) := fun hk hd => by
      obtain ⟨R, h1, h2, h3, h4⟩ := call_R hk hop
      exact ⟨R, ⟨h1, fun e he u hu => ⟨wr _ (h2 e he u hu).1, has _ (h2 e he u hu).2⟩, fp, fun s' K' hs hK => (hr s' K' hs).1 (h3 s' K' hs.op hK), fun e => by rw [hd] at e; cases e⟩, h4⟩
    rcases hk with hk | hk
    · rcases detE (P := P) hk s with hd | ⟨u, h1, h2⟩
      · exact absurd hop (hd K)
      · exact ⟨(· = u), ⟨⟨u, rfl⟩, fun e he x hx => by subst he; exact ⟨wr _ (h1 x hx).1, has _ (h1 x hx).2⟩, fp, fun s' K' hs hK => (hr s' K' hs).1 ((h2 s' K' hs.op).2 (hK u rfl)),
          fun _ => ⟨u, fun e he => he, fun s' K' hs hh => (h2 s' K' hs.op).1 ((hr s' K' hs).2 hh)⟩⟩, fun e he => by subst he; exact (h2 s K (SameOp.refl o s)).1 hop⟩
    · by_cases hd : detK G o = true
      · simp only [detK, Bool.or_eq_true, beq_iff_eq] at hd
        omega
      · exact calls hk (by simpa using hd)
  have skip : (∀ s' K', Same G full o s s' → (K' (s'.put o.dst .skip) ↔ stepG (std true P) G full tb n o s' K')) → K (s.put o.dst .skip) → ∃ R, YR P G full tb n o R s ∧ ∀ e, R e → K (s.app o.dst e) := fun hr hop =>
    ⟨(· = ⟨.skip, []⟩), ⟨⟨_, rfl⟩, fun e he x hx => by (subst he; cases hx), fp, fun s' K' hs hK => (hr s' K' hs).1 (by rw [← app_nil]; exact hK _ rfl),
      fun _ => ⟨_, fun e he => he, fun s' K' hs hh => by rw [app_nil]; exact (hr s' K' hs).2 hh⟩⟩, fun e he => by subst he; rw [app_nil]; exact hop⟩
  split at h
  · rename_i hg
    exact run (fun s' K' hs => ⟨fun x => chk s' K' hs (by rw [hg]; exact x), fun x => by have := unchk s' K' hs x; rw [hg] at this; exact this⟩) h
  · rename_i j want hg
    split at h
    case h_2 => exact h.elim
    rename_i oj hj
    split at h
    case h_2 => exact h.elim
    rename_i t htt
    have hsame : ∀ s', Same G full o s s' → s'.T.getD t .undef = s.T.getD t .undef := fun s' hs => hs.guard hg hj htt
    split at h
    · rename_i b hb
      split at h
      · rename_i e
        refine run (fun s' K' hs => ⟨fun x => chk s' K' hs ?_, fun x => ?_⟩) h
        · rw [hg]; simp only [hj, htt, hsame s' hs, hb, e, if_true]; exact x
        · have := unchk s' K' hs x
          rw [hg] at this; simp only [hj, htt, hsame s' hs, hb, e, if_true] at this; exact this
      · rename_i e
        refine skip (fun s' K' hs => ⟨fun x => chk s' K' hs ?_, fun x => ?_⟩) h
        · rw [hg]; simp only [hj, htt, hsame s' hs, hb, e, if_false]; exact x
        · have := unchk s' K' hs x
          rw [hg] at this; simp only [hj, htt, hsame s' hs, hb, e, if_false] at this; exact this
    · rename_i hb
      refine skip (fun s' K' hs => ⟨fun x => chk s' K' hs ?_, fun x => ?_⟩) h
      · rw [hg]; simp only [hj, htt, hsame s' hs, hb]; exact x
      · have := unchk s' K' hs x
        rw [hg] at this; simp only [hj, htt, hsame s' hs, hb] at this; exact this
    · exact h.elim

/-! ### Any order -/
def qA (P : Program) (G : Env) (full : List Oper) (tb : Tab) (i : Nat) (K : St → Prop) (s : St) : Prop :=
  match full[i]? with
  | none => K s
  | some o => stepG (std true P) G full tb i o s K

def anyA (P : Program) (G : Env) (full : List Oper) (tb : Tab) (Q : St → Prop) : Nat → Array Bool → St → Prop
  | 0, listed, s => Region.ready .any full.toArray listed = [] ∧ Q s
  | fuel + 1, listed, s => (Region.ready .any full.toArray listed = [] → Q s) ∧ ∀ i ∈ Region.ready .any full.toArray listed, qA P G full tb i (anyA P G full tb Q fuel (listed.setIfInBounds i true)) s

def disB : List Nat → List Nat → Bool
  | [], _ => true
  | x :: r, l => if memB x l then false else disB r l
theorem memB_mem {x : Nat} : ∀ {l : List Nat}, x ∈ l → memB x l = true
  | y :: r, h => by
    unfold memB
    split
    · rfl
    · rename_i e
      rcases List.mem_cons.1 h with rfl | h
      · exact absurd rfl e
      · exact memB_mem h
theorem disB_spec : ∀ {l k : List Nat}, disB l k = true → ∀ x ∈ l, x ∉ k
  | y :: r, k, h, x, hx => by
    unfold disB at h
    split at h
    · cases h
    · rename_i hm
      rcases List.mem_cons.1 hx with rfl | hx
      · exact fun hk => hm (memB_mem hk)
      · exact disB_spec h x hx

/-- Two operations of which the second may come before the first. -/
def apartA (G : Env) (full : List Oper) (tb : Tab) (i j : Nat) (x y : Oper) : Bool :=
  x.apart full.toArray y && (detK G x || detK G y) && disB (tabW tb i) (tabF tb j) && disB (tabW tb j) (tabF tb i) && disB (tabW tb i) (tabW tb j)

theorem anyA_put {i j : Nat} {oi oj : Oper} (hkj : kindOk G oj) (hoj : oj ∈ full) (hap : apartA G full tb i j oi oj = true) {R : Eff → Prop} {s : St} (ht : Tch G full s) (hy : YR P G full tb i oi R s) {K : St → Prop}
    (h : ∀ e, R e → stepG (std true P) G full tb j oj (s.app oi.dst e) K) : stepG (std true P) G full tb j oj s fun s' => Tch G full s' ∧ YR P G full tb i oi R s' ∧ ∀ e, R e → K (s'.app oi.dst e) := by
  unfold apartA at hap
  simp only [Bool.and_eq_true, Bool.or_eq_true] at hap
  obtain ⟨⟨⟨⟨hap, hor⟩, d1⟩, d2⟩, d3⟩ := hap
  obtain ⟨h1, h2, h3⟩ := Oper.apart_spec hap
  obtain ⟨e0, he0⟩ := hy.ex
  obtain ⟨R', hY', hK'⟩ := step_R hkj hoj (ht.app oi.dst e0) (h e0 he0)
  -- the second looks the same before the first
  have hfj : ∀ id ∈ fpO G oj s, id ∈ tabF tb j := fun id hid => hY'.fp id (by
    have : fpO G oj (s.app oi.dst e0) = fpO G oj s := by
      unfold fpO refsO
      split
      case isFalse => rfl
      refine congrArg (· ++ keyO G oj) (flatMap_congr fun x hx => ?_)
      cases x with
      | tmp t =>
        have : (s.app oi.dst e0).T.getD t .undef = s.T.getD t .undef := put_T s fun he => h1 t he (by
          unfold Oper.looksAt
          exact List.mem_append_left _ (List.mem_filterMap.2 ⟨.tmp t, hx, rfl⟩))
        show refsV (unv ((s.app oi.dst e0).T.getD t .undef)) = refsV (unv (s.T.getD t .undef))
        rw [this]
      | _ => rfl
    rw [this]; exact hid)
  have hsj : ∀ e, R e → Same G full oj s (s.app oi.dst e) := fun e he => Same.app (fun t htt => h1 t htt) fun u hu hm => disB_spec d1 u.1 (hy.ids e he u hu).1 (hfj u.1 hm)
  have hidj : ∀ e', R' e' → ∀ u ∈ e'.ups, u.1 ∈ tabW tb j := fun e' he' u hu => (hY'.ids e' he' u hu).1
  have hsi : ∀ e', R' e' → Same G full oi s (s.app oj.dst e') := fun e' he' => Same.app (fun t htt => h3 t htt) fun u hu hm => disB_spec d2 u.1 (hidj e' he' u hu) (hy.fp u.1 hm)
  -- keys that are there behind the first are there before it, where the second writes
  have comm : ∀ e, R e → ∀ e', R' e' → (∀ u ∈ e'.ups, s.H.has u.1) → (s.app oi.dst e).app oj.dst e' = (s.app oj.dst e').app oi.dst e := fun e he e' he' hh =>
    app_comm s e e' h2 (fun a ha => (hy.ids e he a ha).2) hh fun a ha b hb hab => disB_spec d3 a.1 (hy.ids e he a ha).1 (hab ▸ hidj e' he' b hb)
  have hback : ∀ e', R' e' → ∀ u ∈ e'.ups, s.H.has u.1 := fun e' he' u hu => by
    have hh := (hY'.ids e' he' u hu).2
    have hne : ∀ a ∈ e0.ups, a.1 ≠ u.1 := fun a ha hab => disB_spec d3 a.1 (hy.ids e0 he0 a ha).1 (hab ▸ hidj e' he' u hu)
    exact Heap.has_ups_back (fun a ha => (hy.ids e0 he0 a ha).2) hh
  refine hY'.go s _ (hsj e0 he0).symm fun e' he' => ⟨ht.app _ _, hy.same (hsi e' he') fun id hid => Heap.has_ups hid, fun e he => ?_⟩
  rw [← comm e he e' he' (hback e' he')]
  rcases hor with hor | hor
  · obtain ⟨u, hu, _⟩ := hy.det hor
    rw [hu e he, ← hu e0 he0]
    exact hK' e' he'
  · obtain ⟨u, hu, hdet⟩ := hY'.det hor
    rw [hu e' he']
    exact hdet (s.app oi.dst e) K ((hsj e0 he0).symm.trans (hsj e he)) (h e he)

/-- 'j' comes up behind 'i' in every order. -/
inductive Waits (full : List Oper) : Nat → Nat → Prop
  | base {j i : Nat} {o : Oper} {e : Edge} (hj : full[j]? = some o) (he : e ∈ o.after) (hb : Region.binds .any e = true) (hi : e.on = i) : Waits full j i
  | step {j i : Nat} {o : Oper} {e : Edge} (hj : full[j]? = some o) (he : e ∈ o.after) (hb : Region.binds .any e = true) (hw : Waits full e.on i) : Waits full j i

def Closed (full : List Oper) (listed : Array Bool) : Prop := ∀ (j : Nat) (o : Oper), full[j]? = some o → listed.getD j false = true → ∀ e ∈ o.after, Region.binds .any e = true → listed.getD e.on false = true

theorem Waits.listed {listed : Array Bool} (hc : Closed full listed) {j i : Nat} (h : Waits full j i) : listed.getD j false = true → listed.getD i false = true := by
  induction h with
  | base hj he hb hi => exact fun hl => hi ▸ hc _ _ hj hl _ he hb
  | step hj he hb hw ih => exact fun hl => ih (hc _ _ hj hl _ he hb)

theorem not_listed {listed : Array Bool} {i : Nat} (h : listed.getD i true = false) : ¬ listed.getD i false = true := fun h1 => by
  rcases Nat.lt_or_ge i listed.size with h' | h'
  · simp [h'] at h h1; rw [h] at h1; cases h1
  · simp [Array.getElem?_eq_none h'] at h1

theorem Closed.set {listed : Array Bool} (hc : Closed full listed) {j : Nat} (hj : j ∈ Region.ready .any full.toArray listed) : Closed full (listed.setIfInBounds j true) := fun k o hk hl e he hb => by
  obtain ⟨hjun, oj, hoj, hall⟩ := mem_ready.1 hj
  by_cases hjk : j = k
  · subst hjk
    obtain rfl : oj = o := by
      have hoj' : full[j]? = some oj := by simpa using hoj
      rw [hk] at hoj'
      exact (Option.some.inj hoj').symm
    exact getD_set_true (hall e he hb)
  · rw [getD_set_ne false hjk] at hl
    exact getD_set_true (hc k o hk hl e he hb)

theorem stepG_mono {n : Nat} {o : Oper} (hk : kindOk G o) (ho : o ∈ full) {s : St} (ht : Tch G full s) {K K' : St → Prop} (h : stepG (std true P) G full tb n o s K) (hm : ∀ s', K s' → K' s') : stepG (std true P) G full tb n o s K' := by
  obtain ⟨R, h1, h2⟩ := step_R hk ho ht h
  exact h1.go s K' (Same.refl o s) fun e he => hm _ (h2 e he)

/-- **An operation that may come up now may be taken first.** -/
theorem anyA_first {Q : St → Prop} {i : Nat} {oi : Oper} (hi : full[i]? = some oi) (hkind : ∀ (j : Nat) (o : Oper), full[j]? = some o → kindOk G o) {R : Eff → Prop} :
    ∀ (fuel : Nat) (listed : Array Bool) (s : St),
      (∀ j oj, full[j]? = some oj → j ≠ i → listed.getD j true = false → ¬ Waits full j i → apartA G full tb i j oi oj = true) → Closed full listed →
      i ∈ Region.ready .any full.toArray listed → Tch G full s → YR P G full tb i oi R s →
      (∀ v, R v → anyA P G full tb Q fuel (listed.setIfInBounds i true) (s.app oi.dst v)) → anyA P G full tb Q (fuel + 1) listed s := by
  intro fuel
  have self : ∀ {s : St} {K : St → Prop}, YR P G full tb i oi R s → (∀ v, R v → K (s.app oi.dst v)) → qA P G full tb i K s := fun hy hK => by
    unfold qA
    simp only [hi]
    exact hy.go _ _ (Same.refl _ _) hK
  induction fuel with
  | zero =>
    intro listed s _ _ hr ht hy H
    refine ⟨fun h => (by rw [h] at hr; cases hr), fun j hj => ?_⟩
    by_cases hji : j = i
    · subst hji; exact self hy H
    · have := ready_mono hj hji
      obtain ⟨v, hv⟩ := hy.ex
      rw [(H v hv).1] at this
      cases this
  | succ fuel ih =>
    intro listed s hfree hcl hr ht hy H
    refine ⟨fun h => (by rw [h] at hr; cases hr), fun j hj => ?_⟩
    by_cases hji : j = i
    · subst hji; exact self hy H
    · obtain ⟨hjun, oj, hoj, hall⟩ := mem_ready.1 hj
      have hoj' : full[j]? = some oj := by simpa using hoj
      have hnot : ¬ Waits full j i := fun hw => by
        have h0 := not_listed (mem_ready.1 hr).1
        cases hw with
        | base hj' he hb hi' =>
          obtain rfl := Option.some.inj (hoj'.symm.trans hj')
          exact h0 (hi' ▸ hall _ he hb)
        | step hj' he hb hw =>
          obtain rfl := Option.some.inj (hoj'.symm.trans hj')
          exact h0 (hw.listed hcl (hall _ he hb))
      have hap := hfree j oj hoj' hji hjun hnot
      have h2 := anyA_put (hkind j oj hoj') (List.mem_of_getElem? hoj') hap ht hy fun v hv => by
        have := (H v hv).2 j (ready_mono hj hji)
        unfold qA at this
        simp only [hoj'] at this
        exact this
      have hfree' : ∀ k ok, full[k]? = some ok → k ≠ i → (listed.setIfInBounds j true).getD k true = false →
          ¬ Waits full k i → apartA G full tb i k oi ok = true := fun k ok hk hki hun hno => by
        refine hfree k ok hk hki ?_ hno
        by_cases hjk : j = k
        · subst hjk; exact hjun
        · rw [getD_set_ne true hjk] at hun; exact hun
      unfold qA
      simp only [hoj']
      refine stepG_mono (hkind j oj hoj') (List.mem_of_getElem? hoj') ht h2 fun s' h3 => ih (listed.setIfInBounds j true) _ hfree' (hcl.set hj) (ready_mono hr (Ne.symm hji)) h3.1 h3.2.1 fun u hu => ?_
      rw [Array.setIfInBounds_comm _ _ hji]
      exact h3.2.2 u hu

/-! ### The text's order -/
def waitsA (full : List Oper) : Nat → Nat → Nat → Bool
  | 0, _, _ => false
  | n + 1, j, i => match full[j]? with
    | none => false
    | some o => o.after.any fun e => Region.binds .any e && (e.on == i || waitsA full n e.on i)

theorem waitsA_spec : ∀ (n j i : Nat), waitsA full n j i = true → Waits full j i
  | 0, _, _, h => by simp [waitsA] at h
  | n + 1, j, i, h => by
    unfold waitsA at h
    split at h
    · cases h
    · rename_i o ho
      rw [Array.any_eq_true'] at h
      obtain ⟨e, he, h2⟩ := h
      simp only [Bool.and_eq_true, Bool.or_eq_true, beq_iff_eq] at h2
      rcases h2.2 with h3 | h3
      · exact .base ho he h2.1 h3
      · exact .step ho he h2.1 (waitsA_spec n _ _ h3)

def freeA (G : Env) (full : List Oper) (tb : Tab) (listed : Array Bool) (k : Nat) : Bool :=
  match full[k]? with
  | none => true
  | some oi => (List.range full.length).all fun j => match full[j]? with
    | none => true
    | some oj => j == k || listed.getD j true || waitsA full full.length j k || apartA G full tb k j oi oj

def lexA (G : Env) (full : List Oper) (tb : Tab) : Nat → Nat → Array Bool → Bool
  | 0, _, listed => (Region.ready .any full.toArray listed).isEmpty
  | fuel + 1, k, listed => (Region.ready .any full.toArray listed).contains k && freeA G full tb listed k && lexA G full tb fuel (k + 1) (listed.setIfInBounds k true)

/-- One run in the text's order is enough. -/
def drawOk (G : Env) (full : List Oper) (tb : Tab) : Bool := full.all (fun o => detK G o || kindOf G o == 2 || kindOf G o == 4) && lexA G full tb full.length 0 (Array.replicate full.length false)

theorem freeA_spec {listed : Array Bool} {i : Nat} {oi : Oper} (hi : full[i]? = some oi) (h : freeA G full tb listed i = true) : ∀ j oj, full[j]? = some oj → j ≠ i → listed.getD j true = false → ¬ Waits full j i → apartA G full tb i j oi oj = true := fun j oj hj hji hun hno => by
  unfold freeA at h
  simp only [hi, List.all_eq_true, List.mem_range] at h
  have := h j (List.getElem?_eq_some_iff.1 hj).1
  simp only [hj, Bool.or_eq_true, beq_iff_eq] at this
  rcases this with ((h1 | h1) | h1) | h1
  · exact absurd h1 hji
  · rw [hun] at h1; cases h1
  · exact absurd (waitsA_spec _ _ _ h1) hno
  · exact h1

theorem anyA_lex {Q : St → Prop} (hkind : ∀ (j : Nat) (o : Oper), full[j]? = some o → kindOk G o) : ∀ (l : List Oper) (k : Nat) (listed : Array Bool) (s : St), (∀ j, l[j]? = full[k + j]?) →
    Closed full listed → lexA G full tb l.length k listed = true → Tch G full s → opsD (std true P) G full tb k l s Q → anyA P G full tb Q l.length listed s
  | [], _, _, _, _, _, hB, _, h => ⟨by simpa [lexA] using hB, h⟩
  | o :: l, k, listed, s, hl, hc, hB, ht, h => by
    have h0 : full[k]? = some o := by simpa using (hl 0).symm
    simp only [List.length_cons, lexA, Bool.and_eq_true] at hB
    obtain ⟨⟨hr, hf⟩, hB'⟩ := hB
    unfold opsD at h
    obtain ⟨R, hy, hK⟩ := step_R (hkind k o h0) (List.mem_of_getElem? h0) ht h
    exact anyA_first h0 hkind l.length listed s (freeA_spec h0 hf) hc (by simpa using hr) ht hy fun e he =>
      anyA_lex hkind l (k + 1) _ _ (fun j => by have := hl (j + 1); simpa [Nat.add_assoc, Nat.add_comm 1 j] using this) (hc.set (by simpa using hr)) hB' (ht.app _ _) (hK e he)

theorem wpOp_sound (hG : EnvOk P G) (hF : FieldsOk P G) {κ : Ctx} [NoZ κ] {η : Own} {s : St} {a : Act} {w : World} {Q' : Exit → Act → World → Prop} {i : Nat} {K : St → Prop} {K' : Act → World → Prop} (hKK : ∀ a w, Then κ K a w → K' a w) (h : Sim κ η s a w) (hq : qA P G full tb i K s) : wpOp P full.toArray Q' i K' a w := by
  unfold qA at hq
  unfold wpOp
  rw [List.getElem?_toArray]
  cases hi : full[i]? with
  | none => rw [hi] at hq; exact hKK _ _ ⟨η, s, h, hq⟩
  | some o =>
    rw [hi] at hq
    simp only at hq ⊢
    have run : Region.wanted o (yielded full.toArray a.tmps) = true → opD (std true P) G o s K → if Region.wanted o (yielded full.toArray a.tmps) then o.wp P a w K' Q' ∨ (o.asks P a w ∧ LetsOut Q') else K' (a.put o.dst Go.undef) w := fun hw hop => by
      rw [if_pos hw]
      rcases opD_op hop with hop | hop | ⟨t, x, y, ho, hop⟩ | ⟨t, n, parts, ho, hop⟩ | ⟨f, args, ts, _, ho, hop⟩
      · exact .inl (Oper.wp_mono hKK (op_sound hG hF h hop))
      · exact .inl (Oper.wp_mono hKK (opT_sound hG hF h hop))
      · exact .inl (Oper.wp_mono hKK (sound_storeT hG h t x y ho hop))
      · exact .inl (Oper.wp_mono hKK (sound_buildN hG h t n parts ho hop))
      · exact .inl (Oper.wp_mono hKK (sound_callN h f args ts ho hop))
    have skip : Region.wanted o (yielded full.toArray a.tmps) = false → K (s.put o.dst .skip) → if Region.wanted o (yielded full.toArray a.tmps) then o.wp P a w K' Q' ∨ (o.asks P a w ∧ LetsOut Q') else K' (a.put o.dst Go.undef) w := fun hw hop => by
      rw [hw]
      simp only [Bool.false_eq_true, if_false]
      exact hKK _ _ ⟨η, _, h.put o.dst (.of1 .skip), hop⟩
    unfold stepG at hq
    split at hq
    case isFalse => exact hq.elim
    split at hq
    case isFalse => exact hq.elim
    split at hq
    · rename_i hg
      exact run (by simp [Region.wanted, hg]) hq
    · rename_i j want hg
      split at hq
      case h_2 => exact hq.elim
      rename_i oj hj
      split at hq
      case h_2 => exact hq.elim
      rename_i t ht
      have hy : ∀ c, a.tmps[t]? = some c → yielded full.toArray a.tmps j = (match c with | .bool b => some b | _ => none) := fun c hc => by
        simp only [yielded, List.getElem?_toArray, hj, Option.bind_some, ht, hc]
        cases c <;> rfl
      split at hq
      · rename_i b hb
        obtain ⟨c, hc, hr⟩ := tmp_of h hb (by simp)
        obtain rfl := hr.bool
        have hy' := hy _ hc
        split at hq
        · rename_i e
          exact run (by simp [Region.wanted, hg, hy', e]) hq
        · rename_i e
          exact skip (by simp [Region.wanted, hg, hy', e]) hq
      · rename_i hb
        obtain ⟨c, hc, hr⟩ := tmp_of h hb (by simp)
        have hcu : c = Go.undef := by
          have h1 := hr.inv1 (fun _ e => by cases e) (fun _ e => by cases e)
          cases h1 with
          | skip => rfl
          | imm h1 => cases h1
        have hy' := hy _ hc
        rw [hcu] at hy'
        exact skip (by simp [Region.wanted, hg, hy', Go.undef]) hq
      · exact hq.elim

theorem anyA_sound (hG : EnvOk P G) (hF : FieldsOk P G) {κ : Ctx} [NoZ κ] {Q : St → Prop} {Q' : Exit → Act → World → Prop} (hQ : ∀ a w, Then κ Q a w → Q' .normal a w) : ∀ (fuel : Nat) (listed : Array Bool) (η : Own) (s : St) (a : Act) (w : World), Sim κ η s a w → anyA P G full tb Q fuel listed s → wpAny P .any full.toArray Q' fuel listed a w
  | 0, _, η, s, a, w, hs, h => ⟨h.1, hQ _ _ ⟨η, s, hs, h.2⟩⟩
  | fuel + 1, listed, η, s, a, w, hs, h => ⟨fun h0 => hQ _ _ ⟨η, s, hs, h.1 h0⟩, fun i hi => wpOp_sound hG hF (fun a' w' ⟨η', s', hs', h'⟩ => anyA_sound hG hF hQ fuel _ η' s' a' w' hs' h') hs (h.2 i hi)⟩

/-! ### The table, the keys -/
def rfGet (s : St) (t : Nat) : List (Nat × List Nat) → List Nat
  | [] => refsV (s.T.getD t .undef)
  | (d, l) :: r => if d = t then l else rfGet s t r
def rfOpd (s : St) (rf : List (Nat × List Nat)) : Operand → List Nat
  | .tmp t => rfGet s t rf
  | _ => []
def rowKeys : Heap → List Nat
  | [] => []
  | (k, _, .row _ _ _) :: r => k :: rowKeys r
  | _ :: r => rowKeys r
def cellRefs (s : St) (id : Nat) : List Nat :=
  match s.H.get id with
  | (_, .box cs) => cs.flatMap refs1
  | (_, .tree _ _ _) => [id]
  | (_, .wild _ _ _) => rowKeys s.H
  | _ => []
def headL : List (List Nat) → List Nat
  | l :: _ => l
  | [] => []
def rfOut (G : Env) (s : St) (o : Oper) (rs : List Nat) : List Nat :=
  match o.op with
  | .move _ | .assign _ | .pick _ _ _ | .fieldAddr _ _ _ | .field _ _ _ | .indexAddr _ _ _ | .nilCheck _ | .extract _ _ | .build _ _ => rs
  | .load _ _ => rs.flatMap (cellRefs s)
  | .slice t _ _ _ _ => if nestB G t then rs else keyO G o
  | _ => keyO G o
def tabGo (G : Env) (s : St) : List (Nat × List Nat) → List Oper → Tab
  | _, [] => []
  | rf, o :: r =>
    ((if looks o.op then o.op.operands.toList.flatMap (rfOpd s rf) else []) ++ keyO G o,
      keyO G o ++ match o.op with
        | .store _ x _ => rfOpd s rf x
        | .buildSlice t _ parts => if nestB G t || hasNil G t then parts.toList.flatMap (fun p => rfOpd s rf p.2) else []
        | .call c => match c.callee with
          | .builtin .append => if nestL G c.argTypes.toList then c.args.toList.flatMap (rfOpd s rf) else headL (c.args.toList.map (rfOpd s rf))
          | .value (.func _) => if kindOf G o = 4 then c.args.toList.flatMap (rfOpd s rf) else []
          | _ => []
        | _ => []) ::
    tabGo G s (match o.dst with
      | some d => (d, rfOut G s o (o.op.operands.toList.flatMap (rfOpd s rf))) :: rf
      | none => rf) r
def tabOf (G : Env) (os : List Oper) (s : St) : Tab := tabGo G s [] os

def touchH : List Nat → Heap → Heap
  | [], h => h
  | k :: r, h => touchH r (h.put k (h.get k))
def touch (ks : List Nat) (s : St) : St := ⟨s.T, touchH ks s.H⟩
def regKeys (G : Env) (os : List Oper) : List Nat := os.flatMap (keyO G)

theorem touch_get (id : Nat) : ∀ (ks : List Nat) (h : Heap), (touchH ks h).get id = h.get id
  | [], _ => rfl
  | k :: r, h => by
    simp only [touchH]
    rw [touch_get id r, Heap.get_put]
    split
    · rename_i e; rw [e]
    · rfl
theorem has_put_self (h : Heap) (id : Nat) (x : Nat × Body) : (h.put id x).has id := by
  induction h with
  | nil => exact .inl rfl
  | cons y r ih =>
    obtain ⟨i, v, b⟩ := y
    simp only [Heap.put]
    split
    · rename_i e; exact .inl e
    · exact .inr ih
theorem touch_keep {k : Nat} : ∀ {ks : List Nat} {h : Heap}, h.has k → (touchH ks h).has k
  | [], _, hh => hh
  | _ :: r, _, hh => touch_keep (ks := r) (Heap.has_put hh)
theorem touch_has {k : Nat} : ∀ {ks : List Nat} {h : Heap}, k ∈ ks → (touchH ks h).has k
  | j :: r, h, hk => by
    rcases List.mem_cons.1 hk with rfl | hk
    · show (touchH r (h.put k (h.get k))).has k
      exact touch_keep (has_put_self h _ _)
    · show (touchH r (h.put j (h.get j))).has k
      exact touch_has hk

/-- **A region that draws its order**: one run in the text's order. -/
theorem W_draw (hG : EnvOk P G) (hF : FieldsOk P G) (hm : P.follows .mixedOrders = true) {κ : Ctx} [NoZ κ] {id : Nat} {os : Array Oper} {Q : Ex → St → Prop} {s : St} (tb : Tab) (hB : drawOk G os.toList tb = true)
    (h : opsD (std true P) G os.toList tb 0 os.toList (touch (regKeys G os.toList) s) (Q .normal)) : W P κ (.region id os true) Q s := fun η a w hs0 => by
  have hs : Sim κ η (touch (regKeys G os.toList) s) a w := ⟨hs0.tmps, hs0.defers, fun id => by
    show ObjRep κ w η id ((touchH (regKeys G os.toList) s.H).get id)
    rw [touch_get]; exact hs0.heap id, hs0.apart, (fun id => by
    show SubRep η id ((touchH (regKeys G os.toList) s.H).get id).2
    rw [touch_get]; exact hs0.sub id), hs0.kept⟩
  have ht : Tch G os.toList (touch (regKeys G os.toList) s) := fun o ho id hid => touch_has (List.mem_flatMap.2 ⟨o, ho, hid⟩)
  unfold drawOk at hB
  simp only [Bool.and_eq_true, List.all_eq_true, Bool.or_eq_true, beq_iff_eq] at hB
  have hany : anyA P G os.toList tb (Q .normal) os.toList.length (Array.replicate os.toList.length false) (touch (regKeys G os.toList) s) := anyA_lex (fun j o ho => by
      have := hB.1 o (List.mem_of_getElem? ho)
      unfold kindOk
      rcases this with (h | h) | h
      · exact .inl h
      · exact .inr (.inl h)
      · exact .inr (.inr h)) os.toList 0 _ _ (fun j => by simp) (fun j o _ hl => by simp [Array.getElem?_replicate] at hl; split at hl <;> cases hl) hB.2 ht h
  have := anyA_sound hG hF (Q' := Post κ Q) (fun a w ⟨η', s', h1, h2⟩ => ⟨η', s', h1, h2⟩) _ _ η _ a _ (hs.below (w' := { w with drawn := w.drawn + 1 }) ⟨rfl, rfl, rfl, Nat.le_refl _, fun _ _ => rfl⟩) hany
  simp only [Array.toArray_toList, Array.length_toList] at this
  exact wp_region_any hm this
end
end Go.Proofs.Ytngefbdedbbplaa.Ai
