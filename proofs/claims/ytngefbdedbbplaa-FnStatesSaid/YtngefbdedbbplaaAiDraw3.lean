/- One run in the text's order serves every order. -/
import Derived.Test.YtngefbdedbbplaaAiDraw2
set_option linter.unusedSectionVars false
namespace Go.Proofs.Ytngefbdedbbplaa.Ai
open Go Go.RowKit
set_option linter.unusedVariables false
set_option linter.unusedSimpArgs false

/-! ### Effects -/
/-- What an operation does: a value for its slot, and objects that it writes. -/
structure Eff where
  v : PV
  ups : List (Nat × Nat × Body)

def Heap.ups : Heap → List (Nat × Nat × Body) → Heap
  | h, [] => h
  | h, (i, x) :: r => Heap.ups (h.put i x) r

def St.app (s : St) (d : Option Nat) (e : Eff) : St := ⟨(s.put d e.v).T, s.H.ups e.ups⟩

def Heap.has : Heap → Nat → Prop
  | [], _ => False
  | (i, _) :: r, id => i = id ∨ Heap.has r id

theorem Heap.has_put {h : Heap} {id k : Nat} {x : Nat × Body} (hh : h.has k) : (h.put id x).has k := by
  induction h with
  | nil => exact hh.elim
  | cons y r ih =>
    obtain ⟨i, v, b⟩ := y
    simp only [Heap.put]
    split
    · rename_i e
      exact hh
    · rcases hh with hh | hh
      · exact .inl hh
      · exact .inr (ih hh)

theorem Heap.has_ups {k : Nat} : ∀ {u : List (Nat × Nat × Body)} {h : Heap}, h.has k → (h.ups u).has k
  | [], _, hh => hh
  | (i, x) :: r, h, hh => Heap.has_ups (u := r) (Heap.has_put hh)

theorem Heap.has_put_back {h : Heap} {id k : Nat} {x : Nat × Body} (hid : h.has id) (hh : (h.put id x).has k) : h.has k := by
  induction h with
  | nil => exact hid.elim
  | cons y r ih =>
    obtain ⟨i, v, b⟩ := y
    simp only [Heap.put] at hh
    split at hh
    · exact hh
    · rename_i e
      rcases hh with hh | hh
      · exact .inl hh
      · exact .inr (ih (hid.resolve_left e) hh)

theorem Heap.has_ups_back {k : Nat} : ∀ {u : List (Nat × Nat × Body)} {h : Heap}, (∀ a ∈ u, h.has a.1) → (h.ups u).has k → h.has k
  | [], _, _, hh => hh
  | (i, x) :: r, h, hu, hh => Heap.has_put_back (hu (i, x) (by simp)) (Heap.has_ups_back (u := r) (fun a ha => Heap.has_put (hu a (by simp [ha]))) hh)

theorem Heap.put_comm {h : Heap} {i j : Nat} {x y : Nat × Body} (hne : i ≠ j) (hi : h.has i) (hj : h.has j) : (h.put i x).put j y = (h.put j y).put i x := by
  induction h with
  | nil => exact hi.elim
  | cons z r ih =>
    obtain ⟨k, v, b⟩ := z
    by_cases e1 : k = i
    · subst e1
      simp only [Heap.put, if_true, if_neg hne]
    · by_cases e2 : k = j
      · subst e2
        simp only [Heap.put, if_true, if_neg e1]
      · have hi' : Heap.has r i := hi.resolve_left e1
        have hj' : Heap.has r j := hj.resolve_left e2
        simp only [Heap.put, if_neg e1, if_neg e2, ih hi' hj']

theorem Heap.ups_put {i : Nat} {x : Nat × Body} : ∀ {u : List (Nat × Nat × Body)} {h : Heap}, (∀ k ∈ u, k.1 ≠ i ∧ h.has k.1) → h.has i → (h.put i x).ups u = (h.ups u).put i x
  | [], _, _, _ => rfl
  | (j, y) :: r, h, hu, hi => by
    have h1 := hu (j, y) (by simp)
    simp only [Heap.ups]
    rw [Heap.put_comm (Ne.symm h1.1) hi h1.2]
    exact Heap.ups_put (fun k hk => ⟨(hu k (by simp [hk])).1, Heap.has_put (hu k (by simp [hk])).2⟩) (Heap.has_put hi)

theorem Heap.ups_comm {h : Heap} : ∀ {u v : List (Nat × Nat × Body)} , (∀ a ∈ u, h.has a.1) → (∀ b ∈ v, h.has b.1) → (∀ a ∈ u, ∀ b ∈ v, a.1 ≠ b.1) → (h.ups u).ups v = (h.ups v).ups u := by
  intro u v
  induction v generalizing h with
  | nil => intro _ _ _; rfl
  | cons b r ih =>
    intro hu hv hne
    obtain ⟨j, y⟩ := b
    have hj : h.has j := hv (j, y) (by simp)
    simp only [Heap.ups]
    rw [← Heap.ups_put (fun a ha => ⟨hne a ha (j, y) (by simp), hu a ha⟩) hj]
    exact ih (fun a ha => Heap.has_put (hu a ha)) (fun b hb => Heap.has_put (hv b (by simp [hb]))) fun a ha b hb => hne a ha b (by simp [hb])

theorem Heap.get_ups {k : Nat} : ∀ {u : List (Nat × Nat × Body)} {h : Heap}, (∀ a ∈ u, a.1 ≠ k) → (h.ups u).get k = h.get k
  | [], _, _ => rfl
  | (i, x) :: r, h, hu => by
    simp only [Heap.ups]
    rw [Heap.get_ups (u := r) fun a ha => hu a (by simp [ha]), Heap.get_put, if_neg (Ne.symm (hu (i, x) (by simp)))]

theorem Heap.has_get {h : Heap} {id : Nat} {x : Nat × Body} (hg : h.get id = x) (hx : x.2 ≠ .dead) : h.has id := by
  induction h with
  | nil => subst hg; exact absurd rfl hx
  | cons y r ih =>
    obtain ⟨i, v, b⟩ := y
    simp only [Heap.get] at hg
    split at hg
    · rename_i e; exact .inl e
    · exact .inr (ih hg)

/-! ### Steps -/
/-- The table of a region: which objects each operation may look at, and write. -/
abbrev Tab := List (List Nat × List Nat)
def tabF (tb : Tab) (j : Nat) : List Nat := (tb.getD j ([], [])).1
def tabW (tb : Tab) (j : Nat) : List Nat := (tb.getD j ([], [])).2

/-- An operation with its guard and its place in the table. -/
def stepG (X : Req → (PV → Prop) → Prop) (G : Env) (full : List Oper) (tb : Tab) (n : Nat) (o : Oper) (s : St) (K : St → Prop) : Prop :=
  if subB (fpO G o s) (tabF tb n) then if subB (wrO G o s) (tabW tb n) then
    match o.guard with
    | none => opD X G o s K
    | some (j, want) => match full[j]? with
      | some oj => match oj.dst with
        | some t => match s.T.getD t .undef with
          | .bool b => if b = want then opD X G o s K else K (s.put o.dst .skip)
          | .skip => K (s.put o.dst .skip)
          | _ => False
        | none => False
      | none => False
  else False else False

def opsD (X : Req → (PV → Prop) → Prop) (G : Env) (full : List Oper) (tb : Tab) : Nat → List Oper → St → (St → Prop) → Prop
  | _, [], s, K => K s
  | n, o :: r, s, K => stepG X G full tb n o s fun s' => opsD X G full tb (n + 1) r s' K

section
variable {P : Program} {G : Env} {full : List Oper} {tb : Tab}

theorem toPures_pure : ∀ (l : List PV) (s : St), l.all PV.pure = true → toPures l s = some (l, s)
  | [], _, _ => rfl
  | v :: r, s, h => by
    simp only [List.all_cons, Bool.and_eq_true] at h
    have hv : toPure v s = some (v, s) := by
      have := h.1
      unfold toPure
      split
      · exact absurd this (by simp [PV.pure])
      · rw [if_pos this]
    simp only [toPures, hv, toPures_pure r s h.2]

theorem fillE_pure (sz : Nat) : ∀ (l : List (Nat × PV)) (es : List (List PV)) (s s' : St), (l.all fun p => p.2.cells.all PV.pure) = true → fillE sz l es s' = (fillE sz l es s).map fun x => (x.1, s')
  | [], _, _, _, _ => rfl
  | (i, v) :: r, es, s, s', h => by
    simp only [List.all_cons, Bool.and_eq_true] at h
    simp only [fillE, toPures_pure _ _ h.1]
    split
    · split
      · exact fillE_pure sz r _ s s' h.2
      · rfl
    · rfl

theorem pargs_pure : ∀ (l : List PV) (s : St), (l.all fun v => v.cells.all PV.pure) = true → pargs l s = some (l, s)
  | [], _, _ => rfl
  | v :: r, s, h => by
    simp only [List.all_cons, Bool.and_eq_true] at h
    have hv : ∀ w, (∀ cs, w ≠ .agg cs) → w.cells.all PV.pure = true → toPure w s = some (w, s) := fun w hw hp => by
      have : w.pure = true := by
        cases w <;> first | exact absurd rfl (hw _) | simpa [PV.cells] using hp
      unfold toPure
      split
      · cases this
      · rw [if_pos this]
    have ih := pargs_pure r s h.2
    cases v <;> simp only [pargs]
    case agg cs =>
      rw [toPures_pure cs s h.1]
      simp only [ih]
    all_goals
      rw [hv _ (fun _ e => by cases e) h.1]
      simp only [ih]

theorem Heap.ups_snoc {id : Nat} {x : Nat × Body} : ∀ {u : List (Nat × Nat × Body)} {h : Heap}, h.ups (u ++ [(id, x)]) = (h.ups u).put id x
  | [], _ => rfl
  | (_, _) :: r, _ => Heap.ups_snoc (u := r)
theorem Heap.get_ups_congr {k : Nat} : ∀ {u : List (Nat × Nat × Body)} {h h' : Heap}, h.get k = h'.get k → (h.ups u).get k = (h'.ups u).get k
  | [], _, _, e => e
  | (i, x) :: r, h, h', e => Heap.get_ups_congr (u := r) (by rw [Heap.get_put, Heap.get_put, e])
theorem Heap.get_ups_or {k : Nat} : ∀ {u : List (Nat × Nat × Body)} {h : Heap}, (∀ a ∈ u, a.2.2 = .dead) → (h.ups u).get k = h.get k ∨ ((h.ups u).get k).2 = .dead
  | [], _, _ => .inl rfl
  | (i, x) :: r, h, hu => by
    simp only [Heap.ups]
    rcases Heap.get_ups_or (k := k) (u := r) (h := h.put i x) fun a ha => hu a (by simp [ha]) with e | e
    · rw [Heap.get_put] at e
      split at e
      · exact .inr (by rw [e]; exact hu (i, x) (by simp))
      · exact .inl e
    · exact .inr e

theorem pargsN_spec : ∀ {l l' : List PV} {s s' : St}, pargsN l s = some (l', s') → ∃ gs : List (Nat × Nat × Body), s' = ⟨s.T, s.H.ups gs⟩ ∧ (∀ u ∈ gs, u.1 ∈ l.flatMap refsV ∧ (s.H.get u.1).2 ≠ .dead ∧ u.2.2 = .dead) ∧
    ∀ t : St, (∀ id ∈ l.flatMap refsV, t.H.get id = s.H.get id) → pargsN l t = some (l', ⟨t.T, t.H.ups gs⟩)
  | [], _, _, _, he => by
    simp only [pargsN, Option.some.injEq, Prod.mk.injEq] at he
    obtain ⟨rfl, rfl⟩ := he
    exact ⟨[], rfl, (fun _ h => by cases h), fun _ _ => rfl⟩
  | v :: r, _, s, _, he => by
    simp only [pargsN] at he
    split at he
    case h_2 => cases he
    rename_i v' s1 h1
    split at he
    case h_2 => cases he
    rename_i r' s2 h2
    simp only [Option.some.injEq, Prod.mk.injEq] at he
    obtain ⟨rfl, rfl⟩ := he
    obtain ⟨gs, e1, e2, e3⟩ := pargsN_spec h2
    unfold toPureN at h1
    split at h1
    · rename_i hp
      obtain ⟨rfl, rfl⟩ := Prod.mk.inj (Option.some.inj h1)
      refine ⟨gs, e1, fun u hu => ⟨List.mem_flatMap.2 ?_, (e2 u hu).2⟩, fun t ht => ?_⟩
      · obtain ⟨x, hx, hxu⟩ := List.mem_flatMap.1 (e2 u hu).1
        exact ⟨x, by simp [hx], hxu⟩
      · have := e3 t fun id hid => ht id (by rw [List.flatMap_cons]; exact List.mem_append_right _ hid)
        simp only [pargsN, toPureN, if_pos hp, this]
    · rename_i hp
      split at h1
      case h_2 => cases h1
      rename_i id ver
      split at h1
      case h_2 => cases h1
      rename_i v1 e sz es hg
      split at h1
      case isFalse => cases h1
      rename_i ev
      subst ev
      obtain ⟨rfl, rfl⟩ := Prod.mk.inj (Option.some.inj h1)
      refine ⟨(id, v1, .dead) :: gs, e1, fun u hu => ?_, fun t ht => ?_⟩
      · rcases List.mem_cons.1 hu with rfl | hu
        · exact ⟨by simp [refsV, refs1], by rw [hg]; simp, rfl⟩
        · obtain ⟨a1, a2, a3⟩ := e2 u hu
          rw [Heap.get_put] at a2
          split at a2
          · exact absurd rfl a2
          · exact ⟨by rw [List.flatMap_cons]; exact List.mem_append_right _ a1, a2, a3⟩
      · have hid : t.H.get id = (v1, .row e sz es) := (ht id (by simp [refsV, refs1])).trans hg
        have := e3 ⟨t.T, t.H.put id (v1, .dead)⟩ fun k hk => by
          rw [Heap.get_put, Heap.get_put, ht k (by rw [List.flatMap_cons]; exact List.mem_append_right _ hk)]
        simp only [pargsN, toPureN, hid, if_true]
        rw [if_neg (by simpa using hp)]
        simp only [this]
        rfl

theorem toNests_spec : ∀ {l l' : List PV} {s s' : St}, toNests l s = some (l', s') → ∃ gs : List (Nat × Nat × Body), s' = ⟨s.T, s.H.ups gs⟩ ∧ (∀ u ∈ gs, u.1 ∈ l.flatMap refs1 ∧ (s.H.get u.1).2 ≠ .dead ∧ u.2.2 = .dead) ∧
    ∀ t : St, (∀ id ∈ l.flatMap refs1, t.H.get id = s.H.get id) → toNests l t = some (l', ⟨t.T, t.H.ups gs⟩)
  | [], _, _, _, he => by
    simp only [toNests, Option.some.injEq, Prod.mk.injEq] at he
    obtain ⟨rfl, rfl⟩ := he
    exact ⟨[], rfl, (fun _ h => by cases h), fun _ _ => rfl⟩
  | v :: r, _, s, _, he => by
    simp only [toNests] at he
    split at he
    case h_2 => cases he
    rename_i v' s1 h1
    split at he
    case h_2 => cases he
    rename_i r' s2 h2
    simp only [Option.some.injEq, Prod.mk.injEq] at he
    obtain ⟨rfl, rfl⟩ := he
    obtain ⟨gs, e1, e2, e3⟩ := toNests_spec h2
    unfold toNest at h1
    split at h1
    · rename_i id ver
      split at h1
      case h_2 => cases h1
      rename_i v1 e sz es hg
      split at h1
      case isFalse => cases h1
      rename_i ev
      subst ev
      obtain ⟨rfl, rfl⟩ := Prod.mk.inj (Option.some.inj h1)
      refine ⟨(id, v1, .dead) :: gs, e1, fun u hu => ?_, fun t ht => ?_⟩
      · rcases List.mem_cons.1 hu with rfl | hu
        · exact ⟨by simp [refs1], by rw [hg]; simp, rfl⟩
        · obtain ⟨a1, a2, a3⟩ := e2 u hu
          rw [Heap.get_put] at a2
          split at a2
          · exact absurd rfl a2
          · exact ⟨by rw [List.flatMap_cons]; exact List.mem_append_right _ a1, a2, a3⟩
      · have hid : t.H.get id = (v1, .row e sz es) := (ht id (by simp [refs1])).trans hg
        have := e3 ⟨t.T, t.H.put id (v1, .dead)⟩ fun k hk => by
          rw [Heap.get_put, Heap.get_put, ht k (by rw [List.flatMap_cons]; exact List.mem_append_right _ hk)]
        simp only [toNests, toNest, hid, if_true, this]
        rfl
    · rename_i hno
      split at h1
      case isFalse => cases h1
      rename_i hp
      obtain ⟨rfl, rfl⟩ := Prod.mk.inj (Option.some.inj h1)
      refine ⟨gs, e1, fun u hu => ⟨by rw [List.flatMap_cons]; exact List.mem_append_right _ (e2 u hu).1, (e2 u hu).2⟩, fun t ht => ?_⟩
      have := e3 t fun id hid => ht id (by rw [List.flatMap_cons]; exact List.mem_append_right _ hid)
      have hv : toNest v t = some (v, t) := by
        unfold toNest
        split
        · exact absurd rfl (hno _ _)
        · rw [if_pos hp]
      simp only [toNests, hv, this]
theorem toCellsN_spec : ∀ {l l' : List PV} {s s' : St}, toCellsN l s = some (l', s') → ∃ gs : List (Nat × Nat × Body), s' = ⟨s.T, s.H.ups gs⟩ ∧ (∀ u ∈ gs, u.1 ∈ l.flatMap refs1 ∧ (s.H.get u.1).2 ≠ .dead ∧ u.2.2 = .dead) ∧
    ∀ t : St, (∀ id ∈ l.flatMap refs1, t.H.get id = s.H.get id) → toCellsN l t = some (l', ⟨t.T, t.H.ups gs⟩)
  | [], _, _, _, he => by
    simp only [toCellsN, Option.some.injEq, Prod.mk.injEq] at he
    obtain ⟨rfl, rfl⟩ := he
    exact ⟨[], rfl, (fun _ h => by cases h), fun _ _ => rfl⟩
  | v :: r, _, s, _, he => by
    simp only [toCellsN] at he
    split at he
    case h_2 => cases he
    rename_i v' s1 h1
    split at he
    case h_2 => cases he
    rename_i r' s2 h2
    simp only [Option.some.injEq, Prod.mk.injEq] at he
    obtain ⟨rfl, rfl⟩ := he
    obtain ⟨gs, e1, e2, e3⟩ := toCellsN_spec h2
    unfold toCellN at h1
    split at h1
    · rename_i id ver
      split at h1
      case h_2 => cases h1
      rename_i v1 e sz es hg
      split at h1
      case isFalse => cases h1
      rename_i ev
      subst ev
      obtain ⟨rfl, rfl⟩ := Prod.mk.inj (Option.some.inj h1)
      refine ⟨(id, v1, .dead) :: gs, e1, fun u hu => ?_, fun t ht => ?_⟩
      · rcases List.mem_cons.1 hu with rfl | hu
        · exact ⟨by simp [refs1], by rw [hg]; simp, rfl⟩
        · obtain ⟨a1, a2, a3⟩ := e2 u hu
          rw [Heap.get_put] at a2
          split at a2
          · exact absurd rfl a2
          · exact ⟨by rw [List.flatMap_cons]; exact List.mem_append_right _ a1, a2, a3⟩
      · have hid : t.H.get id = (v1, .row e sz es) := (ht id (by simp [refs1])).trans hg
        have := e3 ⟨t.T, t.H.put id (v1, .dead)⟩ fun k hk => by
          rw [Heap.get_put, Heap.get_put, ht k (by rw [List.flatMap_cons]; exact List.mem_append_right _ hk)]
        simp only [toCellsN, toCellN, hid, if_true, this]
        rfl
    · rename_i hno
      split at h1
      case isFalse => cases h1
      rename_i hp
      obtain ⟨rfl, rfl⟩ := Prod.mk.inj (Option.some.inj h1)
      refine ⟨gs, e1, fun u hu => ⟨by rw [List.flatMap_cons]; exact List.mem_append_right _ (e2 u hu).1, (e2 u hu).2⟩, fun t ht => ?_⟩
      have := e3 t fun id hid => ht id (by rw [List.flatMap_cons]; exact List.mem_append_right _ hid)
      have hv : toCellN v t = some (v, t) := by
        unfold toCellN
        split
        · exact absurd rfl (hno _ _)
        · rw [if_pos hp]
      simp only [toCellsN, hv, this]
theorem refs_cells {v : PV} : ∀ id ∈ v.cells.flatMap refs1, id ∈ refsV v := fun id hid => by
  obtain ⟨c, hc, h⟩ := List.mem_flatMap.1 hid
  cases v <;> simp only [PV.cells, List.mem_cons, List.not_mem_nil, or_false] at hc
  case agg cs => exact List.mem_flatMap.2 ⟨c, hc, h⟩
  all_goals (subst hc; exact h)
theorem Heap.ups_app {u : List (Nat × Nat × Body)} : ∀ {v : List (Nat × Nat × Body)} {h : Heap}, h.ups (v ++ u) = (h.ups v).ups u
  | [], _ => rfl
  | (_, _) :: r, _ => Heap.ups_app (v := r)
theorem rowsN_spec {sz : Nat} : ∀ {k : Nat} {l : List (Nat × PV)} {es : List (List PV)} {s s' : St}, rowsN sz k l s = some (es, s') → ∃ gs : List (Nat × Nat × Body), s' = ⟨s.T, s.H.ups gs⟩ ∧ (∀ u ∈ gs, u.1 ∈ l.flatMap (fun p => refsV p.2) ∧ (s.H.get u.1).2 ≠ .dead ∧ u.2.2 = .dead) ∧
    ∀ t : St, (∀ id ∈ l.flatMap (fun p => refsV p.2), t.H.get id = s.H.get id) → rowsN sz k l t = some (es, ⟨t.T, t.H.ups gs⟩)
  | _, [], _, _, _, he => by
    simp only [rowsN, Option.some.injEq, Prod.mk.injEq] at he
    obtain ⟨rfl, rfl⟩ := he
    exact ⟨[], rfl, (fun _ h => by cases h), fun _ _ => rfl⟩
  | k, (i, v) :: r, _, s, _, he => by
    simp only [rowsN] at he
    split at he
    case isFalse => cases he
    rename_i hik
    split at he
    case h_2 => cases he
    rename_i c s1 h1
    split at he
    case isFalse => cases he
    rename_i hc
    split at he
    case h_2 => cases he
    rename_i es' s2 h2
    simp only [Option.some.injEq, Prod.mk.injEq] at he
    obtain ⟨rfl, rfl⟩ := he
    obtain ⟨g1, rfl, a2, a3⟩ := toNests_spec h1
    obtain ⟨g2, rfl, b2, b3⟩ := rowsN_spec h2
    refine ⟨g1 ++ g2, by simp only [Heap.ups_app], fun u hu => ?_, fun t ht => ?_⟩
    · rcases List.mem_append.1 hu with hu | hu
      · obtain ⟨x1, x2, x3⟩ := a2 u hu
        exact ⟨by rw [List.flatMap_cons]; exact List.mem_append_left _ (refs_cells _ x1), x2, x3⟩
      · obtain ⟨x1, x2, x3⟩ := b2 u hu
        refine ⟨by rw [List.flatMap_cons]; exact List.mem_append_right _ x1, ?_, x3⟩
        rcases Heap.get_ups_or (k := u.1) (u := g1) (h := s.H) (fun a ha => (a2 a ha).2.2) with e | e
        · rw [← e]; exact x2
        · exact absurd e x2
    · have t1 := a3 t fun id hid => ht id (by rw [List.flatMap_cons]; exact List.mem_append_left _ (refs_cells _ hid))
      have t2 := b3 ⟨t.T, t.H.ups g1⟩ fun id hid => Heap.get_ups_congr (ht id (by rw [List.flatMap_cons]; exact List.mem_append_right _ hid))
      simp only [rowsN, if_pos hik, t1, if_pos hc, t2, Heap.ups_app]

theorem fillN_spec {sz : Nat} : ∀ {l : List (Nat × PV)} {es0 es : List (List PV)} {s s' : St}, fillN sz l es0 s = some (es, s') → ∃ gs : List (Nat × Nat × Body), s' = ⟨s.T, s.H.ups gs⟩ ∧ (∀ u ∈ gs, u.1 ∈ l.flatMap (fun p => refsV p.2) ∧ (s.H.get u.1).2 ≠ .dead ∧ u.2.2 = .dead) ∧
    ∀ t : St, (∀ id ∈ l.flatMap (fun p => refsV p.2), t.H.get id = s.H.get id) → fillN sz l es0 t = some (es, ⟨t.T, t.H.ups gs⟩)
  | [], _, _, _, _, he => by
    simp only [fillN, Option.some.injEq, Prod.mk.injEq] at he
    obtain ⟨rfl, rfl⟩ := he
    exact ⟨[], rfl, (fun _ h => by cases h), fun _ _ => rfl⟩
  | (i, v) :: r, es0, _, s, _, he => by
    simp only [fillN] at he
    split at he
    case h_2 => cases he
    rename_i c s1 h1
    split at he
    case isFalse => cases he
    rename_i hc
    split at he
    case isFalse => cases he
    rename_i hi
    obtain ⟨g1, rfl, a2, a3⟩ := toCellsN_spec h1
    obtain ⟨g2, rfl, b2, b3⟩ := fillN_spec he
    refine ⟨g1 ++ g2, by simp only [Heap.ups_app], fun u hu => ?_, fun t ht => ?_⟩
    · rcases List.mem_append.1 hu with hu | hu
      · obtain ⟨x1, x2, x3⟩ := a2 u hu
        exact ⟨by rw [List.flatMap_cons]; exact List.mem_append_left _ (refs_cells _ x1), x2, x3⟩
      · obtain ⟨x1, x2, x3⟩ := b2 u hu
        refine ⟨by rw [List.flatMap_cons]; exact List.mem_append_right _ x1, ?_, x3⟩
        rcases Heap.get_ups_or (k := u.1) (u := g1) (h := s.H) (fun a ha => (a2 a ha).2.2) with e | e
        · rw [← e]; exact x2
        · exact absurd e x2
    · have t1 := a3 t fun id hid => ht id (by rw [List.flatMap_cons]; exact List.mem_append_left _ (refs_cells _ hid))
      have t2 := b3 ⟨t.T, t.H.ups g1⟩ fun id hid => Heap.get_ups_congr (ht id (by rw [List.flatMap_cons]; exact List.mem_append_right _ hid))
      simp only [fillN, t1, if_pos hc, if_pos hi, t2, Heap.ups_app]

/-! ### What one operation does -/
theorem SameOp.refl (o : Oper) (s : St) : SameOp G o s s := ⟨fun _ _ => rfl, fun _ _ => rfl⟩

theorem app_nil (s : St) (d : Option Nat) (v : PV) : s.app d ⟨v, []⟩ = s.put d v := by cases d <;> rfl

def detK (G : Env) (o : Oper) : Bool := kindOf G o == 1 || kindOf G o == 3

/-- Determined, objects included. -/
def DetE (P : Program) (G : Env) (o : Oper) (s : St) : Prop :=
  (∀ K, ¬ opD (std true P) G o s K) ∨ ∃ e : Eff, (∀ u ∈ e.ups, u.1 ∈ wrO G o s ∧ (u.1 ∈ keyO G o ∨ (s.H.get u.1).2 ≠ .dead)) ∧ ∀ s' K', SameOp G o s s' → (opD (std true P) G o s' K' ↔ K' (s'.app o.dst e))

/-- What is written into a row within a row is determined. -/
theorem det_storeB (es : List (List PV)) (i off nsz j p : Nat) (cs : List PV) :
    (∀ K : List (List PV) → Prop, ¬ std true P (.oload es i off 1) fun r => match r with
      | .agg [.fr e' z es'] => if z = nsz then std true P (.ostore es' j p cs) fun r => match r with
          | .isl _ es2 => std true P (.ostore es i off [.fr e' z es2]) fun r => match r with
            | .isl _ es3 => K es3
            | _ => False
          | _ => False
        else False
      | _ => False) ∨ ∃ es3, ∀ K : List (List PV) → Prop, (std true P (.oload es i off 1) fun r => match r with
      | .agg [.fr e' z es'] => if z = nsz then std true P (.ostore es' j p cs) fun r => match r with
          | .isl _ es2 => std true P (.ostore es i off [.fr e' z es2]) fun r => match r with
            | .isl _ es3 => K es3
            | _ => False
          | _ => False
        else False
      | _ => False) ↔ K es3 := by
  have main : ∀ e' z es' el, es[i]? = some el → (el.drop off).take 1 = [.fr e' z es'] → off + 1 ≤ el.length → z = nsz → ∀ el', es'[j]? = some el' → p + cs.length ≤ el'.length →
      ∀ K : List (List PV) → Prop, (std true P (.oload es i off 1) fun r => match r with
      | .agg [.fr e' z es'] => if z = nsz then std true P (.ostore es' j p cs) fun r => match r with
          | .isl _ es2 => std true P (.ostore es i off [.fr e' z es2]) fun r => match r with
            | .isl _ es3 => K es3
            | _ => False
          | _ => False
        else False
      | _ => False) ↔ K (es.set i (splice el off [.fr e' z (es'.set j (splice el' p cs))])) := by
    intro e' z es' el he hc hf hz el' hj hp K
    simp only [std]
    constructor
    · rintro ⟨el0, h0, _, h⟩
      obtain rfl := Option.some.inj (he.symm.trans h0)
      rw [hc] at h
      simp only [if_pos hz] at h
      obtain ⟨el1, h1, _, h⟩ := h
      obtain rfl := Option.some.inj (hj.symm.trans h1)
      obtain ⟨el2, h2, _, h⟩ := h
      obtain rfl := Option.some.inj (he.symm.trans h2)
      exact h
    · intro h
      refine ⟨el, he, hf, ?_⟩
      rw [hc]
      simp only [if_pos hz]
      exact ⟨el', hj, hp, el, he, by simpa using hf, h⟩
  by_cases hx : ∃ e' z es' el el', es[i]? = some el ∧ (el.drop off).take 1 = [.fr e' z es'] ∧ off + 1 ≤ el.length ∧ z = nsz ∧ es'[j]? = some el' ∧ p + cs.length ≤ el'.length
  · obtain ⟨e', z, es', el, el', h1, h2, h3, h4, h5, h6⟩ := hx
    exact .inr ⟨_, main e' z es' el h1 h2 h3 h4 el' h5 h6⟩
  · refine .inl fun K h => hx ?_
    simp only [std] at h
    obtain ⟨el, he, hf, h⟩ := h
    split at h
    case h_2 => exact h.elim
    rename_i e' z es' hr
    split at h
    case isFalse => exact h.elim
    rename_i hz
    obtain ⟨el', hj, hp, _⟩ := h
    exact ⟨e', z, es', el, el', he, by simpa using hr, hf, hz, hj, hp⟩

theorem refs_cell {v c : PV} (h : c ∈ v.cells) : ∀ id ∈ refs1 c, id ∈ refsV v := fun id hid => by
  cases v <;> simp only [PV.cells, List.mem_cons, List.not_mem_nil, or_false] at h
  case agg cs => exact List.mem_flatMap.2 ⟨c, h, hid⟩
  all_goals (subst h; exact hid)

theorem cells_live {s s' : St} {v : PV} (h : ∀ id ∈ refsV v, s'.H.get id = s.H.get id) : v.cells.all s'.live = v.cells.all s.live := by
  rw [Bool.eq_iff_iff, List.all_eq_true, List.all_eq_true]
  exact ⟨fun hh c hc => by rw [← live_same c fun id hid => h id (refs_cell hc id hid)]; exact hh c hc, fun hh c hc => by rw [live_same c fun id hid => h id (refs_cell hc id hid)]; exact hh c hc⟩

theorem fillS_same {fs : List Field} {s s' : St} : ∀ {parts : List (Nat × Operand)} {cs : List PV}, (∀ p ∈ parts, s'.ev p.2 = s.ev p.2 ∧ ∀ id ∈ refsV (s.ev p.2), s'.H.get id = s.H.get id) → fillS G fs s' parts cs = fillS G fs s parts cs
  | [], _, _ => rfl
  | (i, x) :: r, cs, h => by
    have hx := h (i, x) (by simp)
    simp only at hx
    simp only [fillS, hx.1, cells_live hx.2]
    split
    · split
      · split
        · split
          · split
            · exact fillS_same fun p hp => h p (by simp [hp])
            · rfl
          · rfl
        · rfl
      · rfl
    · rfl

theorem boxRef_same {s s' : St} {v : PV} (h : ∀ id ∈ refsV v, s'.H.get id = s.H.get id) : boxRef s' v = boxRef s v := by
  unfold boxRef
  cases v <;> try rfl
  rename_i id ver sz i off
  simp only [h id (by simp [refsV, refs1])]
theorem moreOf_same {s s' : St} (e sz : Nat) (y : PV) (h : ∀ id ∈ refsV y, s'.H.get id = s.H.get id) : moreOf s' e sz y = moreOf s e sz y := by
  unfold moreOf
  cases y <;> try rfl
  rename_i id ver
  simp only [h id (by simp [refsV, refs1])]

theorem det3 {o : Oper} (hk : kindOf G o = 3) (s : St) : DetE P G o s := by
  obtain ⟨dst, opx, type, pos, after, guard⟩ := o
  cases opx <;> simp only [kindOf] at hk <;> try omega
  case slice t x lo hi mx => cases mx <;> simp only at hk <;> omega
  case build t parts =>
    have hp : ∀ s', SameOp G ⟨dst, .build t parts, type, pos, after, guard⟩ s s' → ∀ p ∈ parts.toList, s'.ev p.2 = s.ev p.2 ∧ ∀ id ∈ refsV (s.ev p.2), s'.H.get id = s.H.get id := fun s' hs p hp => by
      have hm : p.2 ∈ (Op.build t parts).operands.toList := by
        simp only [Op.operands, Array.toList_map]
        exact List.mem_map.2 ⟨p, hp, rfl⟩
      exact ⟨hs.ev _ hm, hs.at hm⟩
    cases h1 : G t with
    | none => exact .inl fun K hk => by simp [opD, op, h1] at hk
    | some ti =>
      cases h2 : structOf (some ti) with
      | none => exact .inl fun K hk => by simp [opD, op, h1, h2] at hk
      | some fs =>
        cases h3 : fillS G fs s parts.toList ti.zero with
        | none => exact .inl fun K hk => by simp [opD, op, h1, h2, h3] at hk
        | some cs =>
          refine .inr ⟨⟨.agg cs, []⟩, fun u hu => (by cases hu), fun s' K' hs => ?_⟩
          rw [app_nil]
          simp only [opD, op, h1, h2, fillS_same (hp s' hs), h3]
  case buildSlice t n parts =>
    have hp : ∀ s', SameOp G ⟨dst, .buildSlice t n parts, type, pos, after, guard⟩ s s' → ∀ p ∈ parts.toList, s'.ev p.2 = s.ev p.2 := fun s' hs p hp => hs.ev _ (by
      simp only [Op.operands, Array.toList_map]
      exact List.mem_map.2 ⟨p, hp, rfl⟩)
    have e1 : ∀ s', SameOp G ⟨dst, .buildSlice t n parts, type, pos, after, guard⟩ s s' → parts.toList.all (fun p => (s'.ev p.2).cells.all PV.pure) = parts.toList.all (fun p => (s.ev p.2).cells.all PV.pure) := fun s' hs => by
      rw [Bool.eq_iff_iff, List.all_eq_true, List.all_eq_true]
      exact ⟨fun h p hm => by rw [← hp s' hs p hm]; exact h p hm, fun h p hm => by rw [hp s' hs p hm]; exact h p hm⟩
    have e2 : ∀ s', SameOp G ⟨dst, .buildSlice t n parts, type, pos, after, guard⟩ s s' → (parts.toList.map fun p => (p.1, s'.ev p.2)) = parts.toList.map fun p => (p.1, s.ev p.2) := fun s' hs => List.map_congr_left fun p hm => by rw [hp s' hs p hm]
    by_cases hn : nestB G t = true
    · -- a tree is written out
      have hrefs : ∀ id ∈ (parts.toList.map fun p => (p.1, s.ev p.2)).flatMap (fun p => refsV p.2), id ∈ parts.toList.flatMap (fun p => refsV (s.ev p.2)) := fun id hid => by
        rw [List.flatMap_map] at hid
        exact hid
      cases dst with
      | none => exact .inl fun K hk => by simp only [opD, if_pos hn, buildT] at hk
      | some e =>
        cases h1 : sliceOf G t with
        | none => exact .inl fun K hk => by simp only [opD, if_pos hn, buildT, h1] at hk
        | some q =>
          obtain ⟨el, te⟩ := q
          by_cases h2 : te.size = 0
          · exact .inl fun K hk => by simp only [opD, if_pos hn, buildT, h1, if_pos h2] at hk
          by_cases h3 : n * te.size ≤ 100000
          case neg => exact .inl fun K hk => by simp only [opD, if_pos hn, buildT, h1, if_neg h2, if_neg h3] at hk
          by_cases h5 : (parts.toList.map fun p => (p.1, s.ev p.2)).length = n
          case neg => exact .inl fun K hk => by simp only [opD, if_pos hn, buildT, h1, if_neg h2, if_pos h3, if_neg h5] at hk
          cases h4 : rowsN te.size 0 (parts.toList.map fun p => (p.1, s.ev p.2)) s with
          | none => exact .inl fun K hk => by simp only [opD, if_pos hn, buildT, h1, if_neg h2, if_pos h3, if_pos h5, h4] at hk
          | some q =>
            obtain ⟨es, s0⟩ := q
            obtain ⟨gs, rfl, g2, g3⟩ := rowsN_spec h4
            refine .inr ⟨⟨.osl (8 * e) (((s.H.ups gs).get (8 * e)).1 + 1), gs ++ [(8 * e, ((s.H.ups gs).get (8 * e)).1 + 1, .tree el te.size es)]⟩, fun u hu => ?_, fun s' K' hs => ?_⟩
            · rcases List.mem_append.1 hu with hu | hu
              · obtain ⟨x1, x2, _⟩ := g2 u hu
                refine ⟨?_, .inr x2⟩
                simp only [wrO, List.mem_append]
                refine .inr ?_
                rw [if_pos (by rw [hn, Bool.true_or])]
                exact hrefs _ x1
              · obtain rfl : u = _ := by simpa using hu
                exact ⟨List.mem_append_left _ (by simp [keyO]), .inl (by simp [keyO])⟩
            · have hg : s'.H.get (8 * e) = s.H.get (8 * e) := hs.heap _ (List.mem_append_right _ (by simp [keyO]))
              have t3 := g3 s' fun id hid => by
                obtain ⟨p, hp', hid⟩ := List.mem_flatMap.1 (hrefs id hid)
                exact (hs.at (x := p.2) (by
                  simp only [Op.operands, Array.toList_map]
                  exact List.mem_map.2 ⟨p, hp', rfl⟩)) id hid
              have hgu : (s'.H.ups gs).get (8 * e) = (s.H.ups gs).get (8 * e) := Heap.get_ups_congr hg
              simp only [opD, if_pos hn, buildT, h1, if_neg h2, if_pos h3, e2 s' hs, if_pos h5, t3]
              simp only [bindT, Heap.new, hgu, St.app, St.put, Heap.ups_snoc]
    by_cases hm : hasNil G t = true
    · -- own rows in it are only read from then on
      have hrefs : ∀ id ∈ (parts.toList.map fun p => (p.1, s.ev p.2)).flatMap (fun p => refsV p.2), id ∈ parts.toList.flatMap (fun p => refsV (s.ev p.2)) := fun id hid => by
        rw [List.flatMap_map] at hid
        exact hid
      cases dst with
      | none => exact .inl fun K hk => by simp only [opD, if_neg hn, if_pos hm, buildN] at hk
      | some e =>
        cases h1 : sliceOf G t with
        | none => exact .inl fun K hk => by simp only [opD, if_neg hn, if_pos hm, buildN, h1] at hk
        | some q =>
          obtain ⟨el, te⟩ := q
          by_cases h2 : te.size = 0
          · exact .inl fun K hk => by simp only [opD, if_neg hn, if_pos hm, buildN, h1, if_pos h2] at hk
          by_cases h3 : n * te.size ≤ 100000
          case neg => exact .inl fun K hk => by simp only [opD, if_neg hn, if_pos hm, buildN, h1, if_neg h2, if_neg h3] at hk
          cases h4 : fillN te.size (parts.toList.map fun p => (p.1, s.ev p.2)) (List.replicate n te.zero) s with
          | none => exact .inl fun K hk => by simp only [opD, if_neg hn, if_pos hm, buildN, h1, if_neg h2, if_pos h3, h4] at hk
          | some q =>
            obtain ⟨es, s0⟩ := q
            obtain ⟨gs, rfl, g2, g3⟩ := fillN_spec h4
            refine .inr ⟨⟨.osl (8 * e) (((s.H.ups gs).get (8 * e)).1 + 1), gs ++ [(8 * e, ((s.H.ups gs).get (8 * e)).1 + 1, .row el te.size es)]⟩, fun u hu => ?_, fun s' K' hs => ?_⟩
            · rcases List.mem_append.1 hu with hu | hu
              · obtain ⟨x1, x2, _⟩ := g2 u hu
                refine ⟨?_, .inr x2⟩
                simp only [wrO, List.mem_append]
                refine .inr ?_
                rw [if_pos (by rw [hm, Bool.or_true])]
                exact hrefs _ x1
              · obtain rfl : u = _ := by simpa using hu
                exact ⟨List.mem_append_left _ (by simp [keyO]), .inl (by simp [keyO])⟩
            · have hg : s'.H.get (8 * e) = s.H.get (8 * e) := hs.heap _ (List.mem_append_right _ (by simp [keyO]))
              have t3 := g3 s' fun id hid => by
                obtain ⟨p, hp', hid⟩ := List.mem_flatMap.1 (hrefs id hid)
                exact (hs.at (x := p.2) (by
                  simp only [Op.operands, Array.toList_map]
                  exact List.mem_map.2 ⟨p, hp', rfl⟩)) id hid
              have hgu : (s'.H.ups gs).get (8 * e) = (s.H.ups gs).get (8 * e) := Heap.get_ups_congr hg
              simp only [opD, if_neg hn, if_pos hm, buildN, h1, if_neg h2, if_pos h3, e2 s' hs, t3]
              simp only [bind, bindAt, Heap.new, hgu, St.app, St.put, Heap.ups_snoc]
    by_cases hall : parts.toList.all (fun p => (s.ev p.2).cells.all PV.pure) = true
    case neg => exact .inl fun K hk => by simp only [opD, if_neg hn, if_neg hm, if_neg hall] at hk
    cases dst with
    | none => exact .inl fun K hk => by simp only [opD, if_neg hn, if_neg hm, if_pos hall, op] at hk
    | some e =>
      cases h1 : sliceOf G t with
      | none => exact .inl fun K hk => by simp only [opD, if_neg hn, if_neg hm, if_pos hall, op, h1] at hk
      | some q =>
        obtain ⟨el, te⟩ := q
        by_cases h2 : te.size = 0
        · exact .inl fun K hk => by simp only [opD, if_neg hn, if_neg hm, if_pos hall, op, h1, if_pos h2] at hk
        by_cases h3 : n * te.size ≤ 100000
        case neg => exact .inl fun K hk => by simp only [opD, if_neg hn, if_neg hm, if_pos hall, op, h1, if_neg h2, if_neg h3] at hk
        have hpl : ((parts.toList.map fun p => (p.1, s.ev p.2)).all fun p => p.2.cells.all PV.pure) = true := by
          rw [List.all_map]; exact hall
        cases h4 : fillE te.size (parts.toList.map fun p => (p.1, s.ev p.2)) (List.replicate n te.zero) s with
        | none => exact .inl fun K hk => by simp only [opD, if_neg hn, if_neg hm, if_pos hall, op, h1, if_neg h2, if_pos h3, h4] at hk
        | some q =>
          obtain ⟨es, s0⟩ := q
          refine .inr ⟨⟨.osl (8 * e) ((s.H.get (8 * e)).1 + 1), [(8 * e, (s.H.get (8 * e)).1 + 1, .row el te.size es)]⟩, fun u hu => ?_, fun s' K' hs => ?_⟩
          · obtain rfl : u = _ := by simpa using hu
            exact ⟨List.mem_append_left _ (by simp [keyO]), .inl (by simp [keyO])⟩
          · have hg : s'.H.get (8 * e) = s.H.get (8 * e) := hs.heap _ (List.mem_append_right _ (by simp [keyO]))
            simp only [opD, if_neg hn, if_neg hm, e1 s' hs, if_pos hall, op, h1, if_neg h2, if_pos h3, e2 s' hs, fillE_pure _ _ _ s s' hpl, h4, Option.map_some]
            simp only [bind, bindAt, Heap.new, hg, St.app, St.put, Heap.ups]
  case alloc t =>
    cases dst with
    | none => exact .inl fun K hk => by simp only [opD, op] at hk
    | some e =>
      cases h1 : G t with
      | none => exact .inl fun K hk => by simp only [opD, op, h1] at hk
      | some te =>
        refine .inr ⟨⟨.optr (8 * e) ((s.H.get (8 * e)).1 + 1) te.size 0 0, [(8 * e, (s.H.get (8 * e)).1 + 1, .box te.zero)]⟩, fun u hu => ?_, fun s' K' hs => ?_⟩
        · obtain rfl : u = _ := by simpa using hu
          exact ⟨by simp [wrO, keyO], .inl (by simp [keyO])⟩
        · have hg : s'.H.get (8 * e) = s.H.get (8 * e) := hs.heap _ (List.mem_append_right _ (by simp [keyO]))
          simp only [opD, op, h1, Heap.new, hg, St.app, St.put, Heap.ups]
  case makeSlice t l c =>
    have hl : ∀ s', SameOp G ⟨dst, .makeSlice t l c, type, pos, after, guard⟩ s s' → s'.ev l = s.ev l ∧ s'.ev c = s.ev c := fun s' hs => ⟨hs.ev _ (by simp [Op.operands]), hs.ev _ (by simp [Op.operands])⟩
    cases dst with
    | none => exact .inl fun K hk => by simp only [opD, op] at hk
    | some e =>
      cases h1 : sliceOf G t with
      | none => exact .inl fun K hk => by simp only [opD, op, h1] at hk
      | some q =>
        obtain ⟨el, te⟩ := q
        by_cases h2 : te.size = 0
        · refine .inl fun K hk => ?_
          simp only [opD, op, h1] at hk
          split at hk
          · rw [if_pos h2] at hk; exact hk
          · exact hk
        generalize hx : s.ev l = x at hl
        generalize hy : s.ev c = y at hl
        cases x
        case int kn n =>
          cases y
          case int km m =>
            by_cases h3 : 0 ≤ n ∧ n ≤ m ∧ te.bytes * m.toNat ≤ 140737488355328 ∧ m.toNat ≤ sizeBound
            case neg =>
              refine .inl fun K hk => h3 ?_
              simp only [opD, op, h1, hx, hy, if_neg h2, std] at hk
              exact ⟨hk.1, hk.2.1, hk.2.2.1, hk.2.2.2.1⟩
            refine .inr ⟨⟨.osl (8 * e) ((s.H.get (8 * e)).1 + 1), [(8 * e, (s.H.get (8 * e)).1 + 1, .row el te.size (List.replicate n.toNat (zeroM G te)))]⟩, fun u hu => ?_, fun s' K' hs => ?_⟩
            · obtain rfl : u = _ := by simpa using hu
              exact ⟨by simp [wrO, keyO], .inl (by simp [keyO])⟩
            · have hg : s'.H.get (8 * e) = s.H.get (8 * e) := hs.heap _ (List.mem_append_right _ (by simp [keyO]))
              simp only [opD, op, h1, (hl s' hs).1, (hl s' hs).2, if_neg h2, std]
              have e1 : ∀ p : Prop, (0 ≤ n ∧ n ≤ m ∧ te.bytes * m.toNat ≤ 140737488355328 ∧ m.toNat ≤ sizeBound ∧ p) ↔ p := fun p => ⟨fun h => h.2.2.2.2, fun h => ⟨h3.1, h3.2.1, h3.2.2.1, h3.2.2.2, h⟩⟩
              rw [e1]
              simp only [bind, bindAt, Heap.new, hg, St.app, St.put, Heap.ups]
          all_goals exact .inl fun K hk => by simp only [opD, op, h1, hx, hy] at hk
        all_goals exact .inl fun K hk => by simp only [opD, op, h1, hx, hy] at hk
  case store t a v =>
    have ho : ∀ s', SameOp G ⟨dst, .store t a v, type, pos, after, guard⟩ s s' → (s'.ev a = s.ev a ∧ ∀ id ∈ refsV (s.ev a), s'.H.get id = s.H.get id) ∧ (s'.ev v = s.ev v ∧ ∀ id ∈ refsV (s.ev v), s'.H.get id = s.H.get id) := fun s' hs => by
      have ha : a ∈ (Op.store t a v).operands.toList := by simp [Op.operands]
      have hv : v ∈ (Op.store t a v).operands.toList := by simp [Op.operands]
      exact ⟨⟨hs.ev _ ha, hs.at ha⟩, ⟨hs.ev _ hv, hs.at hv⟩⟩
    by_cases hall : ((s.ev v).cells.all PV.pure || boxRef s (s.ev a)) = true
    case neg => exact .inl fun K hk => by simp only [opD, if_neg hall] at hk
    have hbx : ∀ s', SameOp G ⟨dst, .store t a v, type, pos, after, guard⟩ s s' → boxRef s' (s.ev a) = boxRef s (s.ev a) := fun s' hs => boxRef_same (ho s' hs).1.2
    have red : ∀ s' K, SameOp G ⟨dst, .store t a v, type, pos, after, guard⟩ s s' → (opD (std true P) G ⟨dst, .store t a v, type, pos, after, guard⟩ s' K ↔ opStoreT (std true P) G t s' (s.ev a) (s.ev v) fun s'' => K (s''.put dst .skip)) := fun s' K hs => by
      simp only [opD, (ho s' hs).1.1, (ho s' hs).2.1, hbx s' hs, if_pos hall]
    have no : (∀ K, ¬ opStoreT (std true P) G t s (s.ev a) (s.ev v) K) → DetE P G ⟨dst, .store t a v, type, pos, after, guard⟩ s := fun h => .inl fun K hk => h _ ((red s K (SameOp.refl _ s)).1 hk)
    have lv : ∀ s', SameOp G ⟨dst, .store t a v, type, pos, after, guard⟩ s s' → (s.ev v).cells.all s'.live = (s.ev v).cells.all s.live := fun s' hs => cells_live (ho s' hs).2.2
    have hga := fun s' hs => ((ho s' hs).1.2)
    have hwb : ∀ id ver sz i off nsz j p, s.ev a = .bptr id ver sz i off nsz j p → id ∈ wrO G ⟨dst, .store t a v, type, pos, after, guard⟩ s := fun id ver sz i off nsz j p he => by
      simp only [wrO, List.mem_append]
      right
      rw [he]
      simp [refsV, refs1]
    have hwr : ∀ id ver sz i off, s.ev a = .optr id ver sz i off → id ∈ wrO G ⟨dst, .store t a v, type, pos, after, guard⟩ s := fun id ver sz i off he => by
      simp only [wrO, List.mem_append]
      right
      rw [he]
      simp [refsV, refs1]
    clear hbx
    generalize s.ev a = x at red no hga hwr hwb hall
    generalize s.ev v = y at red no lv hall
    clear ho
    cases h1 : G t with
    | none => exact no fun K h => by (cases x <;> simp only [opStoreT, storeB, opStore, storeW, h1] at h); (split at h <;> exact h)
    | some ti =>
      by_cases h2 : y.cells.length = ti.size
      case neg => exact no fun K h => by (cases x <;> simp only [opStoreT, storeB, opStore, storeW, h1, if_neg h2] at h); (split at h <;> exact h)
      cases x
      case optr id ver sz i off =>
        have hg : ∀ s', SameOp G ⟨dst, .store t a v, type, pos, after, guard⟩ s s' → s'.H.get id = s.H.get id := fun s' hs => hga s' hs id (by simp [refsV, refs1])
        have hw := hwr id ver sz i off rfl
        generalize hgq : s.H.get id = q at hg
        obtain ⟨v', b⟩ := q
        cases b
        case dead => exact no fun K h => by simp only [opStoreT, opStore, h1, if_pos h2, hgq] at h
        case tree => exact no fun K h => by simp only [opStoreT, opStore, h1, if_pos h2, hgq] at h
        case iter => exact no fun K h => by simp only [opStoreT, opStore, h1, if_pos h2, hgq] at h
        case map => exact no fun K h => by simp only [opStoreT, opStore, h1, if_pos h2, hgq] at h
        case wild e z es =>
          by_cases h7 : y.cells.all s.live = true
          case neg => exact no fun K h => by simp only [opStoreT, storeW, h1, if_pos h2, hgq, if_neg h7] at h
          by_cases h5 : v' = ver
          case neg => exact no fun K h => by simp only [opStoreT, storeW, h1, if_pos h2, hgq, if_pos h7, if_neg h5] at h
          by_cases h6 : sz = z
          case neg => exact no fun K h => by simp only [opStoreT, storeW, h1, if_pos h2, hgq, if_pos h7, if_pos h5, if_neg h6] at h
          cases h9 : es[i]?
          case none =>
            refine no fun K h => ?_
            simp only [opStoreT, storeW, h1, if_pos h2, hgq, if_pos h7, if_pos h5, if_pos h6, std, h9] at h
            obtain ⟨_, h, _⟩ := h
            cases h
          case some el =>
            by_cases h8 : off + y.cells.length ≤ el.length
            case neg =>
              refine no fun K h => ?_
              simp only [opStoreT, storeW, h1, if_pos h2, hgq, if_pos h7, if_pos h5, if_pos h6, std, h9] at h
              obtain ⟨_, h, h', _⟩ := h
              cases h
              exact h8 h'
            refine .inr ⟨⟨.skip, [(id, ver, .wild e z (es.set i (splice el off y.cells)))]⟩, fun u hu => ?_, fun s' K' hs => ?_⟩
            · obtain rfl : u = _ := by simpa using hu
              exact ⟨hw, .inr (by rw [hgq]; simp)⟩
            · have h7' : y.cells.all s'.live = true := by rw [lv s' hs]; exact h7
              rw [red s' K' hs]
              simp only [opStoreT, storeW, h1, if_pos h2, hg s' hs, if_pos h7', if_pos h5, if_pos h6, std, h9]
              subst h6
              constructor
              · rintro ⟨_, h, _, h'⟩
                cases h
                revert h'
                cases dst <;> exact fun h => h
              · intro h
                refine ⟨_, rfl, h8, ?_⟩
                revert h
                cases dst <;> exact fun h => h
        case box cs =>
          by_cases h5 : v' = ver
          case neg => exact no fun K h => by simp only [opStoreT, opStore, h1, if_pos h2, hgq, if_neg h5] at h
          by_cases h6 : i = 0
          case neg => exact no fun K h => by simp only [opStoreT, opStore, h1, if_pos h2, hgq, if_pos h5, if_neg h6] at h
          by_cases h7 : y.cells.all s.live = true
          case neg => exact no fun K h => by simp only [opStoreT, opStore, h1, if_pos h2, hgq, if_pos h5, if_pos h6, if_neg h7] at h
          by_cases h8 : off + ti.size ≤ cs.length
          case neg => exact no fun K h => by simp only [opStoreT, opStore, h1, if_pos h2, hgq, if_pos h5, if_pos h6, if_pos h7, if_neg h8] at h
          refine .inr ⟨⟨.skip, [(id, ver, .box (splice cs off y.cells))]⟩, fun u hu => ?_, fun s' K' hs => ?_⟩
          · obtain rfl : u = _ := by simpa using hu
            exact ⟨hw, .inr (by rw [hgq]; simp)⟩
          · have h7' : y.cells.all s'.live = true := by rw [lv s' hs]; exact h7
            rw [red s' K' hs]
            simp only [opStoreT, opStore, h1, if_pos h2, hg s' hs, if_pos h5, if_pos h6, if_pos h7', if_pos h8]
            cases dst <;> exact Iff.rfl
        case row e z es =>
          have hall : y.cells.all PV.pure = true := by simpa only [boxRef, hgq, Bool.or_false] using hall
          have hp : ∀ s' : St, toPures y.cells s' = some (y.cells, s') := fun s' => toPures_pure _ _ hall
          by_cases h5 : v' = ver
          case neg => exact no fun K h => by simp only [opStoreT, opStore, h1, if_pos h2, hgq, hp, if_neg h5] at h
          by_cases h6 : sz = z
          case neg => exact no fun K h => by simp only [opStoreT, opStore, h1, if_pos h2, hgq, hp, if_pos h5, if_neg h6] at h
          cases h7 : es[i]?
          case none =>
            refine no fun K h => ?_
            simp only [opStoreT, opStore, h1, if_pos h2, hgq, hp, if_pos h5, if_pos h6, std, h7] at h
            obtain ⟨_, h, _⟩ := h
            cases h
          case some el =>
            by_cases h8 : off + y.cells.length ≤ el.length
            case neg =>
              refine no fun K h => ?_
              simp only [opStoreT, opStore, h1, if_pos h2, hgq, hp, if_pos h5, if_pos h6, std, h7] at h
              obtain ⟨_, h, h', _⟩ := h
              cases h
              exact h8 h'
            refine .inr ⟨⟨.skip, [(id, ver, .row e z (es.set i (splice el off y.cells)))]⟩, fun u hu => ?_, fun s' K' hs => ?_⟩
            · obtain rfl : u = _ := by simpa using hu
              exact ⟨hw, .inr (by rw [hgq]; simp)⟩
            · rw [red s' K' hs]
              simp only [opStoreT, opStore, h1, if_pos h2, hg s' hs, hp, if_pos h5, if_pos h6, std, h7]
              subst h6
              constructor
              · rintro ⟨_, h, _, h'⟩
                cases h
                revert h'
                cases dst <;> exact fun h => h
              · intro h
                refine ⟨_, rfl, h8, ?_⟩
                revert h
                cases dst <;> exact fun h => h
      case bptr id ver sz i off nsz j p =>
        have hg : ∀ s', SameOp G ⟨dst, .store t a v, type, pos, after, guard⟩ s s' → s'.H.get id = s.H.get id := fun s' hs => hga s' hs id (by simp [refsV, refs1])
        have hw := hwb id ver sz i off nsz j p rfl
        generalize hgq : s.H.get id = q at hg
        by_cases h3 : y.cells.all PV.pure = true
        case neg => exact no fun K h => by simp only [opStoreT, storeB, h1, if_pos h2, if_neg h3] at h
        obtain ⟨v', b⟩ := q
        cases b
        case tree e z es =>
          by_cases h5 : v' = ver
          case neg => exact no fun K h => by simp only [opStoreT, storeB, inner, h1, if_pos h2, if_pos h3, hgq, if_neg h5] at h
          by_cases h6 : sz = z
          case neg => exact no fun K h => by simp only [opStoreT, storeB, inner, h1, if_pos h2, if_pos h3, hgq, if_pos h5, if_neg h6] at h
          rcases det_storeB (P := P) es i off nsz j p y.cells with hn | ⟨es3, hy⟩
          · refine no fun K h => ?_
            simp only [opStoreT, storeB, inner, h1, if_pos h2, if_pos h3, hgq, if_pos h5, if_pos h6] at h
            exact hn _ h
          · refine .inr ⟨⟨.skip, [(id, ver, .tree e sz es3)]⟩, fun u hu => ?_, fun s' K' hs => ?_⟩
            · obtain rfl : u = _ := by simpa using hu
              exact ⟨hw, .inr (by rw [hgq]; simp)⟩
            · rw [red s' K' hs]
              simp only [opStoreT, storeB, inner, h1, if_pos h2, if_pos h3, hg s' hs, if_pos h5, if_pos h6]
              refine (hy fun es3 => K' (St.put ⟨s'.T, s'.H.put id (ver, .tree e sz es3)⟩ dst .skip)).trans ?_
              cases dst <;> exact Iff.rfl
        all_goals exact no fun K h => by simp only [opStoreT, storeB, inner, h1, if_pos h2, if_pos h3, hgq] at h
      all_goals exact no fun K h => (by simp only [opStoreT, opStore, h1, if_pos h2] at h)
  case call c =>
    obtain ⟨callee, args, ts⟩ := c
    cases callee with
    | invoke r m => simp only at hk; omega
    | value f => exfalso; cases f <;> simp only at hk <;> (try split at hk) <;> (try split at hk) <;> omega
    | builtin b =>
      cases b <;> simp only at hk <;> try omega
      case append =>
        have hm : ∀ x ∈ args.toList, x ∈ (Op.call ⟨.builtin .append, args, ts⟩).operands.toList := fun x hx => by
          simp only [Op.operands, Call.operands, Array.toList_append, List.mem_append]
          exact .inr hx
        have hev : ∀ s', SameOp G ⟨dst, .call ⟨.builtin .append, args, ts⟩, type, pos, after, guard⟩ s s' → evs s' args.toList = evs s args.toList := fun s' hs => by
          unfold evs
          exact List.map_congr_left fun x hx => hs.ev x (hm x hx)
        cases dst with
        | none =>
          refine .inl fun K hk => ?_
          simp only [opD] at hk
          split at hk
          · split at hk
            · split at hk
              · unfold opAppD at hk
                split at hk
                · unfold viewD at hk
                  split at hk
                  · split at hk
                    · split at hk
                      · split at hk
                        · simp only [joinV] at hk
                        · exact hk
                      · exact hk
                    · exact hk
                  · exact hk
                · split at hk
                  · split at hk
                    · simp only [appendT] at hk
                    · exact hk
                  · simp only [opAppend] at hk
                · simp only [opAppend] at hk
              · simp only [opAppend] at hk
            · exact hk
          · exact hk
        | some e =>
          have red0 : ∀ K, opD (std true P) G ⟨some e, .call ⟨.builtin .append, args, ts⟩, type, pos, after, guard⟩ s K → ∃ x y t, evs s args.toList = [x, y] ∧ ts.toList = [t, t] := fun K hk => by
            simp only [opD] at hk
            split at hk
            · rename_i x y t t' h1 h2
              split at hk
              · rename_i e'
                subst e'
                exact ⟨x, y, t, h1, h2⟩
              · exact hk.elim
            · exact hk.elim
          by_cases hex : ∃ x y t, evs s args.toList = [x, y] ∧ ts.toList = [t, t]
          case neg => exact .inl fun K hk => hex (red0 K hk)
          obtain ⟨x, y, t, hes, hts⟩ := hex
          -- the operands behind the values
          obtain ⟨ox, oy, hargs⟩ : ∃ ox oy, args.toList = [ox, oy] := by
            unfold evs at hes
            cases ha : args.toList with
            | nil => rw [ha] at hes; cases hes
            | cons ox l =>
              cases l with
              | nil => rw [ha] at hes; cases hes
              | cons oy l =>
                cases l with
                | nil => exact ⟨ox, oy, rfl⟩
                | cons _ _ => rw [ha] at hes; cases hes
          have hox : s.ev ox = x := by unfold evs at hes; rw [hargs] at hes; exact (List.cons.inj hes).1
          have hoy : s.ev oy = y := by unfold evs at hes; rw [hargs] at hes; exact (List.cons.inj (List.cons.inj hes).2).1
          have hmx : ∀ s', SameOp G ⟨some e, .call ⟨.builtin .append, args, ts⟩, type, pos, after, guard⟩ s s' → ∀ id ∈ refsV x, s'.H.get id = s.H.get id := fun s' hs id hid => (hs.at (hm ox (by rw [hargs]; simp))) id (by rw [hox]; exact hid)
          have hmy : ∀ s', SameOp G ⟨some e, .call ⟨.builtin .append, args, ts⟩, type, pos, after, guard⟩ s s' → ∀ id ∈ refsV y, s'.H.get id = s.H.get id := fun s' hs id hid => (hs.at (hm oy (by rw [hargs]; simp))) id (by rw [hoy]; exact hid)
          have hmk : ∀ s', SameOp G ⟨some e, .call ⟨.builtin .append, args, ts⟩, type, pos, after, guard⟩ s s' → s'.H.get (8 * e) = s.H.get (8 * e) := fun s' hs => hs.heap _ (List.mem_append_right _ (by simp [keyO]))
          have hwx : ∀ id ∈ refsV x, id ∈ wrO G ⟨some e, .call ⟨.builtin .append, args, ts⟩, type, pos, after, guard⟩ s := fun id hid => by
            simp only [wrO, List.mem_append]
            right
            split
            · exact List.mem_flatMap.2 ⟨ox, by rw [hargs]; simp, by rw [hox]; exact hid⟩
            · simp only [firstRefs, hargs, hox]; exact hid
          have hwk : 8 * e ∈ wrO G ⟨some e, .call ⟨.builtin .append, args, ts⟩, type, pos, after, guard⟩ s := List.mem_append_left _ (by simp [keyO])
          by_cases htree : ∃ id2 ver2 v2 e2 z2 more, nestB G t = true ∧ y = .osl id2 ver2 ∧ s.H.get id2 = (v2, .tree e2 z2 more)
          · -- a tree behind a tree
            obtain ⟨id2, ver2, v2, e2, z2, more, hn, rfl, hg2⟩ := htree
            have hg2' : ∀ s', SameOp G ⟨some e, .call ⟨.builtin .append, args, ts⟩, type, pos, after, guard⟩ s s' → s'.H.get id2 = (v2, .tree e2 z2 more) := fun s' hs => (hmy s' hs id2 (by simp [refsV, refs1])).trans hg2
            have hwy : id2 ∈ wrO G ⟨some e, .call ⟨.builtin .append, args, ts⟩, type, pos, after, guard⟩ s := by
              have hnl : nestL G ts.toList = true := by rw [hts]; exact hn
              simp only [wrO, hnl, if_true, List.mem_append]
              exact .inr (List.mem_flatMap.2 ⟨oy, by rw [hargs]; simp, by rw [hoy]; simp [refsV, refs1]⟩)
            by_cases hv2 : v2 = ver2
            case neg => exact .inl fun K hk => by simp only [opD, hes, hts, if_true, if_pos hn, opAppD, hg2, if_neg hv2] at hk
            subst hv2
            have red : ∀ s' K, SameOp G ⟨some e, .call ⟨.builtin .append, args, ts⟩, type, pos, after, guard⟩ s s' → (opD (std true P) G ⟨some e, .call ⟨.builtin .append, args, ts⟩, type, pos, after, guard⟩ s' K ↔ appendT (std true P) G t s' x id2 v2 e2 z2 more (some e) K) := fun s' K hs => by
              simp only [opD, hev s' hs, hes, hts, if_true, if_pos hn, opAppD, hg2' s' hs]
            have no : (∀ K, ¬ appendT (std true P) G t s x id2 v2 e2 z2 more (some e) K) → DetE P G ⟨some e, .call ⟨.builtin .append, args, ts⟩, type, pos, after, guard⟩ s := fun h => .inl fun K hk => h K ((red s K (SameOp.refl _ s)).1 hk)
            cases h1 : sliceOf G t with
            | none => exact no fun K h => by simp only [appendT, h1] at h
            | some q =>
              obtain ⟨el, te⟩ := q
              by_cases h2 : te.size = 0
              · exact no fun K h => by simp only [appendT, h1, if_pos h2] at h
              by_cases h3 : e2 = el
              case neg => exact no fun K h => by simp only [appendT, h1, if_neg h2, if_neg h3] at h
              by_cases h4 : z2 = te.size
              case neg => exact no fun K h => by simp only [appendT, h1, if_neg h2, if_pos h3, if_neg h4] at h
              cases x
              case nil =>
                by_cases h5 : (([] : List (List PV)).length + more.length) * te.bytes ≤ 140737488355328 ∧ ([] : List (List PV)).length + more.length ≤ sizeBound
                case neg => exact no fun K h => by simp only [appendT, h1, if_neg h2, if_pos h3, if_pos h4, std] at h; exact h5 ⟨h.1, h.2.1⟩
                refine .inr ⟨⟨.osl (8 * e) (((s.H.put id2 (v2, .dead)).get (8 * e)).1 + 1), [(id2, v2, .dead), (8 * e, ((s.H.put id2 (v2, .dead)).get (8 * e)).1 + 1, .tree el te.size ([] ++ more))]⟩, fun u hu => ?_, fun s' K' hs => ?_⟩
                · rcases List.mem_cons.1 hu with rfl | hu
                  · exact ⟨hwy, .inr (by rw [hg2]; simp)⟩
                  · obtain rfl : u = _ := by simpa using hu
                    exact ⟨hwk, .inl (by simp [keyO])⟩
                · have hk : (s'.H.put id2 (v2, .dead)).get (8 * e) = (s.H.put id2 (v2, .dead)).get (8 * e) := by rw [Heap.get_put, Heap.get_put, hmk s' hs]
                  rw [red s' K' hs]
                  simp only [appendT, h1, if_neg h2, if_pos h3, if_pos h4, std, bindT, Heap.new, hk, St.app, St.put, Heap.ups]
                  exact ⟨fun h => h.2.2, fun h => ⟨h5.1, h5.2, h⟩⟩
              case osl id ver =>
                have hg : ∀ s', SameOp G ⟨some e, .call ⟨.builtin .append, args, ts⟩, type, pos, after, guard⟩ s s' → s'.H.get id = s.H.get id := fun s' hs => hmx s' hs id (by simp [refsV, refs1])
                by_cases hne : id = id2
                · exact no fun K h => by simp only [appendT, h1, if_neg h2, if_pos h3, if_pos h4, if_pos hne] at h
                generalize hgq : s.H.get id = q at hg
                obtain ⟨v', b⟩ := q
                cases b
                case tree e' z es =>
                  by_cases h5 : v' = ver
                  case neg => exact no fun K h => by simp only [appendT, h1, if_neg h2, if_pos h3, if_pos h4, if_neg hne, hgq, if_neg h5] at h
                  by_cases h6 : e' = el
                  case neg => exact no fun K h => by simp only [appendT, h1, if_neg h2, if_pos h3, if_pos h4, if_neg hne, hgq, if_pos h5, if_neg h6] at h
                  by_cases h7 : z = te.size
                  case neg => exact no fun K h => by simp only [appendT, h1, if_neg h2, if_pos h3, if_pos h4, if_neg hne, hgq, if_pos h5, if_pos h6, if_neg h7] at h
                  by_cases h8 : (es.length + more.length) * te.bytes ≤ 140737488355328 ∧ es.length + more.length ≤ sizeBound
                  case neg => exact no fun K h => by simp only [appendT, h1, if_neg h2, if_pos h3, if_pos h4, if_neg hne, hgq, if_pos h5, if_pos h6, if_pos h7, std] at h; exact h8 ⟨h.1, h.2.1⟩
                  refine .inr ⟨⟨.osl (8 * e) ((((s.H.put id (ver, .dead)).put id2 (v2, .dead)).get (8 * e)).1 + 1), [(id, ver, .dead), (id2, v2, .dead), (8 * e, (((s.H.put id (ver, .dead)).put id2 (v2, .dead)).get (8 * e)).1 + 1, .tree el te.size (es ++ more))]⟩, fun u hu => ?_, fun s' K' hs => ?_⟩
                  · rcases List.mem_cons.1 hu with rfl | hu
                    · exact ⟨hwx id (by simp [refsV, refs1]), .inr (by rw [hgq]; simp)⟩
                    rcases List.mem_cons.1 hu with rfl | hu
                    · exact ⟨hwy, .inr (by rw [hg2]; simp)⟩
                    · obtain rfl : u = _ := by simpa using hu
                      exact ⟨hwk, .inl (by simp [keyO])⟩
                  · have hk : ((s'.H.put id (ver, .dead)).put id2 (v2, .dead)).get (8 * e) = ((s.H.put id (ver, .dead)).put id2 (v2, .dead)).get (8 * e) := by simp only [Heap.get_put, hmk s' hs]
                    rw [red s' K' hs]
                    simp only [appendT, h1, if_neg h2, if_pos h3, if_pos h4, if_neg hne, hg s' hs, if_pos h5, if_pos h6, if_pos h7, std, bindT, Heap.new, hk, St.app, St.put, Heap.ups]
                    exact ⟨fun h => h.2.2, fun h => ⟨h8.1, h8.2, h⟩⟩
                all_goals exact no fun K h => by simp only [appendT, h1, if_neg h2, if_pos h3, if_pos h4, if_neg hne, hgq] at h
              all_goals exact no fun K h => (by simp only [appendT, h1, if_neg h2, if_pos h3, if_pos h4] at h)
          by_cases hview : ∃ id2 ver2 z2 lo2 hi2, nestB G t = true ∧ y = .vsl id2 ver2 z2 lo2 hi2
          · -- two parts of a row
            obtain ⟨id2, ver2, z2, lo2, hi2, hn, rfl⟩ := hview
            have red : ∀ s' K, SameOp G ⟨some e, .call ⟨.builtin .append, args, ts⟩, type, pos, after, guard⟩ s s' → (opD (std true P) G ⟨some e, .call ⟨.builtin .append, args, ts⟩, type, pos, after, guard⟩ s' K ↔ viewD (std true P) G t s' x id2 ver2 z2 lo2 hi2 (some e) K) := fun s' K hs => by
              simp only [opD, hev s' hs, hes, hts, if_true, if_pos hn, opAppD]
            have no : (∀ K, ¬ viewD (std true P) G t s x id2 ver2 z2 lo2 hi2 (some e) K) → DetE P G ⟨some e, .call ⟨.builtin .append, args, ts⟩, type, pos, after, guard⟩ s := fun h => .inl fun K hk => h K ((red s K ⟨fun _ _ => rfl, fun _ _ => rfl⟩).1 hk)
            cases x
            case vsl id ver z lo hi =>
              by_cases q1 : id = id2
              case neg => exact no fun K h => by simp only [viewD, if_neg q1] at h
              by_cases q2 : ver = ver2
              case neg => exact no fun K h => by simp only [viewD, if_pos q1, if_neg q2] at h
              by_cases q3 : z = z2
              case neg => exact no fun K h => by simp only [viewD, if_pos q1, if_pos q2, if_neg q3] at h
              subst q1 q2 q3
              have hg : ∀ s', SameOp G ⟨some e, .call ⟨.builtin .append, args, ts⟩, type, pos, after, guard⟩ s s' → s'.H.get id = s.H.get id := fun s' hs => hmx s' hs id (by simp [refsV, refs1])
              cases h1 : sliceOf G t with
              | none => exact no fun K h => by simp only [viewD, if_true, joinV, h1] at h
              | some q =>
                obtain ⟨el, te⟩ := q
                by_cases h2 : te.size = 0
                · exact no fun K h => by simp only [viewD, if_true, joinV, h1, if_pos h2] at h
                by_cases h8 : lo = 0
                case neg => exact no fun K h => by simp only [viewD, if_true, joinV, h1, if_neg h2, if_neg h8] at h
                by_cases h9 : z = te.size
                case neg => exact no fun K h => by simp only [viewD, if_true, joinV, h1, if_neg h2, if_pos h8, if_neg h9] at h
                generalize hgq : s.H.get id = q at hg
                obtain ⟨v', b⟩ := q
                cases b
                case row e' z' es =>
                  by_cases h5 : v' = ver
                  case neg => exact no fun K h => by simp only [viewD, if_true, joinV, h1, if_neg h2, if_pos h8, if_pos h9, hgq, if_neg h5] at h
                  by_cases h6 : e' = el
                  case neg => exact no fun K h => by simp only [viewD, if_true, joinV, h1, if_neg h2, if_pos h8, if_pos h9, hgq, if_pos h5, if_neg h6] at h
                  by_cases h7 : z' = te.size
                  case neg => exact no fun K h => by simp only [viewD, if_true, joinV, h1, if_neg h2, if_pos h8, if_pos h9, hgq, if_pos h5, if_pos h6, if_neg h7] at h
                  by_cases h4 : ((es.take hi).length + ((es.take hi2).drop lo2).length) * te.bytes ≤ 140737488355328 ∧ (es.take hi).length + ((es.take hi2).drop lo2).length ≤ sizeBound
                  case neg => exact no fun K h => by simp only [viewD, if_true, joinV, h1, if_neg h2, if_pos h8, if_pos h9, hgq, if_pos h5, if_pos h6, if_pos h7, std] at h; exact h4 ⟨h.1, h.2.1⟩
                  have hvv : ∀ s', SameOp G ⟨some e, .call ⟨.builtin .append, args, ts⟩, type, pos, after, guard⟩ s s' → (s'.H.put id (ver + 1, .dead)).get (8 * e) = (s.H.put id (ver + 1, .dead)).get (8 * e) := fun s' hs => by
                    rw [Heap.get_put, Heap.get_put, hmk s' hs]
                  refine .inr ⟨⟨.osl (8 * e) (((s.H.put id (ver + 1, .dead)).get (8 * e)).1 + 1), [(id, ver + 1, .dead), (8 * e, ((s.H.put id (ver + 1, .dead)).get (8 * e)).1 + 1, .row el te.size (es.take hi ++ (es.take hi2).drop lo2))]⟩, fun u hu => ?_, fun s' K' hs => ?_⟩
                  · rcases List.mem_cons.1 hu with rfl | hu
                    · exact ⟨hwx id (by simp [refsV, refs1]), .inr (by rw [hgq]; simp)⟩
                    · obtain rfl : u = _ := by simpa using hu
                      exact ⟨hwk, .inl (by simp [keyO])⟩
                  · rw [red s' K' hs]
                    simp only [viewD, if_true, joinV, h1, if_neg h2, if_pos h8, if_pos h9, hg s' hs, if_pos h5, if_pos h6, if_pos h7, std, bind, bindAt, Heap.new, hvv s' hs, St.app, St.put, Heap.ups]
                    exact ⟨fun h => h.2.2, fun h => ⟨h4.1, h4.2, h⟩⟩
                all_goals exact no fun K h => by simp only [viewD, if_true, joinV, h1, if_neg h2, if_pos h8, if_pos h9, hgq] at h
            all_goals exact no fun K h => by simp only [viewD] at h
          have red : ∀ s' K, SameOp G ⟨some e, .call ⟨.builtin .append, args, ts⟩, type, pos, after, guard⟩ s s' → (opD (std true P) G ⟨some e, .call ⟨.builtin .append, args, ts⟩, type, pos, after, guard⟩ s' K ↔ opAppend (std true P) G t s' x y (some e) K) := fun s' K hs => by
            simp only [opD, hev s' hs, hes, hts, if_true]
            by_cases hn : nestB G t = true
            case neg => rw [if_neg hn]
            rw [if_pos hn]
            unfold opAppD
            split
            · exact absurd ⟨_, _, _, _, _, hn, rfl⟩ hview
            · rename_i id2 ver2
              split
              · rename_i v2 e2 z2 more hg2
                exfalso
                exact absurd ⟨id2, ver2, v2, e2, z2, more, hn, rfl, (hmy s' hs id2 (by simp [refsV, refs1])).symm.trans hg2⟩ htree
              · exact Iff.rfl
            · exact Iff.rfl
          have no : (∀ K, ¬ opAppend (std true P) G t s x y (some e) K) → DetE P G ⟨some e, .call ⟨.builtin .append, args, ts⟩, type, pos, after, guard⟩ s := fun h => .inl fun K hk => h K ((red s K (SameOp.refl _ s)).1 hk)
          cases h1 : sliceOf G t with
          | none => exact no fun K h => by simp only [opAppend, h1] at h
          | some q =>
            obtain ⟨el, te⟩ := q
            by_cases h2 : te.size = 0
            · exact no fun K h => by simp only [opAppend, h1, if_pos h2] at h
            cases h3 : moreOf s el te.size y with
            | none => exact no fun K h => by simp only [opAppend, h1, if_neg h2, h3] at h
            | some more =>
              cases x
              case nil =>
                by_cases h4 : (([] : List (List PV)).length + more.length) * te.bytes ≤ 140737488355328 ∧ ([] : List (List PV)).length + more.length ≤ sizeBound
                case neg => exact no fun K h => by simp only [opAppend, h1, if_neg h2, h3, std] at h; exact h4 ⟨h.1, h.2.1⟩
                refine .inr ⟨⟨.osl (8 * e) ((s.H.get (8 * e)).1 + 1), [(8 * e, (s.H.get (8 * e)).1 + 1, .row el te.size ([] ++ more))]⟩, fun u hu => ?_, fun s' K' hs => ?_⟩
                · obtain rfl : u = _ := by simpa using hu
                  exact ⟨hwk, .inl (by simp [keyO])⟩
                · rw [red s' K' hs]
                  simp only [opAppend, h1, if_neg h2, moreOf_same el te.size y (hmy s' hs), h3, std, bind, bindAt, Heap.new, hmk s' hs, St.app, St.put, Heap.ups]
                  exact ⟨fun h => h.2.2, fun h => ⟨h4.1, h4.2, h⟩⟩
              case osl id ver =>
                have hg : ∀ s', SameOp G ⟨some e, .call ⟨.builtin .append, args, ts⟩, type, pos, after, guard⟩ s s' → s'.H.get id = s.H.get id := fun s' hs => hmx s' hs id (by simp [refsV, refs1])
                generalize hgq : s.H.get id = q at hg
                obtain ⟨v', b⟩ := q
                cases b
                case dead => exact no fun K h => by simp only [opAppend, h1, if_neg h2, h3, hgq] at h
                case box cs => exact no fun K h => by simp only [opAppend, h1, if_neg h2, h3, hgq] at h
                case tree => exact no fun K h => by simp only [opAppend, h1, if_neg h2, h3, hgq] at h
                case iter => exact no fun K h => by simp only [opAppend, h1, if_neg h2, h3, hgq] at h
                case map => exact no fun K h => by simp only [opAppend, h1, if_neg h2, h3, hgq] at h
                case wild => exact no fun K h => by simp only [opAppend, h1, if_neg h2, h3, hgq] at h
                case row e' z es =>
                  by_cases h5 : v' = ver
                  case neg => exact no fun K h => by simp only [opAppend, h1, if_neg h2, h3, hgq, if_neg h5] at h
                  by_cases h6 : e' = el
                  case neg => exact no fun K h => by simp only [opAppend, h1, if_neg h2, h3, hgq, if_pos h5, if_neg h6] at h
                  by_cases h7 : z = te.size
                  case neg => exact no fun K h => by simp only [opAppend, h1, if_neg h2, h3, hgq, if_pos h5, if_pos h6, if_neg h7] at h
                  by_cases h4 : (es.length + more.length) * te.bytes ≤ 140737488355328 ∧ es.length + more.length ≤ sizeBound
                  case neg => exact no fun K h => by simp only [opAppend, h1, if_neg h2, h3, hgq, if_pos h5, if_pos h6, if_pos h7, std] at h; exact h4 ⟨h.1, h.2.1⟩
                  have hvv : ∀ s', SameOp G ⟨some e, .call ⟨.builtin .append, args, ts⟩, type, pos, after, guard⟩ s s' → (s'.H.put id (ver + 1, .dead)).get (8 * e) = (s.H.put id (ver + 1, .dead)).get (8 * e) := fun s' hs => by
                    rw [Heap.get_put, Heap.get_put, hmk s' hs]
                  refine .inr ⟨⟨.osl (8 * e) (((s.H.put id (ver + 1, .dead)).get (8 * e)).1 + 1), [(id, ver + 1, .dead), (8 * e, ((s.H.put id (ver + 1, .dead)).get (8 * e)).1 + 1, .row el te.size (es ++ more))]⟩, fun u hu => ?_, fun s' K' hs => ?_⟩
                  · rcases List.mem_cons.1 hu with rfl | hu
                    · exact ⟨hwx id (by simp [refsV, refs1]), .inr (by rw [hgq]; simp)⟩
                    · obtain rfl : u = _ := by simpa using hu
                      exact ⟨hwk, .inl (by simp [keyO])⟩
                  · rw [red s' K' hs]
                    simp only [opAppend, h1, if_neg h2, moreOf_same el te.size y (hmy s' hs), h3, hg s' hs, if_pos h5, if_pos h6, if_pos h7, std, bind, bindAt, Heap.new, hvv s' hs, St.app, St.put, Heap.ups]
                    exact ⟨fun h => h.2.2, fun h => ⟨h4.1, h4.2, h⟩⟩
              all_goals exact no fun K h => (by simp only [opAppend, h1, if_neg h2, h3] at h)

theorem detE {o : Oper} (hk : detK G o = true) (s : St) : DetE P G o s := by
  simp only [detK, Bool.or_eq_true, beq_iff_eq] at hk
  rcases hk with hk | hk
  · rcases det_op (P := P) hk s with h | ⟨u, h⟩
    · exact .inl h
    · exact .inr ⟨⟨u, []⟩, fun u hu => (by cases hu), fun s' K' hs => by rw [app_nil]; exact h s' K' hs⟩
  · exact det3 hk s
end
end Go.Proofs.Ytngefbdedbbplaa.Ai
