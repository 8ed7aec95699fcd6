/- How an abstract state follows its world: new objects, objects given up, objects written, calls. -/
import Derived.Test.YtngefbdedbbplaaAiKit
namespace Go.Proofs.Ytngefbdedbbplaa.Ai
open Go Go.RowKit
set_option linter.unusedVariables false
set_option linter.unusedSimpArgs false

section
variable {κ : Ctx} {η : Own} {s : St} {a : Act} {w : World}

/-- The general step. -/
theorem Sim.step (h : Sim κ η s a w) {w' : World} {η' : Own} {H' : Heap} (hI : ∀ g, imm κ η w g → imm κ η' w' g ∧ w'.heap[g]? = w.heap[g]?) (hη : η.le η')
    (hH : ∀ id, ObjRep κ w' η' id (H'.get id)) (hap : ∀ (id id' : Key) x x' g, η'.val id = some x → η'.val id' = some x' → headOf x = some g → headOf x' = some g → id = id')
    (hs : ∀ id, SubRep η' id (H'.get id).2) (hk : Kept κ w') : Sim κ η' ⟨s.T, H'⟩ a w' :=
  ⟨h.tmps.mono fun _ _ x => x.mono hI hη, h.defers, hH, hap, hs, hk⟩

/-- A world in which nothing that counts has turned. -/
theorem Sim.world (h : Sim κ η s a w) {w' : World} (hb : ∀ k, k < w.heap.size → w'.heap[k]? = w.heap[k]?) (hz : w.heap.size ≤ w'.heap.size) (hk : Kept κ w') : Sim κ η s a w' := by
  have hI : ∀ g, imm κ η w g → imm κ η w' g ∧ w'.heap[g]? = w.heap[g]? := fun g hg => ⟨⟨Nat.lt_of_lt_of_le hg.1 hz, side_keep (hb g hg.1) hg.2.1, hg.2.2⟩, hb g hg.1⟩
  exact h.step hI η.le_refl (fun id => (h.heap id).keep rfl (fun _ _ => rfl) (fun k v g _ hv hg => hb g (h.head hv hg).1) hI η.le_refl) h.apart h.sub hk

theorem Sim.drew (h : Sim κ η s a w) : Sim κ η s a w.drew :=
  h.world (fun _ _ => rfl) (Nat.le_refl _) (h.kept.step rfl rfl rfl (Nat.le_refl _) fun _ _ _ => rfl)

/-- Behind a call that leaves alone what was there. -/
theorem Sim.below (h : Sim κ η s a w) {w' : World} (hb : Below w.heap.size w w') : Sim κ η s a w' :=
  h.world (fun k hk => hb.block k hk) hb.size (h.kept.step hb.os hb.tape hb.output hb.size fun k hk _ => hb.block k (Nat.lt_of_lt_of_le hk h.kept.size))

theorem Own.le_setT {η : Own} {id ver : Nat} {v : Option Value} {sub : Nat → Option Value} (h : η.cur id < ver) : η.le (η.setT id ver v sub) := by
  intro k
  by_cases e : k.id = id
  · have : (η.setT id ver v sub).cur k.id = ver := if_pos e
    rw [this, e]
    exact ⟨by omega, fun he => by omega⟩
  · have : (η.setT id ver v sub).cur k.id = η.cur k.id := if_neg e
    rw [this, Own.setT_ne e]
    exact ⟨Nat.le_refl _, fun _ _ h => h⟩
theorem Own.le_set {η : Own} {id ver : Nat} {v : Option Value} (h : η.cur id < ver) : η.le (η.set id ver v) := Own.le_setT h

theorem Own.le_kill (η : Own) (id : Nat) : η.le (η.set id (η.cur id) none) := by
  intro k
  by_cases e : k.id = id
  · have : (η.set id (η.cur id) none).cur k.id = η.cur id := if_pos e
    rw [this, e]
    refine ⟨Nat.le_refl _, fun _ x h => ?_⟩
    rcases Own.set_val h with ⟨_, h⟩ | ⟨h, _⟩
    · cases h
    · exact absurd e h
  · rw [Own.set_cur_ne e, Own.set_ne e]
    exact ⟨Nat.le_refl _, fun _ _ h => h⟩

theorem Own.le_trans {a b c : Own} (h : a.le b) (k : b.le c) : a.le c := fun id =>
  ⟨Nat.le_trans (h id).1 (k id).1, fun e x hx => by
    have h1 := (h id).1
    have h2 := (k id).1
    exact (h id).2 (by omega) x ((k id).2 (by omega) x hx)⟩

theorem imm_kill {κ : Ctx} {η : Own} {id : Nat} {w : World} {g : Nat} (h : imm κ η w g) : imm κ (η.set id (η.cur id) none) w g := by
  refine ⟨h.1, h.2.1, fun i x hx => ?_⟩
  rcases Own.set_val hx with ⟨_, hx⟩ | ⟨_, hx⟩
  · cases hx
  · exact h.2.2 i x hx

/-- An object is given up. -/
theorem Sim.kill (h : Sim κ η s a w) (id : Nat) (b : Body) (hb : s.H.get id = (η.cur id, b)) :
    Sim κ (η.set id (η.cur id) none) ⟨s.T, s.H.put id (η.cur id, .dead)⟩ a w := by
  have hI : ∀ g, imm κ η w g → imm κ (η.set id (η.cur id) none) w g ∧ w.heap[g]? = w.heap[g]? := fun g hg => ⟨imm_kill hg, rfl⟩
  refine h.step hI (η.le_kill id) (fun i => ?_) (fun i j x x' g hx hx' => ?_) (fun i => ?_) h.kept
  · rw [Heap.get_put]
    by_cases e : i = id
    · subst e; simp only [if_true]; exact ⟨Own.set_cur, Own.set_o⟩
    · rw [if_neg e]
      exact (h.heap i).keep (Own.set_cur_ne e) (fun k hk => Own.set_ne (by rw [hk]; exact e)) (fun _ _ _ _ _ _ => rfl) hI (η.le_kill id)
  · rcases Own.set_val hx with ⟨_, hx⟩ | ⟨_, hx⟩
    · cases hx
    · rcases Own.set_val hx' with ⟨_, hx'⟩ | ⟨_, hx'⟩
      · cases hx'
      · exact h.apart i j x x' g hx hx'
  · rw [Heap.get_put]
    by_cases e : i = id
    · subst e; exact SubRep.none fun p => Own.set_n
    · rw [if_neg e]
      exact (h.sub i).keep fun k hk => Own.set_ne (by rw [hk]; exact e)

/-- The contents of an own row that is given up: a slice that is only read. -/
theorem row_isl {κ : Ctx} [NoZ κ] {w : World} {η : Own} {id ver e sz : Nat} {es : List (List PV)} (h : ObjRep κ w η id (ver, .row e sz es))
    (hap : ∀ (id id' : Key) x x' g, η.val id = some x → η.val id' = some x' → headOf x = some g → headOf x' = some g → id = id') :
    ∃ v, η.val id = some v ∧ RepI w (imm κ (η.set id (η.cur id) none) w) (.isl sz es) v := by
  obtain ⟨h1, v, vals, h2, h3, h4, h5⟩ := h
  refine ⟨v, h2, ?_⟩
  obtain ⟨⟨hl, hr⟩, hside⟩ := h3
  rcases hr with ⟨rfl, hn⟩ | ⟨g, cap, cur, rfl, -, hh, hc, hm, hs, ht⟩
  · obtain rfl := List.eq_nil_of_length_eq_zero hn
    exact .isl0 sz none 0 (Nat.zero_le _)
  · refine .isl sz es g 0 cap vals h5 (h4.weak fun g hg => imm_kill hg) ⟨?_, ⟨.inr ⟨hside.new g rfl, _, _, hh⟩, NoZ.out g⟩, fun i x hx => ?_⟩ (fun j v hj => ?_) hc hm
    · rcases Nat.lt_or_ge g w.heap.size with hlt | hge
      · exact hlt
      · rw [Array.getElem?_eq_none hge] at hh; cases hh
    · intro he
      rcases Own.set_val hx with ⟨_, hx⟩ | ⟨e, hx⟩
      · cases hx
      · exact e (by rw [hap i id x _ g hx h2 he rfl]; rfl)
    · rw [Nat.zero_add, cell_of_row w g j cur _ _ hh]
      rw [← ht] at hj
      rw [← Array.getElem?_toList]
      rw [List.getElem?_take] at hj
      split at hj
      · exact hj
      · cases hj

theorem rep_thaw {w : World} {I : Nat → Prop} {η η' : Own} {id ver sz : Nat} {es : List (List PV)} {v : Value} (hc : η.cur id = ver) (hv : η.val id = some v) (hr : RepI w I (.isl sz es) v)
    {p : PV} {c : Value} (h : Rep w I η p c) (h' : Rep w I η' p c) : Rep w I η' (thaw id ver sz es p) c := by
  unfold thaw
  split
  · rename_i i u
    split
    · split
      · rename_i e1 e2
        subst e1 e2
        cases h with
        | one h => cases h with
          | one h => cases h with
            | imm h => cases h
            | osl _ _ _ h1 h2 => rw [h2 hc.symm v hv]; exact .of hr
      · exact h'
    · exact h'
  · exact h'

/-- An own slice is frozen: whoever held it holds a slice that is only read. -/
theorem Sim.freeze [NoZ κ] (h : Sim κ η s a w) {id ver e sz : Nat} {es : List (List PV)} (hb : s.H.get id = (ver, .row e sz es)) :
    ∃ η', Sim κ η' ⟨s.T.map (thaw id ver sz es), s.H.put id (ver, .dead)⟩ a w ∧ η.le η' ∧ (∀ g, imm κ η w g → imm κ η' w g) ∧
      ∃ v, η.val id = some v ∧ RepI w (imm κ η' w) (.isl sz es) v := by
  have ho := h.heap id
  rw [hb] at ho
  have hc : η.cur id = ver := ho.1
  subst hc
  obtain ⟨v, hv, hr⟩ := row_isl ho h.apart
  have hk := h.kill id _ hb
  refine ⟨_, ⟨?_, hk.defers, hk.heap, hk.apart, hk.sub, hk.kept⟩, η.le_kill id, fun g hg => imm_kill hg, v, hv, hr⟩
  have hm : All2 (fun p c => Rep w (imm κ (η.set id (η.cur id) none) w) η p c ∧ Rep w (imm κ (η.set id (η.cur id) none) w) (η.set id (η.cur id) none) p c) s.T a.tmps.toList :=
    h.tmps.mono fun p c x => ⟨x.mono (fun g hg => ⟨imm_kill hg, rfl⟩) η.le_refl, x.mono (fun g hg => ⟨imm_kill hg, rfl⟩) (η.le_kill id)⟩
  exact All2.mapl (fun p c x => rep_thaw rfl hv hr x.1 x.2) hm

/-- A new object under a key (in place of what the key held), in new memory; a tree with the rows in it. -/
theorem Sim.createT (h : Sim κ η s a w) {w' : World} (hw : ∀ k, k < w.heap.size → w'.heap[k]? = w.heap[k]?) (hz : w.heap.size ≤ w'.heap.size) (hk : Kept κ w') (id : Nat) (b : Body) (v : Value) (sub : Nat → Option Value)
    (hhead : ∀ (k : Key) x g, k.id = id → (η.setT id ((s.H.get id).1 + 1) (some v) sub).val k = some x → headOf x = some g → w.heap.size ≤ g)
    (hin : ∀ (k k' : Key) x x' g, k.id = id → k'.id = id → (η.setT id ((s.H.get id).1 + 1) (some v) sub).val k = some x → (η.setT id ((s.H.get id).1 + 1) (some v) sub).val k' = some x' → headOf x = some g → headOf x' = some g → k = k')
    (hsub : SubRep (η.setT id ((s.H.get id).1 + 1) (some v) sub) id b)
    (hb : η.le (η.setT id ((s.H.get id).1 + 1) (some v) sub) → (∀ g, imm κ η w g → imm κ (η.setT id ((s.H.get id).1 + 1) (some v) sub) w' g ∧ w'.heap[g]? = w.heap[g]?) →
      ObjRep κ w' (η.setT id ((s.H.get id).1 + 1) (some v) sub) id ((s.H.get id).1 + 1, b)) :
    Sim κ (η.setT id ((s.H.get id).1 + 1) (some v) sub) ⟨s.T, s.H.new id b⟩ a w' ∧ η.le (η.setT id ((s.H.get id).1 + 1) (some v) sub) ∧
      (∀ g, imm κ η w g → imm κ (η.setT id ((s.H.get id).1 + 1) (some v) sub) w' g ∧ w'.heap[g]? = w.heap[g]?) := by
  have hcur : η.cur id = (s.H.get id).1 := (h.heap id).ver
  have hle : η.le (η.setT id ((s.H.get id).1 + 1) (some v) sub) := Own.le_setT (by omega)
  have hI : ∀ g, imm κ η w g → imm κ (η.setT id ((s.H.get id).1 + 1) (some v) sub) w' g ∧ w'.heap[g]? = w.heap[g]? := fun g hgi => by
    refine ⟨⟨Nat.lt_of_lt_of_le hgi.1 hz, side_keep (hw g hgi.1) hgi.2.1, fun i x hx he => ?_⟩, hw g hgi.1⟩
    by_cases e : i.id = id
    · have := hhead i x g e hx he
      have := hgi.1
      omega
    · rw [Own.setT_ne e] at hx
      exact hgi.2.2 i x hx he
  refine ⟨h.step hI hle (fun i => ?_) (fun i j x x' g hx hx' he he' => ?_) (fun i => ?_) hk, hle, hI⟩
  · unfold Heap.new
    rw [Heap.get_put]
    by_cases e : i = id
    · subst e
      simp only [if_true]
      exact hb hle hI
    · rw [if_neg e]
      exact (h.heap i).keep (if_neg e) (fun k hk => Own.setT_ne (by rw [hk]; exact e)) (fun k x g _ hx hgx => hw g (h.head hx hgx).1) hI hle
  · by_cases e : i.id = id <;> by_cases e' : j.id = id
    · exact hin i j x x' g e e' hx hx' he he'
    · rw [Own.setT_ne e'] at hx'
      have := hhead i x g e hx he
      have := (h.head hx' he').1
      omega
    · rw [Own.setT_ne e] at hx
      have := hhead j x' g e' hx' he'
      have := (h.head hx he).1
      omega
    · rw [Own.setT_ne e] at hx; rw [Own.setT_ne e'] at hx'
      exact h.apart i j x x' g hx hx' he he'
  · unfold Heap.new
    rw [Heap.get_put]
    by_cases e : i = id
    · subst e; simp only [if_true]; exact hsub
    · rw [if_neg e]
      exact (h.sub i).keep fun k hk => Own.setT_ne (by rw [hk]; exact e)

/-- A new object under a key (in place of what the key held), in new memory. -/
theorem Sim.create (h : Sim κ η s a w) {w' : World} (hw : ∀ k, k < w.heap.size → w'.heap[k]? = w.heap[k]?) (hz : w.heap.size ≤ w'.heap.size) (hk : Kept κ w') (id : Nat) (b : Body) (v : Value)
    (hhead : ∀ g, headOf v = some g → w.heap.size ≤ g)
    (hb : ∀ η', η.le η' → (∀ g, imm κ η w g → imm κ η' w' g ∧ w'.heap[g]? = w.heap[g]?) → η'.cur id = (s.H.get id).1 + 1 → η'.val id = some v → ObjRep κ w' η' id ((s.H.get id).1 + 1, b)) :
    Sim κ (η.set id ((s.H.get id).1 + 1) (some v)) ⟨s.T, s.H.new id b⟩ a w' ∧ η.le (η.set id ((s.H.get id).1 + 1) (some v)) ∧
      (∀ g, imm κ η w g → imm κ (η.set id ((s.H.get id).1 + 1) (some v)) w' g ∧ w'.heap[g]? = w.heap[g]?) := by
  refine h.createT hw hz hk id b v (fun _ => none) (fun k x g hk hx hg => ?_) (fun k k' x x' g hk hk' hx hx' _ _ => ?_) (SubRep.none fun p => Own.set_n) fun hle hI => hb _ hle hI Own.set_cur Own.set_o
  · rcases Own.set_val hx with ⟨_, e⟩ | ⟨e, _⟩
    · obtain rfl := Option.some.inj e
      exact hhead g hg
    · exact absurd hk e
  · rcases Own.set_val hx with ⟨e, _⟩ | ⟨e, _⟩
    · rcases Own.set_val hx' with ⟨e', _⟩ | ⟨e', _⟩
      · rw [e, e']
      · exact absurd hk' e'
    · exact absurd hk e

/-- An object is written in place: its block, or that of a row in it, alone turns. -/
theorem Sim.writeK (h : Sim κ η s a w) {w' : World} (id ver : Nat) (b : Body) (k0 : Key) (h0 : k0.id = id) (v : Value) (g : Nat) (hc : η.cur id = ver) (hv : η.val k0 = some v) (hg : headOf v = some g)
    (hw : ∀ k, k ≠ g → w'.heap[k]? = w.heap[k]?) (hz : w.heap.size ≤ w'.heap.size) (hk : Kept κ w') (hs : SubRep η id b)
    (hb : (∀ g, imm κ η w g → imm κ η w' g ∧ w'.heap[g]? = w.heap[g]?) → ObjRep κ w' η id (ver, b)) : Sim κ η ⟨s.T, s.H.put id (ver, b)⟩ a w' := by
  subst hc
  have hI : ∀ k, imm κ η w k → imm κ η w' k ∧ w'.heap[k]? = w.heap[k]? := fun k hk =>
    have hwk := hw k fun e => hk.2.2 k0 v hv (by rw [e]; exact hg)
    ⟨⟨Nat.lt_of_lt_of_le hk.1 hz, side_keep hwk hk.2.1, hk.2.2⟩, hwk⟩
  refine h.step hI η.le_refl (fun i => ?_) h.apart (fun i => ?_) hk
  · rw [Heap.get_put]
    by_cases e : i = id
    · subst e
      simp only [if_true]
      exact hb hI
    · rw [if_neg e]
      exact (h.heap i).keep rfl (fun _ _ => rfl) (fun k x j hki hx hkx => hw j fun e' => e (by rw [← hki, h.apart k k0 x v g hx hv (by rw [← e']; exact hkx) hg, h0])) hI η.le_refl
  · rw [Heap.get_put]
    by_cases e : i = id
    · subst e; simp only [if_true]; exact hs
    · rw [if_neg e]; exact h.sub i

/-- What has no rows in it has none under any body. -/
theorem SubRep.flat {η : Own} {id : Nat} {b b' : Body} (h : SubRep η id b) (hb : b.nest = Option.none) : SubRep η id b' := fun p v hp => by
  obtain ⟨es, _, _, _, e1, _⟩ := h p v hp
  rw [hb] at e1; cases e1

/-- An object is written in place: its block alone turns. -/
theorem Sim.write (h : Sim κ η s a w) {w' : World} (id ver : Nat) (b : Body) (v : Value) (g : Nat) (hc : η.cur id = ver) (hv : η.val id = some v) (hg : headOf v = some g)
    (hw : ∀ k, k ≠ g → w'.heap[k]? = w.heap[k]?) (hz : w.heap.size ≤ w'.heap.size) (hk : Kept κ w') (hnt : (s.H.get id).2.nest = none)
    (hb : (∀ g, imm κ η w g → imm κ η w' g ∧ w'.heap[g]? = w.heap[g]?) → ObjRep κ w' η id (ver, b)) : Sim κ η ⟨s.T, s.H.put id (ver, b)⟩ a w' :=
  h.writeK id ver b id rfl v g hc hv hg hw hz hk ((h.sub id).flat hnt) hb

/-- An own row has grown, where it lay or to a new place. -/
theorem Sim.grow (h : Sim κ η s a w) {w' : World} (id ver : Nat) (b : Body) (v v' : Value) (hc : η.cur id = ver) (hv : η.val id = some v)
    (hg : w.grownBy w' (headOf v)) (hB : ∀ g, headOf v = some g → κ.B ≤ g ∨ κ.M g)
    (hhead : ∀ g, headOf v' = some g → headOf v = some g ∨ w.heap.size ≤ g)
    (hb : ∀ η', η.le η' → (∀ g, imm κ η w g → imm κ η' w' g ∧ w'.heap[g]? = w.heap[g]?) → η'.cur id = ver + 1 → η'.val id = some v' → ObjRep κ w' η' id (ver + 1, b)) :
    Sim κ (η.set id (ver + 1) (some v')) ⟨s.T, s.H.put id (ver + 1, b)⟩ a w' ∧ (∀ g, imm κ η w g → imm κ (η.set id (ver + 1) (some v')) w' g ∧ w'.heap[g]? = w.heap[g]?) := by
  subst hc
  have hle : η.le (η.set id (η.cur id + 1) (some v')) := Own.le_set (by omega)
  have hlt : ∀ (i : Key) x g, η.val i = some x → headOf x = some g → g < w.heap.size := fun i x g hx hgx => (h.head hx hgx).1
  have hI : ∀ g, imm κ η w g → imm κ (η.set id (η.cur id + 1) (some v')) w' g ∧ w'.heap[g]? = w.heap[g]? := fun g hgi => by
    have hwg := hg.block g hgi.1 fun e => hgi.2.2 id v hv e.symm
    refine ⟨⟨Nat.lt_of_lt_of_le hgi.1 hg.size, side_keep hwg hgi.2.1, fun i x hx he => ?_⟩, hwg⟩
    rcases Own.set_val hx with ⟨_, hx⟩ | ⟨_, hx⟩
    · obtain rfl := Option.some.inj hx
      rcases hhead g he with e | e
      · exact hgi.2.2 id v hv e
      · have := hgi.1; omega
    · exact hgi.2.2 i x hx he
  refine ⟨h.step hI hle (fun i => ?_) (fun i j x x' g hx hx' he he' => ?_) (fun i => ?_) (h.kept.step hg.os hg.tape hg.output hg.size fun k hk hm => hg.block k (Nat.lt_of_lt_of_le hk h.kept.size) fun e => ?_), hI⟩
  · rw [Heap.get_put]
    by_cases e : i = id
    · subst e
      simp only [if_true]
      exact hb _ hle hI Own.set_cur Own.set_o
    · rw [if_neg e]
      exact (h.heap i).keep (Own.set_cur_ne e) (fun k hk => Own.set_ne (by rw [hk]; exact e))
        (fun k x g hki hx hgx => hg.block g (hlt k x g hx hgx) fun e' => e (by rw [← hki, h.apart k id x v g hx hv hgx e'.symm]; rfl)) hI hle
  · rcases Own.set_val hx with ⟨e, hx⟩ | ⟨e, hx⟩ <;> rcases Own.set_val hx' with ⟨e', hx'⟩ | ⟨e', hx'⟩
    · rw [e, e']
    · obtain rfl := Option.some.inj hx
      rcases hhead g he with e1 | e1
      · exact absurd (by rw [h.apart j id x' v g hx' hv he' e1]; rfl) e'
      · have := hlt j x' g hx' he'; omega
    · obtain rfl := Option.some.inj hx'
      rcases hhead g he' with e1 | e1
      · exact absurd (by rw [h.apart i id x v g hx hv he e1]; rfl) e
      · have := hlt i x g hx he; omega
    · exact h.apart i j x x' g hx hx' he he'
  · rw [Heap.get_put]
    by_cases e : i = id
    · subst e; exact SubRep.none fun p => Own.set_n
    · rw [if_neg e]
      exact (h.sub i).keep fun k hk => Own.set_ne (by rw [hk]; exact e)
  · rcases hB k e.symm with h1 | h1
    · omega
    · exact hm h1

/-- An object moves from key to key (the keys may be one). -/
theorem Sim.rename (h : Sim κ η s a w) (id key ver el sz : Nat) (es : List (List PV)) (hb : s.H.get id = (ver, .row el sz es)) {v : Value} (hv : η.val id = some v) :
    ∃ η', Sim κ η' ⟨s.T, (s.H.put id (ver, .dead)).new key (.row el sz es)⟩ a w ∧ η.le η' ∧ (∀ g, imm κ η w g → imm κ η' w g) ∧ η'.val key = some v ∧ η'.cur key = ((s.H.put id (ver, .dead)).get key).1 + 1 := by
  have hcur : η.cur id = ver := by have := (h.heap id).ver; rw [hb] at this; exact this
  have hck : η.cur key = ((s.H.put id (ver, .dead)).get key).1 := by
    rw [Heap.get_put]
    by_cases e : key = id
    · rw [if_pos e, e]; exact hcur
    · rw [if_neg e]; exact (h.heap key).ver
  let η' := (η.set id ver none).set key (((s.H.put id (ver, .dead)).get key).1 + 1) (some v)
  have hle : η.le η' := by
    refine Own.le_trans (b := η.set id ver none) (by rw [← hcur]; exact η.le_kill id) (Own.le_set ?_)
    by_cases e : key = id
    · rw [← hck, e, Own.set_cur, hcur]; omega
    · rw [Own.set_cur_ne e, hck]; omega
  have hval : ∀ (i : Key) x, η'.val i = some x → (i = key ∧ x = v) ∨ (i.id ≠ key ∧ i.id ≠ id ∧ η.val i = some x) := by
    intro i x hx
    rcases Own.set_val hx with ⟨e, hx⟩ | ⟨e, hx⟩
    · exact .inl ⟨e, (Option.some.inj hx).symm⟩
    · rcases Own.set_val hx with ⟨_, hx⟩ | ⟨e', hx⟩
      · cases hx
      · exact .inr ⟨e, e', hx⟩
  have hI : ∀ g, imm κ η w g → imm κ η' w g ∧ w.heap[g]? = w.heap[g]? := fun g hg => by
    refine ⟨⟨hg.1, hg.2.1, fun i x hx => ?_⟩, rfl⟩
    rcases hval i x hx with ⟨_, rfl⟩ | ⟨_, _, hx⟩
    · exact hg.2.2 id x hv
    · exact hg.2.2 i x hx
  refine ⟨η', h.step hI hle (fun i => ?_) (fun i j x x' g hx hx' he he' => ?_) (fun i => ?_) h.kept, hle, fun g hg => (hI g hg).1, Own.set_o, Own.set_cur⟩
  · unfold Heap.new
    rw [Heap.get_put]
    by_cases e : i = key
    · rw [if_pos e, e]
      have ho := h.heap id
      rw [hb] at ho
      obtain ⟨_, v', vals, h2, h3, h4, h5⟩ := ho
      rw [h2] at hv
      obtain rfl := Option.some.inj hv
      exact ⟨Own.set_cur, v', vals, Own.set_o, h3.up, h4.mono hI, h5⟩
    · rw [if_neg e, Heap.get_put]
      by_cases e' : i = id
      · rw [if_pos e', e']
        rw [e'] at e
        exact ⟨by rw [Own.set_cur_ne e, Own.set_cur], by rw [Own.set_ne (k := .o id) e, Own.set_o]⟩
      · rw [if_neg e']
        exact (h.heap i).keep (by rw [Own.set_cur_ne e, Own.set_cur_ne e']) (fun k hk => by rw [Own.set_ne (by rw [hk]; exact e), Own.set_ne (by rw [hk]; exact e')]) (fun _ _ _ _ _ _ => rfl) hI hle
  · rcases hval i x hx with ⟨e1, e2⟩ | ⟨n1, n2, hy⟩ <;> rcases hval j x' hx' with ⟨f1, f2⟩ | ⟨m1, m2, hy'⟩
    · rw [e1, f1]
    · exact absurd (by rw [h.apart j id x' v g hy' hv he' (e2 ▸ he)]; rfl) m2
    · exact absurd (by rw [h.apart i id x v g hy hv he (f2 ▸ he')]; rfl) n2
    · exact h.apart i j x x' g hy hy' he he'
  · unfold Heap.new
    rw [Heap.get_put]
    by_cases e : i = key
    · subst e; exact SubRep.none fun p => Own.set_n
    · rw [if_neg e, Heap.get_put]
      by_cases e' : i = id
      · subst e'
        exact SubRep.none fun p => by rw [Own.set_ne (k := .n i p) e, Own.set_n]
      · rw [if_neg e']
        exact (h.sub i).keep fun k hk => by rw [Own.set_ne (by rw [hk]; exact e), Own.set_ne (by rw [hk]; exact e')]

end
end Go.Proofs.Ytngefbdedbbplaa.Ai
