/- How an abstract state follows its world: new objects, objects given up, objects written, calls. -/
import Derived.Test.YtnanackogloioaaAiKit
namespace Go.Proofs.Ytnanackogloioaa.Ai
open Go Go.RowKit

section
variable {κ : Ctx} {η : Own} {s : St} {a : Act} {w : World}

/-- The general step. -/
theorem Sim.step (h : Sim κ η s a w) {w' : World} {η' : Own} {H' : Heap} (hI : ∀ g, imm κ η w g → imm κ η' w' g ∧ w'.heap[g]? = w.heap[g]?) (hη : η.le η')
    (hH : ∀ id, ObjRep κ w' η' id (H'.get id)) (hap : ∀ id id' x x' g, η'.val id = some x → η'.val id' = some x' → headOf x = some g → headOf x' = some g → id = id')
    (hk : Kept κ w') : Sim κ η' ⟨s.T, H'⟩ a w' :=
  ⟨h.tmps.mono fun _ _ x => x.mono hI hη, h.defers, hH, hap, hk⟩

/-- A world in which nothing that counts has turned. -/
theorem Sim.world (h : Sim κ η s a w) {w' : World} (hb : ∀ k, k < w.heap.size → w'.heap[k]? = w.heap[k]?) (hz : w.heap.size ≤ w'.heap.size) (hk : Kept κ w') : Sim κ η s a w' := by
  have hI : ∀ g, imm κ η w g → imm κ η w' g ∧ w'.heap[g]? = w.heap[g]? := fun g hg => ⟨⟨Nat.lt_of_lt_of_le hg.1 hz, hg.2.1, hg.2.2⟩, hb g hg.1⟩
  exact h.step hI η.le_refl (fun id => (h.heap id).keep rfl rfl (fun v g hv hg => hb g (own_head (h.heap id) hv hg).1) hI η.le_refl) h.apart hk

theorem Sim.drew (h : Sim κ η s a w) : Sim κ η s a w.drew :=
  h.world (fun _ _ => rfl) (Nat.le_refl _) (h.kept.step rfl rfl rfl (Nat.le_refl _) fun _ _ _ => rfl)

/-- Behind a call that leaves alone what was there. -/
theorem Sim.below (h : Sim κ η s a w) {w' : World} (hb : Below w.heap.size w w') : Sim κ η s a w' :=
  h.world (fun k hk => hb.block k hk) hb.size (h.kept.step hb.os hb.tape hb.output hb.size fun k hk _ => hb.block k (Nat.lt_of_lt_of_le hk h.kept.size))

theorem Own.le_set {η : Own} {id ver : Nat} {v : Option Value} (h : η.cur id < ver) : η.le (η.set id ver v) := by
  intro i
  simp only [Own.set]
  by_cases e : i = id
  · subst e; simp only [if_true]; exact ⟨by omega, fun he => by omega⟩
  · simp only [if_neg e]; exact ⟨Nat.le_refl _, fun _ _ h => h⟩

theorem Own.le_kill (η : Own) (id : Nat) : η.le (η.set id (η.cur id) none) := by
  intro i
  simp only [Own.set]
  by_cases e : i = id
  · subst e; simp only [if_true]; exact ⟨Nat.le_refl _, fun _ x h => by cases h⟩
  · simp only [if_neg e]; exact ⟨Nat.le_refl _, fun _ _ h => h⟩

theorem Own.le_trans {a b c : Own} (h : a.le b) (k : b.le c) : a.le c := fun id =>
  ⟨Nat.le_trans (h id).1 (k id).1, fun e x hx => by
    have h1 := (h id).1
    have h2 := (k id).1
    exact (h id).2 (by omega) x ((k id).2 (by omega) x hx)⟩

theorem imm_kill {κ : Ctx} {η : Own} {id : Nat} {w : World} {g : Nat} (h : imm κ η w g) : imm κ (η.set id (η.cur id) none) w g := by
  refine ⟨h.1, h.2.1, fun i x hx => ?_⟩
  simp only [Own.set] at hx
  by_cases e : i = id
  · subst e; simp at hx
  · rw [if_neg e] at hx; exact h.2.2 i x hx

/-- An object is given up. -/
theorem Sim.kill (h : Sim κ η s a w) (id : Nat) (b : Body) (hb : s.H.get id = (η.cur id, b)) :
    Sim κ (η.set id (η.cur id) none) ⟨s.T, s.H.put id (η.cur id, .dead)⟩ a w := by
  have hI : ∀ g, imm κ η w g → imm κ (η.set id (η.cur id) none) w g ∧ w.heap[g]? = w.heap[g]? := fun g hg => ⟨imm_kill hg, rfl⟩
  refine h.step hI (η.le_kill id) (fun i => ?_) (fun i j x x' g hx hx' => ?_) h.kept
  · rw [Heap.get_put]
    by_cases e : i = id
    · subst e; simp only [if_true]; exact ⟨by simp [Own.set], by simp [Own.set]⟩
    · rw [if_neg e]
      exact (h.heap i).keep (by simp [Own.set, e]) (by simp [Own.set, e]) (fun _ _ _ _ => rfl) hI (η.le_kill id)
  · simp only [Own.set] at hx hx'
    by_cases e : i = id
    · subst e; simp at hx
    · by_cases e' : j = id
      · subst e'; simp at hx'
      · rw [if_neg e] at hx; rw [if_neg e'] at hx'
        exact h.apart i j x x' g hx hx'

/-- The contents of an own row that is given up: a slice that is only read. -/
theorem row_isl {κ : Ctx} [NoZ κ] {w : World} {η : Own} {id ver e sz : Nat} {es : List (List PV)} (h : ObjRep κ w η id (ver, .row e sz es))
    (hap : ∀ id id' x x' g, η.val id = some x → η.val id' = some x' → headOf x = some g → headOf x' = some g → id = id') :
    ∃ v, η.val id = some v ∧ RepI w (imm κ (η.set id (η.cur id) none) w) (.isl sz es) v := by
  obtain ⟨h1, v, vals, h2, h3, h4, h5⟩ := h
  refine ⟨v, h2, ?_⟩
  obtain ⟨hl, hr⟩ := h3
  rcases hr with ⟨rfl, hn⟩ | ⟨g, cap, cur, rfl, hB, hh, hc, hm, hs, ht⟩
  · obtain rfl := List.eq_nil_of_length_eq_zero hn
    exact .isl0 sz none 0 (Nat.zero_le _)
  · refine .isl sz es g 0 cap vals h5 (h4.weak fun g hg => imm_kill hg) ⟨?_, ⟨.inr hB, NoZ.out g⟩, fun i x hx => ?_⟩ (fun j v hj => ?_) hc hm
    · rcases Nat.lt_or_ge g w.heap.size with hlt | hge
      · exact hlt
      · rw [Array.getElem?_eq_none hge] at hh; cases hh
    · intro he
      simp only [Own.set] at hx
      by_cases e : i = id
      · subst e; simp at hx
      · rw [if_neg e] at hx
        exact e (hap i id x _ g hx h2 he rfl)
    · rw [Nat.zero_add, cell_of_row w g j cur _ _ hh]
      rw [← ht] at hj
      rw [← Array.getElem?_toList]
      rw [List.getElem?_take] at hj
      split at hj
      · exact hj
      · cases hj

theorem rep_thaw {w : World} {I : Nat → Prop} {η η' : Own} {id ver sz : Nat} {es : List (List PV)} {v : Value} (hc : η.cur id = ver) (hv : η.val id = some v) (hr : RepI w I (.isl sz es) v)
    {p : PV} {c : Value} (h : Rep w I η p c) (h' : Rep w I η' p c) : Rep w I η' (thaw id ver sz es p) c := by
  unfold thaw
  split
  · rename_i i u
    split
    · split
      · rename_i e1 e2
        subst e1 e2
        cases h with
        | one h => cases h with
          | one h => cases h with
            | imm h => cases h
            | osl _ _ _ h1 h2 => rw [h2 hc.symm v hv]; exact .of hr
      · exact h'
    · exact h'
  · exact h'

/-- An own slice is frozen: whoever held it holds a slice that is only read. -/
theorem Sim.freeze [NoZ κ] (h : Sim κ η s a w) {id ver e sz : Nat} {es : List (List PV)} (hb : s.H.get id = (ver, .row e sz es)) :
    ∃ η', Sim κ η' ⟨s.T.map (thaw id ver sz es), s.H.put id (ver, .dead)⟩ a w ∧ η.le η' ∧ (∀ g, imm κ η w g → imm κ η' w g) ∧
      ∃ v, η.val id = some v ∧ RepI w (imm κ η' w) (.isl sz es) v := by
  have ho := h.heap id
  rw [hb] at ho
  have hc : η.cur id = ver := ho.1
  subst hc
  obtain ⟨v, hv, hr⟩ := row_isl ho h.apart
  have hk := h.kill id _ hb
  refine ⟨_, ⟨?_, hk.defers, hk.heap, hk.apart, hk.kept⟩, η.le_kill id, fun g hg => imm_kill hg, v, hv, hr⟩
  have hm : All2 (fun p c => Rep w (imm κ (η.set id (η.cur id) none) w) η p c ∧ Rep w (imm κ (η.set id (η.cur id) none) w) (η.set id (η.cur id) none) p c) s.T a.tmps.toList :=
    h.tmps.mono fun p c x => ⟨x.mono (fun g hg => ⟨imm_kill hg, rfl⟩) η.le_refl, x.mono (fun g hg => ⟨imm_kill hg, rfl⟩) (η.le_kill id)⟩
  exact All2.mapl (fun p c x => rep_thaw rfl hv hr x.1 x.2) hm

/-- A new object under a key (in place of what the key held), in new memory. -/
theorem Sim.create (h : Sim κ η s a w) {w' : World} (hw : ∀ k, k < w.heap.size → w'.heap[k]? = w.heap[k]?) (hz : w.heap.size ≤ w'.heap.size) (hk : Kept κ w') (id : Nat) (b : Body) (v : Value)
    (hhead : ∀ g, headOf v = some g → w.heap.size ≤ g)
    (hb : ∀ η', η.le η' → (∀ g, imm κ η w g → imm κ η' w' g ∧ w'.heap[g]? = w.heap[g]?) → η'.cur id = (s.H.get id).1 + 1 → η'.val id = some v → ObjRep κ w' η' id ((s.H.get id).1 + 1, b)) :
    Sim κ (η.set id ((s.H.get id).1 + 1) (some v)) ⟨s.T, s.H.new id b⟩ a w' ∧ η.le (η.set id ((s.H.get id).1 + 1) (some v)) ∧
      (∀ g, imm κ η w g → imm κ (η.set id ((s.H.get id).1 + 1) (some v)) w' g ∧ w'.heap[g]? = w.heap[g]?) := by
  have hcur : η.cur id = (s.H.get id).1 := (h.heap id).ver
  have hle : η.le (η.set id ((s.H.get id).1 + 1) (some v)) := Own.le_set (by omega)
  have hlt : ∀ i x g, η.val i = some x → headOf x = some g → g < w.heap.size := fun i x g hx hgx => (own_head (h.heap i) hx hgx).1
  have hI : ∀ g, imm κ η w g → imm κ (η.set id ((s.H.get id).1 + 1) (some v)) w' g ∧ w'.heap[g]? = w.heap[g]? := fun g hgi => by
    refine ⟨⟨Nat.lt_of_lt_of_le hgi.1 hz, hgi.2.1, fun i x hx he => ?_⟩, hw g hgi.1⟩
    simp only [Own.set] at hx
    by_cases e : i = id
    · subst e
      simp only [if_true] at hx
      obtain rfl := Option.some.inj hx
      have := hhead g he
      have := hgi.1
      omega
    · rw [if_neg e] at hx
      exact hgi.2.2 i x hx he
  refine ⟨h.step hI hle (fun i => ?_) (fun i j x x' g hx hx' he he' => ?_) hk, hle, hI⟩
  · unfold Heap.new
    rw [Heap.get_put]
    by_cases e : i = id
    · subst e
      simp only [if_true]
      exact hb _ hle hI (by simp [Own.set]) (by simp [Own.set])
    · rw [if_neg e]
      exact (h.heap i).keep (by simp [Own.set, e]) (by simp [Own.set, e]) (fun x g hx hgx => hw g (hlt i x g hx hgx)) hI hle
  · simp only [Own.set] at hx hx'
    by_cases e : i = id <;> by_cases e' : j = id
    · rw [e, e']
    · rw [if_pos e] at hx; rw [if_neg e'] at hx'
      obtain rfl := Option.some.inj hx
      have := hhead g he
      have := hlt j x' g hx' he'
      omega
    · rw [if_neg e] at hx; rw [if_pos e'] at hx'
      obtain rfl := Option.some.inj hx'
      have := hhead g he'
      have := hlt i x g hx he
      omega
    · rw [if_neg e] at hx; rw [if_neg e'] at hx'
      exact h.apart i j x x' g hx hx' he he'

/-- An object is written in place: its block alone turns. -/
theorem Sim.write (h : Sim κ η s a w) {w' : World} (id ver : Nat) (b : Body) (v : Value) (g : Nat) (hc : η.cur id = ver) (hv : η.val id = some v) (hg : headOf v = some g)
    (hw : ∀ k, k ≠ g → w'.heap[k]? = w.heap[k]?) (hz : w.heap.size ≤ w'.heap.size) (hk : Kept κ w')
    (hb : (∀ g, imm κ η w g → imm κ η w' g ∧ w'.heap[g]? = w.heap[g]?) → ObjRep κ w' η id (ver, b)) : Sim κ η ⟨s.T, s.H.put id (ver, b)⟩ a w' := by
  subst hc
  have hI : ∀ k, imm κ η w k → imm κ η w' k ∧ w'.heap[k]? = w.heap[k]? := fun k hk =>
    ⟨⟨Nat.lt_of_lt_of_le hk.1 hz, hk.2⟩, hw k fun e => hk.2.2 id v hv (by rw [e]; exact hg)⟩
  refine h.step hI η.le_refl (fun i => ?_) h.apart hk
  rw [Heap.get_put]
  by_cases e : i = id
  · subst e
    simp only [if_true]
    exact hb hI
  · rw [if_neg e]
    exact (h.heap i).keep rfl rfl (fun x k hx hkx => hw k fun e' => e (h.apart i id x v g hx hv (by rw [← e']; exact hkx) hg)) hI η.le_refl

/-- An own row has grown, where it lay or to a new place. -/
theorem Sim.grow (h : Sim κ η s a w) {w' : World} (id ver : Nat) (b : Body) (v v' : Value) (hc : η.cur id = ver) (hv : η.val id = some v)
    (hg : w.grownBy w' (headOf v)) (hB : ∀ g, headOf v = some g → κ.B ≤ g)
    (hhead : ∀ g, headOf v' = some g → headOf v = some g ∨ w.heap.size ≤ g)
    (hb : ∀ η', η.le η' → (∀ g, imm κ η w g → imm κ η' w' g ∧ w'.heap[g]? = w.heap[g]?) → η'.cur id = ver + 1 → η'.val id = some v' → ObjRep κ w' η' id (ver + 1, b)) :
    Sim κ (η.set id (ver + 1) (some v')) ⟨s.T, s.H.put id (ver + 1, b)⟩ a w' ∧ (∀ g, imm κ η w g → imm κ (η.set id (ver + 1) (some v')) w' g ∧ w'.heap[g]? = w.heap[g]?) := by
  subst hc
  have hle : η.le (η.set id (η.cur id + 1) (some v')) := Own.le_set (by omega)
  have hlt : ∀ i x g, η.val i = some x → headOf x = some g → g < w.heap.size := fun i x g hx hgx => (own_head (h.heap i) hx hgx).1
  have hI : ∀ g, imm κ η w g → imm κ (η.set id (η.cur id + 1) (some v')) w' g ∧ w'.heap[g]? = w.heap[g]? := fun g hgi => by
    refine ⟨⟨Nat.lt_of_lt_of_le hgi.1 hg.size, hgi.2.1, fun i x hx he => ?_⟩, hg.block g hgi.1 fun e => hgi.2.2 id v hv e.symm⟩
    simp only [Own.set] at hx
    by_cases e : i = id
    · subst e
      simp only [if_true] at hx
      obtain rfl := Option.some.inj hx
      rcases hhead g he with e | e
      · exact hgi.2.2 i v hv e
      · have := hgi.1; omega
    · rw [if_neg e] at hx
      exact hgi.2.2 i x hx he
  refine ⟨h.step hI hle (fun i => ?_) (fun i j x x' g hx hx' he he' => ?_) (h.kept.step hg.os hg.tape hg.output hg.size fun k hk hm => hg.block k (Nat.lt_of_lt_of_le hk h.kept.size) fun e => ?_), hI⟩
  · rw [Heap.get_put]
    by_cases e : i = id
    · subst e
      simp only [if_true]
      exact hb _ hle hI (by simp [Own.set]) (by simp [Own.set])
    · rw [if_neg e]
      exact (h.heap i).keep (by simp [Own.set, e]) (by simp [Own.set, e])
        (fun x g hx hgx => hg.block g (hlt i x g hx hgx) fun e' => e (h.apart i id x v g hx hv hgx e'.symm)) hI hle
  · simp only [Own.set] at hx hx'
    by_cases e : i = id <;> by_cases e' : j = id
    · rw [e, e']
    · rw [if_pos e] at hx; rw [if_neg e'] at hx'
      obtain rfl := Option.some.inj hx
      rcases hhead g he with e1 | e1
      · exact absurd (h.apart j id x' v g hx' hv he' e1) e'
      · have := hlt j x' g hx' he'; omega
    · rw [if_neg e] at hx; rw [if_pos e'] at hx'
      obtain rfl := Option.some.inj hx'
      rcases hhead g he' with e1 | e1
      · exact absurd (h.apart i id x v g hx hv he e1) e
      · have := hlt i x g hx he; omega
    · rw [if_neg e] at hx; rw [if_neg e'] at hx'
      exact h.apart i j x x' g hx hx' he he'
  · have := hB k e.symm
    omega

/-- An object moves from key to key (the keys may be one). -/
theorem Sim.rename (h : Sim κ η s a w) (id key ver el sz : Nat) (es : List (List PV)) (hb : s.H.get id = (ver, .row el sz es)) {v : Value} (hv : η.val id = some v) :
    ∃ η', Sim κ η' ⟨s.T, (s.H.put id (ver, .dead)).new key (.row el sz es)⟩ a w ∧ η.le η' ∧ (∀ g, imm κ η w g → imm κ η' w g) ∧ η'.val key = some v ∧ η'.cur key = ((s.H.put id (ver, .dead)).get key).1 + 1 := by
  have hcur : η.cur id = ver := by have := (h.heap id).ver; rw [hb] at this; exact this
  have hck : η.cur key = ((s.H.put id (ver, .dead)).get key).1 := by
    rw [Heap.get_put]
    by_cases e : key = id
    · rw [if_pos e, e]; exact hcur
    · rw [if_neg e]; exact (h.heap key).ver
  let η' := (η.set id ver none).set key (((s.H.put id (ver, .dead)).get key).1 + 1) (some v)
  have hle : η.le η' := by
    refine Own.le_trans (b := η.set id ver none) (by rw [← hcur]; exact η.le_kill id) (Own.le_set ?_)
    simp only [Own.set]
    split
    · rename_i e
      rw [← hck, e, hcur]
      omega
    · rw [hck]; omega
  have hval : ∀ i x, η'.val i = some x → (i = key ∧ x = v) ∨ (i ≠ key ∧ i ≠ id ∧ η.val i = some x) := by
    intro i x hx
    simp only [η', Own.set] at hx
    by_cases e : i = key
    · rw [if_pos e] at hx; exact .inl ⟨e, (Option.some.inj hx).symm⟩
    · rw [if_neg e] at hx
      by_cases e' : i = id
      · rw [if_pos e'] at hx; cases hx
      · rw [if_neg e'] at hx; exact .inr ⟨e, e', hx⟩
  have hI : ∀ g, imm κ η w g → imm κ η' w g ∧ w.heap[g]? = w.heap[g]? := fun g hg => by
    refine ⟨⟨hg.1, hg.2.1, fun i x hx => ?_⟩, rfl⟩
    rcases hval i x hx with ⟨_, rfl⟩ | ⟨_, _, hx⟩
    · exact hg.2.2 id x hv
    · exact hg.2.2 i x hx
  refine ⟨η', h.step hI hle (fun i => ?_) (fun i j x x' g hx hx' he he' => ?_) h.kept, hle, fun g hg => (hI g hg).1, by simp [η', Own.set], by simp [η', Own.set]⟩
  · unfold Heap.new
    rw [Heap.get_put]
    by_cases e : i = key
    · rw [if_pos e, e]
      have ho := h.heap id
      rw [hb] at ho
      obtain ⟨_, v', vals, h2, h3, h4, h5⟩ := ho
      rw [h2] at hv
      obtain rfl := Option.some.inj hv
      exact ⟨by simp [η', Own.set], v', vals, by simp [η', Own.set], h3, h4.mono hI, h5⟩
    · rw [if_neg e, Heap.get_put]
      by_cases e' : i = id
      · rw [if_pos e', e']
        rw [e'] at e
        exact ⟨by simp [η', Own.set, e], by simp [η', Own.set, e]⟩
      · rw [if_neg e']
        exact (h.heap i).keep (by simp [η', Own.set, e, e']) (by simp [η', Own.set, e, e']) (fun _ _ _ _ => rfl) hI hle
  · rcases hval i x hx with ⟨e1, e2⟩ | ⟨n1, n2, hy⟩ <;> rcases hval j x' hx' with ⟨f1, f2⟩ | ⟨m1, m2, hy'⟩
    · rw [e1, f1]
    · exact absurd (h.apart j id x' v g hy' hv he' (e2 ▸ he)) m2
    · exact absurd (h.apart i id x v g hy hv he (f2 ▸ he')) n2
    · exact h.apart i j x x' g hy hy' he he'

end
end Go.Proofs.Ytnanackogloioaa.Ai
