/- Lemmas on what abstract values and states stand for: how they are kept when the world moves on. -/
import Derived.Test.YtnanackogloioaaAiSem
import Derived.Laws.CopyRow
import Derived.Laws.MakeOwn
import Derived.Maps.AppendAt
import Derived.Deep.LoopGhost
namespace Go.Proofs.Ytnanackogloioaa.Ai
open Go Go.RowKit

section
variable {α β : Type} {R R' : α → β → Prop}
theorem All2.mono (h : ∀ a b, R a b → R' a b) : ∀ {as : List α} {bs : List β}, All2 R as bs → All2 R' as bs
  | _, _, .nil => .nil
  | _, _, .cons x y => .cons (h _ _ x) (All2.mono h y)
theorem All2.length : ∀ {as : List α} {bs : List β}, All2 R as bs → as.length = bs.length
  | _, _, .nil => rfl
  | _, _, .cons _ y => by simp [All2.length y]
theorem All2.get : ∀ {as : List α} {bs : List β}, All2 R as bs → ∀ {i : Nat} {a : α}, as[i]? = some a → ∃ b, bs[i]? = some b ∧ R a b
  | _, _, .nil, i, a, h => by simp at h
  | _, _, .cons (a := x) (b := y) p q, i, a, h => by
    cases i with
    | zero => simp at h; subst h; exact ⟨y, by simp, p⟩
    | succ i => simpa using All2.get q (i := i) (a := a) (by simpa using h)
theorem All2.set : ∀ {as : List α} {bs : List β}, All2 R as bs → ∀ (i : Nat) {a : α} {b : β}, R a b → All2 R (as.set i a) (bs.set i b)
  | _, _, .nil, _, _, _, _ => by simp; exact .nil
  | _, _, .cons p q, i, a, b, h => by
    cases i with
    | zero => exact .cons h q
    | succ i => exact .cons p (All2.set q i h)
theorem All2.app : ∀ {as as' : List α} {bs bs' : List β}, All2 R as bs → All2 R as' bs' → All2 R (as ++ as') (bs ++ bs')
  | _, _, _, _, .nil, h => h
  | _, _, _, _, .cons p q, h => .cons p (All2.app q h)
theorem All2.take : ∀ {as : List α} {bs : List β} (_ : All2 R as bs) (n : Nat), All2 R (as.take n) (bs.take n)
  | _, _, .nil, n => by simp; exact .nil
  | _, _, .cons p q, n => by
    cases n with
    | zero => exact .nil
    | succ n => exact .cons p (All2.take q n)
theorem All2.drop : ∀ {as : List α} {bs : List β} (_ : All2 R as bs) (n : Nat), All2 R (as.drop n) (bs.drop n)
  | _, _, .nil, n => by simp; exact .nil
  | _, _, .cons p q, n => by
    cases n with
    | zero => exact .cons p q
    | succ n => exact All2.drop q n
theorem All2.split : ∀ {as as' : List α} {bs : List β}, All2 R (as ++ as') bs → ∃ b1 b2, bs = b1 ++ b2 ∧ All2 R as b1 ∧ All2 R as' b2
  | [], _, bs, h => ⟨[], bs, rfl, .nil, h⟩
  | _ :: _, _, _, .cons p q => by
    obtain ⟨b1, b2, rfl, h1, h2⟩ := All2.split q
    exact ⟨_ :: b1, b2, rfl, .cons p h1, h2⟩
theorem All2.rep {a : α} {b : β} (h : R a b) : ∀ n, All2 R (List.replicate n a) (List.replicate n b)
  | 0 => .nil
  | n + 1 => .cons h (All2.rep h n)
theorem All2.map {γ : Type} {f : γ → α} {g : γ → β} : ∀ {l : List γ}, (∀ x ∈ l, R (f x) (g x)) → All2 R (l.map f) (l.map g)
  | [], _ => .nil
  | x :: l, h => .cons (h x (by simp)) (All2.map fun y hy => h y (by simp [hy]))
theorem All2.mapl {γ : Type} {f : α → γ} {S : γ → β → Prop} (h : ∀ a b, R a b → S (f a) b) : ∀ {as : List α} {bs : List β}, All2 R as bs → All2 S (as.map f) bs
  | _, _, .nil => .nil
  | _, _, .cons p q => .cons (h _ _ p) (All2.mapl h q)
end

theorem RepIs.all2 {w : World} {I : Nat → Prop} : ∀ {ps vs}, RepIs w I ps vs → All2 (RepI w I) ps vs
  | _, _, .nil => .nil
  | _, _, .cons p q => .cons p (RepIs.all2 q)
theorem RepIs.of {w : World} {I : Nat → Prop} : ∀ {ps vs}, All2 (RepI w I) ps vs → RepIs w I ps vs
  | _, _, .nil => .nil
  | _, _, .cons p q => .cons p (RepIs.of q)

mutual
theorem RepI.mono {w w' : World} {I I' : Nat → Prop} (hI : ∀ g, I g → I' g ∧ w'.heap[g]? = w.heap[g]?) : ∀ {p v}, RepI w I p v → RepI w' I' p v
  | _, _, .bool b => .bool b
  | _, _, .int k n h => .int k n h
  | _, _, .str s h => .str s h
  | _, _, .nil => .nil
  | _, _, .nilp => .nilp
  | _, _, .isl0 sz A c hm => .isl0 sz A c hm
  | _, _, .isl sz es g o c vs hl hr hg hcell hc hm => .isl sz es g o c vs hl (RepIs.mono hI hr) (hI g hg).1
      (fun j v hj => (World.cell?_of_block (a := ⟨g, o + j, none⟩) (hI g hg).2).trans (hcell j v hj)) hc hm
  | _, _, .iptr cs g o vs hr hg hcell => .iptr cs g o vs (RepIs.mono hI hr) (hI g hg).1
      (fun j v hj => (World.cell?_of_block (a := ⟨g, o + j, none⟩) (hI g hg).2).trans (hcell j v hj))
theorem RepIs.mono {w w' : World} {I I' : Nat → Prop} (hI : ∀ g, I g → I' g ∧ w'.heap[g]? = w.heap[g]?) : ∀ {p v}, RepIs w I p v → RepIs w' I' p v
  | _, _, .nil => .nil
  | _, _, .cons p q => .cons (RepI.mono hI p) (RepIs.mono hI q)
end

theorem RepI.weak {w : World} {I I' : Nat → Prop} (hI : ∀ g, I g → I' g) {p v} (h : RepI w I p v) : RepI w I' p v := h.mono fun g hg => ⟨hI g hg, rfl⟩
theorem RepIs.weak {w : World} {I I' : Nat → Prop} (hI : ∀ g, I g → I' g) {p v} (h : RepIs w I p v) : RepIs w I' p v := h.mono fun g hg => ⟨hI g hg, rfl⟩

theorem RepI.oneCell {w : World} {I : Nat → Prop} {p v} (h : RepI w I p v) : v.oneCell' = true := by cases h <;> rfl
theorem RepIs.oneCell {w : World} {I : Nat → Prop} {p v} (h : RepIs w I p v) : ∀ u ∈ v, u.oneCell' = true := by
  induction v generalizing p with
  | nil => intro u hu; cases hu
  | cons x r ih =>
    cases h with
    | cons a b =>
      intro u hu
      rcases List.mem_cons.1 hu with rfl | hu
      · exact a.oneCell
      · exact ih b u hu

/-- The own objects of a later state: what lives there in the version that it has here lives here, too. -/
def Own.le (η η' : Own) : Prop := ∀ id, η.cur id ≤ η'.cur id ∧ (η'.cur id = η.cur id → ∀ x, η'.val id = some x → η.val id = some x)

theorem Own.le_refl (η : Own) : η.le η := fun _ => ⟨Nat.le_refl _, fun _ _ h => h⟩

theorem Rep1.mono {w w' : World} {I I' : Nat → Prop} {η η' : Own} (hI : ∀ g, I g → I' g ∧ w'.heap[g]? = w.heap[g]?) (hη : η.le η') {p v} (h : Rep1 w I η p v) : Rep1 w' I' η' p v := by
  cases h with
  | undef => exact .undef _
  | skip => exact .skip
  | imm h => exact .imm (h.mono hI)
  | osl id ver c hv h =>
    refine .osl id ver v (Nat.le_trans hv (hη id).1) fun he x hx => ?_
    have e : η'.cur id = η.cur id := Nat.le_antisymm (he ▸ hv) (hη id).1
    exact h (by omega) x ((hη id).2 e x hx)
  | optr id ver sz i off c hv h =>
    refine .optr id ver sz i off v (Nat.le_trans hv (hη id).1) fun he x hx => ?_
    have e : η'.cur id = η.cur id := Nat.le_antisymm (he ▸ hv) (hη id).1
    exact h (by omega) x ((hη id).2 e x hx)

theorem RepA.mono {w w' : World} {I I' : Nat → Prop} {η η' : Own} (hI : ∀ g, I g → I' g ∧ w'.heap[g]? = w.heap[g]?) (hη : η.le η') {p v} (h : RepA w I η p v) : RepA w' I' η' p v := by
  cases h with
  | one h => exact .one (h.mono hI hη)
  | agg cs vs h => exact .agg cs vs (h.mono fun _ _ x => x.mono hI hη)

theorem Rep.mono {w w' : World} {I I' : Nat → Prop} {η η' : Own} (hI : ∀ g, I g → I' g ∧ w'.heap[g]? = w.heap[g]?) (hη : η.le η') {p v} (h : Rep w I η p v) : Rep w' I' η' p v := by
  cases h with
  | one h => exact .one (h.mono hI hη)
  | tup cs vs h => exact .tup cs vs (h.mono fun _ _ x => x.mono hI hη)

theorem Rep.of {w : World} {I : Nat → Prop} {η : Own} {p v} (h : RepI w I p v) : Rep w I η p v := .one (.one (.imm h))
theorem Rep.of1 {w : World} {I : Nat → Prop} {η : Own} {p v} (h : Rep1 w I η p v) : Rep w I η p v := .one (.one h)

/-! ### Keys -/
def Own.set (η : Own) (id ver : Nat) (v : Option Value) : Own := ⟨fun i => if i = id then ver else η.cur i, fun i => if i = id then v else η.val i⟩

theorem Heap.get_put (h : Heap) (id id' : Nat) (x : Nat × Body) : (h.put id x).get id' = if id' = id then x else h.get id' := by
  induction h with
  | nil =>
    simp only [Heap.put, Heap.get]
    by_cases e : id = id'
    · subst e; simp
    · rw [if_neg e, if_neg (Ne.symm e)]
  | cons y r ih =>
    obtain ⟨i, v, b⟩ := y
    simp only [Heap.put]
    by_cases e : i = id
    · subst e
      simp only [if_true, Heap.get]
      by_cases e' : i = id'
      · subst e'; simp
      · rw [if_neg e', if_neg (Ne.symm e'), if_neg e']
    · rw [if_neg e]
      simp only [Heap.get]
      by_cases e' : i = id'
      · subst e'; rw [if_pos rfl, if_neg e, if_pos rfl]
      · rw [if_neg e', if_neg e', ih]

theorem ObjRep.ver {κ : Ctx} {w : World} {η : Own} {id : Nat} {x : Nat × Body} (h : ObjRep κ w η id x) : η.cur id = x.1 := by
  obtain ⟨v, b⟩ := x
  cases b <;> exact h.1

/-- An object that nothing touches stays what it is. -/
theorem ObjRep.keep {κ : Ctx} {w w' : World} {η η' : Own} {id : Nat} {x : Nat × Body} (h : ObjRep κ w η id x) (hc : η'.cur id = η.cur id) (hv : η'.val id = η.val id)
    (hb : ∀ v g, η.val id = some v → headOf v = some g → w'.heap[g]? = w.heap[g]?)
    (hI : ∀ g, imm κ η w g → imm κ η' w' g ∧ w'.heap[g]? = w.heap[g]?) (hη : η.le η') : ObjRep κ w' η' id x := by
  obtain ⟨ver, b⟩ := x
  cases b with
  | dead => exact ⟨hc.trans h.1, hv.trans h.2⟩
  | box cs =>
    obtain ⟨h1, g, arr, e, h2, h3, h4, h5⟩ := h
    exact ⟨hc.trans h1, g, arr, e, hv.trans h2, (hb _ g h2 rfl).trans h3, h4.mono fun _ _ x => x.mono hI hη, h5⟩
  | row e sz es =>
    obtain ⟨h1, v, vals, h2, h3, h4, h5⟩ := h
    refine ⟨hc.trans h1, v, vals, hv.trans h2, ?_, h4.mono hI, h5⟩
    obtain ⟨hl, hr⟩ := h3
    refine ⟨hl, ?_⟩
    rcases hr with hr | ⟨g, cap, cur, rfl, hg, hh, r⟩
    · exact .inl hr
    · exact .inr ⟨g, cap, cur, rfl, hg, (hb _ g h2 rfl).trans hh, r⟩

theorem box_side {κ : Ctx} {id g : Nat} (h : if id = 1 then κ.M g else κ.B ≤ g) : κ.B ≤ g ∨ κ.M g := by
  split at h
  · exact .inr h
  · exact .inl h

theorem own_head {κ : Ctx} {w : World} {η : Own} {id : Nat} {x : Nat × Body} (h : ObjRep κ w η id x) {v : Value} {g : Nat} (hv : η.val id = some v) (hg : headOf v = some g) :
    g < w.heap.size ∧ (κ.B ≤ g ∨ κ.M g) := by
  obtain ⟨ver, b⟩ := x
  cases b with
  | dead => rw [h.2] at hv; cases hv
  | box cs =>
    obtain ⟨h1, g', arr, e, h2, h3, h4, h5⟩ := h
    rw [h2] at hv
    obtain rfl := Option.some.inj hv
    obtain rfl := Option.some.inj hg
    refine ⟨?_, box_side h5⟩
    rcases Nat.lt_or_ge g' w.heap.size with hlt | hge
    · exact hlt
    · rw [Array.getElem?_eq_none hge] at h3; cases h3
  | row e sz es =>
    obtain ⟨h1, v', vals, h2, h3, h4, h5⟩ := h
    rw [h2] at hv
    obtain rfl := Option.some.inj hv
    rcases h3.2 with ⟨rfl, _⟩ | ⟨g', cap, cur, rfl, hb, hh, _⟩
    · cases hg
    · obtain rfl := Option.some.inj hg
      refine ⟨?_, .inl hb⟩
      rcases Nat.lt_or_ge g' w.heap.size with hlt | hge
      · exact hlt
      · rw [Array.getElem?_eq_none hge] at hh; cases hh

theorem Kept.step {κ : Ctx} {w w' : World} (h : Kept κ w) (ho : w'.os = w.os) (ht : w'.tape = w.tape) (hp : w'.output = w.output) (hz : w.heap.size ≤ w'.heap.size)
    (hb : ∀ k, k < κ.B → ¬ κ.M k → w'.heap[k]? = w.heap[k]?) : Kept κ w' :=
  ⟨ho.trans h.os, ht.trans h.tape, hp.trans h.output, Nat.le_trans h.size hz, fun k hk hm => (hb k hk hm).trans (h.block k hk hm)⟩

/-! ### Steps of a state -/
section
variable {κ : Ctx} {η : Own} {s : St} {a : Act} {w : World}

theorem Act.put_toList (a : Act) (d : Nat) (c : Value) : (a.put (some d) c).tmps.toList = a.tmps.toList.set d c := by simp [Act.put]

theorem Sim.put (h : Sim κ η s a w) (d : Option Nat) {p : PV} {c : Value} (hr : Rep w (imm κ η w) η p c) : Sim κ η (s.put d p) (a.put d c) w := by
  cases d with
  | none => exact h
  | some d =>
    refine ⟨?_, h.defers, h.heap, h.apart, h.kept⟩
    rw [Act.put_toList]
    exact h.tmps.set d hr

theorem Sim.ev (h : Sim κ η s a w) (x : Operand) : Rep w (imm κ η w) η (s.ev x) (a.eval x) := by
  cases x with
  | tmp t =>
    show Rep w (imm κ η w) η (s.T.getD t .undef) (a.tmps.getD t undef)
    cases ht : s.T[t]? with
    | none => simp only [List.getD, ht, Option.getD_none]; exact .of1 (.undef _)
    | some p =>
      obtain ⟨c, hc, hr⟩ := h.tmps.get ht
      have hc' : a.tmps.getD t undef = c := by simp [Array.getD_eq_getD_getElem?, ← Array.getElem?_toList, hc]
      rw [hc']
      simp only [List.getD, ht, Option.getD_some]
      exact hr
  | const v =>
    show Rep w (imm κ η w) η (ofConst v) v
    unfold ofConst
    split
    · exact .of (.bool _)
    · split
      · exact .of (.int _ _ (by assumption))
      · exact .of1 (.undef _)
    · split
      · rename_i hs
        exact .of (.str _ (Nat.le_trans hs (by decide)))
      · exact .of1 (.undef _)
    · exact .of .nil
    · exact .of .nilp
    · exact .of1 (.undef _)
  | global g => exact .of1 (.undef _)
  | func f => exact .of1 (.undef _)

end

end Go.Proofs.Ytnanackogloioaa.Ai
