/- Lemmas on what abstract values and states stand for: how they are kept when the world moves on. -/
import Derived.Test.YtngefbdedbbplaaAiSem
import Derived.Laws.CopyRow
import Derived.Laws.MakeOwn
import Derived.Maps.AppendAt
import Derived.Deep.LoopGhost
import Derived.Lib.OthersKept
namespace Go.Proofs.Ytngefbdedbbplaa.Ai
open Go Go.RowKit
set_option linter.unusedVariables false
set_option linter.unusedSimpArgs false

section
variable {α β : Type} {R R' : α → β → Prop}
theorem All2.mono (h : ∀ a b, R a b → R' a b) : ∀ {az : List α} {bs : List β}, All2 R az bs → All2 R' az bs
  | _, _, .nil => .nil
  | _, _, .cons x y => .cons (h _ _ x) (All2.mono h y)
theorem All2.length : ∀ {az : List α} {bs : List β}, All2 R az bs → az.length = bs.length
  | _, _, .nil => rfl
  | _, _, .cons _ y => by simp [All2.length y]
theorem All2.get : ∀ {az : List α} {bs : List β}, All2 R az bs → ∀ {i : Nat} {a : α}, az[i]? = some a → ∃ b, bs[i]? = some b ∧ R a b
  | _, _, .nil, i, a, h => by simp at h
  | _, _, .cons (a := x) (b := y) p q, i, a, h => by
    cases i with
    | zero => simp at h; subst h; exact ⟨y, by simp, p⟩
    | succ i => simpa using All2.get q (i := i) (a := a) (by simpa using h)
theorem All2.set : ∀ {az : List α} {bs : List β}, All2 R az bs → ∀ (i : Nat) {a : α} {b : β}, R a b → All2 R (az.set i a) (bs.set i b)
  | _, _, .nil, _, _, _, _ => by simp; exact .nil
  | _, _, .cons p q, i, a, b, h => by
    cases i with
    | zero => exact .cons h q
    | succ i => exact .cons p (All2.set q i h)
theorem All2.app : ∀ {az az' : List α} {bs bs' : List β}, All2 R az bs → All2 R az' bs' → All2 R (az ++ az') (bs ++ bs')
  | _, _, _, _, .nil, h => h
  | _, _, _, _, .cons p q, h => .cons p (All2.app q h)
theorem All2.take : ∀ {az : List α} {bs : List β} (_ : All2 R az bs) (n : Nat), All2 R (az.take n) (bs.take n)
  | _, _, .nil, n => by simp; exact .nil
  | _, _, .cons p q, n => by
    cases n with
    | zero => exact .nil
    | succ n => exact .cons p (All2.take q n)
theorem All2.drop : ∀ {az : List α} {bs : List β} (_ : All2 R az bs) (n : Nat), All2 R (az.drop n) (bs.drop n)
  | _, _, .nil, n => by simp; exact .nil
  | _, _, .cons p q, n => by
    cases n with
    | zero => exact .cons p q
    | succ n => exact All2.drop q n
theorem All2.split : ∀ {az az' : List α} {bs : List β}, All2 R (az ++ az') bs → ∃ b1 b2, bs = b1 ++ b2 ∧ All2 R az b1 ∧ All2 R az' b2
  | [], _, bs, h => ⟨[], bs, rfl, .nil, h⟩
  | _ :: _, _, _, .cons p q => by
    obtain ⟨b1, b2, rfl, h1, h2⟩ := All2.split q
    exact ⟨_ :: b1, b2, rfl, .cons p h1, h2⟩
theorem All2.rep {a : α} {b : β} (h : R a b) : ∀ n, All2 R (List.replicate n a) (List.replicate n b)
  | 0 => .nil
  | n + 1 => .cons h (All2.rep h n)
theorem All2.map {γ : Type} {f : γ → α} {g : γ → β} : ∀ {l : List γ}, (∀ x ∈ l, R (f x) (g x)) → All2 R (l.map f) (l.map g)
  | [], _ => .nil
  | x :: l, h => .cons (h x (by simp)) (All2.map fun y hy => h y (by simp [hy]))
theorem All2.mapl {γ : Type} {f : α → γ} {S : γ → β → Prop} (h : ∀ a b, R a b → S (f a) b) : ∀ {az : List α} {bs : List β}, All2 R az bs → All2 S (az.map f) bs
  | _, _, .nil => .nil
  | _, _, .cons p q => .cons (h _ _ p) (All2.mapl h q)
end

theorem RepIs.all2 {w : World} {I : Nat → Prop} : ∀ {ps vs}, RepIs w I ps vs → All2 (RepI w I) ps vs
  | _, _, .nil => .nil
  | _, _, .cons p q => .cons p (RepIs.all2 q)
theorem RepIs.of {w : World} {I : Nat → Prop} : ∀ {ps vs}, All2 (RepI w I) ps vs → RepIs w I ps vs
  | _, _, .nil => .nil
  | _, _, .cons p q => .cons p (RepIs.of q)

mutual
theorem RepI.mono {w w' : World} {I I' : Nat → Prop} (hI : ∀ g, I g → I' g ∧ w'.heap[g]? = w.heap[g]?) : ∀ {p v}, RepI w I p v → RepI w' I' p v
  | _, _, .bool b => .bool b
  | _, _, .int k n h => .int k n h
  | _, _, .str s h => .str s h
  | _, _, .nil => .nil
  | _, _, .nilp => .nilp
  | _, _, .isl0 sz A c hm => .isl0 sz A c hm
  | _, _, .isl sz es g o c vs hl hr hg hcell hc hm => .isl sz es g o c vs hl (RepIs.mono hI hr) (hI g hg).1
      (fun j v hj => (World.cell?_of_block (a := ⟨g, o + j, none⟩) (hI g hg).2).trans (hcell j v hj)) hc hm
  | _, _, .iptr cs g o vs hr hg hcell => .iptr cs g o vs (RepIs.mono hI hr) (hI g hg).1
      (fun j v hj => (World.cell?_of_block (a := ⟨g, o + j, none⟩) (hI g hg).2).trans (hcell j v hj))
  | _, _, .fn f caps vs h => .fn f caps vs (RepCs.mono hI h)
theorem RepCs.mono {w w' : World} {I I' : Nat → Prop} (hI : ∀ g, I g → I' g ∧ w'.heap[g]? = w.heap[g]?) : ∀ {p v}, RepCs w I p v → RepCs w' I' p v
  | _, _, .nil => .nil
  | _, _, .one p q => .one (RepI.mono hI p) (RepCs.mono hI q)
  | _, _, .agg p q => .agg (RepIs.mono hI p) (RepCs.mono hI q)
theorem RepIs.mono {w w' : World} {I I' : Nat → Prop} (hI : ∀ g, I g → I' g ∧ w'.heap[g]? = w.heap[g]?) : ∀ {p v}, RepIs w I p v → RepIs w' I' p v
  | _, _, .nil => .nil
  | _, _, .cons p q => .cons (RepI.mono hI p) (RepIs.mono hI q)
end

theorem RepI.weak {w : World} {I I' : Nat → Prop} (hI : ∀ g, I g → I' g) {p v} (h : RepI w I p v) : RepI w I' p v := h.mono fun g hg => ⟨hI g hg, rfl⟩
theorem RepIs.weak {w : World} {I I' : Nat → Prop} (hI : ∀ g, I g → I' g) {p v} (h : RepIs w I p v) : RepIs w I' p v := h.mono fun g hg => ⟨hI g hg, rfl⟩

theorem RepI.oneCell {w : World} {I : Nat → Prop} {p v} (h : RepI w I p v) : v.oneCell' = true := by cases h <;> rfl
theorem RepIs.oneCell {w : World} {I : Nat → Prop} {p v} (h : RepIs w I p v) : ∀ u ∈ v, u.oneCell' = true := by
  induction v generalizing p with
  | nil => intro u hu; cases hu
  | cons x r ih =>
    cases h with
    | cons a b =>
      intro u hu
      rcases List.mem_cons.1 hu with rfl | hu
      · exact a.oneCell
      · exact ih b u hu

theorem plain.keep {w w' : World} {g : Nat} (e : w'.heap[g]? = w.heap[g]?) (h : plain w g) : plain w' g := by
  obtain ⟨arr, t, h⟩ := h
  exact ⟨arr, t, e.trans h⟩
theorem side_keep {κ : Ctx} {w w' : World} {g : Nat} (e : w'.heap[g]? = w.heap[g]?) (h : (κ.I g ∨ ((κ.B ≤ g ∨ κ.M g) ∧ plain w g)) ∧ ¬ κ.Z g) : (κ.I g ∨ ((κ.B ≤ g ∨ κ.M g) ∧ plain w' g)) ∧ ¬ κ.Z g :=
  ⟨h.1.imp id fun x => ⟨x.1, x.2.keep e⟩, h.2⟩

/-- The own objects of a later state: what lives there in the version that it has here lives here, too. -/
def Own.le (η η' : Own) : Prop := ∀ k : Key, η.cur k.id ≤ η'.cur k.id ∧ (η'.cur k.id = η.cur k.id → ∀ x, η'.val k = some x → η.val k = some x)

theorem Own.le_refl (η : Own) : η.le η := fun _ => ⟨Nat.le_refl _, fun _ _ h => h⟩

theorem Cap1.mono {w w' : World} {I I' : Nat → Prop} {η η' : Own} (hI : ∀ g, I g → I' g ∧ w'.heap[g]? = w.heap[g]?) (hη : η.le η') {p v} (h : Cap1 w I η p v) : Cap1 w' I' η' p v := by
  cases h with
  | undef => exact .undef _
  | imm h => exact .imm (h.mono hI)
  | optr id ver sz i off c hv h =>
    refine .optr id ver sz i off v (Nat.le_trans hv (hη id).1) fun he x hx => ?_
    have e : η'.cur id = η.cur id := Nat.le_antisymm (he ▸ hv) (hη id).1
    exact h (by omega) x ((hη id).2 e x hx)
theorem Rep1.mono {w w' : World} {I I' : Nat → Prop} {η η' : Own} (hI : ∀ g, I g → I' g ∧ w'.heap[g]? = w.heap[g]?) (hη : η.le η') {p v} (h : Rep1 w I η p v) : Rep1 w' I' η' p v := by
  cases h with
  | undef => exact .undef _
  | skip => exact .skip
  | imm h => exact .imm (h.mono hI)
  | isv u sz es h => exact .isv _ sz es (h.mono hI)
  | fno f caps vs h => exact .fno f caps vs (h.mono fun _ _ x => x.mono hI hη)
  | osl id ver c hv h =>
    refine .osl id ver v (Nat.le_trans hv (hη id).1) fun he x hx => ?_
    have e : η'.cur id = η.cur id := Nat.le_antisymm (he ▸ hv) (hη id).1
    exact h (by omega) x ((hη id).2 e x hx)
  | optr id ver sz i off c hv h =>
    refine .optr id ver sz i off v (Nat.le_trans hv (hη id).1) fun he x hx => ?_
    have e : η'.cur id = η.cur id := Nat.le_antisymm (he ▸ hv) (hη id).1
    exact h (by omega) x ((hη id).2 e x hx)
  | vsl id ver sz lo hi c hv h =>
    refine .vsl id ver sz lo hi v (Nat.le_trans hv (hη id).1) fun he x hx => ?_
    have e : η'.cur id = η.cur id := Nat.le_antisymm (he ▸ hv) (hη id).1
    exact h (by omega) x ((hη id).2 e x hx)
  | bsl id ver sz i off c hv h =>
    refine .bsl id ver sz i off v (Nat.le_trans hv (hη (.o id)).1) fun he x hx => ?_
    have e : η'.cur id = η.cur id := Nat.le_antisymm (he ▸ hv) (hη (.o id)).1
    exact h (by omega) x ((hη (.n id (i * sz + off))).2 e x hx)
  | bptr id ver sz i off nsz j o c hv h =>
    refine .bptr id ver sz i off nsz j o v (Nat.le_trans hv (hη (.o id)).1) fun he x hx => ?_
    have e : η'.cur id = η.cur id := Nat.le_antisymm (he ▸ hv) (hη (.o id)).1
    exact h (by omega) x ((hη (.n id (i * sz + off))).2 e x hx)

theorem RepA.mono {w w' : World} {I I' : Nat → Prop} {η η' : Own} (hI : ∀ g, I g → I' g ∧ w'.heap[g]? = w.heap[g]?) (hη : η.le η') {p v} (h : RepA w I η p v) : RepA w' I' η' p v := by
  cases h with
  | one h => exact .one (h.mono hI hη)
  | agg cs vs h => exact .agg cs vs (h.mono fun _ _ x => x.mono hI hη)

theorem Rep.mono {w w' : World} {I I' : Nat → Prop} {η η' : Own} (hI : ∀ g, I g → I' g ∧ w'.heap[g]? = w.heap[g]?) (hη : η.le η') {p v} (h : Rep w I η p v) : Rep w' I' η' p v := by
  cases h with
  | one h => exact .one (h.mono hI hη)
  | tup cs vs h => exact .tup cs vs (h.mono fun _ _ x => x.mono hI hη)

theorem Rep.of {w : World} {I : Nat → Prop} {η : Own} {p v} (h : RepI w I p v) : Rep w I η p v := .one (.one (.imm h))
theorem Rep.of1 {w : World} {I : Nat → Prop} {η : Own} {p v} (h : Rep1 w I η p v) : Rep w I η p v := .one (.one h)

/-! ### Keys -/
def Own.setT (η : Own) (id ver : Nat) (v : Option Value) (sub : Nat → Option Value) : Own :=
  ⟨fun i => if i = id then ver else η.cur i, fun k => match k with | .o i => if i = id then v else η.val k | .n i p => if i = id then sub p else η.val k⟩
def Own.set (η : Own) (id ver : Nat) (v : Option Value) : Own := η.setT id ver v fun _ => none
theorem Own.setT_ne {η : Own} {id ver : Nat} {v : Option Value} {sub : Nat → Option Value} {k : Key} (h : k.id ≠ id) : (η.setT id ver v sub).val k = η.val k := by
  cases k <;> exact if_neg h
theorem Own.set_ne {η : Own} {id ver : Nat} {v : Option Value} {k : Key} (h : k.id ≠ id) : (η.set id ver v).val k = η.val k := Own.setT_ne h
theorem Own.set_o {η : Own} {id ver : Nat} {v : Option Value} : (η.set id ver v).val (.o id) = v := if_pos rfl
theorem Own.set_n {η : Own} {id ver p : Nat} {v : Option Value} : (η.set id ver v).val (.n id p) = none := if_pos rfl
theorem Own.set_cur {η : Own} {id ver : Nat} {v : Option Value} : (η.set id ver v).cur id = ver := if_pos rfl
theorem Own.set_cur_ne {η : Own} {id ver i : Nat} {v : Option Value} (h : i ≠ id) : (η.set id ver v).cur i = η.cur i := if_neg h
/-- What stands under a key after a set: the new object, or an old one under another key. -/
theorem Own.set_val {η : Own} {id ver : Nat} {v : Option Value} {k : Key} {x : Value} (h : (η.set id ver v).val k = some x) : (k = .o id ∧ v = some x) ∨ (k.id ≠ id ∧ η.val k = some x) := by
  by_cases e : k.id = id
  · cases k with
    | o i => obtain rfl : i = id := e; exact .inl ⟨rfl, by rw [Own.set_o] at h; exact h⟩
    | n i p => obtain rfl : i = id := e; rw [Own.set_n] at h; cases h
  · rw [Own.set_ne e] at h; exact .inr ⟨e, h⟩

theorem Heap.get_put (h : Heap) (id id' : Nat) (x : Nat × Body) : (h.put id x).get id' = if id' = id then x else h.get id' := by
  induction h with
  | nil =>
    simp only [Heap.put, Heap.get]
    by_cases e : id = id'
    · subst e; simp
    · rw [if_neg e, if_neg (Ne.symm e)]
  | cons y r ih =>
    obtain ⟨i, v, b⟩ := y
    simp only [Heap.put]
    by_cases e : i = id
    · subst e
      simp only [if_true, Heap.get]
      by_cases e' : i = id'
      · subst e'; simp
      · rw [if_neg e', if_neg (Ne.symm e'), if_neg e']
    · rw [if_neg e]
      simp only [Heap.get]
      by_cases e' : i = id'
      · subst e'; rw [if_pos rfl, if_neg e, if_pos rfl]
      · rw [if_neg e', if_neg e', ih]

theorem ObjRep.ver {κ : Ctx} {w : World} {η : Own} {id : Nat} {x : Nat × Body} (h : ObjRep κ w η id x) : η.cur id = x.1 := by
  obtain ⟨v, b⟩ := x
  cases b <;> exact h.1

theorem ownsRow_base {w : World} {b b' e sz n : Nat} {v : Value} {xs : List Value} (h : w.ownsRow b e sz v n xs) (hb : b' ≤ b) : w.ownsRow b' e sz v n xs := by
  obtain ⟨h1, h2⟩ := h
  refine ⟨h1, ?_⟩
  rcases h2 with h2 | ⟨g, cap, cur, hv, hg, r⟩
  · exact .inl h2
  · exact .inr ⟨g, cap, cur, hv, Nat.le_trans hb hg, r⟩

theorem owns_base {w : World} {b e sz n : Nat} {v : Value} {xs : List Value} (h : w.ownsRow b e sz v n xs) {g : Nat} (hg : headOf v = some g) : b ≤ g := by
  rcases h.2 with ⟨rfl, _⟩ | ⟨g', cap, cur, rfl, hb, _⟩
  · cases hg
  · obtain rfl := Option.some.inj hg; exact hb
theorem OwnsK.of {κ : Ctx} {w : World} {b id ver e sz n : Nat} {v : Value} {xs : List Value} (h : w.ownsRow b e sz v n xs) (hb : κ.B ≤ b) : OwnsK κ w id (ver + 1) e sz v n xs :=
  ⟨ownsRow_base h (Nat.zero_le _), fun g hg => .inl (Nat.le_trans hb (owns_base h hg)), fun _ _ h => by cases h⟩
theorem owns_keep {κ κ' : Ctx} {w w' : World} {id ver e sz n : Nat} {v : Value} {vals : List Value} (h : OwnsK κ w id ver e sz v n vals) (hb : ∀ g, headOf v = some g → w'.heap[g]? = w.heap[g]?)
    (hS : ∀ g, κ.B ≤ g ∨ κ.M g → κ'.B ≤ g ∨ κ'.M g := by exact fun _ h => h) (hl : ∀ u, κ'.lent id = some u → ver = 0 → κ.lent id = some u := by first | exact fun _ h _ => h | exact fun _ _ h => by cases h) : OwnsK κ' w' id ver e sz v n vals := by
  obtain ⟨⟨hl', hr⟩, ⟨h1, h2⟩⟩ := h
  refine ⟨⟨hl', ?_⟩, fun g hg => hS g (h1 g hg), fun u hu hv => h2 u (hl u hu hv) hv⟩
  rcases hr with hr | ⟨g, cap, cur, rfl, hg, hh, r⟩
  · exact .inl hr
  · exact .inr ⟨g, cap, cur, rfl, hg, (hb g rfl).trans hh, r⟩
theorem CellRep.keep {κ : Ctx} {w w' : World} {η η' : Own} {id p : Nat} {c : PV} {u : Value} (h : CellRep κ w η id p c u) (hv : η'.val (.n id p) = η.val (.n id p))
    (hb : ∀ v g, η.val (.n id p) = some v → headOf v = some g → w'.heap[g]? = w.heap[g]?) (hI : ∀ g, imm κ η w g → imm κ η' w' g ∧ w'.heap[g]? = w.heap[g]?) : CellRep κ w' η' id p c u := by
  cases c
  case fr e sz es =>
    obtain ⟨h1, vals, h2, h3, h4⟩ := h
    exact ⟨hv.trans h1, vals, owns_keep h2 fun g => hb u g h1, h3.mono hI, h4⟩
  all_goals exact RepI.mono hI h

theorem CellRep.keepR {κ κ' : Ctx} {w w' : World} {η η' : Own} {id p : Nat} {c : PV} {u : Value} (h : CellRep κ w η id p c u) (hv : η'.val (.n id p) = η.val (.n id p))
    (hb : ∀ v g, η.val (.n id p) = some v → headOf v = some g → w'.heap[g]? = w.heap[g]?) (hI : ∀ g, imm κ η w g → imm κ' η' w' g ∧ w'.heap[g]? = w.heap[g]?) (hB : ∀ g, κ.B ≤ g ∨ κ.M g → κ'.B ≤ g ∨ κ'.M g := by exact fun _ h => h) : CellRep κ' w' η' id p c u := by
  cases c
  case fr e sz es =>
    obtain ⟨h1, vals, h2, h3, h4⟩ := h
    exact ⟨hv.trans h1, vals, owns_keep h2 (fun g => hb u g h1) hB (fun _ _ h => by cases h), h3.mono hI, h4⟩
  all_goals exact RepI.mono hI h
/-- The cell of an object that moves to another key. -/
theorem CellRep.move {κ : Ctx} {w : World} {η η' : Own} {id id' p : Nat} {c : PV} {u : Value} (h : CellRep κ w η id p c u) (hv : η'.val (.n id' p) = η.val (.n id p))
    (hI : ∀ g, imm κ η w g → imm κ η' w g) : CellRep κ w η' id' p c u := by
  cases c
  case fr e sz es =>
    obtain ⟨h1, vals, h2, h3, h4⟩ := h
    exact ⟨hv.trans h1, vals, h2, h3.weak hI, h4⟩
  all_goals exact RepI.weak hI h
theorem CellRep.keep' {κ κ' : Ctx} {w : World} {η η' : Own} {id p : Nat} {c : PV} {u : Value} (h : CellRep κ w η id p c u) (hv : η'.val (.n id p) = η.val (.n id p))
    (hI : ∀ g, imm κ η w g → imm κ' η' w g ∧ w.heap[g]? = w.heap[g]?) (hB : ∀ g, κ.B ≤ g ∨ κ.M g → κ'.B ≤ g ∨ κ'.M g := by exact fun _ h => h) : CellRep κ' w η' id p c u := h.keepR hv (fun _ _ _ _ => rfl) hI hB

theorem WCell.keepR {κ κ' : Ctx} {w w' : World} {η η' : Own} {id p : Nat} {c : PV} {u : Value} (h : WCell κ w η id p c u) (hv : η'.val (.n id p) = η.val (.n id p))
    (hb : ∀ v g, η.val (.n id p) = some v → headOf v = some g → w'.heap[g]? = w.heap[g]?) (hI : ∀ g, imm κ η w g → imm κ' η' w' g ∧ w'.heap[g]? = w.heap[g]?) (hη : η.le η') (hB : ∀ g, κ.B ≤ g ∨ κ.M g → κ'.B ≤ g ∨ κ'.M g := by exact fun _ h => h) : WCell κ' w' η' id p c u := by
  cases c
  case fr e sz es =>
    obtain ⟨h1, vals, h2, h3, h4⟩ := h
    exact ⟨hv.trans h1, vals, owns_keep h2 (fun g => hb u g h1) hB (fun _ _ h => by cases h), h3.mono hI, h4⟩
  all_goals exact Rep1.mono hI hη h
/-- An object that nothing touches stays what it is. -/
theorem ObjRep.keep {κ : Ctx} {w w' : World} {η η' : Own} {id : Nat} {x : Nat × Body} (h : ObjRep κ w η id x) (hc : η'.cur id = η.cur id) (hv : ∀ k : Key, k.id = id → η'.val k = η.val k)
    (hb : ∀ (k : Key) v g, k.id = id → η.val k = some v → headOf v = some g → w'.heap[g]? = w.heap[g]?)
    (hI : ∀ g, imm κ η w g → imm κ η' w' g ∧ w'.heap[g]? = w.heap[g]?) (hη : η.le η') : ObjRep κ w' η' id x := by
  obtain ⟨ver, b⟩ := x
  cases b with
  | dead => exact ⟨hc.trans h.1, (hv id rfl).trans h.2⟩
  | box cs =>
    obtain ⟨h1, g, arr, e, h2, h3, h4, h5⟩ := h
    exact ⟨hc.trans h1, g, arr, e, (hv id rfl).trans h2, (hb id _ g rfl h2 rfl).trans h3, h4.mono fun _ _ x => x.mono hI hη, h5⟩
  | row e sz es =>
    obtain ⟨h1, v, vals, h2, h3, h4, h5⟩ := h
    exact ⟨hc.trans h1, v, vals, (hv id rfl).trans h2, owns_keep h3 fun g hg => hb id v g rfl h2 hg, h4.mono hI, h5⟩
  | iter s pos =>
    obtain ⟨h1, g, h2, h3, h4⟩ := h
    exact ⟨hc.trans h1, g, (hv id rfl).trans h2, (hb id _ g rfl h2 rfl).trans h3, h4⟩
  | map es =>
    obtain ⟨h1, g, ents, clock, ks, h2, h3, h4⟩ := h
    exact ⟨hc.trans h1, g, ents, clock, ks, (hv id rfl).trans h2, (hb id _ g rfl h2 rfl).trans h3, h4⟩
  | tree e sz es =>
    obtain ⟨h1, v, vals, h2, h3, h4, h5⟩ := h
    refine ⟨hc.trans h1, v, vals, (hv id rfl).trans h2, owns_keep h3 fun g hg => hb id v g rfl h2 hg, ⟨h4.1, fun p c u hp hu => (h4.2 p c u hp hu).keep (hv (.n id p) rfl) (fun x g => hb (.n id p) x g rfl) hI⟩, h5⟩
  | wild e sz es =>
    obtain ⟨h1, v, vals, h2, h3, h4, h5⟩ := h
    refine ⟨hc.trans h1, v, vals, (hv id rfl).trans h2, owns_keep h3 fun g hg => hb id v g rfl h2 hg, ⟨h4.1, fun p c u hp hu => (h4.2 p c u hp hu).keepR (hv (.n id p) rfl) (fun x g => hb (.n id p) x g rfl) hI hη⟩, h5⟩

theorem box_side {κ : Ctx} {id ver g : Nat} (h : Side κ id ver (.pointer (some ⟨g, 0, none⟩))) : κ.B ≤ g ∨ κ.M g := h.new g rfl
/-- The same object under another key or in a new version. -/
theorem Side.re {κ : Ctx} {id id' ver ver' : Nat} {v : Value} (h : Side κ id ver v) (hl : ∀ u, κ.lent id' = some u → ver' = 0 → v = u) : Side κ id' ver' v := ⟨h.new, hl⟩
theorem OwnsK.re {κ : Ctx} {w : World} {id id' ver ver' e sz n : Nat} {v : Value} {vals : List Value} (h : OwnsK κ w id ver e sz v n vals) (hl : ∀ u, κ.lent id' = some u → ver' = 0 → v = u) : OwnsK κ w id' ver' e sz v n vals := ⟨h.row, h.side.re hl⟩
theorem OwnsK.up {κ : Ctx} {w : World} {id id' ver ver' e sz n : Nat} {v : Value} {vals : List Value} (h : OwnsK κ w id ver e sz v n vals) : OwnsK κ w id' (ver' + 1) e sz v n vals := h.re fun _ _ h => by cases h

theorem owns_head {κ : Ctx} {w : World} {id ver e sz n : Nat} {v : Value} {vals : List Value} {g : Nat} (h3 : OwnsK κ w id ver e sz v n vals) (hg : headOf v = some g) : g < w.heap.size ∧ (κ.B ≤ g ∨ κ.M g) := by
  have hside := h3.side.new g hg
  rcases h3.row.2 with ⟨rfl, _⟩ | ⟨g', cap, cur, rfl, hb, hh, _⟩
  · cases hg
  · obtain rfl := Option.some.inj hg
    refine ⟨?_, hside⟩
    rcases Nat.lt_or_ge g' w.heap.size with hlt | hge
    · exact hlt
    · rw [Array.getElem?_eq_none hge] at hh; cases hh

theorem owns_plain {w : World} {base e sz n : Nat} {v : Value} {vals : List Value} {g : Nat} (h3 : w.ownsRow base e sz v n vals) (hg : headOf v = some g) : plain w g := by
  rcases h3.2 with ⟨rfl, _⟩ | ⟨g', cap, cur, rfl, hb, hh, _⟩
  · cases hg
  · obtain rfl := Option.some.inj hg
    exact ⟨_, _, hh⟩

theorem own_head {κ : Ctx} {w : World} {η : Own} {id : Nat} {x : Nat × Body} (h : ObjRep κ w η id x) {v : Value} {g : Nat} (hv : η.val id = some v) (hg : headOf v = some g) :
    g < w.heap.size ∧ (κ.B ≤ g ∨ κ.M g) := by
  obtain ⟨ver, b⟩ := x
  cases b with
  | dead => rw [h.2] at hv; cases hv
  | box cs =>
    obtain ⟨h1, g', arr, e, h2, h3, h4, h5⟩ := h
    rw [h2] at hv
    obtain rfl := Option.some.inj hv
    obtain rfl := Option.some.inj hg
    refine ⟨?_, box_side h5⟩
    rcases Nat.lt_or_ge g' w.heap.size with hlt | hge
    · exact hlt
    · rw [Array.getElem?_eq_none hge] at h3; cases h3
  | row e sz es =>
    obtain ⟨h1, v', vals, h2, h3, h4, h5⟩ := h
    rw [h2] at hv
    obtain rfl := Option.some.inj hv
    exact ⟨(owns_head h3 hg).1, (owns_head h3 hg).2⟩
  | iter s pos =>
    obtain ⟨h1, g', h2, h3, h4, _⟩ := h
    rw [h2] at hv
    obtain rfl := Option.some.inj hv
    obtain rfl := Option.some.inj hg
    refine ⟨?_, .inl h4⟩
    rcases Nat.lt_or_ge g' w.heap.size with hlt | hge
    · exact hlt
    · rw [Array.getElem?_eq_none hge] at h3; cases h3
  | map es =>
    obtain ⟨h1, g', ents, clock, ks, h2, h3, h4, _⟩ := h
    rw [h2] at hv
    obtain rfl := Option.some.inj hv
    obtain rfl := Option.some.inj hg
    refine ⟨?_, .inl h4⟩
    rcases Nat.lt_or_ge g' w.heap.size with hlt | hge
    · exact hlt
    · rw [Array.getElem?_eq_none hge] at h3; cases h3
  | tree e sz es =>
    obtain ⟨h1, v', vals, h2, h3, h4, h5⟩ := h
    rw [h2] at hv
    obtain rfl := Option.some.inj hv
    exact ⟨(owns_head h3 hg).1, (owns_head h3 hg).2⟩
  | wild e sz es =>
    obtain ⟨h1, v', vals, h2, h3, h4, h5⟩ := h
    rw [h2] at hv
    obtain rfl := Option.some.inj hv
    exact ⟨(owns_head h3 hg).1, (owns_head h3 hg).2⟩

theorem nest_cases {b : Body} {es : List (List PV)} (h : b.nest = some es) : (∃ e sz, b = .tree e sz es) ∨ ∃ e sz, b = .wild e sz es := by
  cases b <;> simp only [Body.nest, Option.some.injEq, reduceCtorEq] at h
  · subst h; exact .inl ⟨_, _, rfl⟩
  · subst h; exact .inr ⟨_, _, rfl⟩
/-- The same of rows within rows. -/
theorem own_headK {κ : Ctx} {w : World} {η : Own} {k : Key} {x : Nat × Body} (h : ObjRep κ w η k.id x) (hs : SubRep η k.id x.2) {v : Value} {g : Nat} (hv : η.val k = some v) (hg : headOf v = some g) :
    g < w.heap.size ∧ (κ.B ≤ g ∨ κ.M g) := by
  cases k with
  | o id => exact own_head h hv hg
  | n id p =>
    obtain ⟨es, e', sz', es', hb, hp⟩ := hs p v hv
    obtain ⟨ver, b⟩ := x
    have hlt := (List.getElem?_eq_some_iff.1 hp).1
    rcases nest_cases hb with ⟨e, sz, hb⟩ | ⟨e, sz, hb⟩
    · subst hb
      obtain ⟨h1, v', vals, h2, h3, ⟨hl, h4⟩, h5⟩ := h
      obtain ⟨u, hu⟩ : ∃ u, vals[p]? = some u := ⟨_, List.getElem?_eq_getElem (by omega)⟩
      obtain ⟨a1, vals', a2, _⟩ := h4 p _ u hp hu
      have e : u = v := Option.some.inj (a1.symm.trans hv)
      subst e
      exact ⟨(owns_head a2 hg).1, (owns_head a2 hg).2⟩
    · subst hb
      obtain ⟨h1, v', vals, h2, h3, ⟨hl, h4⟩, h5⟩ := h
      obtain ⟨u, hu⟩ : ∃ u, vals[p]? = some u := ⟨_, List.getElem?_eq_getElem (by omega)⟩
      obtain ⟨a1, vals', a2, _⟩ := h4 p _ u hp hu
      have e : u = v := Option.some.inj (a1.symm.trans hv)
      subst e
      exact ⟨(owns_head a2 hg).1, (owns_head a2 hg).2⟩

theorem Sim.head {κ : Ctx} {η : Own} {s : St} {a : Act} {w : World} (h : Sim κ η s a w) {k : Key} {v : Value} {g : Nat} (hv : η.val k = some v) (hg : headOf v = some g) : g < w.heap.size ∧ (κ.B ≤ g ∨ κ.M g) :=
  own_headK (h.heap k.id) (h.sub k.id) hv hg

theorem SubRep.keep {η η' : Own} {id : Nat} {b : Body} (h : SubRep η id b) (hv : ∀ k : Key, k.id = id → η'.val k = η.val k) : SubRep η' id b := fun p v hp => h p v (by rw [← hv (.n id p) rfl]; exact hp)
theorem SubRep.none {η : Own} {id : Nat} {b : Body} (h : ∀ p, η.val (.n id p) = none) : SubRep η id b := fun p v hp => by rw [h p] at hp; cases hp

theorem Kept.step {κ : Ctx} {w w' : World} (h : Kept κ w) (ho : w'.os = w.os) (ht : w'.tape = w.tape) (hp : w'.output = w.output) (hz : w.heap.size ≤ w'.heap.size)
    (hb : ∀ k, k < κ.B → ¬ κ.M k → w'.heap[k]? = w.heap[k]?) : Kept κ w' :=
  ⟨ho.trans h.os, ht.trans h.tape, hp.trans h.output, Nat.le_trans h.size hz, fun k hk hm => (hb k hk hm).trans (h.block k hk hm)⟩

theorem Rep.unv {w : World} {I : Nat → Prop} {η : Own} {p : PV} {v : Value} (h : Rep w I η p v) : Rep w I η (Ai.unv p) v := by
  cases p with
  | isv u sz es =>
    cases h with
    | one h => cases h with
      | one h => cases h with
        | isv _ _ _ h => exact .of h
        | imm h => cases h
  | _ => exact h

/-! ### Steps of a state -/
section
variable {κ : Ctx} {η : Own} {s : St} {a : Act} {w : World}

theorem Act.put_toList (a : Act) (d : Nat) (c : Value) : (a.put (some d) c).tmps.toList = a.tmps.toList.set d c := by simp [Act.put]

theorem Sim.put (h : Sim κ η s a w) (d : Option Nat) {p : PV} {c : Value} (hr : Rep w (imm κ η w) η p c) : Sim κ η (s.put d p) (a.put d c) w := by
  cases d with
  | none => exact h
  | some d =>
    refine ⟨?_, h.defers, h.heap, h.apart, h.sub, h.kept⟩
    rw [Act.put_toList]
    exact h.tmps.set d hr

theorem Sim.tmp (h : Sim κ η s a w) (t : Nat) : Rep w (imm κ η w) η (s.T.getD t .undef) (a.tmps.getD t Go.undef) := by
  cases ht : s.T[t]? with
  | none => simp only [List.getD, ht, Option.getD_none]; exact .of1 (.undef _)
  | some p =>
    obtain ⟨c, hc, hr⟩ := h.tmps.get ht
    have hc' : a.tmps.getD t Go.undef = c := by simp [Array.getD_eq_getD_getElem?, ← Array.getElem?_toList, hc]
    rw [hc']
    simp only [List.getD, ht, Option.getD_some]
    exact hr

theorem Sim.ev (h : Sim κ η s a w) (x : Operand) : Rep w (imm κ η w) η (s.ev x) (a.eval x) := by
  cases x with
  | tmp t =>
    show Rep w (imm κ η w) η (unv (s.T.getD t .undef)) (a.tmps.getD t undef)
    exact Rep.unv (h.tmp t)
  | const v =>
    show Rep w (imm κ η w) η (ofConst v) v
    unfold ofConst
    split
    · exact .of (.bool _)
    · split
      · exact .of (.int _ _ (by assumption))
      · exact .of1 (.undef _)
    · split
      · rename_i hs
        exact .of (.str _ (Nat.le_trans hs (by decide)))
      · exact .of1 (.undef _)
    · exact .of .nil
    · exact .of .nilp
    · exact .of1 (.undef _)
  | global g => exact .of1 (.undef _)
  | func f => exact .of1 (.undef _)

end

end Go.Proofs.Ytngefbdedbbplaa.Ai
