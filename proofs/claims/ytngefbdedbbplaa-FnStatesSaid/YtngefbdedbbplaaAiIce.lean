/- A new row that is handed back may be taken as one that is only read. -/
import Derived.Test.YtngefbdedbbplaaAiBase
import Derived.Test.YtngefbdedbbplaaAiLoop
set_option linter.unusedSectionVars false
namespace Go.Proofs.Ytngefbdedbbplaa.Ai
open Go Go.RowKit
set_option linter.unusedVariables false
set_option linter.unusedSimpArgs false

def ice0 : PV → PV
  | .fr _ sz es => .isl sz es
  | v => v
def ice1 : PV → PV
  | .fr _ sz es => .isl sz es
  | .agg cs => .agg (cs.map ice0)
  | v => v
def ice : PV → PV
  | .tup vs => .tup (vs.map ice1)
  | v => ice1 v

section
variable {w : World} {I I' : Nat → Prop}

theorem ice_row {base e sz : Nat} {es : List (List PV)} {v : Value} {vals : List Value} (ho : w.ownsRow base e sz v es.length vals) (hr : RepIs w I es.flatten vals) (hl : ∀ x ∈ es, x.length = sz)
    (hI : ∀ g, headOf v = some g → I g) : RepI w I (.isl sz es) v := by
  have hc := fun g (hg : headOf v = some g) => own_cell ho hg
  rcases ho.2 with ⟨rfl, h0⟩ | ⟨g, cap, cur, rfl, hB, hh, hcap, hm, hcs, htake⟩
  · obtain rfl : es = [] := List.length_eq_zero_iff.1 h0
    exact .isl0 sz none 0 (Nat.zero_le _)
  · exact .isl sz es g 0 cap vals hl hr (hI g rfl) (fun j v hj => by have := hc g rfl j v hj; simpa using this) hcap hm

theorem ResC.ice {base : Nat} {p : List PV} {v : List Value} {gs : List Nat} (h : ResC w I base p v gs) : (∀ g, I g → I' g) → (∀ g ∈ gs, I' g) → RepIs w I' (p.map ice0) v := by
  induction h with
  | nil => exact fun _ _ => .nil
  | imm h _ ih =>
    intro hI hg
    have e : ∀ p v, RepI w I p v → ice0 p = p := fun p v h => by cases h <;> rfl
    rw [List.map_cons, e _ _ h]
    exact .cons (RepI.mono (fun g x => ⟨hI g x, rfl⟩) h) (ih hI hg)
  | fr ho hr hl _ ih =>
    intro hI hg
    exact .cons (ice_row ho (RepIs.mono (fun g x => ⟨hI g x, rfl⟩) hr) hl fun g e => hg g (List.mem_append_left _ (by rw [e]; simp))) (ih hI fun g hm => hg g (List.mem_append_right _ hm))
theorem Res1.ice {base : Nat} {p : PV} {v : Value} {gs : List Nat} (h : Res1 w I base p v gs) (hI : ∀ g, I g → I' g) (hg : ∀ g ∈ gs, I' g) : Res1 w I' base (ice1 p) v [] := by
  have hm : ∀ g, I g → I' g ∧ w.heap[g]? = w.heap[g]? := fun g x => ⟨hI g x, rfl⟩
  cases h with
  | undef v => exact .undef v
  | imm h =>
    have : ice1 p = p := by cases h <;> rfl
    rw [this]
    exact .imm (RepI.mono hm h)
  | agg cs vs h =>
    have e : ∀ {cs : List PV} {vs : List Value}, RepIs w I cs vs → cs.map ice0 = cs := fun {cs vs} h => by
      have := h.nofr
      clear h
      induction cs with
      | nil => rfl
      | cons c r ih =>
        have e0 : ice0 c = c := by
          have := this c (by simp)
          cases c <;> first | rfl | exact absurd rfl (this _ _ _)
        rw [List.map_cons, e0, ih fun x hx => this x (by simp [hx])]
    show Res1 w I' base (.agg (cs.map ice0)) _ []
    rw [e h]
    exact .agg cs vs (RepIs.mono hm h)
  | aggO cs vs gs h => exact .agg _ _ (h.ice hI hg)
  | fr e sz es v vals ho hr hl => exact .imm (ice_row ho (RepIs.mono hm hr) hl fun g e => hg g (by rw [e]; simp))

theorem ResL.ice {base : Nat} : ∀ {p : List PV} {v : List Value} {gs : List Nat}, ResL w I base p v gs → (∀ g, I g → I' g) → (∀ g ∈ gs, I' g) → ResL w I' base (p.map ice1) v []
  | _, _, _, .nil, _, _ => .nil
  | _, _, _, .cons a b, h1, h2 => .cons (g := []) (gs := []) (Res1.ice a h1 fun g hg => h2 g (List.mem_append_left _ hg)) (ResL.ice b h1 fun g hg => h2 g (List.mem_append_right _ hg))

theorem Res.ice {base : Nat} {p : PV} {v : Value} {gs : List Nat} (h : Res w I base p v gs) (hI : ∀ g, I g → I' g) (hg : ∀ g ∈ gs, I' g) : Res w I' base (ice p) v [] := by
  cases h with
  | one h =>
    have := Res1.ice h hI hg
    have e : Ai.ice p = ice1 p := by
      cases h with
      | imm h => cases h <;> rfl
      | _ => rfl
    rw [e]
    exact .one this
  | tup h => exact .tup (ResL.ice h hI hg)
end

theorem Res1.plain {w : World} {I : Nat → Prop} {base : Nat} {p : PV} {v : Value} {gs : List Nat} (h : Res1 w I base p v gs) : ∀ g ∈ gs, Ai.plain w g := by
  cases h with
  | aggO cs vs gs h =>
    induction h with
    | nil => intro g hg; cases hg
    | imm _ _ ih => exact ih
    | @fr e0 sz0 es0 v vals0 _ _ _ ho hr hl _ ih =>
      intro g hg
      rcases List.mem_append.1 hg with hg | hg
      · refine owns_plain ho ?_
        cases e : headOf v with
        | none => simp_all
        | some x => simp_all
      · exact ih g hg
  | fr e sz es v vals ho hr hl =>
    intro g hg
    refine owns_plain ho ?_
    cases e : headOf v with
    | none => rw [e] at hg; cases hg
    | some x => rw [e] at hg; simp only [Option.toList_some, List.mem_singleton] at hg; rw [hg]
  | _ => intro g hg; cases hg
theorem ResL.plain {w : World} {I : Nat → Prop} {base : Nat} : ∀ {p : List PV} {v : List Value} {gs : List Nat}, ResL w I base p v gs → ∀ g ∈ gs, Ai.plain w g
  | _, _, _, .nil => fun g hg => by cases hg
  | _, _, _, .cons a b => fun g hg => (List.mem_append.1 hg).elim (a.plain g) (b.plain g)
theorem Res.plain {w : World} {I : Nat → Prop} {base : Nat} {p : PV} {v : Value} {gs : List Nat} (h : Res w I base p v gs) : ∀ g ∈ gs, Ai.plain w g := by
  cases h with
  | one h => exact h.plain
  | tup h => exact h.plain

theorem OkG.ice {al : Bool} {P : Program} {f : FuncId} {args : List PV} {v : PV} (h : OkG al P f args (· = v)) : OkG al P f args (· = ice v) :=
  ⟨h.1, fun w I vs hI ha => (h.2 w I vs hI ha).mono fun e w' ⟨u, r, gs, e1, q, e2, e3, e4, e5⟩ => ⟨u, Ai.ice r, [], e1, by rw [q], e2, by simp, by simp,
    Res.ice e5 (fun g hg => ⟨hg.1, hg.2.1, by simp, hg.2.2.2⟩) (fun g hg => ⟨.inr (e4 g hg).1, (e4 g hg).2, by simp, fun _ => e5.plain g hg⟩)⟩⟩
theorem OkG.iceE {al : Bool} {P : Program} {f : FuncId} {args : List PV} {Q : PV → Prop} (h : OkG al P f args Q) : OkG al P f args (fun r => ∃ r0, Q r0 ∧ r = Ai.ice r0) :=
  ⟨h.1, fun w I vs hI ha => (h.2 w I vs hI ha).mono fun e w' ⟨u, r, gs, e1, q, e2, e3, e4, e5⟩ => ⟨u, Ai.ice r, [], e1, ⟨r, q, rfl⟩, e2, by simp, by simp,
    Res.ice e5 (fun g hg => ⟨hg.1, hg.2.1, by simp, hg.2.2.2⟩) (fun g hg => ⟨.inr (e4 g hg).1, (e4 g hg).2, by simp, fun _ => e5.plain g hg⟩)⟩⟩
theorem OkA.iceE {P : Program} {f : FuncId} {args : List PV} {Q : PV → Prop} (h : OkA P f args Q) : OkA P f args (fun r => ∃ r0, Q r0 ∧ r = Ai.ice r0) := OkG.iceE h
theorem OkA.ice {P : Program} {f : FuncId} {args : List PV} {v : PV} (h : OkA P f args (· = v)) : OkA P f args (· = ice v) := OkG.ice h
theorem Ok.ice {P : Program} {f : FuncId} {args : List PV} {v : PV} (h : Ok P f args (· = v)) : Ok P f args (· = ice v) := OkG.ice h

/-! ### A nil slice that is handed back is a new row without elements -/
def unnil (e sz : Nat) : PV → PV
  | .nil => .fr e sz []
  | v => v
def unnilT (e sz : Nat) : PV → PV
  | .tup (v :: vs) => .tup (unnil e sz v :: vs)
  | v => unnil e sz v

theorem Res1.unnil {w : World} {I : Nat → Prop} {base : Nat} {p : PV} {v : Value} {gs : List Nat} (e sz : Nat) (h : Res1 w I base p v gs) : Res1 w I base (unnil e sz p) v gs := by
  have same : Ai.unnil e sz p = p → Res1 w I base (Ai.unnil e sz p) v gs := fun hp => by rw [hp]; exact h
  cases h with
  | undef => exact same rfl
  | agg => exact same rfl
  | aggO => exact same rfl
  | fr => exact same rfl
  | imm h =>
    cases h with
    | nil => exact .fr e sz [] _ [] (World.ownsRow_nil w base e sz) .nil (by simp)
    | _ => exact same rfl

theorem Res.unnil {w : World} {I : Nat → Prop} {base : Nat} {p : PV} {v : Value} {gs : List Nat} (e sz : Nat) (h : Res w I base p v gs) : Res w I base (unnilT e sz p) v gs := by
  cases h with
  | one h =>
    have e1 : unnilT e sz p = Ai.unnil e sz p := by
      cases h with
      | imm h => cases h <;> rfl
      | _ => rfl
    rw [e1]
    exact .one (h.unnil e sz)
  | tup h =>
    cases h with
    | nil => exact .tup .nil
    | cons a b => exact .tup (.cons (a.unnil e sz) b)

theorem OkG.unnil {al : Bool} {P : Program} {f : FuncId} {args : List PV} {v : PV} (e sz : Nat) (h : OkG al P f args (fun r => unnilT e sz r = v)) : OkG al P f args (· = v) :=
  ⟨h.1, fun w I vs hI ha => (h.2 w I vs hI ha).mono fun _ _ ⟨u, r, gs, e1, q, e2, e3, e4, e5⟩ => ⟨u, unnilT e sz r, gs, e1, q, e2, e3, e4, e5.unnil e sz⟩⟩
theorem OkA.unnil {P : Program} {f : FuncId} {args : List PV} {v : PV} (e sz : Nat) (h : OkA P f args (fun r => unnilT e sz r = v)) : OkA P f args (· = v) := OkG.unnil e sz h

/-- The same for a slice that may lie in the arguments' memory. -/
def unnilI (sz : Nat) : PV → PV
  | .nil => .isl sz []
  | v => v
def unnilTI (sz : Nat) : PV → PV
  | .tup (v :: vs) => .tup (unnilI sz v :: vs)
  | v => unnilI sz v

theorem Res1.unnilI {w : World} {I : Nat → Prop} {base : Nat} {p : PV} {v : Value} {gs : List Nat} (sz : Nat) (h : Res1 w I base p v gs) : Res1 w I base (unnilI sz p) v gs := by
  have same : Ai.unnilI sz p = p → Res1 w I base (Ai.unnilI sz p) v gs := fun hp => by rw [hp]; exact h
  cases h with
  | undef => exact same rfl
  | agg => exact same rfl
  | aggO => exact same rfl
  | fr => exact same rfl
  | imm h =>
    cases h with
    | nil => exact .imm (.isl0 sz none 0 (Nat.zero_le _))
    | _ => exact same rfl

theorem Res.unnilI {w : World} {I : Nat → Prop} {base : Nat} {p : PV} {v : Value} {gs : List Nat} (sz : Nat) (h : Res w I base p v gs) : Res w I base (unnilTI sz p) v gs := by
  cases h with
  | one h =>
    have e1 : unnilTI sz p = Ai.unnilI sz p := by
      cases h with
      | imm h => cases h <;> rfl
      | _ => rfl
    rw [e1]
    exact .one (h.unnilI sz)
  | tup h =>
    cases h with
    | nil => exact .tup .nil
    | cons a b => exact .tup (.cons (a.unnilI sz) b)

theorem OkA.unnilI {P : Program} {f : FuncId} {args : List PV} {v : PV} (sz : Nat) (h : OkA P f args (fun r => unnilTI sz r = v)) : OkA P f args (· = v) :=
  ⟨h.1, fun w I vs hI ha => (h.2 w I vs hI ha).mono fun _ _ ⟨u, r, gs, e1, q, e2, e3, e4, e5⟩ => ⟨u, unnilTI sz r, gs, e1, q, e2, e3, e4, e5.unnilI sz⟩⟩

section
variable {P : Program} {X : Req → (PV → Prop) → Prop} {K : PV → Prop}
theorem r_pcallF {β : Type} (mk : β → PV) {v : β} {f : FuncId} {args : List PV} (h : Std P false X) (hc : OkA P f args (· = mk v)) (H : ∀ x, x = v → K (mk x)) : X (.pcall f args) K := r_pcall h hc (H v rfl)
theorem r_callBSO {f : FuncId} {args : List PV} {v : Bool} (h : Std P true X) (hc : Ok P f args (· = .bool v)) (H1 : v = true → K (.bool true)) (H2 : v = false → K (.bool false)) : X (.call f true args) K := by
  refine r_callSO h hc trivial ?_
  cases v
  · exact H2 rfl
  · exact H1 rfl
theorem r_callFSO {β : Type} (mk : β → PV) {v : β} {f : FuncId} {args : List PV} (h : Std P true X) (hc : Ok P f args (· = mk v)) (hn : frOk (mk v)) (H : ∀ x, x = v → K (mk x)) : X (.call f true args) K := r_callSO h hc hn (H v rfl)
end
end Go.Proofs.Ytngefbdedbbplaa.Ai
