/- Plain laws on settings and lost types; answers with two rows. -/
import Derived.Test.YtmlojdpfpccgoaaSlip
import Derived.Test.YtmlojdpfpccgoaaAiIceM
namespace Go.Proofs.Ytmlojdpfpccgoaa.Ai
open Go Go.Proofs
set_option linter.unusedSimpArgs false
set_option linter.unusedVariables false
abbrev Sett := List Box × List (List UInt8)
def typesA (l : List Box) : Int × Bool := if caseB l then (cntS l, true) else (0, false)
def askedC (l : List Box) (codes : List (List UInt8)) : Bool := codes.all (fun c => decide (0 ≤ findB c l 0)) && (caseB l && decide ((codes.length : Int) ≤ 60))
theorem askedC_spec {l : List Box} {c : List (List UInt8)} (h : askedC l c = true) : (∀ x ∈ c, 0 ≤ findB x l 0) ∧ caseB l = true ∧ (c.length : Int) ≤ 60 := by
  simp only [askedC, Bool.and_eq_true, decide_eq_true_eq, List.all_eq_true] at h
  exact ⟨h.1, h.2.1, h.2.2⟩
theorem asked_drop {l : List Box} {c : List (List UInt8)} {i : Nat} {x : List UInt8} (h : c[i]? = some x) : (c.drop i).all (fun c => decide (0 ≤ findB c l 0)) = (decide (0 ≤ findB x l 0) && (c.drop (i + 1)).all fun c => decide (0 ≤ findB c l 0)) := by
  have hi := (List.getElem?_eq_some_iff.1 h).1
  rw [List.drop_eq_getElem_cons hi, List.all_cons, (List.getElem?_eq_some_iff.1 h).2]
def cntX (c : List UInt8) (l : List (List UInt8)) : Int := ((l.filter fun x => decide (x = c)).length : Nat)
theorem cntX_take {c x : List UInt8} {l : List (List UInt8)} {i : Nat} (h : l[i]? = some x) : cntX c (l.take (i + 1)) = cntX c (l.take i) + if x = c then 1 else 0 := by
  unfold cntX
  rw [List.take_add_one, h, Option.toList_some, List.filter_append, List.length_append]
  by_cases e : x = c <;> simp [e]
theorem cntX_bd (c : List UInt8) (l : List (List UInt8)) : 0 ≤ cntX c l ∧ cntX c l ≤ l.length := by
  unfold cntX
  have := List.length_filter_le (fun x => decide (x = c)) l
  omega
theorem cntX_bdT (c : List UInt8) (l : List (List UInt8)) (i : Nat) : 0 ≤ cntX c (l.take i) ∧ cntX c (l.take i) ≤ l.length := by
  have := cntX_bd c (l.take i)
  have := List.length_take_le' i l
  omega
def lostS (x y : Box) (set : List (List UInt8)) : List (List UInt8 × Int) := if 0 < x.2.2.2 - y.2.2.2 - cntX x.1 set then [(x.1, x.2.2.2 - y.2.2.2 - cntX x.1 set)] else []
def lostT (a b : List Box) (set : List (List UInt8)) : Nat → List (List UInt8 × Int)
  | 0 => []
  | n + 1 => lostT a b set n ++ match a[n]?, b[n]? with
    | some x, some y => lostS x y set
    | _, _ => []
theorem lostT_step {a b : List Box} {set : List (List UInt8)} {n : Nat} {x y : Box} (h : a[n]? = some x) (h' : b[n]? = some y) : lostT a b set (n + 1) = lostT a b set n ++ lostS x y set := by
  rw [lostT, h, h']
theorem lost_yes {x y : Box} {set : List (List UInt8)} {m : Int} (e : m = x.2.2.2 - y.2.2.2 - cntX x.1 set) (h : 0 < m) : lostS x y set = [(x.1, m)] := by
  subst e; exact if_pos h
theorem lost_no {x y : Box} {set : List (List UInt8)} {m : Int} (e : m = x.2.2.2 - y.2.2.2 - cntX x.1 set) (h : m ≤ 0) : lostS x y set = [] := by
  subst e; exact if_neg (by omega)
def lostA (before : List Box) (after : Sett) : List (List UInt8) × List Int × Bool :=
  if askedC after.1 after.2 && alikeB before after.1 then ((lostT before after.1 after.2 before.length).map Prod.fst, (lostT before after.1 after.2 before.length).map Prod.snd, true) else ([], [], false)
noncomputable def cSetting (s : Sett) : List PV := [.isl 4 (rows cBox s.1), .isl 1 (rows cStr s.2)]
noncomputable def llbI (x : List (List UInt8) × List Int × Bool) : PV := .tup [.isl 1 (rows cStr x.1), .isl 1 (rows cInt x.2.1), .bool x.2.2]
def unnil2 : PV → PV
  | .tup (a :: b :: r) => .tup (unnilI 1 a :: unnilI 1 b :: r)
  | v => v
theorem Res.unnil2 {w : World} {I : Nat → Prop} {base : Nat} {p : PV} {v : Value} {gs : List Nat} (h : Res w I base p v gs) : Res w I base (Ai.unnil2 p) v gs := by
  cases h with
  | one h =>
    have e1 : Ai.unnil2 p = p := by
      cases h with
      | imm h => cases h <;> rfl
      | _ => rfl
    rw [e1]
    exact .one h
  | tup h =>
    cases h with
    | nil => exact .tup .nil
    | cons a b =>
      cases b with
      | nil => exact .tup (.cons a .nil)
      | cons b c => exact .tup (.cons (a.unnilI 1) (.cons (b.unnilI 1) c))
theorem OkA.ice2 {P : Program} {f : FuncId} {args : List PV} {v : PV} (h : OkA P f args (fun r => Ai.unnil2 (Ai.ice r) = v)) : OkA P f args (· = v) := by
  have h := (OkA.iceE h).mono (Q' := fun r => Ai.unnil2 r = v) fun _ ⟨_, q, e⟩ => by rw [e]; exact q
  exact ⟨h.1, fun w I vs hI ha => (h.2 w I vs hI ha).mono fun _ _ ⟨u, r, gs, e1, q, e2, e3, e4, e5⟩ => ⟨u, Ai.unnil2 r, gs, e1, q, e2, e3, e4, e5.unnil2⟩⟩
end Go.Proofs.Ytmlojdpfpccgoaa.Ai
