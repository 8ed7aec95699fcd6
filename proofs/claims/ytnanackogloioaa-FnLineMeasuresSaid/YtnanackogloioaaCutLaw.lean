/- Plain laws on cut-ins. -/
import Derived.Test.YtnanackogloioaaCraft
namespace Go.Proofs.Ytnanackogloioaa.Ai
open Go Go.Proofs
set_option linter.unusedVariables false

/-- Line, Lines, Wide, Side. -/
abbrev CutIn := Int × Int × Int × Int
def cCutIn (x : CutIn) : List PV := [.int .i64 x.1, .int .i64 x.2.1, .int .i64 x.2.2.1, .int .i64 x.2.2.2]

def isCut (x : CutIn) : Bool := inB x.1 0 200 && (inB x.2.1 1 30 && (inB x.2.2.1 1 600 && inB x.2.2.2 0 1))
def beside (x : CutIn) (line : Int) : Bool := inB line x.1 (x.1 + x.2.1 - 1)
def measF (line : Int) : Int → List CutIn → Int
  | m, [] => m
  | m, x :: r => measF line (if beside x line then m - x.2.2.1 else m) r
def clash (x y : CutIn) : Bool := decide (x.2.2.2 = y.2.2.2) && (decide (x.1 < y.1 + y.2.1) && decide (y.1 < x.1 + x.2.1))
def apartC (x : CutIn) (l : List CutIn) : Bool := l.all fun y => !clash x y
theorem apartC_cons (x y : CutIn) (r : List CutIn) : apartC x (y :: r) = (!clash x y && apartC x r) := rfl
/-- The cut-ins from index i on are valid, and clash with none before them. -/
def okFrom (l : List CutIn) (i : Nat) : List CutIn → Bool
  | [] => true
  | x :: r => isCut x && (apartC x (l.take i) && okFrom l (i + 1) r)
def roomC (m : Int) (l : List CutIn) : Bool := (List.range 230).all fun line : Nat => decide (40 ≤ measF line m l)
def goodC (m : Int) (l : List CutIn) : Bool := okFrom l 0 l && (roomC m l && (inB m 40 600 && decide ((l.length : Int) ≤ 10)))

theorem isCut_spec {x : CutIn} (h : isCut x = true) : (0 ≤ x.1 ∧ x.1 ≤ 200) ∧ (1 ≤ x.2.1 ∧ x.2.1 ≤ 30) ∧ (1 ≤ x.2.2.1 ∧ x.2.2.1 ≤ 600) ∧ (0 ≤ x.2.2.2 ∧ x.2.2.2 ≤ 1) := by
  simp only [isCut, Bool.and_eq_true] at h
  exact ⟨inB_spec h.1, inB_spec h.2.1, inB_spec h.2.2.1, inB_spec h.2.2.2⟩

theorem okFrom_mem {l : List CutIn} : ∀ {i : Nat} {r : List CutIn}, okFrom l i r = true → ∀ x ∈ r, isCut x = true
  | _, [], _, x, hx => by cases hx
  | i, y :: r, h, x, hx => by
    simp only [okFrom, Bool.and_eq_true] at h
    rcases List.mem_cons.1 hx with rfl | hx
    · exact h.1
    · exact okFrom_mem h.2.2 x hx

/-- The first line from which on one more cut-in fits. -/
def firstC (m : Int) (l : List CutIn) (x : CutIn) : Nat → Int → Option Int
  | 0, _ => none
  | k + 1, p => if goodC m (l ++ [(p, x.2)]) then some p else firstC m l x k (p + 1)
def firstF (m : Int) (l : List CutIn) (x : CutIn) : Int × Bool :=
  if goodC m l && isCut x then match firstC m l x (201 - x.1).toNat x.1 with
    | some p => (p, true)
    | none => (0, false)
  else (0, false)

theorem firstC_spec {m : Int} {l : List CutIn} {x : CutIn} : ∀ {k : Nat} {p q : Int}, firstC m l x k p = some q → p ≤ q ∧ goodC m (l ++ [(q, x.2)]) = true ∧ (p < q → goodC m (l ++ [(p, x.2)]) = false)
  | 0, _, _, h => by cases h
  | k + 1, p, q, h => by
    unfold firstC at h
    split at h
    · rename_i hg
      obtain rfl := Option.some.inj h
      exact ⟨Int.le_refl _, hg, fun h => absurd h (Int.lt_irrefl _)⟩
    · rename_i hg
      have := firstC_spec h
      exact ⟨by omega, this.2.1, fun _ => by simpa using hg⟩

def addF (m : Int) (l : List CutIn) (x : CutIn) : List CutIn × Bool := if goodC m l && goodC m (l ++ [x]) then (l ++ [x], true) else ([], false)

def shift (x : CutIn) (by_ : Int) : CutIn := (x.1 + by_, x.2)
def moveL (l : List CutIn) (i by_ : Int) : List CutIn := match l[i.toNat]? with
  | some x => l.set i.toNat (shift x by_)
  | none => l
def moveF (m : Int) (l : List CutIn) (i by_ : Int) : List CutIn × Bool :=
  if goodC m l && (inB i 0 (l.length - 1) && (inB by_ (-200) 200 && goodC m (moveL l i by_))) then (moveL l i by_, true) else ([], false)

theorem moveL_length (l : List CutIn) (i b : Int) : (moveL l i b).length = l.length := by
  unfold moveL
  split
  · exact List.length_set
  · rfl

theorem moveL_back (l : List CutIn) (i b : Int) : moveL (moveL l i b) i (-b) = l := by
  unfold moveL
  cases h : l[i.toNat]? with
  | none => simp only [h]
  | some x =>
    obtain ⟨hlt, hx⟩ := List.getElem?_eq_some_iff.1 h
    simp only [List.getElem?_set_self hlt, List.set_set]
    have : shift (shift x b) (-b) = x := by
      obtain ⟨x1, x2⟩ := x
      simp only [shift, Prod.mk.injEq, and_true]
      omega
    rw [this, ← hx]
    exact List.set_getElem_self hlt

theorem move_back {m : Int} {l v : List CutIn} {i b : Int} (h : (v, true) = moveF m l i b) : moveF m v i (-b) = (l, true) ∧ goodC m v = true := by
  unfold moveF at h
  split at h
  case isFalse => simp at h
  rename_i hc
  simp only [Prod.mk.injEq, and_true] at h
  simp only [Bool.and_eq_true] at hc
  obtain ⟨h1, h2, h3, h4⟩ := hc
  have hb := inB_spec h3
  rw [← h] at h4
  refine ⟨?_, h4⟩
  have hback : moveL v i (-b) = l := by rw [h]; exact moveL_back l i b
  have hlen : v.length = l.length := by rw [h]; exact moveL_length l i b
  rw [moveF, hback, if_pos]
  rw [h4, hlen, h2, h1, show inB (-b) (-200) 200 = true by simp [inB]; omega]
  rfl

/-- The first cut-in beside a line at a side. -/
def atFrom (line side : Int) : Int → List CutIn → Option Int
  | _, [] => none
  | i, x :: r => if decide (x.2.2.2 = side) && beside x line then some i else atFrom line side (i + 1) r
def atF (m : Int) (l : List CutIn) (line side : Int) : Int × Bool :=
  if goodC m l && (inB line 0 300 && inB side 0 1) then match atFrom line side 0 l with
    | some i => (i, true)
    | none => (0, false)
  else (0, false)

theorem atFrom_spec {line side : Int} : ∀ {i j : Int} {l : List CutIn}, atFrom line side i l = some j → i ≤ j ∧ j < i + l.length ∧ ∃ x, l[(j - i).toNat]? = some x ∧ x.2.2.2 = side ∧ beside x line = true
  | _, _, [], h => by cases h
  | i, j, x :: r, h => by
    unfold atFrom at h
    split at h
    · rename_i hc
      obtain rfl := Option.some.inj h
      rw [Bool.and_eq_true, decide_eq_true_eq] at hc
      exact ⟨Int.le_refl _, by simp; omega, x, by simp, hc.1, hc.2⟩
    · obtain ⟨h1, h2, y, hy, h3⟩ := atFrom_spec h
      refine ⟨by omega, by simp only [List.length_cons]; omega, y, ?_, h3⟩
      rw [show (j - i).toNat = (j - (i + 1)).toNat + 1 by omega]
      simpa using hy
end Go.Proofs.Ytnanackogloioaa.Ai
