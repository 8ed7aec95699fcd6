/- Contracts of small functions on lists of numbers. -/
import Derived.Test.YtjohfigipllpoaaCur2
import Derived.Test.YtjohfigipllpoaaCraft
import Derived.Test.YtjohfigipllpoaaAiIce
namespace Go.Proofs.Ytjohfigipllpoaa.Ai
open Go Go.Proofs
set_option linter.unusedSimpArgs false
set_option maxRecDepth 10000
set_option maxHeartbeats 4000000
set_option linter.unusedVariables false


theorem OkA.iceI {P : Program} {f : FuncId} {args : List PV} {v : PV} (sz : Nat) (h : OkA P f args (fun r => unnilTI sz (Ai.ice r) = v)) : OkA P f args (· = v) :=
  OkA.unnilI sz ((OkA.iceE h).mono fun _ ⟨_, q, e⟩ => by rw [e]; exact q)
theorem rows_cons {α : Type} (f : α → List PV) (x : α) (l : List α) : rows f (x :: l) = f x :: rows f l := by simp [rows_eq]

section
variable {P : Program} {X : Req → (PV → Prop) → Prop} {K : PV → Prop} {f : FuncId} {args : List PV} {v : Bool}
/-- A call that answers a bool, where one answer can be. -/
theorem r_callBT (h : Std P false X) (hc : OkA P f args (· = .bool v)) (e : v = true) (H : K (.bool true)) : X (.call f false args) K := by subst e; exact r_call h hc H
theorem r_callBF (h : Std P false X) (hc : OkA P f args (· = .bool v)) (e : v = false) (H : K (.bool false)) : X (.call f false args) K := by subst e; exact r_call h hc H
theorem r_callBTO (h : Std P false X) (hc : Ok P f args (· = .bool v)) (e : v = true) (H : K (.bool true)) : X (.call f true args) K := by subst e; exact r_callO h hc H
theorem r_callBFO (h : Std P false X) (hc : Ok P f args (· = .bool v)) (e : v = false) (H : K (.bool false)) : X (.call f true args) K := by subst e; exact r_callO h hc H
theorem r_callBTS (h : Std P true X) (hc : OkA P f args (· = .bool v)) (e : v = true) (H : K (.bool true)) : X (.call f false args) K := by subst e; exact r_callS h hc trivial H
theorem r_callBFS (h : Std P true X) (hc : OkA P f args (· = .bool v)) (e : v = false) (H : K (.bool false)) : X (.call f false args) K := by subst e; exact r_callS h hc trivial H
end

/-- A new row, or nil. -/
noncomputable def orow {α : Type} (e n : Nat) (f : α → List PV) : Option (List α) → PV
  | none => .nil
  | some l => .fr e n (rows f l)
theorem flat_orow {α : Type} {e n : Nat} {f : α → List PV} (hf : ∀ x, ∀ c ∈ f x, flat c) {v : Option (List α)} : ∀ r, r = orow e n f v → flatR r := fun r h => by
  subst h
  cases v with
  | none => trivial
  | some l => exact flat_rows hf l

def allB (ws : List Int) (a b : Int) : Bool := ws.all fun n => inB n a b
theorem allB_mem {ws : List Int} {a b : Int} (h : allB ws a b = true) : ∀ n ∈ ws, a ≤ n ∧ n ≤ b := fun n hn => inB_spec (List.all_eq_true.1 h n hn)
theorem allB_cons (x : Int) (r : List Int) (a b : Int) : allB (x :: r) a b = (inB x a b && allB r a b) := rfl
theorem allB_nil (a b : Int) : allB [] a b = true := rfl

theorem sum_bound {ws : List Int} {B : Int} (hB : 0 ≤ B) (h : ∀ n ∈ ws, 0 ≤ n ∧ n ≤ B) : 0 ≤ ws.sum ∧ ws.sum ≤ B * ws.length := by
  induction ws with
  | nil => simp
  | cons x r ih =>
    have h1 := ih fun n hn => h n (by simp [hn])
    have h2 := h x (by simp)
    simp only [List.sum_cons, List.length_cons, Int.natCast_add, Int.mul_add]
    constructor
    · omega
    · have : B * ((1 : Nat) : Int) = B := by simp
      omega
theorem sum_take {ws : List Int} {i : Nat} {x : Int} (h : ws[i]? = some x) : (ws.take (i + 1)).sum = (ws.take i).sum + x := by
  rw [List.take_add_one, h, List.sum_append]; simp

/-- All partial sums fit. -/
def SumFits (l : List Int) : Prop := ∀ k : Nat, -9223372036854775808 ≤ (l.take k).sum ∧ (l.take k).sum ≤ 9223372036854775807
theorem sumfits_of {l : List Int} (M : Int) (h : ∀ n ∈ l, -M ≤ n ∧ n ≤ M) (hM : M * l.length ≤ 9223372036854775807) : SumFits l := by
  have go : ∀ l : List Int, (∀ n ∈ l, -M ≤ n ∧ n ≤ M) → -(M * l.length) ≤ l.sum ∧ l.sum ≤ M * l.length := by
    intro l hl
    induction l with
    | nil => simp
    | cons x r ih =>
      have h1 := ih fun n hn => hl n (by simp [hn])
      have h2 := hl x (by simp)
      simp only [List.sum_cons, List.length_cons, Int.natCast_add, Int.mul_add]
      have : M * ((1 : Nat) : Int) = M := by simp
      omega
  intro k
  cases l with
  | nil => simp
  | cons x r =>
    have hM0 : 0 ≤ M := by have := h x (by simp); omega
    have h1 := go ((x :: r).take k) fun n hn => h n (List.mem_of_mem_take hn)
    have h2 : M * (((x :: r).take k).length : Int) ≤ M * ((x :: r).length : Int) := Int.mul_le_mul_of_nonneg_left (by have := List.length_take_le' k (x :: r); omega) hM0
    omega

theorem eq_of_takes {α : Type} {a b : List α} (hl : a.length = b.length) {i : Nat} (h : a.take i = b.take i) (hi : a.length ≤ i) : a = b := by
  rwa [List.take_of_length_le hi, List.take_of_length_le (by omega)] at h

/-- An element, 0 outside. -/
def nth (xs : List Int) (i : Nat) : Int := (xs[i]?).getD 0
theorem nth_some {xs : List Int} {i : Nat} {x : Int} (h : xs[i]? = some x) : nth xs i = x := by rw [nth, h]; rfl
theorem nth_left {xs ys : List Int} {i : Nat} (h : i < xs.length) : nth (xs ++ ys) i = nth xs i := by rw [nth, nth, List.getElem?_append_left h]
theorem nth_mid {xs ys : List Int} {v : Int} {i : Nat} (h : xs.length = i) : nth (xs ++ v :: ys) i = v := by
  rw [nth, List.getElem?_append_right (by omega), h]; simp
theorem nth_out {xs : List Int} {i : Nat} (h : xs.length ≤ i) : nth xs i = 0 := by rw [nth, List.getElem?_eq_none h]; rfl
theorem set_mid {xs ys : List Int} {u v : Int} {i : Nat} (h : xs.length = i) : (xs ++ u :: ys).set i v = xs ++ v :: ys := by
  rw [List.set_append_right _ _ (by omega), h]; simp
theorem nth_take {xs : List Int} {n i : Nat} (h : i < n) : nth (xs.take n) i = nth xs i := by rw [nth, nth, List.getElem?_take, if_pos h]
theorem range_next {α : Type} (f : Nat → α) (i : Int) (h0 : 0 ≤ i) {x : α} (hx : x = f i.toNat) : (List.range i.toNat).map f ++ [x] = (List.range (i + 1).toNat).map f := by
  rw [show (i + 1).toNat = i.toNat + 1 by omega, List.range_succ, List.map_append, hx]; rfl

theorem cPick_ex (code : List Int) (a s n : Int) : ∃ r cs, (∃ q, r = PV.int .i64 q ∧ CurTo code a 2 cs ∧ 0 ≤ q ∧ (1 ≤ n → q < n) ∧ q ≤ 65535) := ⟨_, _, 0, rfl, ⟨a, s, rfl, by omega, by omega⟩, by omega, by omega, by omega⟩
theorem cOne_ex (code : List Int) (a s : Int) : ∃ r cs, (∃ q, r = PV.bool q ∧ CurTo code a 2 cs) := ⟨_, _, false, rfl, ⟨a, s, rfl, by omega, by omega⟩⟩
theorem cAmong_ex (code : List Int) (a s : Int) (xs : List Int) (hx : xs ≠ []) : ∃ r cs, (∃ q, r = PV.int .i64 q ∧ CurTo code a 2 cs ∧ q ∈ xs) := ⟨_, _, xs.head hx, rfl, ⟨a, s, rfl, by omega, by omega⟩, List.head_mem hx⟩
end Go.Proofs.Ytjohfigipllpoaa.Ai
