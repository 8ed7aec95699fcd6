/- The laws' functions that number the cells of a slice: walked over concrete worlds. -/
import Derived.Test.YtkdaikliahnenabAiPin
import Derived.Test.YtkdaikliahnenabHelp
import Derived.WalkKit
set_option linter.unusedVariables false
namespace Go.Proofs.Ytkdaikliahnenab.Ai
open Go Go.RowKit Go.Proofs

/-- The first j cells have been numbered from k on. -/
def numW (w : World) (g o : Nat) (k : Int) : Nat → World
  | 0 => w
  | j + 1 => (numW w g o k j).setCell ⟨g, o + j, none⟩ (.int .i64 (k + j))

theorem setCell_heap {w : World} {g i g' : Nat} {v : Value} : (w.setCell ⟨g, i, none⟩ v).heap[g']? = if g = g' then (w.heap[g']?).map (fun
    | .cells c e f => .cells (c.setIfInBounds i v) e f
    | o => o) else w.heap[g']? := by
  unfold World.setCell
  simp only [Array.getElem?_modify]
  split
  · rename_i e
    subst e
    cases hh : w.heap[g]? with
    | none => rfl
    | some ob => cases ob <;> rfl
  · rfl
theorem setCell_cell {w : World} {g i i' : Nat} {v : Value} (h : i ≠ i') : (w.setCell ⟨g, i, none⟩ v).cell? ⟨g, i', none⟩ = w.cell? ⟨g, i', none⟩ := by
  unfold World.cell?
  rw [setCell_heap]
  simp only [if_true]
  cases hh : w.heap[g]? with
  | none => rfl
  | some ob => cases ob <;> simp [h]
theorem setCell_at {w : World} {g i : Nat} {v x : Value} (h : w.cell? ⟨g, i, none⟩ = some x) : (w.setCell ⟨g, i, none⟩ v).cell? ⟨g, i, none⟩ = some v := by
  unfold World.cell? at h ⊢
  rw [setCell_heap]
  simp only [if_true]
  cases hh : w.heap[g]? with
  | none => rw [hh] at h; cases h
  | some ob =>
    rw [hh] at h
    cases ob with
    | cells c e f =>
      simp only [Option.isSome_none, Bool.false_eq_true, if_false, Option.map_some] at h ⊢
      have := (Array.getElem?_eq_some_iff.1 h).1
      simp [this]
    | _ => cases h
theorem setCell_frozen {w : World} {g : Nat} {a : Addr} {i : Nat} {v : Value} : (w.setCell ⟨g, i, none⟩ v).frozen? a = w.frozen? a := by
  unfold World.frozen?
  rw [setCell_heap]
  by_cases e : g = a.block
  · rw [if_pos e]
    cases hh : w.heap[a.block]? with
    | none => rfl
    | some ob =>
      cases ob with
      | cells c e f => obtain ⟨lo, hi⟩ := f; rfl
      | _ => rfl
  · rw [if_neg e]
theorem numW_cell {w : World} {g o : Nat} {k : Int} : ∀ (j i : Nat), j ≤ i → (numW w g o k j).cell? ⟨g, o + i, none⟩ = w.cell? ⟨g, o + i, none⟩
  | 0, _, _ => rfl
  | j + 1, i, h => by
    rw [numW, setCell_cell (by omega)]
    exact numW_cell j i (by omega)
theorem numW_frozen {w : World} {g o : Nat} {k : Int} {a : Addr} : ∀ (j : Nat), (numW w g o k j).frozen? a = w.frozen? a
  | 0 => rfl
  | j + 1 => by rw [numW, setCell_frozen]; exact numW_frozen j

set_option maxHeartbeats 800000 in
structure Num (J : Nat → Prop) (w w' : World) : Prop where
  m : Marked J w w'
  pl : ∀ g, Ai.plain w g → Ai.plain w' g
  frozen : ∀ a, w'.frozen? a = w.frozen? a
  cell : ∀ g i v, w.cell? ⟨g, i, none⟩ = some v → w'.cell? ⟨g, i, none⟩ = some v ∨ ((∃ n, v = .int .i64 n) ∧ ∃ n', w'.cell? ⟨g, i, none⟩ = some (.int .i64 n') ∧ IntKind.i64.wrap n' = n')

theorem Num.refl (J : Nat → Prop) (w : World) : Num J w w := ⟨⟨rfl, rfl, rfl, rfl, fun _ _ => rfl⟩, fun _ h => h, fun _ => rfl, fun _ _ _ h => .inl h⟩
theorem Num.trans {J : Nat → Prop} {a b c : World} (h : Num J a b) (k : Num J b c) : Num J a c := by
  refine ⟨⟨k.m.os.trans h.m.os, k.m.tape.trans h.m.tape, k.m.output.trans h.m.output, k.m.size.trans h.m.size, fun g hg => (k.m.block g hg).trans (h.m.block g hg)⟩, fun g hg => k.pl g (h.pl g hg), fun x => (k.frozen x).trans (h.frozen x), fun g i v hv => ?_⟩
  rcases h.cell g i v hv with h1 | ⟨h1, n, h2, h3⟩
  · exact k.cell g i v h1
  · rcases k.cell g i _ h2 with h4 | ⟨_, h5⟩
    · exact .inr ⟨h1, n, h4, h3⟩
    · exact .inr ⟨h1, h5⟩
theorem Num.plain {J : Nat → Prop} {w w' : World} (h : Num J w w') {g : Nat} (hp : Ai.plain w g) : Ai.plain w' g := h.pl g hp
theorem Num.set {J : Nat → Prop} {w : World} {g i : Nat} {x y : Int} (hJ : J g) (h : w.cell? ⟨g, i, none⟩ = some (.int .i64 x)) (hy : IntKind.i64.wrap y = y) : Num J w (w.setCell ⟨g, i, none⟩ (.int .i64 y)) := by
  refine ⟨⟨rfl, rfl, rfl, by simp [World.setCell], fun g' hg' => ?_⟩, fun g' ⟨arr, e, hh⟩ => ?_, fun a => setCell_frozen, fun g' i' v hv => ?_⟩
  rotate_left
  · unfold Ai.plain
    rw [setCell_heap, hh]
    split
    · exact ⟨_, _, rfl⟩
    · exact ⟨_, _, rfl⟩
  rotate_right
  · rw [setCell_heap, if_neg fun e : g = g' => hg' (e ▸ hJ)]
  · by_cases e : g = g'
    · subst e
      by_cases e' : i = i'
      · subst e'
        rw [h] at hv
        obtain rfl := Option.some.inj hv
        exact .inr ⟨⟨x, rfl⟩, y, setCell_at h, hy⟩
      · exact .inl ((setCell_cell e').trans hv)
    · left
      unfold World.cell? at hv ⊢
      rw [setCell_heap, if_neg e]
      exact hv
theorem numW_num {J : Nat → Prop} {w : World} {g o n : Nat} {k : Int} (hJ : 0 < n → J g) (hc : ∀ j, j < n → ∃ x, w.cell? ⟨g, o + j, none⟩ = some (.int .i64 x)) (h0 : 0 ≤ k) (h1 : k + n ≤ 9000000000000000000) : Num J w (numW w g o k n) := by
  have key : ∀ j, j ≤ n → Num J w (numW w g o k j) := by
    intro j
    induction j with
    | zero => exact fun _ => Num.refl J w
    | succ j ih =>
      intro h
      obtain ⟨x, hx⟩ := hc j (by omega)
      exact (ih (by omega)).trans (Num.set (hJ (by omega)) ((numW_cell j j (Nat.le_refl _)).trans hx) (wrap64 (by omega) (by omega)))
  exact key n (Nat.le_refl _)
theorem numW_at {w : World} {g o : Nat} {k : Int} : ∀ (n j : Nat), j < n → (∀ j, j < n → ∃ x, w.cell? ⟨g, o + j, none⟩ = some x) → (numW w g o k n).cell? ⟨g, o + j, none⟩ = some (.int .i64 (k + j))
  | n + 1, j, h, hc => by
    rw [numW]
    by_cases e : j = n
    · subst e
      obtain ⟨x, hx⟩ := hc j (by omega)
      exact setCell_at ((numW_cell j j (Nat.le_refl _)).trans hx)
    · rw [setCell_cell (by omega)]
      exact numW_at n j (by omega) fun j hj => hc j (by omega)

/-- The numbers from k on. -/
def upM (k : Int) (n : Nat) : List Int := (List.range n).map fun (j : Nat) => k + (j : Int)
theorem upF_len (k : Int) (n : Nat) : (upM k n).length = n := by simp [upM]

theorem rep_ints {w : World} {I : Nat → Prop} : ∀ {l : List Int} {vs : List Value}, RepIs w I (l.map cInt).flatten vs → vs = l.map (Value.int .i64) ∧ ∀ x ∈ l, IntKind.i64.wrap x = x
  | [], _, h => by cases h; exact ⟨rfl, fun x hx => by cases hx⟩
  | x :: r, _, h => by
    simp only [List.map_cons, List.flatten_cons, cInt, List.cons_append, List.nil_append] at h
    cases h with
    | cons h1 h2 =>
      cases h1 with
      | int k n hn =>
        obtain ⟨rfl, h3⟩ := rep_ints h2
        refine ⟨rfl, fun y hy => ?_⟩
        rcases List.mem_cons.1 hy with rfl | hy
        · exact hn
        · exact h3 y hy
theorem rep_ofInts {w : World} {I : Nat → Prop} : ∀ {l : List Int}, (∀ x ∈ l, IntKind.i64.wrap x = x) → RepIs w I (l.map cInt).flatten (l.map (Value.int .i64))
  | [], _ => .nil
  | x :: r, h => .cons (.int _ _ (h x (by simp))) (rep_ofInts fun y hy => h y (by simp [hy]))

/-- A slice of numbers, seen concretely. -/
theorem ints_shape {w : World} {J : Nat → Prop} {l : List Int} {v : Value} (h : RepI w J (.isl 1 (rows cInt l)) v) :
    ∃ A g o c, v = .slice A l.length c ∧ l.length ≤ c ∧ c ≤ maxLen ∧ (0 < l.length → A = some ⟨g, o, none⟩ ∧ J g) ∧ ∀ j, j < l.length → ∃ x, w.cell? ⟨g, o + j, none⟩ = some (.int .i64 x) := by
  rw [rows_eq] at h
  generalize hes : l.map cInt = es at h
  cases h with
  | isl0 sz A c hm =>
    have : l = [] := List.map_eq_nil_iff.1 hes
    subst this
    exact ⟨A, 0, 0, c, rfl, Nat.zero_le _, hm, fun h => absurd h (by simp), fun j hj => absurd hj (by simp)⟩
  | isl sz es g o c vs hl hr hI hcell hc hm =>
    subst hes
    obtain ⟨rfl, hw⟩ := rep_ints hr
    refine ⟨_, g, o, c, by rw [List.length_map], by simpa using hc, hm, fun _ => ⟨rfl, hI⟩, fun j hj => ?_⟩
    exact ⟨l[j], hcell j _ (by simp [hj])⟩
theorem ints_rep {w : World} {J : Nat → Prop} {l : List Int} {A : Option Addr} {g o c : Nat} (hA : 0 < l.length → A = some ⟨g, o, none⟩ ∧ J g) (h1 : l.length ≤ c) (h2 : c ≤ maxLen) (hw : ∀ x ∈ l, IntKind.i64.wrap x = x)
    (hc : ∀ j x, l[j]? = some x → w.cell? ⟨g, o + j, none⟩ = some (.int .i64 x)) : RepI w J (.isl 1 (rows cInt l)) (.slice A l.length c) := by
  rw [rows_eq]
  cases l with
  | nil => exact .isl0 1 A c h2
  | cons x r =>
    obtain ⟨rfl, hJ⟩ := hA (by simp)
    have := RepI.isl (w := w) (I := J) 1 ((x :: r).map cInt) g o c ((x :: r).map (Value.int .i64)) (fun e he => by obtain ⟨y, _, rfl⟩ := List.mem_map.1 he; rfl) (rep_ofInts hw) hJ (fun j v hj => by
      rw [List.getElem?_map] at hj
      cases hh : (x :: r)[j]? with
      | none => rw [hh] at hj; cases hj
      | some y => rw [hh] at hj; obtain rfl := Option.some.inj hj; exact hc j y hh) (by simpa using h1) h2
    simpa using this

theorem frozen_plain {w : World} {g : Nat} (h : plain w g) (a : Nat) : w.frozen? ⟨g, a, none⟩ = false := by
  obtain ⟨arr, e, h⟩ := h
  simp [World.frozen?, h]

/-- The numbers of a slice after another one has been numbered. -/
theorem ints_num {w w' : World} {J : Nat → Prop} {l : List Int} {v : Value} (h : RepI w J (.isl 1 (rows cInt l)) v) (hn : Num J w w') (hw : ∀ x ∈ l, IntKind.i64.wrap x = x) : ∃ l' : List Int, l'.length = l.length ∧ RepI w' J (.isl 1 (rows cInt l')) v := by
  have h' := h
  rw [rows_eq] at h'
  generalize hes : l.map cInt = es at h'
  cases h' with
  | isl0 sz A c hm =>
    have : l = [] := List.map_eq_nil_iff.1 hes
    subst this
    exact ⟨[], rfl, by rw [rows_eq]; exact .isl0 1 A c hm⟩
  | isl sz es g o c vs hl hr hI hcell hc hm =>
    subst hes
    obtain ⟨rfl, hw⟩ := rep_ints hr
    have hx : ∀ j : Nat, ∃ y : Int, j < l.length → w'.cell? ⟨g, o + j, none⟩ = some (.int .i64 y) ∧ IntKind.i64.wrap y = y := fun j => by
      by_cases hj : j < l.length
      · have h1 := hcell j _ (by simp [hj] : (l.map (Value.int .i64))[j]? = some (.int .i64 l[j]))
        rcases hn.cell _ _ _ h1 with h2 | ⟨_, y, h2, h3⟩
        · exact ⟨l[j], fun _ => ⟨h2, hw _ (by simp)⟩⟩
        · exact ⟨y, fun _ => ⟨h2, h3⟩⟩
      · exact ⟨0, fun h => absurd h hj⟩
    refine ⟨(List.range l.length).map fun j => (hx j).choose, by simp, ?_⟩
    have e : (l.map cInt).length = ((List.range l.length).map fun j => (hx j).choose).length := by simp
    rw [e]
    refine ints_rep (fun _ => ⟨rfl, hI⟩) (by simpa using hc) hm (fun x hx' => ?_) fun j x hj => ?_
    · obtain ⟨j, hj, rfl⟩ := List.mem_map.1 hx'
      exact ((hx j).choose_spec (by simpa using hj)).2
    · rw [List.getElem?_map] at hj
      by_cases hjl : j < l.length
      · rw [List.getElem?_range hjl] at hj
        obtain rfl := Option.some.inj hj
        exact ((hx j).choose_spec hjl).1
      · rw [List.getElem?_eq_none (by simpa using hjl)] at hj; cases hj

theorem wrapsOf {w : World} {J : Nat → Prop} {l : List Int} {v : Value} (h : RepI w J (.isl 1 (rows cInt l)) v) : ∀ x ∈ l, IntKind.i64.wrap x = x := by
  rw [rows_eq] at h
  generalize hes : l.map cInt = es at h
  cases h with
  | isl0 sz A c hm =>
    have : l = [] := List.map_eq_nil_iff.1 hes
    subst this
    intro x hx; cases hx
  | isl sz es g o c vs hl hr hI hcell hc hm =>
    subst hes
    exact (rep_ints hr).2

theorem isl_notInt {w : World} {J : Nat → Prop} {sz : Nat} {es : List (List PV)} {v : Value} (h : RepI w J (.isl sz es) v) (n : Int) : v ≠ .int .i64 n := by
  cases h <;> simp

theorem rows_shape {α : Type} {w : World} {J : Nat → Prop} {n : Nat} {f : α → List PV} (hf : ∀ x, (f x).length = n) {l : List α} {v : Value} (h : RepI w J (.isl n (rows f l)) v) :
    ∃ A g o c, v = .slice A l.length c ∧ l.length ≤ maxLen ∧ (0 < l.length → A = some ⟨g, o, none⟩ ∧ J g) ∧ ∀ j x, l[j]? = some x → ∃ us, RepIs w J (f x) us ∧ ∀ i u, us[i]? = some u → w.cell? ⟨g, o + (j * n + i), none⟩ = some u := by
  rw [rows_eq] at h
  generalize hes : l.map f = es at h
  cases h with
  | isl0 sz A c hm =>
    have : l = [] := List.map_eq_nil_iff.1 hes
    subst this
    exact ⟨A, 0, 0, c, rfl, Nat.zero_le _, fun h => absurd h (by simp), fun j x hx => by simp at hx⟩
  | isl sz es g o c vs hl hr hI hcell hc hm =>
    subst hes
    refine ⟨_, g, o, c, by rw [List.length_map], Nat.le_trans (by simpa using hc) hm, fun _ => ⟨rfl, hI⟩, fun j x hx => ?_⟩
    obtain ⟨us, h1, h2⟩ := row_elem hl (show (l.map f)[j]? = some (f x) by rw [List.getElem?_map, hx]; rfl) hr
    exact ⟨us, h1, fun i u hu => hcell _ _ (h2 i u hu)⟩

def sumN (l : List Nat) : Nat := l.foldr (· + ·) 0
theorem sumN_take (l : List Nat) (j x : Nat) (h : l[j]? = some x) : sumN (l.take (j + 1)) = sumN (l.take j) + x := by
  induction l generalizing j with
  | nil => simp at h
  | cons a r ih =>
    cases j with
    | zero => simp at h; subst h; simp [sumN]
    | succ j =>
      have := ih j (by simpa using h)
      simp only [List.take_succ_cons, sumN, List.foldr_cons] at this ⊢
      omega
theorem sumN_le (l : List Nat) (j : Nat) : sumN (l.take j) ≤ sumN l := by
  induction l generalizing j with
  | nil => simp
  | cons a r ih =>
    cases j with
    | zero => simp [sumN]
    | succ j =>
      have := ih j
      simp only [List.take_succ_cons, sumN, List.foldr_cons] at this ⊢
      omega

set_option maxHeartbeats 1600000 in
theorem num_int {J : Nat → Prop} {w w' : World} {g i : Nat} {y : Int} (h : Num J w w') (hc : w.cell? ⟨g, i, none⟩ = some (.int .i64 y)) : ∃ z, w'.cell? ⟨g, i, none⟩ = some (.int .i64 z) := by
  rcases h.cell _ _ _ hc with h | ⟨_, z, h, _⟩
  · exact ⟨y, h⟩
  · exact ⟨z, h⟩

set_option maxHeartbeats 1600000 in
theorem sumN_bound (l : List Nat) (n : Nat) (h : ∀ x ∈ l, x ≤ n) : sumN l ≤ l.length * n := by
  induction l with
  | nil => simp [sumN]
  | cons a r ih =>
    have h1 := ih fun x hx => h x (by simp [hx])
    have h2 := h a (by simp)
    simp only [sumN, List.foldr_cons, List.length_cons, Nat.succ_mul] at h1 ⊢
    omega

end Go.Proofs.Ytkdaikliahnenab.Ai
