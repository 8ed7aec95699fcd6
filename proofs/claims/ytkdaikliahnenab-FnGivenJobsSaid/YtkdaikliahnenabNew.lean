/- The laws' functions that copy rows of rows: what they hand back lies in new blocks, all of it. Walked over concrete worlds. -/
import Derived.Test.YtkdaikliahnenabMark
import Derived.Test.YtkdaikliahnenabHelp2
import Derived.Test.YtkdaikliahnenabRare
set_option linter.unusedVariables false
namespace Go.Proofs.Ytkdaikliahnenab.Ai
open Go Go.RowKit Go.Proofs

/-- Blocks made between two worlds that may be written to. -/
def fresh (w w' : World) (g : Nat) : Prop := w.heap.size ≤ g ∧ g < w'.heap.size ∧ plain w' g

theorem bcell {W w1 : World} (hb : Below W.heap.size W w1) : (∀ b o, b < W.heap.size → w1.cell? ⟨b, o, none⟩ = W.cell? ⟨b, o, none⟩) ∧ (∀ b o, b < W.heap.size → w1.frozen? ⟨b, o, none⟩ = W.frozen? ⟨b, o, none⟩) :=
  ⟨fun b o h => hb.cell (p := ⟨b, o, none⟩) h, fun b o h => hb.frozen (p := ⟨b, o, none⟩) h⟩

theorem isl_shape {w : World} {I : Nat → Prop} {sz : Nat} {es : List (List PV)} {v : Value} (h : RepI w I (.isl sz es) v) : ∃ A n c, v = .slice A n c := by
  cases h <;> exact ⟨_, _, _, rfl⟩

def newB (w w' : World) (g : Nat) : Prop := w.heap.size < g ∧ g < w'.heap.size ∧ plain w' g

/-- A row in the block that was made first: its first j elements are laid. -/
structure RInv {α : Type} (w : World) (f : α → List PV) (n : Nat) (ps : List α) (N j : Nat) (wr : World) : Prop where
  below : Below w.heap.size w wr
  blk : ∃ arr e, wr.heap[w.heap.size]? = some (.cells arr e (0, 0)) ∧ arr.size = N * n
  el : ∀ i x, i < j → ps[i]? = some x → ∃ us, RepIs wr (newB w wr) (f x) us ∧ ∀ m u, us[m]? = some u → wr.cell? ⟨w.heap.size, i * n + m, none⟩ = some u

theorem RInv.size {α : Type} {w : World} {f : α → List PV} {n : Nat} {ps : List α} {N j : Nat} {wr : World} (h : RInv w f n ps N j wr) : w.heap.size < wr.heap.size := by
  obtain ⟨arr, e, hh, _⟩ := h.blk
  exact (Array.getElem?_eq_some_iff.1 hh).1
theorem RInv.cell {α : Type} {w : World} {f : α → List PV} {n : Nat} {ps : List α} {N j : Nat} {wr : World} (h : RInv w f n ps N j wr) {i : Nat} (hi : i < N * n) : ∃ y, wr.cell? ⟨w.heap.size, i, none⟩ = some y := by
  obtain ⟨arr, e, hh, hs⟩ := h.blk
  exact ⟨arr[i], by simp [World.cell?, hh, hs, hi]⟩
theorem RInv.frozen {α : Type} {w : World} {f : α → List PV} {n : Nat} {ps : List α} {N j : Nat} {wr : World} (h : RInv w f n ps N j wr) (i : Nat) : wr.frozen? ⟨w.heap.size, i, none⟩ = false := by
  obtain ⟨arr, e, hh, hs⟩ := h.blk
  exact frozen_plain ⟨arr, e, hh⟩ i

theorem RInv.step {α : Type} {w : World} {f : α → List PV} {n : Nat} {ps : List α} {N j : Nat} {wr w1 w2 : World} (h : RInv w f n ps N j wr) (hn : ∀ x, (f x).length = n) (hb1 : Below wr.heap.size wr w1) (h2 : Below w.heap.size w1 w2) (hsz : w2.heap.size = w1.heap.size)
    (ho : ∀ g, g ≠ w.heap.size → w2.heap[g]? = w1.heap[g]?) (hG : ∀ arr e, w1.heap[w.heap.size]? = some (.cells arr e (0, 0)) → ∃ arr', w2.heap[w.heap.size]? = some (.cells arr' e (0, 0)) ∧ arr'.size = arr.size)
    (hkeep : ∀ i, i < j * n → w2.cell? ⟨w.heap.size, i, none⟩ = w1.cell? ⟨w.heap.size, i, none⟩) {x : α} (hx : ps[j]? = some x) {us : List Value} (hus : RepIs w1 (fresh wr w1) (f x) us)
    (hc : ∀ m u, us[m]? = some u → w2.cell? ⟨w.heap.size, j * n + m, none⟩ = some u) : RInv w f n ps N (j + 1) w2 := by
  have hs := h.size
  refine ⟨(h.below.trans (hb1.mono h.below.size)).trans h2, ?_, fun i y hi hy => ?_⟩
  · obtain ⟨arr, e, hh, hsz'⟩ := h.blk
    obtain ⟨arr', ha, hb⟩ := hG arr e ((hb1.block _ hs).trans hh)
    exact ⟨arr', e, ha, hb.trans hsz'⟩
  · by_cases e : i = j
    · subst e
      rw [hx] at hy
      obtain rfl := Option.some.inj hy
      refine ⟨us, hus.mono fun g hg => ?_, hc⟩
      have e1 := ho g (by have := hg.1; omega)
      exact ⟨⟨by have := hg.1; omega, by rw [hsz]; exact hg.2.1, hg.2.2.keep e1⟩, e1⟩
    · obtain ⟨us', h3, h4⟩ := h.el i y (by omega) hy
      refine ⟨us', h3.mono fun g hg => ?_, fun m u hu => ?_⟩
      · have e1 : w2.heap[g]? = wr.heap[g]? := (ho g (by have := hg.1; omega)).trans (hb1.block g hg.2.1)
        exact ⟨⟨hg.1, by rw [hsz]; exact Nat.lt_of_lt_of_le hg.2.1 hb1.size, hg.2.2.keep e1⟩, e1⟩
      · have hm : m < n := by
          have := (List.getElem?_eq_some_iff.1 hu).1
          rw [← h3.all2.length, hn] at this
          exact this
        have hlt : i * n + m < j * n := by
          have : (i + 1) * n ≤ j * n := Nat.mul_le_mul_right n (by omega)
          rw [Nat.succ_mul] at this
          omega
        rw [hkeep _ hlt, hb1.cell (p := ⟨w.heap.size, i * n + m, none⟩) hs]
        exact h4 m u hu

theorem rows_build {α : Type} {w : World} {I : Nat → Prop} {G n : Nat} {f : α → List PV} (hf : ∀ x, (f x).length = n) : ∀ (l : List α) (k : Nat), (∀ i x, l[i]? = some x → ∃ us, RepIs w I (f x) us ∧ ∀ m u, us[m]? = some u → w.cell? ⟨G, (k + i) * n + m, none⟩ = some u) →
    ∃ vs, RepIs w I (l.map f).flatten vs ∧ ∀ j v, vs[j]? = some v → w.cell? ⟨G, k * n + j, none⟩ = some v
  | [], _, _ => ⟨[], .nil, fun j v h => by simp at h⟩
  | x :: r, k, h => by
    obtain ⟨us, h1, h2⟩ := h 0 x rfl
    obtain ⟨vs, h3, h4⟩ := rows_build hf r (k + 1) fun i y hy => by
      obtain ⟨us', h5, h6⟩ := h (i + 1) y (by simpa using hy)
      exact ⟨us', h5, fun m u hu => by rw [show k + 1 + i = k + (i + 1) by omega]; exact h6 m u hu⟩
    refine ⟨us ++ vs, ?_, fun j v hj => ?_⟩
    · rw [List.map_cons, List.flatten_cons]
      exact RepIs.of (h1.all2.app h3.all2)
    · have hl : us.length = n := by rw [← h1.all2.length, hf]
      rw [List.getElem?_append] at hj
      split at hj
      · have := h2 j v hj
        rwa [Nat.add_zero] at this
      · rename_i hlt
        have := h4 _ v hj
        rw [Nat.succ_mul, hl] at this
        rwa [show k * n + n + (j - n) = k * n + j by omega] at this

theorem RInv.done {α : Type} {w : World} {f : α → List PV} {n : Nat} {ps : List α} {wr : World} (h : RInv w f n ps ps.length ps.length wr) (hf : ∀ x, (f x).length = n) (hm : ps.length ≤ maxLen) :
    RepI wr (fresh w wr) (.isl n (rows f ps)) (.slice (some ⟨w.heap.size, 0, none⟩) ps.length ps.length) := by
  obtain ⟨vs, h1, h2⟩ := rows_build (G := w.heap.size) hf ps 0 fun i x hx => by
    obtain ⟨us, h3, h4⟩ := h.el i x (List.getElem?_eq_some_iff.1 hx).1 hx
    exact ⟨us, h3, fun m u hu => by rw [Nat.zero_add]; exact h4 m u hu⟩
  rw [rows_eq]
  have hG : fresh w wr w.heap.size := by
    obtain ⟨arr, e, hh, _⟩ := h.blk
    exact ⟨Nat.le_refl _, h.size, arr, e, hh⟩
  have := RepI.isl (w := wr) (I := fresh w wr) n (ps.map f) w.heap.size 0 ps.length vs (fun e he => by obtain ⟨y, _, rfl⟩ := List.mem_map.1 he; exact hf y) (h1.weak fun g hg => ⟨Nat.le_of_lt hg.1, hg.2⟩) hG
    (fun j v hj => by have := h2 j v hj; rwa [Nat.zero_mul] at this) (by simp) hm
  simpa using this

set_option maxHeartbeats 1600000 in
set_option maxRecDepth 100000 in
theorem new_of {P : Program} {f : FuncId} {p : PV} {sz : Nat} {es : List (List PV)} (hc : Callable P f) (h : ∀ (w : World) (I : Nat → Prop) (v : Value), RepI w I p v → (∀ g, I g → g < w.heap.size) →
    Calls P f #[v] w fun e w' => ∃ A n c, e = .returned (.slice A n c) ∧ Below w.heap.size w w' ∧ RepI w' (fresh w w') (.isl sz es) (.slice A n c)) (hp : ∀ cs, p ≠ .agg cs) : OkG false P f [p] (· = .isl sz es) := by
  refine ⟨hc, fun w I vs hI ha => ?_⟩
  cases ha with
  | cons ha hn =>
    cases hn
    cases ha with
    | agg cs _ _ => exact absurd rfl (hp cs)
    | one ha =>
      refine (h w I _ ha hI).mono ?_
      rintro e w' ⟨A, n, c, rfl, hb, hr⟩
      exact ⟨_, _, [], rfl, rfl, hb, by simp, by simp, .one (.imm (hr.weak fun g hg => ⟨.inr hg.1, hg.2.1, by simp, fun _ => hg.2.2⟩))⟩

theorem intN_le (l : List Int) (h : (l.length : Int) ≤ 1048576) : l.length ≤ 2000000000000 := by omega
theorem craftN_le (cs : List Craft) (h : SmallCraftS cs) : sumN (cs.map fun c => c.1.length + 1) ≤ 2000000000000 := by
  have h1 := sumN_bound (cs.map fun c => c.1.length + 1) 1048577 fun x hx => by
    obtain ⟨c, hc, rfl⟩ := List.mem_map.1 hx
    have := h.2 c hc
    unfold SmallCraft at this
    omega
  rw [List.length_map] at h1
  have h2 := h.1
  have : cs.length * 1048577 ≤ 1048576 * 1048577 := Nat.mul_le_mul_right _ (by omega)
  omega
theorem ssN_le (ps : List (List Int)) (h : SmallSS ps) : sumN (ps.map List.length) ≤ 2000000000000 := by
  have h1 := sumN_bound (ps.map List.length) 1048577 fun x hx => by
    obtain ⟨c, hc, rfl⟩ := List.mem_map.1 hx
    have := h.2 c hc
    omega
  rw [List.length_map] at h1
  have h2 := h.1
  have : ps.length * 1048577 ≤ 1048576 * 1048577 := Nat.mul_le_mul_right _ (by omega)
  omega
end Go.Proofs.Ytkdaikliahnenab.Ai
