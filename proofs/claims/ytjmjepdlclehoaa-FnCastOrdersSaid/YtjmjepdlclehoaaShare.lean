/- impl.ShareOfMachines: its closure, which calls itself. -/
import Derived.Test.YtjmjepdlclehoaaBest2
namespace Go.Proofs.Ytjmjepdlclehoaa.Ai
open Go Go.Proofs Go.RowKit
set_option linter.unusedSimpArgs false
set_option linter.unusedVariables false

theorem pick_snoc (z : Bool) (x : Int) : ∀ (s : List Int) (i : Int), pickG z i (s ++ [x]) = pickG z i s ++ if (decide (x = 0) == z) = true then [i + s.length] else []
  | [], i => by simp [pickG]
  | k :: r, i => by
    rw [List.cons_append, pickG, pickG, pick_snoc z x r (i + 1)]
    have e : i + 1 + (r.length : Int) = i + ((k :: r).length : Int) := by simp only [List.length_cons]; omega
    split <;> simp [e]
theorem pick_mem (z : Bool) : ∀ (s : List Int) (i x : Int), x ∈ pickG z i s → ∃ j : Nat, x = i + j ∧ ∃ y, s[j]? = some y ∧ (decide (y = 0) == z) = true
  | [], i, x, h => by simp [pickG] at h
  | k :: r, i, x, h => by
    rw [pickG] at h
    have go : x ∈ pickG z (i + 1) r → ∃ j : Nat, x = i + j ∧ ∃ y, (k :: r)[j]? = some y ∧ (decide (y = 0) == z) = true := fun h => by
      obtain ⟨j, e, y, hy, hz⟩ := pick_mem z r (i + 1) x h
      exact ⟨j + 1, by omega, y, by simpa using hy, hz⟩
    split at h
    · rename_i hc
      rcases List.mem_cons.1 h with rfl | h
      · exact ⟨0, by simp, k, rfl, hc⟩
      · exact go h
    · exact go h
theorem pick_disj {s : List Int} {x : Int} (h1 : x ∈ pickG true 0 s) (h2 : x ∈ pickG false 0 s) : False := by
  obtain ⟨j, e, y, hy, hz⟩ := pick_mem true s 0 x h1
  obtain ⟨k, e2, y2, hy2, hz2⟩ := pick_mem false s 0 x h2
  obtain rfl : j = k := by omega
  obtain rfl := Option.some.inj (hy.symm.trans hy2)
  revert hz hz2
  cases decide (y = 0) <;> simp
def sharesFrom (k : Nat) (o : List Int) : List (List Int) := (sharesL k).map (o ++ ·)
theorem sharesFrom_succ (k : Nat) (o : List Int) : sharesFrom (k + 1) o = sharesFrom k (o ++ [0]) ++ sharesFrom k (o ++ [1]) := by
  unfold sharesFrom
  rw [sharesL, List.map_append, List.map_map, List.map_map]
  simp only [Function.comp_def, List.append_assoc, List.cons_append, List.nil_append]

/-- Two machines' boxes, one of castings, one that holds the closure itself. -/
structure ShareEnv (B0 bm bn bl bx : Nat) (m n : CMach) (l : List Casting) (vl vx : Value) (w : World) : Prop where
  mb : w.heap[bm]? = some (.cells #[.int .i64 m.1, .int .i64 m.2.1, .int .i64 m.2.2] 25 (0, 0))
  nb : w.heap[bn]? = some (.cells #[.int .i64 n.1, .int .i64 n.2.1, .int .i64 n.2.2] 25 (0, 0))
  lb : w.heap[bl]? = some (.cells #[vl] 26 (0, 0))
  xb : w.heap[bx]? = some (.cells #[vx] 85 (0, 0))
  row : RepI w (fun k => k < B0) (.isl 2 (rows cCasting l)) vl
  b0 : B0 ≤ w.heap.size
section
variable {B0 bm bn bl bx bb bs : Nat} {m n : CMach} {l : List Casting} {vl vx : Value} {w w' : World}
theorem ShareEnv.upd {S : Nat → Prop} (h : ShareEnv B0 bm bn bl bx m n l vl vx w) (hu : Upd S w w') (hS : ∀ k, S k → B0 ≤ k ∧ k ≠ bm ∧ k ≠ bn ∧ k ≠ bl ∧ k ≠ bx) : ShareEnv B0 bm bn bl bx m n l vl vx w' := by
  obtain ⟨h1, h2, h3, h4, h5, h6⟩ := h
  refine ⟨?_, ?_, ?_, ?_, h5.mono fun g hg => ⟨hg, hu.block g (by omega) fun e => by have := (hS g e).1; omega⟩, Nat.le_trans h6 hu.size⟩
  · rw [hu.block _ (Array.getElem?_eq_some_iff.1 h1).1 fun e => (hS _ e).2.1 rfl]; exact h1
  · rw [hu.block _ (Array.getElem?_eq_some_iff.1 h2).1 fun e => (hS _ e).2.2.1 rfl]; exact h2
  · rw [hu.block _ (Array.getElem?_eq_some_iff.1 h3).1 fun e => (hS _ e).2.2.2.1 rfl]; exact h3
  · rw [hu.block _ (Array.getElem?_eq_some_iff.1 h4).1 fun e => (hS _ e).2.2.2.2 rfl]; exact h4
theorem ShareEnv.below (h : ShareEnv B0 bm bn bl bx m n l vl vx w) (hu : Below w.heap.size w w') : ShareEnv B0 bm bn bl bx m n l vl vx w' := h.upd (Upd.of (S := fun _ => False) hu) fun _ e => e.elim
theorem ShareEnv.apart {a : List Int × Int} (h : ShareEnv B0 bm bn bl bx m n l vl vx w) (f : Found B0 bb bs w a) : ∀ k, k = bb ∨ k = bs → B0 ≤ k ∧ k ≠ bm ∧ k ≠ bn ∧ k ≠ bl ∧ k ≠ bx := by
  obtain ⟨h1, h2, h3, h4, -, -⟩ := h
  obtain ⟨f1, ⟨vb, f2, -, -⟩, f3, f4⟩ := f
  rintro k (rfl | rfl)
  · exact ⟨f3, fun e => by subst e; rw [h1] at f2; simp at f2, fun e => by subst e; rw [h2] at f2; simp at f2, fun e => by subst e; rw [h3] at f2; simp at f2, fun e => by subst e; rw [h4] at f2; simp at f2⟩
  · exact ⟨f4, fun e => by subst e; rw [h1] at f1; simp at f1, fun e => by subst e; rw [h2] at f1; simp at f1, fun e => by subst e; rw [h3] at f1; simp at f1, fun e => by subst e; rw [h4] at f1; simp at f1⟩
end

/-- Two growing rows of numbers in blocks of their own. -/
structure TwoRows (w : World) (B : Nat) (v1 v2 : Value) (p q : List Int) : Prop where
  one : OwnI w B v1 p
  two : OwnI w B v2 q
  ne : v1.ownBlock ≠ v2.ownBlock
  e1 : p = [] → ∃ g, v1 = .slice (some ⟨g, 0, none⟩) 0 0
  e2 : q = [] → ∃ g, v2 = .slice (some ⟨g, 0, none⟩) 0 0
theorem own_some {w : World} {B : Nat} {v : Value} {p : List Int} (h : OwnI w B v p) (hp : p ≠ []) : ∃ g cap cur, v = .slice (some ⟨g, 0, none⟩) p.length cap ∧ w.heap[g]? = some (.cells cur 3 (0, 0)) ∧ p.length ≤ cap ∧ cur.size = cap ∧ cur.toList.take p.length = p.map (.int .i64) := by
  obtain ⟨-, ⟨rfl, hn⟩ | ⟨g, cap, cur, rfl, hb, hg, h1, h2, h3, h4⟩⟩ := h
  · exact absurd (List.length_eq_zero_iff.1 hn) hp
  · exact ⟨g, cap, cur, rfl, hg, h1, by omega, by simpa using h4⟩
theorem own_size0 {w : World} {B g : Nat} {p : List Int} (h : OwnI w B (.slice (some ⟨g, 0, none⟩) 0 0) p) : ∃ cur, w.heap[g]? = some (.cells cur 3 (0, 0)) ∧ cur.size = 0 := by
  obtain ⟨-, ⟨h0, hn⟩ | ⟨g2, cap, cur, h0, hb, hg, h1, h2, h3, h4⟩⟩ := h
  · cases h0
  · injection h0 with a b c
    injection a with a
    injection a with a
    subst c; subst a
    exact ⟨cur, hg, by omega⟩
/-- Rows that hold nothing in common lie apart. -/
theorem rows_apart {w : World} {B : Nat} {v1 v2 : Value} {p q : List Int} (h1 : OwnI w B v1 p) (h2 : OwnI w B v2 q) (hp : p ≠ []) (e2 : q = [] → ∃ g, v2 = .slice (some ⟨g, 0, none⟩) 0 0) (hd : ∀ x, x ∈ p → x ∈ q → False) : v1.ownBlock ≠ v2.ownBlock := by
  intro e
  obtain ⟨g, cap, cur, rfl, k1, k2, k3, k4⟩ := own_some h1 hp
  by_cases hq : q = []
  · obtain ⟨g2, rfl⟩ := e2 hq
    obtain ⟨cur2, j1, j2⟩ := own_size0 h2
    obtain rfl : g = g2 := by simpa [Value.ownBlock] using e
    rw [k1] at j1
    obtain rfl : cur = cur2 := by simpa using j1
    have := List.length_pos_iff.2 hp
    omega
  · obtain ⟨g2, cap2, cur2, rfl, j1, j2, j3, j4⟩ := own_some h2 hq
    obtain rfl : g = g2 := by simpa [Value.ownBlock] using e
    rw [k1] at j1
    obtain rfl : cur = cur2 := by simpa using j1
    cases p with
    | nil => exact hp rfl
    | cons x r => cases q with
      | nil => exact hq rfl
      | cons y t =>
        cases hc : cur.toList with
        | nil => rw [hc] at k4; simp at k4
        | cons c cs =>
          rw [hc] at k4 j4
          simp at k4 j4
          have : x = y := by have := k4.1.symm.trans j4.1; simpa using this
          subst this
          exact hd x (by simp) (by simp)
theorem OwnI.kept {w w' : World} {B : Nat} {v : Value} {o : List Int} {row : Option Nat} (h : OwnI w B v o) (hg : w.grownBy w' row) (hne : v.ownBlock = none ∨ v.ownBlock ≠ row) : OwnI w' B v o := World.ownsRow.kept h hg hne
end Go.Proofs.Ytjmjepdlclehoaa.Ai
