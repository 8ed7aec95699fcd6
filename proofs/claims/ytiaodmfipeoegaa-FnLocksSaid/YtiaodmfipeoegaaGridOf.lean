/- Chases in memory: rows of numbers whose blocks lie apart, in a row of slices. -/
import Derived.Test.YtiaodmfipeoegaaChase
import Derived.Test.YtiaodmfipeoegaaOwnK
import Derived.Deep.DeepCutAuto
import Derived.Deep.OwnRows
import Derived.Test.YtiaodmfipeoegaaFold
import Derived.Test.YtiaodmfipeoegaaAiNest
namespace Go.Proofs.Ytiaodmfipeoegaa.Ai
open Go Go.Proofs Go.RowKit
set_option linter.unusedSimpArgs false
set_option linter.unusedVariables false
set_option linter.unusedSectionVars false
set_option maxHeartbeats 1000000
set_option maxRecDepth 10000
set_option maxHeartbeats 4000000

/-- A block that begins with a row of numbers. -/
def RowI (w : World) (b : Nat × Nat) (l : List Int) : Prop :=
  ∃ cur : Array Value, w.heap[b.1]? = some (.cells cur 3 (0, 0)) ∧ l.length ≤ b.2 ∧ b.2 ≤ maxLen ∧ cur.size = b.2 ∧ cur.toList.take l.length = l.map (.int .i64)
section
variable {w w' : World} {b : Nat × Nat} {l : List Int}
theorem RowI.lt (h : RowI w b l) : b.1 < w.heap.size := by obtain ⟨cur, h1, -⟩ := h; exact (Array.getElem?_eq_some_iff.1 h1).1
theorem RowI.keep (h : RowI w b l) (hb : w'.heap[b.1]? = w.heap[b.1]?) : RowI w' b l := by obtain ⟨cur, h1, h2⟩ := h; exact ⟨cur, hb.trans h1, h2⟩
theorem RowI.cell (h : RowI w b l) {i : Nat} {x : Int} (hx : l[i]? = some x) : w.cell? ⟨b.1, i, none⟩ = some (.int .i64 x) := by
  obtain ⟨cur, h1, h2, h3, h4, h5⟩ := h
  have hl := (List.getElem?_eq_some_iff.1 hx).1
  have : (cur.toList.take l.length)[i]? = some (.int .i64 x) := by rw [h5, List.getElem?_map, hx]; rfl
  rw [List.getElem?_take, if_pos hl, Array.getElem?_toList] at this
  simp [World.cell?, h1, this]
theorem RowI.free (h : RowI w b l) (i : Nat) : w.frozen? ⟨b.1, i, none⟩ = false := by obtain ⟨cur, h1, -⟩ := h; exact frozen_of_row w b.1 i _ _ h1
theorem RowI.set (h : RowI w b l) {i : Nat} (hi : i < l.length) (x : Int) : RowI (w.setCell ⟨b.1, i, none⟩ (.int .i64 x)) b (l.set i x) := by
  obtain ⟨cur, h1, h2, h3, h4, h5⟩ := h
  refine ⟨cur.setIfInBounds i (.int .i64 x), ?_, by rw [List.length_set]; exact h2, h3, by simp [h4], ?_⟩
  · rw [heap_setCell_same w b.1 i _ _ _ h1]
  · rw [Array.toList_setIfInBounds, List.length_set, List.take_set, h5, List.map_set]
theorem RowI.rep (h : RowI w b l) (hx : ∀ x ∈ l, IntKind.i64.wrap x = x) {Q : Nat → Prop} (hq : Q b.1) : RepI w Q (.isl 1 (rows cInt l)) (.slice (some ⟨b.1, 0, none⟩) l.length b.2) := by
  have h0 := h
  obtain ⟨cur, h1, h2, h3, h4, h5⟩ := h
  have := RepI.isl (w := w) (I := Q) 1 (l.map cInt) b.1 0 b.2 (l.map (.int .i64)) (fun e he => by obtain ⟨y, -, rfl⟩ := List.mem_map.1 he; rfl)
    (repIs_ints1 hx) hq
    (fun j y hy => by
      rw [List.getElem?_map] at hy
      obtain ⟨x, hx2, rfl⟩ := Option.map_eq_some_iff.1 hy
      rw [Nat.zero_add]; exact h0.cell hx2) (by rw [List.length_map]; exact h2) h3
  rw [List.length_map] at this
  rw [rows_eq]; exact this
end
def rowV (n : Nat) (b : Nat × Nat) : Value := .slice (some ⟨b.1, 0, none⟩) n b.2
/-- A chase: the row of its rows, and its rows. -/
structure GridI (w : World) (B : Nat) (t : Nat × Nat) (bs : List (Nat × Nat)) (n : Nat) (gr : List (List Int)) : Prop where
  top : ∃ cur : Array Value, w.heap[t.1]? = some (.cells cur 46 (0, 0)) ∧ bs.length ≤ t.2 ∧ t.2 ≤ maxLen ∧ cur.size = t.2 ∧ cur.toList.take bs.length = bs.map (rowV n)
  len : gr.length = bs.length
  rows : ∀ (y : Nat) b r, bs[y]? = some b → gr[y]? = some r → RowI w b r ∧ r.length = n
  apart : ∀ (y z : Nat) b c, bs[y]? = some b → bs[z]? = some c → b.1 = c.1 → y = z
  low : B ≤ t.1 ∧ ∀ b ∈ bs, B ≤ b.1
/-- The blocks of the rows. -/
def inRows (bs : List (Nat × Nat)) (k : Nat) : Prop := ∃ b ∈ bs, b.1 = k
section
variable {w w' : World} {B n : Nat} {t : Nat × Nat} {bs : List (Nat × Nat)} {gr : List (List Int)}
theorem GridI.top_ne (h : GridI w B t bs n gr) : ∀ b ∈ bs, b.1 ≠ t.1 := by
  intro b hb e
  obtain ⟨y, hy⟩ := List.getElem?_of_mem hb
  have hl := (List.getElem?_eq_some_iff.1 hy).1
  obtain ⟨⟨cur, h1, -⟩, -⟩ := h.rows y b (gr[y]'(by rw [h.len]; exact hl)) hy (List.getElem?_eq_getElem _)
  obtain ⟨cur2, h2, -⟩ := h.top
  rw [e, h2] at h1
  simp at h1
theorem GridI.keep (h : GridI w B t bs n gr) (hk : ∀ k, k = t.1 ∨ inRows bs k → w'.heap[k]? = w.heap[k]?) : GridI w' B t bs n gr := by
  obtain ⟨cur, h1, h2⟩ := h.top
  exact ⟨⟨cur, (hk _ (.inl rfl)).trans h1, h2⟩, h.len, fun y b r hb hr => ⟨(h.rows y b r hb hr).1.keep (hk _ (.inr ⟨b, List.mem_of_getElem? hb, rfl⟩)), (h.rows y b r hb hr).2⟩, h.apart, h.low⟩
theorem GridI.lt (h : GridI w B t bs n gr) : t.1 < w.heap.size ∧ ∀ b ∈ bs, b.1 < w.heap.size := by
  obtain ⟨cur, h1, -⟩ := h.top
  refine ⟨(Array.getElem?_eq_some_iff.1 h1).1, fun b hb => ?_⟩
  obtain ⟨y, hy⟩ := List.getElem?_of_mem hb
  have hl := (List.getElem?_eq_some_iff.1 hy).1
  exact (h.rows y b (gr[y]'(by rw [h.len]; exact hl)) hy (List.getElem?_eq_getElem _)).1.lt
theorem GridI.below (h : GridI w B t bs n gr) (hu : Below w.heap.size w w') : GridI w' B t bs n gr := h.keep fun k hk => hu.block k (by
  rcases hk with rfl | ⟨b, hb, rfl⟩
  · exact h.lt.1
  · exact h.lt.2 b hb)
/-- What a walk reads at a row and a place. -/
theorem GridI.at_row (h : GridI w B t bs n gr) {y : Nat} {r : List Int} (hr : gr[y]? = some r) : ∃ b, bs[y]? = some b ∧ w.cell? ⟨t.1, y, none⟩ = some (.slice (some ⟨b.1, 0, none⟩) n b.2) ∧ RowI w b r ∧ r.length = n := by
  have hl := (List.getElem?_eq_some_iff.1 hr).1
  rw [h.len] at hl
  have hb : bs[y]? = some bs[y] := List.getElem?_eq_getElem hl
  obtain ⟨cur, h1, h2, h3, h4, h5⟩ := h.top
  refine ⟨bs[y], hb, ?_, h.rows y _ r hb hr⟩
  have : (cur.toList.take bs.length)[y]? = some (rowV n bs[y]) := by rw [h5, List.getElem?_map, hb]; rfl
  rw [List.getElem?_take, if_pos hl, Array.getElem?_toList] at this
  simp [World.cell?, h1, this, rowV]
theorem GridI.set (h : GridI w B t bs n gr) {y x : Nat} {b : Nat × Nat} {r : List Int} (hb : bs[y]? = some b) (hr : gr[y]? = some r) (hx : x < r.length) (v : Int) : GridI (w.setCell ⟨b.1, x, none⟩ (.int .i64 v)) B t bs n (gr.set y (r.set x v)) := by
  have hmb := List.mem_of_getElem? hb
  have tn := h.top_ne b hmb
  have kp : ∀ k, k ≠ b.1 → (w.setCell ⟨b.1, x, none⟩ (.int .i64 v)).heap[k]? = w.heap[k]? := fun k k1 => heap_setCell_other w ⟨b.1, x, none⟩ k _ k1
  obtain ⟨cur, h1, h2⟩ := h.top
  refine ⟨⟨cur, (kp _ tn.symm).trans h1, h2⟩, by rw [List.length_set]; exact h.len, fun z c s hc hs => ?_, h.apart, h.low⟩
  rw [List.getElem?_set] at hs
  split at hs
  · rename_i e
    subst e
    split at hs
    · obtain rfl := Option.some.inj hs
      obtain rfl : b = c := Option.some.inj (hb.symm.trans hc)
      have := h.rows y b r hb hr
      exact ⟨this.1.set hx v, by rw [List.length_set]; exact this.2⟩
    · cases hs
  · rename_i e
    have := h.rows z c s hc hs
    exact ⟨this.1.keep (kp _ fun q => e (h.apart z y c b hc hb q).symm), this.2⟩
theorem GridI.rep (h : GridI w B t bs n gr) (hx : ∀ r ∈ gr, ∀ x ∈ r, IntKind.i64.wrap x = x) {Q : Nat → Prop} (hq : Q t.1 ∧ ∀ b ∈ bs, Q b.1) : RepI w Q (.isl 1 (Ai.rows (cSl 1 cInt) gr)) (.slice (some ⟨t.1, 0, none⟩) gr.length t.2) := by
  obtain ⟨cur, h1, h2, h3, h4, h5⟩ := h.top
  have go : ∀ (gr : List (List Int)) (bs : List (Nat × Nat)), gr.length = bs.length → (∀ (y : Nat) b r, bs[y]? = some b → gr[y]? = some r → RowI w b r ∧ r.length = n) → (∀ b ∈ bs, Q b.1) → (∀ r ∈ gr, ∀ x ∈ r, IntKind.i64.wrap x = x) → RepIs w Q (gr.map (cSl 1 cInt)).flatten (bs.map (rowV n)) := by
    intro gr
    induction gr with
    | nil => intro bs hl _ _ _; rw [List.length_eq_zero_iff.1 (show bs.length = 0 by rw [← hl]; rfl)]; exact .nil
    | cons r g ih =>
      intro bs hl hr hq hx
      cases bs with
      | nil => simp at hl
      | cons b c =>
        have h0 := hr 0 b r rfl rfl
        have hrep := h0.1.rep (hx r (by simp)) (hq b (by simp))
        rw [h0.2] at hrep
        simp only [List.map_cons, List.flatten_cons]
        exact .cons hrep (ih c (by simpa using hl) (fun y b' r' h1 h2 => hr (y + 1) b' r' h1 h2) (fun b' hb' => hq b' (by simp [hb'])) fun r' hr' => hx r' (by simp [hr']))
  have := RepI.isl (w := w) (I := Q) 1 (gr.map (cSl 1 cInt)) t.1 0 t.2 (bs.map (rowV n)) (fun e he => by obtain ⟨y, -, rfl⟩ := List.mem_map.1 he; rfl)
    (go gr bs h.len h.rows hq.2 hx) hq.1
    (fun j y hy => by
      rw [Nat.zero_add]
      have hl := (List.getElem?_eq_some_iff.1 hy).1
      rw [List.length_map] at hl
      rw [← h5, List.getElem?_take, if_pos hl, Array.getElem?_toList] at hy
      simp [World.cell?, h1, hy]) (by rw [List.length_map, h.len]; exact h2) h3
  rw [List.length_map] at this
  rw [rows_eq]; exact this
end
theorem OwnI.rowI {w : World} {B : Nat} {v : Value} {l : List Int} (h : OwnI w B v l) (hl : l ≠ []) : ∃ b : Nat × Nat, v = .slice (some ⟨b.1, 0, none⟩) l.length b.2 ∧ RowI w b l ∧ B ≤ b.1 := by
  obtain ⟨-, ⟨rfl, h0⟩ | ⟨g, cap, cur, rfl, hb, hg, h1, h2, h3, h4⟩⟩ := h
  · exact absurd (List.length_eq_zero_iff.1 h0) hl
  · exact ⟨(g, cap), rfl, ⟨cur, hg, h1, h2, by simpa using h3, by simpa using h4⟩, hb⟩
/-- Rows of a chase that is being made. -/
structure MakeI (w : World) (B : Nat) (v : Value) (bs : List (Nat × Nat)) (l : List Int) : Prop where
  top : w.ownsRow B 46 1 v bs.length (bs.map (rowV l.length))
  rows : ∀ b ∈ bs, RowI w b l ∧ B ≤ b.1
  apart : ∀ (y z : Nat) b c, bs[y]? = some b → bs[z]? = some c → b.1 = c.1 → y = z
theorem MakeI.start {w : World} {B : Nat} (hB : B ≤ w.heap.size) (l : List Int) : MakeI (w.alloc (.cells #[] 46)) B (.slice (some ⟨w.heap.size, 0, none⟩) 0 0) [] l :=
  ⟨World.ownsRow_made w #[] 0 hB (Nat.zero_le _) rfl, fun b hb => (by cases hb), fun y z b c hb => (by simp at hb)⟩
theorem MakeI.below {w w' : World} {B : Nat} {v : Value} {bs : List (Nat × Nat)} {l : List Int} (h : MakeI w B v bs l) (hu : Below w.heap.size w w') : MakeI w' B v bs l := by
  refine ⟨?_, fun b hb => ⟨(h.rows b hb).1.keep (hu.block _ (h.rows b hb).1.lt), (h.rows b hb).2⟩, h.apart⟩
  obtain ⟨h1, h2⟩ := h.top
  refine ⟨h1, ?_⟩
  rcases h2 with h2 | ⟨g, cap, cur, hv, hg, hh, r⟩
  · exact .inl h2
  · exact .inr ⟨g, cap, cur, hv, hg, by rw [hu.block g (Array.getElem?_eq_some_iff.1 hh).1]; exact hh, r⟩
/-- A row more. -/
theorem MakeI.next {w w' : World} {B : Nat} {v v' : Value} {bs : List (Nat × Nat)} {l : List Int} {b : Nat × Nat} (h : MakeI w B v bs l) (hr : RowI w b l) (hb : B ≤ b.1) (hn : ∀ c ∈ bs, c.1 ≠ b.1) (hv : v.ownBlock ≠ some b.1) (hvb : ∀ c ∈ bs, v.ownBlock ≠ some c.1) (hg : w.grownBy w' v.ownBlock)
    (ht : w'.ownsRow B 46 1 v' (bs.length + 1) (bs.map (rowV l.length) ++ [rowV l.length b])) : MakeI w' B v' (bs ++ [b]) l := by
  refine ⟨by simpa using ht, fun c hc => ?_, fun y z c d hc hd e => ?_⟩
  · rcases List.mem_append.1 hc with hc | hc
    · exact ⟨(h.rows c hc).1.keep (hg.block _ (h.rows c hc).1.lt (fun e => hvb c hc e.symm)), (h.rows c hc).2⟩
    · obtain rfl := List.mem_singleton.1 hc
      exact ⟨hr.keep (hg.block _ hr.lt (fun e => hv e.symm)), hb⟩
  · have hy := (List.getElem?_eq_some_iff.1 hc).1
    have hz := (List.getElem?_eq_some_iff.1 hd).1
    rw [List.length_append, List.length_singleton] at hy hz
    by_cases h1 : y < bs.length
    · rw [List.getElem?_append_left h1] at hc
      by_cases h2 : z < bs.length
      · rw [List.getElem?_append_left h2] at hd
        exact h.apart y z c d hc hd e
      · rw [List.getElem?_append_right (by omega), show z - bs.length = 0 by omega] at hd
        obtain rfl : b = d := by simpa using hd
        exact absurd e (hn c (List.mem_of_getElem? hc))
    · rw [List.getElem?_append_right (by omega), show y - bs.length = 0 by omega] at hc
      obtain rfl : b = c := by simpa using hc
      by_cases h2 : z < bs.length
      · rw [List.getElem?_append_left h2] at hd
        exact absurd e.symm (hn d (List.mem_of_getElem? hd))
      · omega
theorem MakeI.grid {w : World} {B : Nat} {v : Value} {bs : List (Nat × Nat)} {l : List Int} (h : MakeI w B v bs l) (hb : bs ≠ []) : ∃ t : Nat × Nat, v = .slice (some ⟨t.1, 0, none⟩) bs.length t.2 ∧ GridI w B t bs l.length (List.replicate bs.length l) := by
  obtain ⟨-, ⟨rfl, h0⟩ | ⟨g, cap, cur, rfl, hB, hg, h1, h2, h3, h4⟩⟩ := h.top
  · exact absurd (List.length_eq_zero_iff.1 h0) hb
  · refine ⟨(g, cap), rfl, ⟨cur, hg, h1, h2, by simpa using h3, by simpa using h4⟩, by simp, fun y b r hy hr => ?_, h.apart, hB, fun b hb' => (h.rows b hb').2⟩
    obtain rfl : r = l := by
      rw [List.getElem?_replicate] at hr
      split at hr
      · exact (Option.some.inj hr).symm
      · cases hr
    exact ⟨(h.rows b (List.mem_of_getElem? hy)).1, rfl⟩
theorem no_rows (w h : Nat) : tabG w h noG = List.replicate h (List.replicate w (-1)) := by
  apply List.ext_getElem?
  intro y
  by_cases hy : y < h
  · rw [tabG_at hy, List.getElem?_replicate, if_pos hy]
    congr 1
    apply List.ext_getElem?
    intro x
    by_cases hx : x < w
    · rw [row_at hx, List.getElem?_replicate, if_pos hx]; rfl
    · rw [List.getElem?_eq_none (by rw [row_length]; omega), List.getElem?_eq_none (by simp; omega)]
  · rw [List.getElem?_eq_none (by rw [tabG_length]; omega), List.getElem?_eq_none (by simp; omega)]

/- impl.emptyChase: a chase without pieces is made, row by row. -/

theorem new_cellV (w : World) (u : Value) (e : TypeId) : ∀ j x, ([u] : List Value)[j]? = some x → (w.alloc (.cells #[u] e)).cell? ((⟨w.heap.size, 0, none⟩ : Addr).add j) = some x := by
  intro j x hj
  match j, hj with
  | 0, hj => simp at hj; subst hj; simp [Addr.add]
theorem rep_next (x : Nat) : List.replicate x (-1 : Int) ++ [-1] = List.replicate (x + 1) (-1) := by rw [List.replicate_succ']
theorem top_ne_row {w : World} {B n : Nat} {v : Value} {vs : List Value} {c : Nat × Nat} {l : List Int} (h : w.ownsRow B 46 1 v n vs) (hr : RowI w c l) (e : v.ownBlock = some c.1) : False := by
  obtain ⟨-, ⟨rfl, h0⟩ | ⟨g, cap, cur, rfl, hb, hg, -⟩⟩ := h
  · cases e
  · obtain ⟨cur2, h2, -⟩ := hr
    obtain rfl : g = c.1 := by simpa [Value.ownBlock] using e
    rw [hg] at h2
    simp at h2
set_option maxHeartbeats 4000000 in
set_option maxRecDepth 1000000 in
theorem empty_walk (W H : Nat) (hW : 1 ≤ W ∧ W ≤ 8) (hH : 1 ≤ H ∧ H ≤ 8) (w : World) :
    Calls Try.prog 81 #[.int .i64 (W : Int), .int .i64 (H : Int)] w fun e w' => ∃ (t : Nat × Nat) (bs : List (Nat × Nat)), e = .returned (.slice (some ⟨t.1, 0, none⟩) H t.2) ∧ GridI w' w.heap.size t bs W (tabG W H noG) ∧ Below w.heap.size w w' := by
  obtain ⟨i0, z0, hi, hz0, -, hz1, hz2, hz3, -⟩ := run_zeroValue (envOk 3 _ rfl)
  replace hz1 : i0.size = 1 := hz1
  replace hz2 : i0.bytes = 8 := hz2
  replace hz3 : z0.cells.size = 1 := hz3
  obtain ⟨i1, z1, hj, hy0, -, hy1, hy2, hy3, -⟩ := run_zeroValue (envOk 46 _ rfl)
  replace hy1 : i1.size = 1 := hy1
  replace hy2 : i1.bytes = 24 := hy2
  replace hy3 : z1.cells.size = 1 := hy3
  have st := MakeI.start (w := w) (B := w.heap.size) (Nat.le_refl _) (List.replicate W (-1))
  have q1 := alloc_below w (.cells #[] 46)
  generalize hw1 : w.alloc (.cells #[] 46) = w1 at st q1
  go_enter Try.func81, Try.ntmps81
  go_wp2
  go_loopw [5, 6] (fun v u wr => ∃ (y : Nat) (bs : List (Nat × Nat)), u = .int .i64 (y : Int) ∧ y ≤ H ∧ bs.length = y ∧ MakeI wr w.heap.size v bs (List.replicate W (-1)) ∧ Below w.heap.size w wr) (fun _ u _ => H - (intOf u).toNat)
  case atStart => exact ⟨0, [], rfl, Nat.zero_le _, rfl, st, q1⟩
  case round =>
    obtain ⟨y, bs, rfl, hyH, hbl, hM, hB⟩ := hrel
    obtain ⟨wo, rfl⟩ : ∃ wo, wo = wr := ⟨_, rfl⟩
    clear hw1 st q1
    by_cases hy : y < H
    · have hyd : (y : Int) < (H : Int) := by omega
      obtain ⟨B1, hB1⟩ : ∃ B1, B1 = wo.heap.size := ⟨_, rfl⟩
      have r0 := own_new wo (B := B1) (by omega)
      have q2 := alloc_below wo (.cells #[] 3)
      generalize hw2 : wo.alloc (.cells #[] 3) = w2 at r0 q2
      go_wp2
      rw [← hB1] at r0 ⊢
      have HB1 := Lib.hid hB1
      clear hw2 hB1
      go_loopw [7, 8] (fun v' u wq => ∃ x : Nat, u = .int .i64 (x : Int) ∧ x ≤ W ∧ OwnI wq B1 v' (List.replicate x (-1)) ∧ Below wo.heap.size wo wq) (fun _ u _ => W - (intOf u).toNat)
      case atStart => exact ⟨0, rfl, Nat.zero_le _, r0, q2⟩
      case round =>
        obtain ⟨x, rfl, hxW, hO, hb2⟩ := hrel
        by_cases hx : x < W
        · have hxd : (x : Int) < (W : Int) := by omega
          have k3 : (List.replicate x (-1 : Int)).length + 1 ≤ maxLen := by rw [List.length_replicate]; unfold maxLen; omega
          have k4 : ((List.replicate x (-1 : Int)).length + 1) * 8 ≤ 140737488355328 := by rw [List.length_replicate]; omega
          have b5 := alloc_below wr (.cells #[.int .i64 (-1)] 3)
          have hs2 : B1 ≤ wr.heap.size := by have := hb2.size; have := HB1.out; omega
          go_wp2_with (at_builtin; refine wpList_append_own _ rfl _ _ 46 rfl B1 3 i0 z0 1 8 Try.underlying46 hi hz0 hz1 hz2 hz3 (by decide) _ _ _ rfl (hO.alloc _) ⟨_, 0, none⟩ 1 1 [.int .i64 (-1)] rfl rfl (new_cell _ _) (new_one _) k3 k4 (Nat.le_trans hs2 b5.size) ?_; intro v6 w9 h6 g6 _; refine Hid.out ?_)
          all_goals try (exfalso; omega)
          refine Lib.hid ?_
          go_wp2
          have o1 : OwnI w9 B1 v6 (List.replicate (x + 1) (-1)) := by have := own_next h6 (Nat.le_refl _); rw [rep_next] at this; exact this
          have b9 : Below B1 wr w9 := ((b5.mono hs2).grown g6 (Nat.le_trans hs2 b5.size) (fun k hk => (World.ownsRow.lt hO k hk).1))
          go_roundw
          case rel => exact ⟨x + 1, by simp, by omega, o1, hb2.trans (by rw [← HB1.out]; exact b9)⟩
          case measure => simp only [intOf]; omega
        · obtain rfl : x = W := by omega
          have hxd : ¬ (x : Int) < (x : Int) := by omega
          obtain ⟨b, rfl, hr, hbB⟩ := hO.rowI (by intro e; have := congrArg List.length e; simp at this; omega)
          rw [List.length_replicate]
          have hM2 := hM.below hb2
          have b5 := alloc_below wr (.cells #[.slice (some ⟨b.1, 0, none⟩) x b.2] 46)
          have hBw : w.heap.size ≤ wo.heap.size := hB.size
          have hs2 : B1 ≤ wr.heap.size := by have := hb2.size; have := HB1.out; omega
          have hs3 : w.heap.size ≤ wr.heap.size := by have := hb2.size; omega
          have k3 : bs.length + 1 ≤ maxLen := by unfold maxLen; omega
          have k4 : (bs.length + 1) * 24 ≤ 140737488355328 := by omega
          go_wp2_with (at_builtin; refine wpList_append_own _ rfl _ _ 79 rfl w.heap.size 46 i1 z1 1 24 Try.underlying79 hj hy0 hy1 hy2 hy3 (by decide) _ _ _ rfl (hM2.top.alloc _) ⟨_, 0, none⟩ 1 1 [.slice (some ⟨b.1, 0, none⟩) x b.2] rfl rfl (new_cellV _ _ _) (by intro u hu; simp at hu; subst hu; rfl) k3 k4 (Nat.le_trans hs3 b5.size) ?_; intro v6 w9 h6 g6 _; refine Hid.out ?_)
          all_goals try (exfalso; omega)
          refine Lib.hid ?_
          go_wp2
          have hM3 := hM2.below b5
          have hlb := (World.ownsRow.lt hM.top)
          have nb : ∀ c ∈ bs, c.1 ≠ b.1 := fun c hc e => by have := (hM.rows c hc).1.lt; have := HB1.out; omega
          have nv : u5.ownBlock ≠ some b.1 := fun e => by have := (hlb b.1 e).2; have := HB1.out; omega
          have nvb : ∀ c ∈ bs, u5.ownBlock ≠ some c.1 := fun c hc e => top_ne_row hM.top (hM.rows c hc).1 e
          have n1 := hM3.next (hr.keep (b5.block _ hr.lt)) (by have := HB1.out; omega) nb nv nvb g6 (by rw [List.length_replicate]; rw [List.length_replicate] at h6; exact h6)
          have b9 : Below w.heap.size wr w9 := ((b5.mono hs3).grown g6 (Nat.le_trans hs3 b5.size) (fun k hk => (hlb k hk).1))
          go_roundw
          case rel => exact ⟨y + 1, bs ++ [b], by simp, by omega, by rw [List.length_append, hbl]; rfl, n1, (hB.trans (hb2.mono hBw)).trans b9⟩
          case measure => simp only [intOf]; omega
    · have hyd : ¬ (y : Int) < (H : Int) := by omega
      obtain ⟨t, rfl, hg⟩ := hM.grid (by intro e; rw [e] at hbl; simp at hbl; omega)
      go_wp2
      go_ret
      refine ⟨t.1, t.2, ?_, ⟨bs, ?_⟩, hB⟩
      · obtain rfl : y = H := by omega
        rfl
      · rw [List.length_replicate, hbl, show y = H by omega] at hg
        rw [no_rows]; exact hg

/- impl.mark: a piece is laid into a chase, place by place. -/
abbrev plcV (p : Plc) : Value := .agg #[.int .i64 p.1, .int .i64 p.2.1, .int .i64 p.2.2.1, .bool p.2.2.2]
/-- From w to w' only rows of the chase have changed, and new blocks have come. -/
abbrev UpdG (bs : List (Nat × Nat)) (w w' : World) : Prop := Upd (inRows bs) w w'
theorem upd_set (w : World) (g i : Nat) (u : Value) : Upd (· = g) w (w.setCell ⟨g, i, none⟩ u) :=
  ⟨rfl, rfl, rfl, by simp [World.setCell], fun k _ hk => heap_setCell_other w ⟨g, i, none⟩ k u hk⟩
theorem calls_ii {P : Program} {w : World} {I : Nat → Prop} {f : FuncId} {args : List PV} {p : Int × Int} (h : OkA P f args (· = ii p)) {vs : List Value} (hI : InR w I) (ha : All2 (RepArg w I) args vs) :
    Calls P f vs.toArray w fun e w' => e = .returned (.tuple #[.int .i64 p.1, .int .i64 p.2]) ∧ Below w.heap.size w w' := by
  refine (h.2 w I vs hI ha).mono ?_
  rintro e w' ⟨v, r, gs, rfl, rfl, hb, -, -, hr⟩
  unfold ii at hr
  cases hr with
  | one hr => cases hr with
    | imm hr => cases hr
  | tup hr =>
    cases hr with
    | cons h1 h2 => cases h2 with
      | cons h2 h3 => cases h3; cases h1 with
        | imm h1 => cases h1; cases h2 with
          | imm h2 => cases h2; exact ⟨rfl, hb⟩
theorem plc_arg {w : World} {I : Nat → Prop} {p : Plc} (h1 : IntKind.i64.wrap p.1 = p.1) (h2 : IntKind.i64.wrap p.2.1 = p.2.1) (h3 : IntKind.i64.wrap p.2.2.1 = p.2.2.1) : RepArg w I (.agg (cPlaced p)) (plcV p) :=
  .agg (cPlaced p) [.int .i64 p.1, .int .i64 p.2.1, .int .i64 p.2.2.1, .bool p.2.2.2] (.cons (.int _ _ h1) (.cons (.int _ _ h2) (.cons (.int _ _ h3) (.cons (.bool _) .nil))))
/-- A placing in a box. -/
def BoxP (w : World) (k : Nat) (p : Plc) : Prop := w.heap[k]? = some (.cells #[.int .i64 p.1, .int .i64 p.2.1, .int .i64 p.2.2.1, .bool p.2.2.2] 60 (0, 0))
theorem BoxP.cells {w : World} {k : Nat} {p : Plc} (h : BoxP w k p) : w.cell? ⟨k, 0, none⟩ = some (.int .i64 p.1) ∧ w.cell? ⟨k, 1, none⟩ = some (.int .i64 p.2.1) ∧ w.cell? ⟨k, 2, none⟩ = some (.int .i64 p.2.2.1) ∧ w.cell? ⟨k, 3, none⟩ = some (.bool p.2.2.2) := by
  unfold BoxP at h
  simp [World.cell?, h]
theorem BoxP.keep {w w' : World} {k : Nat} {p : Plc} (h : BoxP w k p) (hk : w'.heap[k]? = w.heap[k]?) : BoxP w' k p := by unfold BoxP; rw [hk]; exact h
set_option maxHeartbeats 4000000 in
set_option maxRecDepth 1000000 in
theorem mark_walk (ps : List Piece) (p : Plc) (n : Int) (W H : Nat) (G : Grid) (hps : okPs ps = true) (hn : 0 ≤ p.1 ∧ p.1 < ps.length) (hf : fitP ps W H p = true) (hW : W ≤ 8) (hH : H ≤ 8) (w : World) (B : Nat) (t : Nat × Nat) (bs : List (Nat × Nat)) (vp : Value)
    (hv : RepI w (fun k => k < w.heap.size) (.isl 2 (rows cPiece ps)) vp) (hg : GridI w B t bs W (tabG W H G)) :
    Calls Try.prog 127 #[.slice (some ⟨t.1, 0, none⟩) H t.2, vp, plcV p, .int .i64 n] w fun e w' => e = .returned (.tuple #[]) ∧ GridI w' B t bs W (tabG W H (putP ps G p n)) ∧ UpdG bs w w' := by
  have sb := side_bound hps hn.1 hn.2
  have hfit := fitP_iff.1 hf
  have ol := (okPs_spec hps).2
  obtain ⟨a, b, hs⟩ : ∃ a b, (a, b) = sideP ps p := ⟨_, _, rfl⟩
  rw [← hs] at sb hfit
  dsimp only at sb hfit
  obtain ⟨p1, p2, p3, p4⟩ := p
  dsimp only at hn hfit ⊢
  have q1 := alloc_below w (.cells #[.int .i64 p1, .int .i64 p2, .int .i64 p3, .bool p4] 60)
  have e1 : BoxP (w.alloc (.cells #[.int .i64 p1, .int .i64 p2, .int .i64 p3, .bool p4] 60)) w.heap.size (p1, p2, p3, p4) := heap_alloc_new w _
  have hS : ∀ W : World, Below w.heap.size w W → Calls Try.prog 162 #[vp, .agg #[.int .i64 p1, .int .i64 p2, .int .i64 p3, .bool p4]] W fun e w' => e = .returned (.tuple #[.int .i64 a, .int .i64 b]) ∧ Below W.heap.size W w' := fun W hW => by
    have := calls_ii (sizeOf_ok ps (p1, p2, p3, p4) hn) (inr_all W) (vs := [vp, .agg #[.int .i64 p1, .int .i64 p2, .int .i64 p3, .bool p4]])
      (All2.cons (.one (hv.mono fun g hg => ⟨Nat.lt_of_lt_of_le hg hW.size, hW.block g hg⟩)) (All2.cons (plc_arg (wrap64 (by dsimp only; omega) (by dsimp only; omega)) (wrap64 (by dsimp only; omega) (by dsimp only; omega)) (wrap64 (by dsimp only; omega) (by dsimp only; omega))) .nil))
    rw [← hs] at this
    exact this
  have hgl := hg.lt
  have c0 := e1.cells
  have hld := run_loadVar_row (P := Try.prog) (w.alloc (.cells #[.int .i64 p1, .int .i64 p2, .int .i64 p3, .bool p4] 60)) w.heap.size 60 60 _ _ _ e1 Try.underlying60 rfl (by kernel_rfl)
  generalize hw1 : w.alloc (.cells #[.int .i64 p1, .int .i64 p2, .int .i64 p3, .bool p4] 60) = w1 at q1 e1 c0 hld
  go_enter Try.func127, Try.ntmps127
  go_wp2_with (go_at_call 162; go_must (refine (hS _ q1).mono ?_); rintro e w2 ⟨rfl, b2⟩; refine Hid.out ?_)
  refine Lib.hid ?_
  have e2 : BoxP w2 w.heap.size (p1, p2, p3, p4) := e1.keep (b2.block _ (by have := q1.size; have : (w.heap.size : Nat) < w1.heap.size := (Array.getElem?_eq_some_iff.1 e1).1; exact this))
  have q2 : Below w.heap.size w w2 := q1.trans (b2.mono q1.size)
  have g2 : GridI w2 B t bs W (tabG W H (partG ps G (p1, p2, p3, p4) n p3 p2)) := by rw [part_start ps G (p1, p2, p3, p4) n]; exact hg.below q2
  clear hld c0 hw1 e1 q1 b2
  have cY := e2.cells.2.2.1
  have hbx : w.heap.size < w2.heap.size := (Array.getElem?_eq_some_iff.1 e2).1
  go_wp2
  go_loopw [10] (fun u wr => ∃ yy : Int, u = .int .i64 yy ∧ (p3 ≤ yy ∧ yy ≤ p3 + b) ∧ GridI wr B t bs W (tabG W H (partG ps G (p1, p2, p3, p4) n yy p2)) ∧ BoxP wr w.heap.size (p1, p2, p3, p4) ∧ UpdG bs w wr) (fun u _ => (p3 + b - intOf u).toNat)
  case atStart => exact ⟨p3, rfl, ⟨by omega, by omega⟩, g2, e2, Upd.of q2⟩
  case round =>
    obtain ⟨yy, rfl, hyb, hg3, e3, u3⟩ := hrel
    obtain ⟨wo, rfl⟩ : ∃ wo, wo = wr := ⟨_, rfl⟩
    have cY := e3.cells.2.2.1
    have cX := e3.cells.2.1
    have wY : IntKind.i64.wrap (p3 + b) = p3 + b := wrap64 (by omega) (by omega)
    by_cases hy : yy < p3 + b
    · go_wp2
      go_loopw [11] (fun u wq => ∃ xx : Int, u = .int .i64 xx ∧ (p2 ≤ xx ∧ xx ≤ p2 + a) ∧ GridI wq B t bs W (tabG W H (partG ps G (p1, p2, p3, p4) n yy xx)) ∧ BoxP wq w.heap.size (p1, p2, p3, p4) ∧ UpdG bs w wq) (fun u _ => (p2 + a - intOf u).toNat)
      case atStart => exact ⟨p2, rfl, ⟨by omega, by omega⟩, hg3, e3, u3⟩
      case round =>
        obtain ⟨xx, rfl, hxb, hg4, e4, u4⟩ := hrel
        have cY4 := e4.cells.2.2.1
        have cX4 := e4.cells.2.1
        have wX : IntKind.i64.wrap (p2 + a) = p2 + a := wrap64 (by omega) (by omega)
        by_cases hx : xx < p2 + a
        · obtain ⟨y, rfl⟩ : ∃ y : Nat, yy = (y : Int) := ⟨yy.toNat, by omega⟩
          obtain ⟨x, rfl⟩ : ∃ x : Nat, xx = (x : Int) := ⟨xx.toNat, by omega⟩
          have hyH : y < H := by omega
          have hxW : x < W := by omega
          obtain ⟨bk, hbk, cT, rI, -⟩ := hg4.at_row (tabG_at hyH)
          have cR := rI.cell (row_at hxW)
          have fR := rI.free x
          have ip : inP ps (p1, p2, p3, p4) y x = true := in_at hs (yy := (y : Int)) (xx := (x : Int)) rfl rfl (by dsimp only; omega)
          have hgs := hg4.set hbk (tabG_at hyH) (by rw [row_length]; exact hxW) n
          rw [tabG_set hyH, part_set (yy := (y : Int)) (xx := (x : Int)) rfl rfl ip (x2 := (x : Int) + 1) rfl] at hgs
          have nb : w.heap.size ≠ bk.1 := by have := hgl.2 bk (List.mem_of_getElem? hbk); omega
          have us : UpdG bs wr (wr.setCell ⟨bk.1, x, none⟩ (.int .i64 n)) := (upd_set wr bk.1 x (.int .i64 n)).mono fun k e => ⟨bk, List.mem_of_getElem? hbk, e.symm⟩
          go_wp2
          refine ⟨⟨(x : Int) + 1, rfl, ⟨by omega, by omega⟩, hgs, e4.keep (heap_setCell_other wr ⟨bk.1, x, none⟩ _ _ nb), u4.trans us⟩, ?_⟩
          simp only [intOf]; omega
        · have hex : xx = p2 + a := by omega
          go_wp2
          refine ⟨⟨yy + 1, rfl, ⟨by omega, by omega⟩, ?_, e4, u4⟩, ?_⟩
          · rw [part_row (by rw [← hs]; dsimp only; omega) (y2 := yy + 1) rfl] at hg4; exact hg4
          · simp only [intOf]; omega
    · go_wp2
      go_end0
      refine ⟨rfl, ?_, u3⟩
      rw [part_end (by rw [← hs]; dsimp only; omega)] at hg3; exact hg3

/- A region of the text's order with one operation (a call, say) that is met by a proof on worlds. -/
section
variable {P : Program} {G : Env} {κ : Ctx} {X Y : Req → (PV → Prop) → Prop} {L : Code → (Ex → St → Prop) → St → Prop} {Q' : Exit → Act → World → Prop} {bb : Bool}
theorem ops_hook [NoZ κ] (hG : EnvOk P G) (hF : FieldsOk P G) (full : List Oper) (rest : List Oper) {K : St → Prop} (hQ : ∀ a w, Then κ K a w → wpList P full.toArray Q' rest a w) : ∀ (l : List Oper) (η : Own) (s : St) (a : Act) (w : World), Sim κ η s a w → ops (std bb P) G full l s K → wpList P full.toArray Q' (l ++ rest) a w
  | [], η, s, a, w, h, hK => hQ _ _ ⟨η, s, h, hK⟩
  | o :: r, η, s, a, w, h, hK => by
    have run : Region.wanted o (yielded full.toArray a.tmps) = true → opT (std bb P) G o s (fun s' => ops (std bb P) G full r s' K) → wpList P full.toArray Q' (o :: (r ++ rest)) a w := fun hw hop => by
      unfold wpList
      rw [if_pos hw]
      exact .inl (Oper.wp_mono (fun a' w' ⟨η', s', hs', hK'⟩ => ops_hook hG hF full rest hQ r η' s' a' w' hs' hK') (opT_sound hG hF h hop))
    have skip : Region.wanted o (yielded full.toArray a.tmps) = false → ops (std bb P) G full r (s.put o.dst .skip) K → wpList P full.toArray Q' (o :: (r ++ rest)) a w := fun hw hop => by
      unfold wpList
      rw [hw]
      simp only [Bool.false_eq_true, if_false]
      exact ops_hook hG hF full rest hQ r η _ _ _ (h.put o.dst (.of1 .skip)) hop
    simp only [ops] at hK
    split at hK
    · rename_i hg
      exact run (by simp [Region.wanted, hg]) hK
    · rename_i j want hg
      split at hK
      case h_2 => exact hK.elim
      rename_i oj hj
      split at hK
      case h_2 => exact hK.elim
      rename_i t ht
      have hy : ∀ c, a.tmps[t]? = some c → yielded full.toArray a.tmps j = (match c with | .bool b => some b | _ => none) := fun c hc => by
        simp only [yielded, List.getElem?_toArray, hj, Option.bind_some, ht, hc]
        cases c <;> rfl
      split at hK
      · rename_i b hb
        obtain ⟨c, hc, hr⟩ := tmp_of h hb (by simp)
        obtain rfl := hr.bool
        have hy' := hy _ hc
        split at hK
        · rename_i e
          exact run (by simp [Region.wanted, hg, hy', e]) hK
        · rename_i e
          exact skip (by simp [Region.wanted, hg, hy', e]) hK
      · rename_i hb
        obtain ⟨c, hc, hr⟩ := tmp_of h hb (by simp)
        have hcu : c = Go.undef := by
          have h1 := hr.inv1 (fun _ e => by cases e) (fun _ e => by cases e)
          cases h1 with
          | skip => rfl
          | imm h1 => cases h1
        have hy' := hy _ hc
        rw [hcu] at hy'
        exact skip (by simp [Region.wanted, hg, hy', Go.undef]) hK
      · exact hK.elim
/-- An operation that is met by a proof on worlds. -/
def Hook (P : Program) (κ : Ctx) (o : Oper) (s : St) (K : St → Prop) : Prop := ∀ (η : Own) (a : Act) (w : World) (Q' : Exit → Act → World → Prop), Sim κ η s a w → o.wp P a w (Then κ K) Q'
theorem r_hook {id : Nat} {os : Array Oper} {Q : Ex → St → Prop} {s : St} (h : Mach P G κ X Y L) (n : Nat) (o : Oper) (ho : os.toList[n]? = some o) (hgd : o.guard = none)
    (H : ∀ Z : St → Prop, (∀ s1 s2, Hook P κ o s1 (· = s2) → ops X G os.toList (os.toList.drop (n + 1)) s2 (Q .normal) → Z s1) → ops X G os.toList (os.toList.take n) s Z) : L (.region id os false) Q s := by
  have := h.z
  rw [h.L]
  have hX := h.X
  subst hX
  intro η a w hs
  refine wp_region_list ?_
  have hl := (List.getElem?_eq_some_iff.1 ho).1
  have he : os.toList = os.toList.take n ++ o :: os.toList.drop (n + 1) := by
    conv => lhs; rw [← List.take_append_drop n os.toList]
    rw [List.drop_eq_getElem_cons hl, (List.getElem?_eq_some_iff.1 ho).2]
  have go := ops_hook (Q' := Post κ Q) (bb := false) h.hG h.hF os.toList (o :: os.toList.drop (n + 1)) (K := fun s1 => ∃ s2, Hook P κ o s1 (· = s2) ∧ ops (std false P) G os.toList (os.toList.drop (n + 1)) s2 (Q .normal)) (fun a1 w1 ⟨η1, s1, hs1, s2, hk, hp⟩ => by
    unfold wpList
    rw [if_pos (by simp [Region.wanted, hgd])]
    refine .inl (Oper.wp_mono (fun a2 w2 ⟨η2, s3, hs2, e⟩ => ?_) (hk η1 a1 w1 _ hs1))
    subst e
    exact ops_sound (Q' := Post κ Q) h.hG h.hF os.toList (fun a w ⟨η, s, hs, hK⟩ => ⟨η, s, hs, hK⟩) _ η2 s3 a2 w2 hs2 hp) (os.toList.take n) η s a w hs (H _ fun s1 s2 hk hp => ⟨s2, hk, hp⟩)
  rw [← he] at go
  simpa using go
theorem fn_introF (ids : List Nat) (hG : EnvOk P G) (hF : FieldsOk P G) (hm : P.follows .mixedOrders = true) {f : FuncId} {fn : Func} (hf : P.funcs[f]? = some fn) (hn : (fn.name == "runtime.NumGoroutine") = false) {args : List PV} {R : PV → Prop} {c : Code} (hc : fn.body = some c)
    (h : ∀ κ X Y L Q, Mach P G κ X Y L → (∀ r, R r → Q r) → codeF X L G ids c (EndsIn (post G fn.results.toList Q)) (start fn.ntmps args [])) : OkA P f args R :=
  OkA_introW hG hF hf hn hc fun κ hz => have := hz; codeF_sound ids hG hF c _ _ (h κ _ _ _ R ⟨hG, hF, hm, hz, rfl, rfl, rfl⟩ fun _ x => x)
/-- A loop whose body is walked with some regions left folded. -/
theorem r_loopI (ids : List Nat) {α : Type} {body : Code} {Q : Ex → St → Prop} {s : St} (h : Mach P G κ X Y L) (nt : Nat) (keep : List Nat) (own : List Hold) (tb : α → List (Nat × PV)) (hp : α → Heap) (I : α → Prop) (ms : α → Nat)
    (a0 : α) (h1 : headOk s own = true) (h2 : Ai.norm keep own s = St.at nt (tb a0) (hp a0)) (h3 : I a0)
    (step : ∀ a, I a → ∀ E : St → Prop, (∀ s' a', headOk s' own = true → Ai.norm keep own s' = St.at nt (tb a') (hp a') → I a' → ms a' < ms a → E s') → ∀ F : Ex → St → Prop, (∀ e s', Q e s' → F e s') →
      codeF X L G ids body (fun e s' => match e with | .normal => E s' | .exit i => F (.exit i) s' | .ret => F .ret s') (St.at nt (tb a) (hp a))) : L (.loop body) Q s := by
  have := h.z
  rw [h.L]
  refine W_loop keep own (fun n s => ∃ a, I a ∧ ms a = n ∧ s = St.at nt (tb a) (hp a)) (ms a0) ⟨h1, a0, h3, rfl, h2⟩ ?_
  rintro n s ⟨a, ha, rfl, rfl⟩
  have hst := step a ha (fun s' => headOk s' own = true ∧ ∃ n', n' < ms a ∧ ∃ a', I a' ∧ ms a' = n' ∧ Ai.norm keep own s' = St.at nt (tb a') (hp a')) (fun s' a' e1 e2 e3 e4 => ⟨e1, _, e4, a', e3, rfl, e2⟩) Q fun _ _ x => x
  rw [h.X, h.L] at hst
  refine fun η a' w hs => Go.wp_mono (codeF_sound ids h.hG h.hF body _ _ hst η a' w hs) fun e a'' w' hq => ?_
  cases e <;> exact hq
end

/- Chases in the abstract machine: the calls of impl.emptyChase and impl.mark, met by their walks. -/
/-- A row of its own as a cell. -/
noncomputable def cRow (l : List Int) : List PV := [.fr 3 1 (rows cInt l)]
section
variable {κ : Ctx} {η : Own} {s : St} {a : Act} {w : World}
theorem flat_rows1 (gr : List (List Int)) : ((gr.map cRow).flatten).length = gr.length := by
  induction gr with
  | nil => rfl
  | cons r t ih => simp [cRow, ih]
theorem flat_rows_at (gr : List (List Int)) {p : Nat} {c : PV} (h : (gr.map cRow).flatten[p]? = some c) : ∃ r, gr[p]? = some r ∧ c = .fr 3 1 (rows cInt r) := by
  induction gr generalizing p with
  | nil => simp at h
  | cons r t ih =>
    cases p with
    | zero => simp [cRow] at h; exact ⟨r, rfl, h.symm⟩
    | succ p =>
      have : (t.map cRow).flatten[p]? = some c := by simpa [cRow] using h
      obtain ⟨q, h1, h2⟩ := ih this
      exact ⟨q, by simpa using h1, h2⟩
theorem flat_rows_get (gr : List (List Int)) {p : Nat} {r : List Int} (h : gr[p]? = some r) : (gr.map cRow).flatten[p]? = some (.fr 3 1 (rows cInt r)) := by
  have hl : p < ((gr.map cRow).flatten).length := by rw [flat_rows1]; exact (List.getElem?_eq_some_iff.1 h).1
  obtain ⟨q, h1, h2⟩ := flat_rows_at gr (List.getElem?_eq_getElem hl)
  rw [List.getElem?_eq_getElem hl, h2]
  rw [h] at h1
  rw [Option.some.inj h1]
theorem RowI.owns {w : World} {B : Nat} {b : Nat × Nat} {l : List Int} (h : RowI w b l) (hB : B ≤ b.1) : w.ownsRow B 3 1 (rowV l.length b) l.length (l.map (.int .i64)) := by
  obtain ⟨cur, h1, h2, h3, h4, h5⟩ := h
  exact ⟨by simp, .inr ⟨b.1, b.2, cur, rfl, hB, h1, h2, h3, by simpa using h4, by simpa using h5⟩⟩
theorem small_wraps {gr : List (List Int)} (h : ∀ r ∈ gr, ∀ c ∈ r, -1 ≤ c ∧ c ≤ 7) : ∀ r ∈ gr, ∀ x ∈ r, IntKind.i64.wrap x = x := fun r hr x hx => by
  have := h r hr x hx
  exact wrap64 (by omega) (by omega)
theorem repIs_rows {I : Nat → Prop} {l : List Int} (hx : ∀ x ∈ l, IntKind.i64.wrap x = x) : RepIs w I (rows cInt l).flatten (l.map (.int .i64)) := by rw [rows_eq]; exact repIs_ints1 hx
/-- A chase that a call has made becomes a tree. -/
theorem Sim.newGrid [NoZ κ] (h : Sim κ η s a w) {w' : World} (hb : Below w.heap.size w w') {id n : Nat} {t : Nat × Nat} {bs : List (Nat × Nat)} {gr : List (List Int)} (hg : GridI w' w.heap.size t bs n gr) (hs : ∀ r ∈ gr, ∀ c ∈ r, -1 ≤ c ∧ c ≤ 7) (hid : κ.lent id = none) :
    ∃ η', Sim κ η' ⟨s.T, s.H.new id (.tree 46 1 (rows cRow gr))⟩ a w' ∧ η'.cur id = (s.H.get id).1 + 1 ∧ η'.val id = some (.slice (some ⟨t.1, 0, none⟩) gr.length t.2) := by
  have hkept : Kept κ w' := h.kept.step hb.os hb.tape hb.output hb.size fun k hk _ => hb.block k (Nat.lt_of_lt_of_le hk h.kept.size)
  have hB : κ.B ≤ w.heap.size := h.kept.size
  let sub : Nat → Option Value := fun p => (bs[p]?).map (rowV n)
  let η' := η.setT id ((s.H.get id).1 + 1) (some (.slice (some ⟨t.1, 0, none⟩) gr.length t.2)) sub
  have vo : η'.val id = some (.slice (some ⟨t.1, 0, none⟩) gr.length t.2) := by simp [η', Own.setT, Key.id]
  have vn : ∀ p, η'.val (.n id p) = sub p := fun p => by simp [η', Own.setT, Key.id]
  have cur : η'.cur id = (s.H.get id).1 + 1 := by simp [η', Own.setT]
  have key : ∀ (k : Key) x g, k.id = id → η'.val k = some x → headOf x = some g → (k = .o id ∧ g = t.1) ∨ ∃ p b, k = .n id p ∧ bs[p]? = some b ∧ g = b.1 := fun k x g hk hx hgx => by
    cases k with
    | o i =>
      obtain rfl : i = id := hk
      rw [vo] at hx
      obtain rfl := Option.some.inj hx
      exact .inl ⟨rfl, by simpa [headOf] using hgx.symm⟩
    | n i p =>
      obtain rfl : i = id := hk
      rw [vn] at hx
      obtain ⟨b, hb', rfl⟩ := Option.map_eq_some_iff.1 hx
      exact .inr ⟨p, b, rfl, hb', by simpa [headOf, rowV] using hgx.symm⟩
  have hc := h.createT (w' := w') (fun k hk => hb.block k hk) hb.size hkept id (.tree 46 1 (rows cRow gr)) (.slice (some ⟨t.1, 0, none⟩) gr.length t.2) sub
    (fun k x g hk hx hgx => by
      rcases key k x g hk hx hgx with ⟨-, rfl⟩ | ⟨p, b, -, hb', rfl⟩
      · exact hg.low.1
      · exact hg.low.2 b (List.mem_of_getElem? hb'))
    (fun k k' x x' g hk hk' hx hx' hgx hgx' => by
      rcases key k x g hk hx hgx with ⟨e1, g1⟩ | ⟨p, b, e1, hb1, g1⟩ <;> rcases key k' x' g hk' hx' hgx' with ⟨e2, g2⟩ | ⟨q, c, e2, hb2, g2⟩
      · rw [e1, e2]
      · exact absurd (g2.symm.trans g1) (hg.top_ne c (List.mem_of_getElem? hb2))
      · exact absurd (g1.symm.trans g2) (hg.top_ne b (List.mem_of_getElem? hb1))
      · rw [e1, e2, hg.apart p q b c hb1 hb2 (g1.symm.trans g2)])
    (fun p v hp => by
      have hp' : sub p = some v := (vn p).symm.trans hp
      obtain ⟨b, hb', rfl⟩ := Option.map_eq_some_iff.1 hp'
      have hl := (List.getElem?_eq_some_iff.1 hb').1
      have hr : gr[p]? = some (gr[p]'(by rw [hg.len]; exact hl)) := List.getElem?_eq_getElem _
      exact ⟨rows cRow gr, _, _, _, rfl, by rw [rows_eq]; exact flat_rows_get gr hr⟩)
    (fun hle hI => by
      refine ⟨cur, .slice (some ⟨t.1, 0, none⟩) gr.length t.2, bs.map (rowV n), vo, ⟨?_, ?_, ?_⟩, ⟨?_, ?_⟩, ?_⟩
      · obtain ⟨cc, h1, h2, h3, h4, h5⟩ := hg.top
        rw [rows_eq, List.length_map, hg.len]
        exact ⟨by simp, .inr ⟨t.1, t.2, cc, rfl, Nat.zero_le _, h1, h2, h3, by simpa using h4, by simpa using h5⟩⟩
      · intro g hgx
        have : g = t.1 := by simpa [headOf] using hgx.symm
        have := hg.low.1
        exact .inl (by omega)
      · intro u hu; rw [hid] at hu; cases hu
      · rw [rows_eq, flat_rows1, List.length_map, hg.len]
      · intro p c v hc hv
        rw [rows_eq] at hc
        obtain ⟨r, hr, rfl⟩ := flat_rows_at gr hc
        rw [List.getElem?_map] at hv
        obtain ⟨b, hb', rfl⟩ := Option.map_eq_some_iff.1 hv
        obtain ⟨k1, k2⟩ := hg.rows p b r hb' hr
        refine ⟨(vn p).trans (by show (bs[p]?).map (rowV n) = _; rw [hb']; rfl), r.map (.int .i64), ⟨?_, ?_, fun _ _ e => by cases e⟩, repIs_rows (small_wraps hs r (List.mem_of_getElem? hr)), fun x hx => by rw [rows_eq] at hx; obtain ⟨y, -, rfl⟩ := List.mem_map.1 hx; rfl⟩
        · have := k1.owns (B := 0) (Nat.zero_le _)
          rw [k2] at this
          rw [rows_eq, List.length_map, k2]; exact this
        · intro g hgx
          have : g = b.1 := by simpa [headOf, rowV] using hgx.symm
          have := hg.low.2 b (List.mem_of_getElem? hb')
          exact .inl (by omega)
      · intro x hx
        rw [rows_eq] at hx
        obtain ⟨r, -, rfl⟩ := List.mem_map.1 hx
        rfl)
  exact ⟨η', hc.1, cur, vo⟩
theorem hook_empty [NoZ κ] {o : Oper} (x y : Operand) (d : Nat) (ts : Array TypeId) (W H : Nat) (ho : o.op = .call { callee := .value (.func 81), args := #[x, y], argTypes := ts }) (hd : o.dst = some d) (h1 : 1 ≤ d)
    (hx : s.ev x = .int .i64 (W : Int)) (hy : s.ev y = .int .i64 (H : Int)) (hW : 1 ≤ W ∧ W ≤ 8) (hH : 1 ≤ H ∧ H ≤ 8) :
    Hook Try.prog κ o s (· = (St.mk s.T (s.H.new (8 * d) (.tree 46 1 (rows cRow (tabG W H noG))))).put (some d) (.osl (8 * d) ((s.H.get (8 * d)).1 + 1))) := by
  intro η a w Q' h
  have e1 := h.ev x
  rw [hx] at e1
  obtain ⟨e1, -⟩ := e1.int
  have e2 := h.ev y
  rw [hy] at e2
  obtain ⟨e2, -⟩ := e2.int
  have hc : Callable Try.prog 81 := ⟨_, Try.func81, rfl, rfl⟩
  unfold Oper.wp
  rw [execOp_call ho hc, Oper.upon_enter]
  have ha : (#[x, y] : Array Operand).map a.eval = #[.int .i64 (W : Int), .int .i64 (H : Int)] := by simp [e1, e2]
  rw [ha]
  refine (empty_walk W H hW hH w).mono ?_
  rintro e w' ⟨t, bs, rfl, hg, hb⟩
  obtain ⟨η', hs, hcur, hv⟩ := h.newGrid hb hg (tabG_small (small_no W H)) (id := 8 * d) (NoZ.low _ (.inr (by omega)))
  rw [tabG_length] at hv
  rw [hd]
  refine ⟨η', _, hs.put (some d) (.of1 (.osl _ _ _ (by rw [hcur]; exact Nat.le_refl _) fun _ z hz => ?_)), rfl⟩
  rw [hv] at hz
  exact Option.some.inj hz
theorem agg_rep {I : Nat → Prop} {p : Plc} {c : Value} (h : Rep w I η (.agg (cPlaced p)) c) : c = plcV p := by
  cases h with
  | one h => cases h with
    | one h => cases h with
      | imm h => cases h
    | agg cs vs h =>
      cases h with
      | cons h1 h => cases h with
        | cons h2 h => cases h with
          | cons h3 h => cases h with
            | cons h4 h =>
              cases h
              cases h1 with | imm h1 => cases h2 with | imm h2 => cases h3 with | imm h3 => cases h4 with | imm h4 =>
              cases h1; cases h2; cases h3; cases h4; rfl
def blkOf : Value → Nat × Nat
  | .slice (some b) _ c => (b.block, c)
  | _ => (0, 0)
/-- A tree of rows of one length is a chase in memory. -/
theorem Sim.gridI (h : Sim κ η s a w) {id ver W H : Nat} {G : Grid} (hW : 1 ≤ W) (hH : 1 ≤ H) (he : s.H.get id = (ver, .tree 46 1 (rows cRow (tabG W H G)))) :
    ∃ t bs, GridI w 0 t bs W (tabG W H G) ∧ η.cur id = ver ∧ η.val id = some (.slice (some ⟨t.1, 0, none⟩) H t.2) ∧ (∀ (p : Nat) b, bs[p]? = some b → η.val (.n id p) = some (rowV W b)) ∧ Side κ id ver (.slice (some ⟨t.1, 0, none⟩) H t.2) ∧ (∀ b ∈ bs, Side κ 0 1 (rowV W b)) := by
  have ho := h.heap id
  rw [he] at ho
  obtain ⟨hc, v, vals, hv, ⟨hown, hside⟩, ⟨hl, hcells⟩, -⟩ := ho
  rw [rows_eq, List.length_map, tabG_length] at hown
  rw [rows_eq, flat_rows1, tabG_length] at hl
  obtain ⟨hn, ⟨-, h0⟩ | ⟨g, cap, cur, rfl, hB, hg, k1, k2, k3, k4⟩⟩ := hown
  · omega
  have row : ∀ p, p < H → ∃ g c, vals[p]? = some (.slice (some ⟨g, 0, none⟩) W c) ∧ η.val (.n id p) = some (.slice (some ⟨g, 0, none⟩) W c) ∧ RowI w (g, c) ((List.range W).map fun x => G p x) ∧ Side κ 0 1 (.slice (some ⟨g, 0, none⟩) W c) := fun p hp => by
    obtain ⟨u, hu⟩ : ∃ u, vals[p]? = some u := ⟨_, List.getElem?_eq_getElem (by omega)⟩
    have hcr := hcells p _ u (by rw [rows_eq]; exact flat_rows_get _ (tabG_at hp)) hu
    obtain ⟨c1, vs2, ⟨c2, c3⟩, c4, -⟩ := hcr
    rw [rows_eq, List.length_map, row_length] at c2
    rw [rows_eq] at c4
    have e4 := repIs_ints0 c4
    subst e4
    obtain ⟨-, ⟨-, z0⟩ | ⟨g2, cap2, cur2, rfl, -, hg2, j1, j2, j3, j4⟩⟩ := c2
    · omega
    · exact ⟨g2, cap2, hu, c1, ⟨cur2, hg2, by rw [row_length]; exact j1, j2, by simpa using j3, by rw [row_length]; simpa using j4⟩, c3⟩
  have vlen : vals.length = H := by omega
  have hbs : ∀ (p : Nat) b, (vals.map blkOf)[p]? = some b → p < H ∧ vals[p]? = some (rowV W b) ∧ η.val (.n id p) = some (rowV W b) ∧ RowI w b ((List.range W).map fun x => G p x) ∧ Side κ 0 1 (rowV W b) := fun p b hb => by
    have hp := (List.getElem?_eq_some_iff.1 hb).1
    rw [List.length_map, vlen] at hp
    obtain ⟨g2, c2, r1, r2, r3, r4⟩ := row p hp
    rw [List.getElem?_map, r1] at hb
    obtain rfl : (g2, c2) = b := by simpa [blkOf] using hb
    exact ⟨hp, r1, r2, r3, r4⟩
  have hmap : (vals.map blkOf).map (rowV W) = vals := by
    apply List.ext_getElem?
    intro p
    rw [List.getElem?_map]
    cases hb : (vals.map blkOf)[p]? with
    | none =>
      have : vals.length ≤ p := by have := List.getElem?_eq_none_iff.1 hb; rwa [List.length_map] at this
      rw [List.getElem?_eq_none this]; rfl
    | some b => rw [(hbs p b hb).2.1]; rfl
  refine ⟨(g, cap), vals.map blkOf, ⟨⟨cur, hg, by rw [List.length_map, vlen]; exact k1, k2, by simpa using k3, ?_⟩, by rw [tabG_length, List.length_map, vlen], fun y b r hb hr => ?_, fun y z b c hb hc2 e => ?_, Nat.zero_le _, fun b _ => Nat.zero_le _⟩, hc, hv, fun p b hb => (hbs p b hb).2.2.1, hside, fun b hb => ?_⟩
  · rw [hmap, List.length_map, vlen]; simpa using k4
  · obtain ⟨q1, q2, q3, q4, q5⟩ := hbs y b hb
    rw [tabG_at q1] at hr
    obtain rfl := Option.some.inj hr
    exact ⟨q4, row_length W G y⟩
  · have := h.apart (.n id y) (.n id z) _ _ b.1 (hbs y b hb).2.2.1 (hbs z c hc2).2.2.1 rfl (by rw [e]; rfl)
    injection this
  · obtain ⟨p, hp⟩ := List.getElem?_of_mem hb
    exact (hbs p b hp).2.2.2.2
/-- The rows of a tree are written. -/
theorem Sim.putGrid (h : Sim κ η s a w) {w' : World} {id ver W H : Nat} {G G' : Grid} {t : Nat × Nat} {bs : List (Nat × Nat)} (he : s.H.get id = (ver, .tree 46 1 (rows cRow (tabG W H G)))) (hc : η.cur id = ver) (hv : η.val id = some (.slice (some ⟨t.1, 0, none⟩) H t.2))
    (hb : ∀ (p : Nat) b, bs[p]? = some b → η.val (.n id p) = some (rowV W b)) (hs0 : Side κ id ver (.slice (some ⟨t.1, 0, none⟩) H t.2)) (hs1 : ∀ b ∈ bs, Side κ 0 1 (rowV W b)) (hg : GridI w' 0 t bs W (tabG W H G')) (hu : UpdG bs w w') (hs : smallG W H G') :
    Sim κ η ⟨s.T, s.H.put id (ver, .tree 46 1 (rows cRow (tabG W H G')))⟩ a w' := by
  have inr : ∀ (k : Key) x g, η.val k = some x → headOf x = some g → inRows bs g → ∃ p, k = .n id p := fun k x g hx hgx ⟨b, hmb, hbg⟩ => by
    obtain ⟨p, hp⟩ := List.getElem?_of_mem hmb
    exact ⟨p, h.apart k (.n id p) x _ g hx (hb p b hp) hgx (by show some b.1 = _; rw [hbg])⟩
  have hI : ∀ g, imm κ η w g → imm κ η w' g ∧ w'.heap[g]? = w.heap[g]? := fun g hgi => by
    have hk := hu.block g hgi.1 fun ⟨b, hmb, hbg⟩ => by
      obtain ⟨p, hp⟩ := List.getElem?_of_mem hmb
      exact hgi.2.2 _ _ (hb p b hp) (by show some b.1 = _; rw [hbg])
    exact ⟨⟨Nat.lt_of_lt_of_le hgi.1 hu.size, side_keep hk hgi.2.1, hgi.2.2⟩, hk⟩
  have hkept : Kept κ w' := h.kept.step hu.os hu.tape hu.output hu.size fun k hk hm => hu.block k (Nat.lt_of_lt_of_le hk h.kept.size) fun ⟨b, hmb, hbg⟩ => by
    rcases (hs1 b hmb).1 b.1 rfl with h1 | h1
    · omega
    · exact hm (hbg ▸ h1)
  refine h.step hI η.le_refl (fun i => ?_) h.apart (fun i => ?_) hkept
  · rw [Heap.get_put]
    by_cases e : i = id
    · subst e
      simp only [if_true]
      refine ⟨hc, _, bs.map (rowV W), hv, ⟨?_, hs0⟩, ⟨by rw [rows_eq, flat_rows1, List.length_map, hg.len], fun p c u hpc hpu => ?_⟩, fun x hx => by rw [rows_eq] at hx; obtain ⟨r, -, rfl⟩ := List.mem_map.1 hx; rfl⟩
      · obtain ⟨cc, h1, h2, h3, h4, h5⟩ := hg.top
        have hl := hg.len
        rw [tabG_length] at hl
        rw [rows_eq, List.length_map, tabG_length]
        refine ⟨by simp [hl], .inr ⟨t.1, t.2, cc, rfl, Nat.zero_le _, h1, by omega, h3, by simpa using h4, ?_⟩⟩
        rw [Nat.mul_one, hl]; exact h5
      · rw [rows_eq] at hpc
        obtain ⟨r, hr, rfl⟩ := flat_rows_at _ hpc
        rw [List.getElem?_map] at hpu
        obtain ⟨b, hb', rfl⟩ := Option.map_eq_some_iff.1 hpu
        obtain ⟨k1, k2⟩ := hg.rows p b r hb' hr
        refine ⟨hb p b hb', r.map (.int .i64), ⟨?_, hs1 b (List.mem_of_getElem? hb')⟩, repIs_rows (small_wraps (tabG_small hs) r (List.mem_of_getElem? hr)), fun x hx => by rw [rows_eq] at hx; obtain ⟨y, -, rfl⟩ := List.mem_map.1 hx; rfl⟩
        have := k1.owns (B := 0) (Nat.zero_le _)
        rw [k2] at this
        rw [rows_eq, List.length_map, k2]; exact this
    · rw [if_neg e]
      exact (h.heap i).keep rfl (fun _ _ => rfl) (fun k x g hki hx hgx => hu.block g (h.head hx hgx).1 fun hr => e (by
        obtain ⟨p, hp⟩ := inr k x g hx hgx hr
        rw [← hki, hp]; rfl)) hI η.le_refl
  · rw [Heap.get_put]
    by_cases e : i = id
    · subst e
      simp only [if_true]
      intro p v hp
      obtain ⟨es, e', sz', es', n1, n2⟩ := h.sub i p v hp
      rw [he] at n1
      obtain rfl : rows cRow (tabG W H G) = es := Option.some.inj n1
      have hl := (List.getElem?_eq_some_iff.1 n2).1
      rw [rows_eq, flat_rows1, tabG_length] at hl
      exact ⟨_, _, _, _, rfl, by rw [rows_eq]; exact flat_rows_get _ (tabG_at hl)⟩
    · rw [if_neg e]; exact h.sub i
theorem hook_mark {o : Oper} (xg xp xl xn : Operand) (d : Nat) (ts : Array TypeId) (ps : List Piece) (p : Plc) (n : Int) (W H : Nat) (G : Grid) (id ver : Nat) (ho : o.op = .call { callee := .value (.func 127), args := #[xg, xp, xl, xn], argTypes := ts }) (hd : o.dst = some d)
    (h1 : s.ev xg = .osl id ver) (he : s.H.get id = (ver, .tree 46 1 (rows cRow (tabG W H G)))) (h2 : s.ev xp = .isl 2 (rows cPiece ps)) (h3 : s.ev xl = .agg (cPlaced p)) (h4 : s.ev xn = .int .i64 n)
    (hps : okPs ps = true) (hn : 0 ≤ p.1 ∧ p.1 < ps.length) (hf : fitP ps W H p = true) (hW : 1 ≤ W ∧ W ≤ 8) (hH : 1 ≤ H ∧ H ≤ 8) (hnn : -1 ≤ n ∧ n ≤ 7) (hsm : smallG W H G) :
    Hook Try.prog κ o s (· = (St.mk s.T (s.H.put id (ver, .tree 46 1 (rows cRow (tabG W H (putP ps G p n)))))).put (some d) (.tup [])) := by
  intro η a w Q' h
  obtain ⟨t, bs, hg, hcur, hv, hb, hs0, hs1⟩ := h.gridI hW.1 hH.1 he
  have e1 := h.ev xg
  rw [h1] at e1
  have e1 : a.eval xg = .slice (some ⟨t.1, 0, none⟩) H t.2 := by
    have := e1.inv1 (fun _ e => by cases e) (fun _ e => by cases e)
    cases this with
    | osl _ _ _ q1 q2 => exact q2 hcur.symm _ hv
    | imm h => cases h
  have e2 := h.ev xp
  rw [h2] at e2
  have e2 := e2.invI rfl
  have e3 := h.ev xl
  rw [h3] at e3
  have e3 := agg_rep e3
  have e4 := h.ev xn
  rw [h4] at e4
  obtain ⟨e4, -⟩ := e4.int
  have hc : Callable Try.prog 127 := ⟨_, Try.func127, rfl, rfl⟩
  unfold Oper.wp
  rw [execOp_call ho hc, Oper.upon_enter]
  have ha : (#[xg, xp, xl, xn] : Array Operand).map a.eval = #[.slice (some ⟨t.1, 0, none⟩) H t.2, a.eval xp, plcV p, .int .i64 n] := by simp [e1, e3, e4]
  rw [ha]
  refine (mark_walk ps p n W H G hps hn hf hW.2 hH.2 w 0 t bs (a.eval xp) (e2.mono fun g hg => ⟨hg.1, rfl⟩) hg).mono ?_
  rintro e w' ⟨rfl, hg', hu⟩
  have hs := h.putGrid he hcur hv hb hs0 hs1 hg' hu (small_put hsm ps p hnn)
  rw [hd]
  exact ⟨η, _, hs.put (some d) (.tup [] [] .nil), rfl⟩
theorem hook_emptyG [NoZ κ] {o : Oper} (gr : List (List Int)) (cw ch : Int) (W H : Nat) (hgr : gr = tabG W H noG) (hcw : cw = W) (hch : ch = H) (x y : Operand) (d : Nat) (ts : Array TypeId) (ho : o.op = .call { callee := .value (.func 81), args := #[x, y], argTypes := ts }) (hd : o.dst = some d) (h1 : 1 ≤ d)
    (hx : s.ev x = .int .i64 cw) (hy : s.ev y = .int .i64 ch) (hW : 1 ≤ W ∧ W ≤ 8) (hH : 1 ≤ H ∧ H ≤ 8) :
    Hook Try.prog κ o s (· = (St.mk s.T (s.H.new (8 * d) (.tree 46 1 (rows cRow gr)))).put (some d) (.osl (8 * d) ((s.H.get (8 * d)).1 + 1))) := by
  subst hgr; subst hcw; subst hch
  exact hook_empty x y d ts W H ho hd h1 hx hy hW hH
theorem hook_markG {o : Oper} (gr gr' : List (List Int)) (ps : List Piece) (p : Plc) (n : Int) (W H : Nat) (G : Grid) (hgr : gr = tabG W H G) (hgr' : gr' = tabG W H (putP ps G p n)) (xg xp xl xn : Operand) (d : Nat) (ts : Array TypeId) (id ver : Nat) (ho : o.op = .call { callee := .value (.func 127), args := #[xg, xp, xl, xn], argTypes := ts }) (hd : o.dst = some d)
    (h1 : s.ev xg = .osl id ver) (he : s.H.get id = (ver, .tree 46 1 (rows cRow gr))) (h2 : s.ev xp = .isl 2 (rows cPiece ps)) (h3 : s.ev xl = .agg (cPlaced p)) (h4 : s.ev xn = .int .i64 n)
    (hps : okPs ps = true) (hn : 0 ≤ p.1 ∧ p.1 < ps.length) (hf : fitP ps W H p = true) (hW : 1 ≤ W ∧ W ≤ 8) (hH : 1 ≤ H ∧ H ≤ 8) (hnn : -1 ≤ n ∧ n ≤ 7) (hsm : smallG W H G) :
    Hook Try.prog κ o s (· = (St.mk s.T (s.H.put id (ver, .tree 46 1 (rows cRow gr')))).put (some d) (.tup [])) := by
  subst hgr; subst hgr'
  exact hook_mark xg xp xl xn d ts ps p n W H G id ver ho hd h1 he h2 h3 h4 hps hn hf hW hH hnn hsm
theorem cool_rowsG (l : List (List Int)) : coolL (rows cRow l) = rows (cSl 1 cInt) l := cool_rows cRow l
end

/- impl.chaseOf: pieces are laid into an empty chase, one behind the other. -/
theorem cool_rowsI (l : List (List Int)) : coolL (rows cRow l) = rows (cSl 1 cInt) l := cool_rowsG l
/-- How far the placings are laid. -/
def CI (ps : List Piece) (w h : Nat) (pl : List Plc) (i : Int) (gr : List (List Int)) : Prop :=
  ∃ G l, gr = tabG w h G ∧ chaseG ps w h (-1) pl noG = chaseG ps w h l (pl.drop i.toNat) G ∧ (-1 ≤ l ∧ l < max 0 ps.length) ∧ (i = 0 → l = -1) ∧ (0 < i → ∃ q, pl[(i - 1).toNat]? = some q ∧ q.1 = l) ∧ smallG w h G
theorem CI.start {ps : List Piece} {w h : Nat} {pl : List Plc} {gr : List (List Int)} (hg : gr = tabG w h noG) : CI ps w h pl 0 gr :=
  ⟨noG, -1, hg, rfl, ⟨by omega, by omega⟩, fun _ => rfl, fun h => absurd h (by omega), small_no _ _⟩
theorem chaseL_none {w h : Int} {ps : List Piece} {pl : List Plc} (hc : okCh w h ps = true) (e : chaseG ps w.toNat h.toNat (-1) pl noG = none) : chaseL w h ps pl = ([], false) := by
  unfold chaseL chaseF; rw [if_pos hc, e]
theorem chaseL_some {w h : Int} {ps : List Piece} {pl : List Plc} {G : Grid} (hc : okCh w h ps = true) (e : chaseG ps w.toNat h.toNat (-1) pl noG = some G) : chaseL w h ps pl = (tabG w.toNat h.toNat G, true) := by
  unfold chaseL chaseF; rw [if_pos hc, e]
theorem chaseL_bad {w h : Int} {ps : List Piece} {pl : List Plc} (hc : okCh w h ps = false) : chaseL w h ps pl = ([], false) := by
  unfold chaseL; rw [chaseF_bad hc]
theorem inB_in {n lo hi : Int} (h : inB n lo hi = true) : lo ≤ n ∧ n ≤ hi := by simp [inB] at h; omega
theorem CI.next {ps : List Piece} {w h : Nat} {pl : List Plc} {i j l : Int} {G : Grid} {gr : List (List Int)} {p : Plc} (hp : pl[i.toNat]? = some p) (h0 : 0 ≤ i) (hj : j = i + 1) (hch : chaseG ps w h (-1) pl noG = chaseG ps w h l (pl.drop i.toNat) G)
    (h1 : l < p.1) (hn : 0 ≤ p.1) (h2 : p.1 < ps.length) (h3 : roomP ps w h G p = true) (hsm : smallG w h G) (h8 : ps.length ≤ 8) (hgr : gr = tabG w h (putP ps G p p.1)) : CI ps w h pl j gr :=
  ⟨_, p.1, hgr, by rw [hch, chaseG_yes hp h1 h2 h3, show j.toNat = i.toNat + 1 by omega], ⟨by omega, by omega⟩, fun e => by omega, fun _ => ⟨p, by rw [show (j - 1).toNat = i.toNat by omega]; exact hp, rfl⟩, small_put hsm ps p (by omega)⟩
theorem room_fit {ps : List Piece} {w h : Nat} {G : Grid} {p : Plc} (hr : roomP ps w h G p = true) : fitP ps w h p = true := by rw [roomP, Bool.and_eq_true] at hr; exact hr.1
theorem isRoom_tree (grid : List (List Int)) (pieces : List Piece) (p : Plc) (hg : recG grid) (hp : okPs pieces = true) (hn : 0 ≤ p.1 ∧ p.1 < pieces.length) (hx : p.2.1 ≤ 1000000 ∧ p.2.2.1 ≤ 1000000) : Ok Try.prog 126 [.isl 1 (coolL (rows cRow grid)), .isl 2 (rows cPiece pieces), .agg (cPlaced p)] (· = .bool (roomL grid pieces p)) := by
  rw [cool_rowsI]; exact (isRoom_ok grid pieces p hg hp hn hx).ok flat_bool
theorem chaseOf_ok (width height : Int) (pieces : List Piece) (placed : List Plc) (hb : ∀ p ∈ placed, p.2.1 ≤ 1000000 ∧ p.2.2.1 ≤ 1000000) : OkA Try.prog 64 [.int .i64 width, .int .i64 height, .isl 2 (rows cPiece pieces), .isl 4 (rows cPlaced placed)] (· = lbI 1 (cSl 1 cInt) (chaseL width height pieces placed)) :=
  OkA.iceI 1 (fn_introF [3, 9] (nestIn_ok 79 envOk) (nestIn_fields 79 fieldsOk) mixed Try.func64 rfl rfl fun κ X Y L Q m hQ => by
    have hno : ([], false) = chaseL width height pieces placed → Q (.tup [.nil, .bool false]) := fun e => hQ _ (Eq.trans (by first | rfl | (simp only [lb, lbI, rows_cons, rows_nil, unnilT, unnil, unnilTI, unnilI]; done) | (simp only [lb, lbI, rows_cons, rows_nil, unnilT, unnil, unnilTI, unnilI]; rfl)) (congrArg (lbI 1 (cSl 1 cInt)) e))
    conv => cbv
    refine r_callB m.sX (isChaseSide_ok width) (fun h1 => ?_) (fun h1 => ?_) <;> conv => cbv
    · refine r_callB m.sX (isChaseSide_ok height) (fun h2 => ?_) (fun h2 => ?_) <;> conv => cbv
      · refine r_callB m.sX (ArePieces_ok pieces) (fun h3 => ?_) (fun h3 => ?_) <;> conv => cbv
        · have hc : okCh width height pieces = true := by rw [okCh, h1, h2, h3]; rfl
          obtain ⟨bw, bh, -⟩ := okCh_spec hc
          have ol := (okPs_spec h3).2
          have hW : 1 ≤ width.toNat ∧ width.toNat ≤ 8 := by omega
          have hH : 1 ≤ height.toNat ∧ height.toNat ≤ 8 := by omega
          obtain ⟨gr0, hgr0⟩ : ∃ g, g = tabG width.toNat height.toNat noG := ⟨_, rfl⟩
          have := m.z
          refine r_hook m 2 _ rfl rfl fun Z hZ => ?_
          conv => cbv
          refine hZ _ _ (hook_emptyG gr0 width height width.toNat height.toNat hgr0 (by omega) (by omega) (.tmp 26) (.tmp 27) 28 _ rfl rfl (by omega) rfl rfl hW hH) ?_
          conv => cbv
          clear hZ Z
          refine r_lenR m.sX fun n1 hn1 mn1 => ?_
          conv => cbv
          refine r_loopI [3, 9] (α := List (List Int) × Int) m 73 [2, 3, 29, 30, 31] [⟨10, 81, 46 + 1000000, 1, 0⟩] (fun σ => [(2, .isl 2 (rows cPiece pieces)), (3, .isl 4 (rows cPlaced placed)), (10, .osl 81 0), (29, .isl 4 (rows cPlaced placed)), (30, .int .i64 n1), (31, .int .i64 σ.2)]) (fun σ => [(81, 0, .tree 46 1 (rows cRow σ.1))])
            (fun σ => (0 ≤ σ.2 ∧ σ.2 ≤ n1) ∧ CI pieces width.toNat height.toNat placed σ.2 σ.1) (fun σ => (n1 - σ.2).toNat) (gr0, 0) ?_ ?_ ⟨by omega, CI.start hgr0⟩ ?_
          · cbv
          · cbv
          rintro ⟨gr, i⟩ ⟨⟨p1, p2⟩, pc⟩ E hE F hF
          dsimp only at p1 p2 pc
          conv => cbv
          obtain ⟨Gr, l, eg, ec, bl, l0, l1, sm⟩ := pc
          have rg : recG gr := ⟨_, _, Gr, eg, hW, hH⟩
          refine r_lss m.sX (fun h4 => ?_) (fun h4 => ?_) <;> conv => cbv
          · refine r_index m.sX (by omega) (by omega) fun v hxA => ?_
            obtain ⟨xA, xB, xC, xD⟩ := v
            conv => cbv
            have hm := List.mem_of_getElem? hxA
            have bx := hb _ hm
            dsimp only at bx
            refine r_draw m (by kernel_rfl) ?_
            conv => cbv
            refine r_lenRS m.sY (by omega) fun n2 hn2 => ?_
            conv => cbv
            refine r_subf m.sY (by omega) (by omega) fun r1 hr1 => ?_
            conv => cbv
            refine r_callBS m.sY (within_ok xA 0 r1) (fun h5 => ?_) (fun h5 => ?_) <;> conv => cbv
            · have b5 := inB_in h5
              refine r_gtr m.sY (fun h6 => ?_) (fun h6 => ?_) <;> conv => cbv
              · refine r_subf m.sY (by omega) (by omega) fun r2 hr2 => ?_
                conv => cbv
                refine r_index m.sY (by omega) (by omega) fun v hyA => ?_
                obtain ⟨yA, yB, yC, yD⟩ := v
                conv => cbv
                obtain ⟨⟨q1, q2, q3, q4⟩, hq, rfl⟩ := l1 h6
                rw [show (i - 1).toNat = r2.toNat by omega] at hq
                rw [hq] at hyA
                have e7 := congrArg Prod.fst (Option.some.inj hyA)
                dsimp only at e7 bl ec
                refine r_geq m.sY (fun h7 => ?_) (fun h7 => ?_) <;> conv => cbv
                · refine hF .ret _ ?_
                  conv => cbv
                  exact hno (chaseL_none hc (by rw [ec]; exact chaseG_no hxA fun hh => by have := hh.1.1; dsimp only at this; omega)).symm
                · refine .inl (r_callBSO m.sY (isRoom_tree gr pieces (xA, xB, xC, xD) rg h3 ⟨by dsimp only; omega, by dsimp only; omega⟩ bx) (fun h8 => ?_) (fun h8 => ?_)) <;> conv => cbv
                  · have hr : roomP pieces width.toNat height.toNat Gr (xA, xB, xC, xD) = true := by rw [eg, roomL_tab hH.1] at h8; exact h8
                    obtain ⟨gr2, hgr2⟩ : ∃ g, g = tabG width.toNat height.toNat (putP pieces Gr (xA, xB, xC, xD) xA) := ⟨_, rfl⟩
                    refine r_hook m 5 _ rfl rfl fun Z hZ => ?_
                    conv => cbv
                    refine hZ _ _ (hook_markG gr gr2 pieces (xA, xB, xC, xD) xA width.toNat height.toNat Gr eg hgr2 (.tmp 65) (.tmp 66) (.tmp 67) (.tmp 69) 70 _ 81 0 rfl rfl rfl rfl rfl rfl rfl h3 ⟨by dsimp only; omega, by dsimp only; omega⟩ (room_fit hr) hW hH ⟨by omega, by omega⟩ sm) ?_
                    conv => cbv
                    refine r_addf m.sX (by omega) (by omega) fun r3 hr3 => ?_
                    conv => cbv
                    refine hE _ (gr2, r3) ?_ ?_ ⟨⟨by dsimp only; omega, by dsimp only; omega⟩, CI.next hxA (by omega) (by dsimp only; omega) ec (by dsimp only; omega) (by dsimp only; omega) (by dsimp only; omega) hr sm ol hgr2⟩ (by first | omega | (dsimp only; omega))
                    · cbv
                    · cbv
                  · refine hF .ret _ ?_
                    conv => cbv
                    exact hno (chaseL_none hc (by rw [ec]; exact chaseG_no hxA fun hh => by rw [eg, roomL_tab hH.1] at h8; rw [hh.2] at h8; exact absurd h8 (by decide))).symm
              · have l0 := l0 (by omega)
                refine .inl (r_callBSO m.sY (isRoom_tree gr pieces (xA, xB, xC, xD) rg h3 ⟨by dsimp only; omega, by dsimp only; omega⟩ bx) (fun h8 => ?_) (fun h8 => ?_)) <;> conv => cbv
                · have hr : roomP pieces width.toNat height.toNat Gr (xA, xB, xC, xD) = true := by rw [eg, roomL_tab hH.1] at h8; exact h8
                  obtain ⟨gr2, hgr2⟩ : ∃ g, g = tabG width.toNat height.toNat (putP pieces Gr (xA, xB, xC, xD) xA) := ⟨_, rfl⟩
                  refine r_hook m 5 _ rfl rfl fun Z hZ => ?_
                  conv => cbv
                  refine hZ _ _ (hook_markG gr gr2 pieces (xA, xB, xC, xD) xA width.toNat height.toNat Gr eg hgr2 (.tmp 65) (.tmp 66) (.tmp 67) (.tmp 69) 70 _ 81 0 rfl rfl rfl rfl rfl rfl rfl h3 ⟨by dsimp only; omega, by dsimp only; omega⟩ (room_fit hr) hW hH ⟨by omega, by omega⟩ sm) ?_
                  conv => cbv
                  refine r_addf m.sX (by omega) (by omega) fun r3 hr3 => ?_
                  conv => cbv
                  refine hE _ (gr2, r3) ?_ ?_ ⟨⟨by dsimp only; omega, by dsimp only; omega⟩, CI.next hxA (by omega) (by dsimp only; omega) ec (by dsimp only; omega) (by dsimp only; omega) (by dsimp only; omega) hr sm ol hgr2⟩ (by first | omega | (dsimp only; omega))
                  · cbv
                  · cbv
                · refine hF .ret _ ?_
                  conv => cbv
                  exact hno (chaseL_none hc (by rw [ec]; exact chaseG_no hxA fun hh => by rw [eg, roomL_tab hH.1] at h8; rw [hh.2] at h8; exact absurd h8 (by decide))).symm
            · refine hF .ret _ ?_
              conv => cbv
              exact hno (chaseL_none hc (by rw [ec]; exact chaseG_no hxA fun hh => by have := hh.1; have := inB_out h5; dsimp only at *; omega)).symm
          · refine hF (.exit 0) _ ?_
            conv => cbv
            have e : chaseL width height pieces placed = (gr, true) := by rw [chaseL_some hc (ec.trans (chaseG_nil (by omega))), eg]
            exact hQ (.tup [.isl 1 (coolL (rows cRow gr)), .bool true]) (by rw [cool_rowsI, e]; first | rfl | (simp only [lbI, rows_cons, rows_nil, unnilT, unnil, unnilTI, unnilI]; done) | (simp only [lbI, rows_cons, rows_nil, unnilT, unnil, unnilTI, unnilI]; rfl))
        · exact hno (chaseL_bad (by rw [okCh, h1, h2, h3]; rfl)).symm
      · exact hno (chaseL_bad (by rw [okCh, h1, h2]; rfl)).symm
    · exact hno (chaseL_bad (by rw [okCh, h1]; rfl)).symm)

end Go.Proofs.Ytiaodmfipeoegaa.Ai
