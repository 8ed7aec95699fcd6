/- impl.EvenBreaks: its closure, which writes into two rows through captured boxes. -/
import Derived.Test.YtalookmhhkojeaaOwnK
import Derived.Test.YtalookmhhkojeaaEvenT
import Derived.Deep.DeepCutAuto
import Derived.Deep.OwnRows
namespace Go.Proofs.Ytalookmhhkojeaa.Ai
open Go Go.Proofs Go.RowKit
set_option linter.unusedSimpArgs false
set_option linter.unusedVariables false

/-- A block that holds just a row of numbers. -/
def BlkI (w : World) (g : Nat) (l : List Int) : Prop := w.heap[g]? = some (.cells (l.map (Value.int .i64)).toArray 3 (0, 0))
section
variable {w w' : World} {g : Nat} {l : List Int}
theorem BlkI.cell (h : BlkI w g l) {i : Nat} {x : Int} (hx : l[i]? = some x) : w.cell? ⟨g, i, none⟩ = some (.int .i64 x) := by
  unfold BlkI at h
  simp [World.cell?, h, hx]
theorem BlkI.free (h : BlkI w g l) (i : Nat) : w.frozen? ⟨g, i, none⟩ = false := frozen_of_row w g i _ _ h
theorem BlkI.set (h : BlkI w g l) (i : Nat) (x : Int) : BlkI (w.setCell ⟨g, i, none⟩ (.int .i64 x)) g (l.set i x) := by
  unfold BlkI
  rw [heap_setCell_same w g i _ _ _ h]
  congr 2
  apply Array.ext_getElem?
  intro j
  rw [Array.getElem?_setIfInBounds]
  simp only [List.getElem?_toArray, List.getElem?_map, List.getElem?_set, List.size_toArray, List.length_map]
  by_cases e : i = j
  · subst e
    by_cases h2 : i < l.length
    · simp [h2]
    · simp [h2]
  · simp [e]
theorem BlkI.keep (h : BlkI w g l) (hb : w'.heap[g]? = w.heap[g]?) : BlkI w' g l := by unfold BlkI; rw [hb]; exact h
theorem BlkI.lt (h : BlkI w g l) : g < w.heap.size := (Array.getElem?_eq_some_iff.1 h).1
end
/-- The boxes of the closure, and the rows that they hold. -/
structure EvenSt (bp bs bd gP gS : Nat) (d : Int) (P S : List Int) (w : World) : Prop where
  pb : w.heap[bp]? = some (.cells #[.slice (some ⟨gP, 0, none⟩) P.length P.length] 27 (0, 0))
  sb : w.heap[bs]? = some (.cells #[.slice (some ⟨gS, 0, none⟩) S.length S.length] 27 (0, 0))
  db : w.heap[bd]? = some (.cells #[.int .i64 d] 3 (0, 0))
  pp : BlkI w gP P
  ss : BlkI w gS S
  ne : gP ≠ gS
  n1 : bd ≠ gP
  n2 : bd ≠ gS
section
variable {bp bs bd gP gS : Nat} {d : Int} {P S : List Int} {w w' : World}
theorem EvenSt.bp_ne (h : EvenSt bp bs bd gP gS d P S w) : bp ≠ gP ∧ bp ≠ gS ∧ bs ≠ gP ∧ bs ≠ gS := by
  obtain ⟨h1, h2, h3, h4, h5, -⟩ := h
  unfold BlkI at h4 h5
  refine ⟨fun e => ?_, fun e => ?_, fun e => ?_, fun e => ?_⟩
  · rw [← e, h1] at h4; simp at h4
  · rw [← e, h1] at h5; simp at h5
  · rw [← e, h2] at h4; simp at h4
  · rw [← e, h2] at h5; simp at h5
theorem EvenSt.upd {T : Nat → Prop} (h : EvenSt bp bs bd gP gS d P S w) (hu : Upd T w w') (hT : ∀ k, T k → k ≠ bp ∧ k ≠ bs ∧ k ≠ bd ∧ k ≠ gP ∧ k ≠ gS) : EvenSt bp bs bd gP gS d P S w' := by
  obtain ⟨h1, h2, h3, h4, h5, h6, h7, h8⟩ := h
  have kp : ∀ {k : Nat} {o : Obj}, w.heap[k]? = some o → ¬ T k → w'.heap[k]? = some o := fun {k o} ho ht => by rw [hu.block k (Array.getElem?_eq_some_iff.1 ho).1 ht]; exact ho
  exact ⟨kp h1 fun e => (hT _ e).1 rfl, kp h2 fun e => (hT _ e).2.1 rfl, kp h3 fun e => (hT _ e).2.2.1 rfl, kp h4 fun e => (hT _ e).2.2.2.1 rfl, kp h5 fun e => (hT _ e).2.2.2.2 rfl, h6, h7, h8⟩
theorem EvenSt.below (h : EvenSt bp bs bd gP gS d P S w) (hu : Below w.heap.size w w') : EvenSt bp bs bd gP gS d P S w' := h.upd (Upd.of (S := fun _ => False) hu) fun _ e => e.elim
theorem upd_set (w : World) (g i : Nat) (u : Value) : Upd (· = g) w (w.setCell ⟨g, i, none⟩ u) :=
  ⟨rfl, rfl, rfl, by simp [World.setCell], fun k _ hk => heap_setCell_other w ⟨g, i, none⟩ k u hk⟩
/-- The first row is written. -/
theorem EvenSt.store1 (h : EvenSt bp bs bd gP gS d P S w) (i : Nat) (p : Int) : EvenSt bp bs bd gP gS d (P.set i p) S (w.setCell ⟨gP, i, none⟩ (.int .i64 p)) ∧ Upd (· = gP) w (w.setCell ⟨gP, i, none⟩ (.int .i64 p)) := by
  have hn := h.bp_ne
  obtain ⟨h1, h2, h3, h4, h5, h6, h7, h8⟩ := h
  have kp : ∀ k, k ≠ gP → (w.setCell ⟨gP, i, none⟩ (.int .i64 p)).heap[k]? = w.heap[k]? := fun k k1 => heap_setCell_other _ ⟨gP, i, none⟩ k _ k1
  refine ⟨⟨?_, ?_, ?_, h4.set i p, h5.keep (kp _ (Ne.symm h6)), h6, h7, h8⟩, upd_set w gP i _⟩
  · rw [kp _ hn.1, List.length_set]; exact h1
  · rw [kp _ hn.2.2.1]; exact h2
  · rw [kp _ h7]; exact h3
/-- Both rows are written. -/
theorem EvenSt.store (h : EvenSt bp bs bd gP gS d P S w) (i : Nat) (p s : Int) : EvenSt bp bs bd gP gS d (P.set i p) (S.set i s) ((w.setCell ⟨gP, i, none⟩ (.int .i64 p)).setCell ⟨gS, i, none⟩ (.int .i64 s)) ∧
    Upd (fun k => k = gP ∨ k = gS) w ((w.setCell ⟨gP, i, none⟩ (.int .i64 p)).setCell ⟨gS, i, none⟩ (.int .i64 s)) := by
  have hn := h.bp_ne
  obtain ⟨h1, h2, h3, h4, h5, h6, h7, h8⟩ := h
  have u1 := upd_set w gP i (.int .i64 p)
  have u2 := upd_set (w.setCell ⟨gP, i, none⟩ (.int .i64 p)) gS i (.int .i64 s)
  have a1 := h4.set i p
  have a2 : BlkI (w.setCell ⟨gP, i, none⟩ (.int .i64 p)) gS S := h5.keep (heap_setCell_other w ⟨gP, i, none⟩ gS _ (Ne.symm h6))
  have kp : ∀ k, k ≠ gP → k ≠ gS → ((w.setCell ⟨gP, i, none⟩ (.int .i64 p)).setCell ⟨gS, i, none⟩ (.int .i64 s)).heap[k]? = w.heap[k]? := fun k k1 k2 => by
    rw [heap_setCell_other _ ⟨gS, i, none⟩ k _ k2, heap_setCell_other _ ⟨gP, i, none⟩ k _ k1]
  refine ⟨⟨?_, ?_, ?_, a1.keep (heap_setCell_other _ ⟨gS, i, none⟩ gP _ h6), a2.set i s, h6, h7, h8⟩, (u1.mono fun k e => .inl e).trans (u2.mono fun k e => .inr e)⟩
  · rw [kp _ hn.1 hn.2.1, List.length_set]; exact h1
  · rw [kp _ hn.2.2.1 hn.2.2.2, List.length_set]; exact h2
  · rw [kp _ h7 h8]; exact h3
end

set_option maxHeartbeats 4000000 in
set_option maxRecDepth 1000000 in
theorem better_calls {bp bs bd gP gS : Nat} {d : Int} {P S : List Int} {w : World} (h : EvenSt bp bs bd gP gS d P S w) {i j : Nat} {page pf sf pt st : Int} (h1 : P[i]? = some pf) (h2 : S[i]? = some sf) (h3 : P[j]? = some pt) (h4 : S[j]? = some st)
    (b1 : -1 ≤ pf ∧ pf ≤ 100) (b2 : 0 ≤ sf ∧ sf ≤ 1000000000) (b3 : 0 ≤ pt ∧ pt ≤ 100) (b4 : 0 ≤ st ∧ st ≤ 1000000000) (b5 : 0 ≤ page ∧ page ≤ d ∧ d ≤ 1000) :
    Calls Try.prog 56 #[.int .i64 (i : Int), .int .i64 (j : Int), .int .i64 page, .pointer (some ⟨bp, 0, none⟩), .pointer (some ⟨bs, 0, none⟩), .pointer (some ⟨bd, 0, none⟩)] w
      fun e w' => ((0 ≤ pf ∧ (pt + 1 > pf ∨ pt + 1 = pf ∧ st + sqF d page ≥ sf)) ∧ e = .returned (.bool false) ∧ EvenSt bp bs bd gP gS d P S w' ∧ Upd (fun k => k = gP ∨ k = gS) w w') ∨
        (¬ (0 ≤ pf ∧ (pt + 1 > pf ∨ pt + 1 = pf ∧ st + sqF d page ≥ sf)) ∧ e = .returned (.bool true) ∧ EvenSt bp bs bd gP gS d (P.set i (pt + 1)) (S.set i (st + sqF d page)) w' ∧ Upd (fun k => k = gP ∨ k = gS) w w') := by
  have li := (List.getElem?_eq_some_iff.1 h1).1
  have li2 := (List.getElem?_eq_some_iff.1 h2).1
  have lj := (List.getElem?_eq_some_iff.1 h3).1
  have lj2 := (List.getElem?_eq_some_iff.1 h4).1
  have cp := cell_of_one h.pb
  have cs := cell_of_one h.sb
  have cd := cell_of_one h.db
  have c1 := h.pp.cell h1
  have c2 := h.ss.cell h2
  have c3 := h.pp.cell h3
  have c4 := h.ss.cell h4
  have f1 := h.pp.free i
  have f2 := h.ss.free i
  have sb := mul_bound (show 0 ≤ d - page by omega) (show d - page ≤ 1000 by omega) (show 0 ≤ d - page by omega) (show d - page ≤ 1000 by omega)
  have e1 : IntKind.i64.wrap (d - page) = d - page := wrap64 (by omega) (by omega)
  have e2 : IntKind.i64.wrap ((d - page) * (d - page)) = (d - page) * (d - page) := wrap64 (by omega) (by omega)
  have e3 : IntKind.i64.wrap (pt + 1) = pt + 1 := wrap64 (by omega) (by omega)
  have e4 : IntKind.i64.wrap (st + (d - page) * (d - page)) = st + (d - page) * (d - page) := wrap64 (by omega) (by omega)
  have sq0 : sqF d page = (d - page) * (d - page) := rfl
  rw [sq0]
  have T0 : ∀ W : World, W.heap = w.heap → W.cell? ⟨bp, 0, none⟩ = some (.slice (some ⟨gP, 0, none⟩) P.length P.length) ∧ W.cell? ⟨bs, 0, none⟩ = some (.slice (some ⟨gS, 0, none⟩) S.length S.length) ∧ W.cell? ⟨gP, i, none⟩ = some (.int .i64 pf) ∧ W.frozen? ⟨gP, i, none⟩ = false ∧ W.cell? ⟨gS, i, none⟩ = some (.int .i64 sf) ∧ W.frozen? ⟨gS, i, none⟩ = false := fun W hW => by
    have e : EvenSt bp bs bd gP gS d P S W := by obtain ⟨a1, a2, a3, a4, a5, a6, a7, a8⟩ := h; exact ⟨by rw [hW]; exact a1, by rw [hW]; exact a2, by rw [hW]; exact a3, a4.keep (by rw [hW]), a5.keep (by rw [hW]), a6, a7, a8⟩
    exact ⟨cell_of_one e.pb, cell_of_one e.sb, e.pp.cell h1, e.pp.free i, e.ss.cell h2, e.ss.free i⟩
  have hn := h.bp_ne
  have T1 : ∀ (W : World) (v : Value), W.heap = w.heap → (W.setCell ⟨gP, i, none⟩ v).cell? ⟨bp, 0, none⟩ = some (.slice (some ⟨gP, 0, none⟩) P.length P.length) ∧ (W.setCell ⟨gP, i, none⟩ v).cell? ⟨bs, 0, none⟩ = some (.slice (some ⟨gS, 0, none⟩) S.length S.length) ∧ (W.setCell ⟨gP, i, none⟩ v).cell? ⟨gS, i, none⟩ = some (.int .i64 sf) ∧ (W.setCell ⟨gP, i, none⟩ v).frozen? ⟨gS, i, none⟩ = false := fun W v hW => by
    have t := T0 W hW
    have k1 := heap_setCell_other W ⟨gP, i, none⟩ bp v hn.1
    have k2 := heap_setCell_other W ⟨gP, i, none⟩ bs v hn.2.2.1
    have k3 := heap_setCell_other W ⟨gP, i, none⟩ gS v (Ne.symm h.ne)
    exact ⟨(World.cell?_of_block k1).trans t.1, (World.cell?_of_block k2).trans t.2.1, (World.cell?_of_block k3).trans t.2.2.2.2.1, by have z := t.2.2.2.2.2; unfold World.frozen? at z ⊢; rw [k3]; exact z⟩
  go_enter Try.func56, Try.ntmps56
  go_wp2
  go_region
  go_wp2
  all_goals try
    (have d0 := T0 w.drew rfl
     have d1 := T0 w.drew.drew rfl
     have d2 := T1 w.drew (.int .i64 (pt + 1)) rfl
     have d3 := T1 w.drew.drew (.int .i64 (pt + 1)) rfl
     obtain ⟨d01, d02, d03, d04, d05, d06⟩ := d0
     obtain ⟨d11, d12, d13, d14, d15, d16⟩ := d1
     obtain ⟨d21, d22, d23, d24⟩ := d2
     obtain ⟨d31, d32, d33, d34⟩ := d3
     go_region)
  all_goals try go_wp2
  all_goals try go_ret
  all_goals try simp only [true_and, not_true_eq_false, false_and, or_false]
  all_goals first
    | exact .inl ⟨by omega, rfl, h.below (Below.refl _ _).drew, Upd.of (Below.refl _ _).drew⟩
    | exact ⟨rfl, h.below (Below.refl _ _).drew, Upd.of (Below.refl _ _).drew⟩
    | exact .inr ⟨by omega, rfl, (h.store i _ _).1.below (Below.refl _ _).drew.drew, (h.store i _ _).2.trans (Upd.of (Below.refl _ _).drew.drew)⟩
    | exact .inr ⟨by omega, rfl, by rw [show pt + 1 = pf by omega]; exact (h.store i _ _).1.below (Below.refl _ _).drew.drew, (h.store i _ _).2.trans (Upd.of (Below.refl _ _).drew.drew)⟩

/- impl.EvenBreaks: the walk. -/

theorem made_zeros (n : Nat) : madeCells #[Value.int .i64 0] n = Array.replicate n (Value.int .i64 0) := by
  unfold madeCells
  apply Array.ext
  · simp
  · intro i h1 h2
    simp [Nat.mod_one]
theorem blk_zero {w : World} {g n : Nat} (h : w.heap[g]? = some (.cells (Array.replicate n (Value.int .i64 0)) 3 (0, 0))) : BlkI w g (List.replicate n 0) := by
  unfold BlkI
  rw [h, List.map_replicate]
  simp
/-- Four blocks, one behind the other. -/
theorem four_new (X : World) (A B C D : Obj) : ((((X.alloc A).alloc B).alloc C).alloc D).drew.heap[X.heap.size]? = some A ∧ ((((X.alloc A).alloc B).alloc C).alloc D).drew.heap[X.heap.size + 1]? = some B ∧ ((((X.alloc A).alloc B).alloc C).alloc D).drew.heap[X.heap.size + 1 + 1]? = some C ∧
    ((((X.alloc A).alloc B).alloc C).alloc D).drew.heap[X.heap.size + 1 + 1 + 1]? = some D ∧ Below X.heap.size X ((((X.alloc A).alloc B).alloc C).alloc D).drew := by
  have q1 := alloc_below X A
  have s1 : (X.alloc A).heap.size = X.heap.size + 1 := by simp
  have q2 := alloc_below (X.alloc A) B
  have s2 : ((X.alloc A).alloc B).heap.size = X.heap.size + 1 + 1 := by simp
  have q3 := alloc_below ((X.alloc A).alloc B) C
  have s3 : (((X.alloc A).alloc B).alloc C).heap.size = X.heap.size + 1 + 1 + 1 := by simp
  have q4 := alloc_below (((X.alloc A).alloc B).alloc C) D
  have b2 := q1.trans (q2.mono q1.size)
  have b3 := b2.trans (q3.mono b2.size)
  have b4 := b3.trans (q4.mono b3.size)
  rw [heap_drew]
  refine ⟨?_, ?_, ?_, ?_, b4.drew⟩
  · rw [q4.block _ (by omega), q3.block _ (by omega), q2.block _ (by omega)]; exact heap_alloc_new X A
  · rw [q4.block _ (by omega), q3.block _ (by omega), ← s1]; exact heap_alloc_new _ B
  · rw [q4.block _ (by omega), ← s2]; exact heap_alloc_new _ C
  · rw [← s3]; exact heap_alloc_new _ D
/-- A part of a row of one's own, as a list that is read. -/
theorem own_part {w : World} {B : Nat} {v : Value} {hs : List Int} (h : OwnI w B v hs) (hn : hs ≠ []) (hx : ∀ x ∈ hs, IntKind.i64.wrap x = x) : ∃ g cap, v = .slice (some ⟨g, 0, none⟩) hs.length cap ∧ g < w.heap.size ∧ hs.length ≤ cap ∧
    ∀ W : World, W.heap[g]? = w.heap[g]? → ∀ i j, i ≤ j → j ≤ hs.length → RepI W (fun k => k < W.heap.size) (.isl 1 (rows cInt ((hs.take j).drop i))) (.slice (some ⟨g, i, none⟩) (j - i) (cap - i)) := by
  have hc := h
  obtain ⟨-, ⟨rfl, h0⟩ | ⟨g, cap, cur, rfl, hb, hg, h1, h2, h3, h4⟩⟩ := h
  · exact absurd (List.length_eq_zero_iff.1 h0) hn
  · refine ⟨g, cap, rfl, (Array.getElem?_eq_some_iff.1 hg).1, h1, fun W hW i j hij hj => ?_⟩
    have cl := OwnI.cells hc
    have e : ((hs.take j).drop i).length = j - i := by rw [List.length_drop, List.length_take]; omega
    have gl : g < W.heap.size := by
      have : W.heap[g]? = some (.cells cur 3 (0, 0)) := hW.trans hg
      exact (Array.getElem?_eq_some_iff.1 this).1
    have := RepI.isl (w := W) (I := fun k => k < W.heap.size) 1 (((hs.take j).drop i).map cInt) g i (cap - i) (((hs.take j).drop i).map (.int .i64)) (fun e he => by obtain ⟨y, -, rfl⟩ := List.mem_map.1 he; rfl)
      (repIs_ints1 fun x hx2 => hx x (List.mem_of_mem_take (List.mem_of_mem_drop hx2))) gl
      (fun q y hy => by
        rw [List.getElem?_map] at hy
        obtain ⟨x, hx2, rfl⟩ := Option.map_eq_some_iff.1 hy
        rw [List.getElem?_drop, List.getElem?_take] at hx2
        split at hx2
        · have := cl (i + q) (.int .i64 x) (by rw [List.getElem?_map, hx2]; rfl)
          rw [Addr.add_lit, Nat.zero_add] at this
          exact (World.cell?_of_block hW).trans this
        · cases hx2) (by rw [List.length_map, e]; omega) (by omega)
    rw [List.length_map, e] at this
    rw [rows_eq]; exact this
set_option maxHeartbeats 4000000 in
set_option maxRecDepth 1000000 in
theorem even_walk (l : List (List Int)) (d : Int) (hw1 : IntKind.i64.wrap d = d) (vl : Value) (w : World) (I : Nat → Prop) (hI : InR w I) (hv : RepI w I (.isl 1 (rows (cSl 1 cInt) l)) vl) :
    Calls Try.prog 10 #[vl, .int .i64 d] w fun e w' => ∃ v, e = .returned (.tuple #[v, .int .i64 (evenAns l d).2.1, .bool (evenAns l d).2.2]) ∧ Below w.heap.size w w' ∧ OwnI w' w.heap.size v (evenAns l d).1 := by
  have q1 := alloc_below w (.cells #[.int .i64 d] 3)
  have e1 : (w.alloc (.cells #[.int .i64 d] 3)).heap[w.heap.size]? = some (.cells #[.int .i64 d] 3 (0, 0)) := heap_alloc_new w _
  have s1 : (w.alloc (.cells #[.int .i64 d] 3)).heap.size = w.heap.size + 1 := by simp
  have hv1 : ∀ W : World, Below w.heap.size w W → RepI W (fun k => k < W.heap.size) (.isl 1 (rows (cSl 1 cInt) l)) vl := fun W hW => hv.mono fun g hg => ⟨Nat.lt_of_lt_of_le (hI.1 g hg) hW.size, hW.block g (hI.1 g hg)⟩
  have hA : ∀ W : World, Below w.heap.size w W → Calls Try.prog 51 #[vl, .int .i64 d] W fun e w' => e = .returned (.bool (rowsB l d)) ∧ Below W.heap.size W w' := fun W hW =>
    calls_bool (areRowsOn_ok l d) (inr_all W) (vs := [vl, .int .i64 d]) (All2.cons (.one (hv1 W hW)) (All2.cons (.one (.int _ _ hw1)) .nil))
  cases hM : rowsB l d
  · rw [hM] at hA
    have ha : evenAns l d = ([], 0, false) := by rw [evenAns, if_neg (by rw [hM]; simp)]
    go_enter Try.func10, Try.ntmps10
    go_wp2_with (go_at_call 51; refine (hA _ q1).mono ?_; rintro e w4 ⟨rfl, b4⟩)
    go_ret3
    rw [ha]
    have c4 := q1.trans (b4.mono q1.size)
    exact ⟨_, rfl, c4.alloc c4.size _, own_new _ c4.size⟩
  · rw [hM] at hA
    obtain ⟨hp, hd, hx, hl, h24⟩ := rowsB_spec hM
    have ha : evenAns l d = (evenF d (heightsF l), sqrF d (heightsF l), true) := by rw [evenAns, if_pos hM]
    rw [ha]
    have hH : ∀ W : World, Below w.heap.size w W → Calls Try.prog 52 #[vl] W fun e w' => ∃ v, e = .returned v ∧ Below W.heap.size W w' ∧ w'.ownsRow W.heap.size 3 1 v (heightsF l).length ((heightsF l).map (.int .i64)) := fun W hW =>
      calls_row (heights_ok l (by omega)) (inr_all W) (vs := [vl]) (All2.cons (.one (hv1 W hW)) .nil)
    have hl24 : (heightsF l).length ≤ 24 := by omega
    clear hl ha
    generalize heightsF l = hs at hH hx hl24 ⊢
    have hmk : ∀ W : World, (Instr.makeSlice 27 (.int .i64 ((hs.length : Int) + 1)) (.int .i64 ((hs.length : Int) + 1))).run Try.prog W = .ok (.slice (some ⟨W.heap.size, 0, none⟩) (hs.length + 1) (hs.length + 1)) (W.alloc (.cells (Array.replicate (hs.length + 1) (Value.int .i64 0)) 3)) := fun W => by
      rw [← made_zeros]
      exact run_make_row' 27 3 (.int .i64 0) 8 Try.underlying27 (by kernel_rfl) rfl .i64 .i64 (hs.length + 1) (by omega) (by omega) W
    have hmf : ∀ (fn : Fn) (first cap : Array Value) (w : World), (Instr.makeFunc fn first cap).run Try.prog w = .ok (.func fn first cap) w := fun _ _ _ _ => rfl
    obtain ⟨i0, z0, hi, hz0, -, hz1, hz2, hz3, -⟩ := run_zeroValue (envOk 3 _ rfl)
    replace hz1 : i0.size = 1 := hz1
    replace hz2 : i0.bytes = 8 := hz2
    replace hz3 : z0.cells.size = 1 := hz3
    go_enter Try.func10, Try.ntmps10
    go_upto_region 5 with (first
      | (go_at_call 51; go_must (refine (hA _ q1).mono ?_; rintro e w4 ⟨rfl, b4⟩; have c4 := q1.trans (b4.mono q1.size)))
      | (go_at_call 52; go_must (refine (hH _ c4).mono ?_; rintro e w6 ⟨v7, rfl, b6, o6⟩; obtain ⟨k7, c7, rfl⟩ := OwnI.shape (show OwnI w6 _ v7 hs from o6))))
    have hbd6 : w6.heap[w.heap.size]? = some (.cells #[.int .i64 d] 3 (0, 0)) := by rw [b6.block _ (by have := b4.size; omega), b4.block _ (by omega)]; exact e1
    have hlt : w.heap.size < w6.heap.size := by have := b4.size; have := b6.size; omega
    go_cut [9, 10] (fun v9 v10 wx => ∃ bp bs gP gS : Nat, v9 = .pointer (some ⟨bp, 0, none⟩) ∧ v10 = .pointer (some ⟨bs, 0, none⟩) ∧ EvenSt bp bs w.heap.size gP gS d (List.replicate (hs.length + 1) 0) (List.replicate (hs.length + 1) 0) wx ∧ Below w6.heap.size w6 wx ∧ w6.heap.size ≤ bp ∧ w6.heap.size ≤ bs ∧ w6.heap.size ≤ gP ∧ w6.heap.size ≤ gS)
    case first =>
      go_region
      all_goals go_wp2_with fail
      all_goals go_meet
      all_goals
        refine ⟨_, _, ?_, ?_, rfl, rfl, ⟨?_, ?_, ?_, blk_zero ?_, blk_zero ?_, ?_, ?_, ?_⟩, (four_new w6 _ _ _ _).2.2.2.2, ?_, ?_, ?_, ?_⟩
        rotate_left 2
        · rw [List.length_replicate]; first | exact (four_new w6 _ _ _ _).1 | exact (four_new w6 _ _ _ _).2.1 | exact (four_new w6 _ _ _ _).2.2.1 | exact (four_new w6 _ _ _ _).2.2.2.1
        · rw [List.length_replicate]; first | exact (four_new w6 _ _ _ _).1 | exact (four_new w6 _ _ _ _).2.1 | exact (four_new w6 _ _ _ _).2.2.1 | exact (four_new w6 _ _ _ _).2.2.2.1
        · exact ((four_new w6 _ _ _ _).2.2.2.2.block _ hlt).trans hbd6
        · first | exact (four_new w6 _ _ _ _).1 | exact (four_new w6 _ _ _ _).2.1 | exact (four_new w6 _ _ _ _).2.2.1 | exact (four_new w6 _ _ _ _).2.2.2.1
        · first | exact (four_new w6 _ _ _ _).1 | exact (four_new w6 _ _ _ _).2.1 | exact (four_new w6 _ _ _ _).2.2.1 | exact (four_new w6 _ _ _ _).2.2.2.1
        all_goals omega
    case rest =>
      obtain ⟨bp, bs, gP, gS, rfl, rfl, st, bx, g1, g2, g3, g4⟩ := hcut
      have hwx : ∀ x ∈ hs, IntKind.i64.wrap x = x := fun x h => by have := hx x h; exact wrap64 (by omega) (by omega)
      have hgN : gP < wc.heap.size ∧ gS < wc.heap.size ∧ w.heap.size < wc.heap.size := ⟨st.pp.lt, st.ss.lt, by have := bx.size; omega⟩
      have nbp := st.bp_ne
      have lbp := (Array.getElem?_eq_some_iff.1 st.pb).1
      have lbs := (Array.getElem?_eq_some_iff.1 st.sb).1
      have u0 := alloc_below wc (.cells (Array.replicate (hs.length + 1) (Value.int .i64 0)) 3)
      have n0 : BlkI (wc.alloc (.cells (Array.replicate (hs.length + 1) (Value.int .i64 0)) 3)) wc.heap.size (List.replicate (hs.length + 1) 0) := blk_zero (heap_alloc_new _ _)
      have st1 := st.below u0
      have bx1 := bx.trans (u0.mono bx.size)
      generalize hw0 : wc.alloc (.cells (Array.replicate (hs.length + 1) (Value.int .i64 0)) 3) = w0 at u0 n0 st1 bx1
      go_wp2
      clear hw0 hmk
      go_loopw [13] (fun v wr => ∃ (x : Int) (k : Nat) (P S N : List Int), v = .int .i64 x ∧ x + 1 = k ∧ k ≤ hs.length ∧ TabE d hs k P S N ∧ EvenSt bp bs w.heap.size gP gS d P S wr ∧ BlkI wr wc.heap.size N ∧ Below w6.heap.size w6 wr) (fun v _ => (intOf v + 1).toNat)
      case atStart => exact ⟨_, hs.length, _, _, _, rfl, by omega, Nat.le_refl _, tab0 d hs, st1, n0, bx1⟩
      case round =>
        obtain ⟨x, k, P, S, N, rfl, hxk, hkl, hT, hE, hN, hB⟩ := hrel
        by_cases hx0 : 0 ≤ x
        · obtain ⟨i, rfl⟩ : ∃ i : Nat, x = (i : Int) := ⟨x.toNat, by omega⟩
          obtain rfl : k = i + 1 := by omega
          have li : i < P.length := by rw [hT.lp]; omega
          have cp := cell_of_one hE.pb
          obtain ⟨pi, hpi⟩ : ∃ y, P[i]? = some y := ⟨_, List.getElem?_eq_getElem li⟩
          have ci := hE.pp.cell hpi
          have fi := hE.pp.free i
          obtain ⟨hE1, u1⟩ := hE.store1 i (-1)
          have hI := in0 hx (by omega) (show i < hs.length by omega) hT
          have hN1 : BlkI (wr.setCell ⟨gP, i, none⟩ (.int .i64 (-1))) wc.heap.size N := hN.keep (heap_setCell_other _ ⟨gP, i, none⟩ _ _ (by show wc.heap.size ≠ gP; omega))
          have hB1 : Below w6.heap.size w6 (wr.setCell ⟨gP, i, none⟩ (.int .i64 (-1))) := hB.trans (u1.below (by exact hB.size) (fun k e => by omega))
          clear hE hN u1 hT hxk hpi
          go_wp2
          clear cp ci fi
          obtain ⟨g7, cap7, ev7, lg7, lc7, hR7⟩ := own_part (show OwnI w6 _ _ hs from o6) (by intro h; rw [h] at hkl; simp at hkl) hwx
          cases ev7
          have hS : ∀ W : World, Below w6.heap.size w6 W → ∀ t, i ≤ t → t < hs.length → Calls Try.prog 57 #[.slice (some ⟨g7, i, none⟩) (t + 1 - i) (c7 - i)] W fun e w' => e = .returned (.int .i64 (segF hs i (t + 1))) ∧ Below W.heap.size W w' := fun W hW t t1 t2 => by
            have e : (hs.take (t + 1)).drop i = (hs.drop i).take (t + 1 - i) := List.drop_take
            have r := hR7 W (hW.block g7 lg7) i (t + 1) (by omega) (by omega)
            have f : SumFits ((hs.take (t + 1)).drop i) := sumfits_of 1000 (fun x h => by have := hx x (List.mem_of_mem_take (List.mem_of_mem_drop h)); omega) (by rw [List.length_drop, List.length_take]; omega)
            have := calls_int (sum_ok _ f) (inr_all W) (vs := [.slice (some ⟨g7, i, none⟩) (t + 1 - i) (c7 - i)]) (All2.cons (.one r) .nil)
            rw [e] at this
            exact this
          go_loopw [14] (fun v wq => ∃ (t : Nat) (s : Int × Int × List Int) (P S N : List Int), v = .int .i64 ((t : Int) + 1) ∧ InE d hs i t s P S N ∧ EvenSt bp bs w.heap.size gP gS d P S wq ∧ BlkI wq wc.heap.size N ∧ Below w6.heap.size w6 wq) (fun v _ => hs.length + 1 - (intOf v - 1).toNat)
          case atStart => exact ⟨i, _, _, _, _, rfl, hI, hE1, hN1, hB1⟩
          case round =>
            obtain ⟨t, s, P2, S2, N2, rfl, hI2, hE2, hN2, hB2⟩ := hrel
            have tb := hI2.tb
            have hD : ∀ W : World, Below wr.heap.size wr W → W.cell? ⟨w.heap.size, 0, none⟩ = some (.int .i64 d) := fun W hW => cell_of_one (hE2.below hW).db
            have cd := hD _ (Below.refl _ _)
            by_cases ht : t < hs.length
            · obtain ⟨h, hh⟩ : ∃ h, hs[t]? = some h := ⟨_, List.getElem?_eq_getElem ht⟩
              have hti : (t : Int) + 1 ≤ (hs.length : Int) := by omega
              have htd : decide ((t : Int) + 1 ≤ (hs.length : Int)) = true := decide_eq_true hti
              have hci : ¬ c7 = i := by omega
              have hsl1 : (0 : Int) ≤ (i : Int) := by omega
              have hsl2 : (i : Int) ≤ (t : Int) + 1 := by omega
              have hsl3 : (t : Int) + 1 ≤ (c7 : Int) := by omega
              have te : ((t + 1 : Nat) : Int) = (t : Int) + 1 := by omega
              have ghi := hI2.hi (t + 1) (by omega) ht
              have gsb := sqr_bound hx (by omega) hl24 (t + 1)
              have s0 := seg_bound hx i (t + 1)
              have gN2 := hI2.cn
              by_cases hu : segF hs i (t + 1) ≤ d
              · by_cases hc : 0 ≤ s.1 ∧ (((grF d (hs.drop (t + 1)) : Nat) : Int) + 1 > s.1 ∨ ((grF d (hs.drop (t + 1)) : Nat) : Int) + 1 = s.1 ∧ sqrF d (hs.drop (t + 1)) + sqF d (segF hs i (t + 1)) ≥ s.2.1)
                · have K : ∀ W : World, Below wr.heap.size wr W → Calls Try.prog 56 #[.int .i64 (i : Int), .int .i64 ((t : Int) + 1), .int .i64 (segF hs i (t + 1)), .pointer (some ⟨bp, 0, none⟩), .pointer (some ⟨bs, 0, none⟩), .pointer (some ⟨w.heap.size, 0, none⟩)] W
                    fun e w' => e = .returned (.bool false) ∧ EvenSt bp bs w.heap.size gP gS d P2 S2 w' ∧ Upd (fun k => k = gP ∨ k = gS) W w' := fun W hW => by
                    have q := better_calls (hE2.below hW) hI2.cp hI2.cs ghi.1 ghi.2 ⟨hI2.sb.1, hI2.sb.2.1⟩ ⟨hI2.sb.2.2.1, hI2.sb.2.2.2⟩ ⟨by omega, by omega⟩ ⟨by omega, by omega⟩ ⟨s0, hu, hd.2⟩
                    rw [te] at q
                    refine q.mono ?_
                    rintro e w' (⟨c1, c2, c3, c4⟩ | ⟨c1, c2, c3, c4⟩)
                    · exact ⟨c2, c3, c4⟩
                    · exact absurd hc c1
                  go_wp2
                  go_region_held3 (fun w' => w'.cell? ⟨w.heap.size, 0, none⟩ = some (.int .i64 d)) (first | exact hD _ (Below.refl _ _) | exact hD _ (Below.refl _ _).drew | exact hD _ d1)
                    ((go_at_call 57; go_must (refine (hS _ ?_ t (by omega) ht).mono ?_); exact hB2.trans ((Below.refl _ _).drew.mono hB2.size); rintro e w1 ⟨rfl, b1⟩; have d1 : Below wr.heap.size wr w1 := (Below.refl _ _).drew.trans b1))
                  go_wp2_with (first
                    | (go_at_call 57; go_must (refine (hS _ ?_ t (by omega) ht).mono ?_); exact hB2.trans (d1.mono hB2.size); rintro e w2 ⟨rfl, b2⟩; have d2 : Below wr.heap.size wr w2 := d1.trans (b2.mono d1.size))
                    | (go_at_call 56; go_must (refine (K _ ?_).mono ?_); exact d2; rintro e w3 ⟨rfl, hE3, u3⟩; have hN3 : BlkI w3 wc.heap.size N2 := hN2.keep ((u3.block _ (Nat.lt_of_lt_of_le hN2.lt d2.size) (by omega)).trans (d2.block _ hN2.lt)); have hB3 : Below w6.heap.size w6 w3 := (hB2.trans (d2.mono hB2.size)).trans (u3.below (Nat.le_trans hB2.size d2.size) (by omega)); have cN := hN3.cell gN2; have fN := hN3.free i))
                  go_roundw
                  case rel => exact ⟨t + 1, s, P2, S2, N2, by rw [te], in_no hI2 hh hu hc, hE3, hN3, hB3⟩
                  case measure => simp only [intOf]; omega
                · have K : ∀ W : World, Below wr.heap.size wr W → Calls Try.prog 56 #[.int .i64 (i : Int), .int .i64 ((t : Int) + 1), .int .i64 (segF hs i (t + 1)), .pointer (some ⟨bp, 0, none⟩), .pointer (some ⟨bs, 0, none⟩), .pointer (some ⟨w.heap.size, 0, none⟩)] W
                    fun e w' => e = .returned (.bool true) ∧ EvenSt bp bs w.heap.size gP gS d (P2.set i (((grF d (hs.drop (t + 1)) : Nat) : Int) + 1)) (S2.set i (sqrF d (hs.drop (t + 1)) + sqF d (segF hs i (t + 1)))) w' ∧ Upd (fun k => k = gP ∨ k = gS) W w' := fun W hW => by
                    have q := better_calls (hE2.below hW) hI2.cp hI2.cs ghi.1 ghi.2 ⟨hI2.sb.1, hI2.sb.2.1⟩ ⟨hI2.sb.2.2.1, hI2.sb.2.2.2⟩ ⟨by omega, by omega⟩ ⟨by omega, by omega⟩ ⟨s0, hu, hd.2⟩
                    rw [te] at q
                    refine q.mono ?_
                    rintro e w' (⟨c1, c2, c3, c4⟩ | ⟨c1, c2, c3, c4⟩)
                    · exact absurd c1 hc
                    · exact ⟨c2, c3, c4⟩
                  go_wp2
                  go_region_held3 (fun w' => w'.cell? ⟨w.heap.size, 0, none⟩ = some (.int .i64 d)) (first | exact hD _ (Below.refl _ _) | exact hD _ (Below.refl _ _).drew | exact hD _ d1)
                    ((go_at_call 57; go_must (refine (hS _ ?_ t (by omega) ht).mono ?_); exact hB2.trans ((Below.refl _ _).drew.mono hB2.size); rintro e w1 ⟨rfl, b1⟩; have d1 : Below wr.heap.size wr w1 := (Below.refl _ _).drew.trans b1))
                  go_wp2_with (first
                    | (go_at_call 57; go_must (refine (hS _ ?_ t (by omega) ht).mono ?_); exact hB2.trans (d1.mono hB2.size); rintro e w2 ⟨rfl, b2⟩; have d2 : Below wr.heap.size wr w2 := d1.trans (b2.mono d1.size))
                    | (go_at_call 56; go_must (refine (K _ ?_).mono ?_); exact d2; rintro e w3 ⟨rfl, hE3, u3⟩; have hN3 : BlkI w3 wc.heap.size N2 := hN2.keep ((u3.block _ (Nat.lt_of_lt_of_le hN2.lt d2.size) (by omega)).trans (d2.block _ hN2.lt)); have hB3 : Below w6.heap.size w6 w3 := (hB2.trans (d2.mono hB2.size)).trans (u3.below (Nat.le_trans hB2.size d2.size) (by omega)); have cN := hN3.cell gN2; have fN := hN3.free i))
                  go_roundw
                  case rel =>
                    obtain ⟨s', hs'⟩ := in_yes hx (by omega) hl24 hI2 hh hu hc
                    have un := upd_set w3 wc.heap.size i (.int .i64 ((t : Int) + 1))
                    refine ⟨t + 1, s', _, _, _, by rw [te], hs', hE3.upd un (fun k hk => by omega), ?_, hB3.trans (un.below hB3.size (by omega))⟩
                    rw [te]
                    exact hN3.set i _
                  case measure => simp only [intOf]; omega
              · go_wp2
                go_region_held3 (fun w' => w'.cell? ⟨w.heap.size, 0, none⟩ = some (.int .i64 d)) (first | exact hD _ (Below.refl _ _) | exact hD _ (Below.refl _ _).drew | exact hD _ d1)
                  ((go_at_call 57; go_must (refine (hS _ ?_ t (by omega) ht).mono ?_); exact hB2.trans ((Below.refl _ _).drew.mono hB2.size); rintro e w1 ⟨rfl, b1⟩; have d1 : Below wr.heap.size wr w1 := (Below.refl _ _).drew.trans b1))
                go_wp2
                go_roundw
                case rel => exact ⟨_, i, P2, S2, N2, rfl, by omega, by omega, in_end hI2 (fun h' e => by cases hh.symm.trans e; omega), hE2.below d1, hN2.keep (d1.block _ hN2.lt), hB2.trans (d1.mono hB2.size)⟩
                case measure => simp only [intOf]; omega
            · have hti : ¬ ((t : Int) + 1 ≤ (hs.length : Int)) := by omega
              have htd : decide ((t : Int) + 1 ≤ (hs.length : Int)) = false := decide_eq_false hti
              have d1 : Below wr.heap.size wr wr.drew := (Below.refl _ _).drew
              go_wp2
              go_region
              go_wp2
              go_roundw
              case rel => exact ⟨_, i, P2, S2, N2, rfl, by omega, by omega, in_end hI2 (fun h' e => by have := (List.getElem?_eq_some_iff.1 e).1; omega), hE2.below d1, hN2.keep (d1.block _ hN2.lt), hB2.trans (d1.mono hB2.size)⟩
              case measure => simp only [intOf]; omega
        · obtain rfl : x = -1 := by omega
          obtain rfl : k = 0 := by omega
          obtain ⟨B0, hB0⟩ : ∃ B0, B0 = wr.heap.size := ⟨_, rfl⟩
          have r0 := own_new wr (B := B0) (by omega)
          have u1 := alloc_below wr (.cells #[] 3)
          have hE1 := hE.below u1
          have hN1 : BlkI (wr.alloc (.cells #[] 3)) wc.heap.size N := hN.keep (u1.block _ hN.lt)
          have hB1 := hB.trans (u1.mono hB.size)
          have hBB : w.heap.size ≤ B0 := by have := hB.size; omega
          have hBs : B0 ≤ (wr.alloc (.cells #[] 3)).heap.size := by have := u1.size; omega
          have lows : bp < B0 ∧ bs < B0 ∧ w.heap.size < B0 ∧ gP < B0 ∧ gS < B0 ∧ wc.heap.size < B0 := by
            have a1 := (Array.getElem?_eq_some_iff.1 hE.pb).1
            have a2 := (Array.getElem?_eq_some_iff.1 hE.sb).1
            have a3 := (Array.getElem?_eq_some_iff.1 hE.db).1
            have a4 := hE.pp.lt
            have a5 := hE.ss.lt
            have a6 := hN.lt
            omega
          have h6B : w6.heap.size ≤ B0 := by have := hB.size; omega
          clear hx0 hxk hE hN hB u1
          generalize hw1 : wr.alloc (.cells #[] 3) = w1 at r0 hE1 hN1 hB1 hBs
          go_wp2
          rw [← hB0] at r0 ⊢
          clear hw1 hB0
          go_loopw [15, 16] (fun v u wq => ∃ (a : Nat) (out : List Int), u = .int .i64 (a : Int) ∧ (a < hs.length ∨ hs.length = 0) ∧ a ≤ hs.length ∧ out.length ≤ a ∧ OwnI wq B0 v out ∧ out ++ evenN d hs.length (grF d (hs.drop a) - 1) (hs.drop a) = evenF d hs ∧ EvenSt bp bs w.heap.size gP gS d P S wq ∧ BlkI wq wc.heap.size N ∧ Below w6.heap.size w6 wq ∧ B0 ≤ wq.heap.size) (fun _ u _ => hs.length - (intOf u).toNat)
          case atStart => exact ⟨0, [], rfl, by omega, Nat.zero_le _, Nat.zero_le _, r0, by rw [List.drop_zero]; rfl, hE1, hN1, hB1, hBs⟩
          case round =>
            obtain ⟨a, out, rfl, ha1, ha2, hlo, hO, hq, hE2, hN2, hB2, hs2⟩ := hrel
            have hD : ∀ W : World, Below wr.heap.size wr W → W.cell? ⟨bs, 0, none⟩ = some (.slice (some ⟨gS, 0, none⟩) S.length S.length) ∧ W.cell? ⟨gS, 0, none⟩ = some (.int .i64 (sqrF d hs)) := fun W hW => ⟨cell_of_one (hE2.below hW).sb, (hE2.below hW).ss.cell (by have := (hT.hi 0 (Nat.le_refl _) (Nat.zero_le _)).2; rwa [List.drop_zero] at this)⟩
            have lS : 0 < S.length := by rw [hT.ls]; omega
            have cS := (hD _ (Below.refl _ _)).1
            have cS2 := (hD _ (Below.refl _ _)).2
            by_cases hn0 : 0 < hs.length
            · obtain ⟨e, he1, he2, he3, he4, he5⟩ := tab_next hx (by omega) hT (show a < hs.length by omega)
              have cN := hN2.cell he1
              have hai : (a : Int) < (hs.length : Int) + 1 := by omega
              by_cases hen : e < hs.length
              · have hq2 := he4 hen out hq
                clear he1 he4 he5 hq
                have k3 : out.length + 1 ≤ maxLen := by unfold maxLen; omega
                have k4 : (out.length + 1) * 8 ≤ 140737488355328 := by omega
                have b5 := alloc_below wr (.cells #[.int .i64 (e : Int)] 3)
                go_wp2_with (at_builtin; refine wpList_append_own _ rfl _ _ 27 rfl B0 3 i0 z0 1 8 Try.underlying27 hi hz0 hz1 hz2 hz3 (by decide) _ _ _ rfl (hO.alloc _) ⟨_, 0, none⟩ 1 1 [.int .i64 (e : Int)] rfl rfl (new_cell _ _) (new_one _) k3 k4 (Nat.le_trans hs2 b5.size) ?_; intro v6 w9 h6 g6 _; have g7 : (wr.alloc (.cells #[.int .i64 (e : Int)] 3)).grownBy w9 u15.ownBlock := g6; clear g6; refine Hid.out ?_)
                all_goals try (exfalso; omega)
                refine Lib.hid ?_
                go_wp2
                have o1 : OwnI w9 B0 v6 (out ++ [(e : Int)]) := own_next h6 (Nat.le_refl _)
                have b9 : Below B0 wr w9 := ((b5.mono hs2).grown g7 (Nat.le_trans hs2 b5.size) (fun k hk => (World.ownsRow.lt hO k hk).1))
                have u9 : Upd (fun k => B0 ≤ k) wr w9 := ⟨b9.os, b9.tape, b9.output, b9.size, fun k hk hT => b9.block k (by omega)⟩
                go_roundw
                case rel => exact ⟨e, out ++ [(e : Int)], rfl, .inl hen, by omega, by rw [List.length_append, List.length_singleton]; omega, o1, hq2, hE2.upd u9 (fun k hk => by omega), hN2.keep (b9.block _ lows.2.2.2.2.2), hB2.trans (b9.mono h6B), Nat.le_trans hs2 b9.size⟩
                case measure => simp only [intOf]; omega
              · obtain rfl : e = hs.length := by omega
                have hq2 := he5 rfl out hq
                clear he1 he4 he5 hq
                go_wp2
                go_region
                all_goals (try go_wp2)
                all_goals go_ret3
                all_goals exact ⟨_, rfl, (((c4.trans (b6.mono c4.size)).trans (hB2.mono (Nat.le_of_lt hlt))).drew : _), (by rw [← hq2]; exact (OwnI.below hO (Below.refl _ _).drew).low hBB)⟩
            · have hz : hs = [] := List.eq_nil_of_length_eq_zero (by omega)
              subst hz
              have hq2 : out = evenF d [] := by simpa [evenN, grF] using hq
              go_wp2
              go_region
              all_goals (try go_wp2)
              all_goals go_ret3
              all_goals exact ⟨_, rfl, (((c4.trans (b6.mono c4.size)).trans (hB2.mono (Nat.le_of_lt hlt))).drew : _), (by rw [← hq2]; exact (OwnI.below hO (Below.refl _ _).drew).low hBB)⟩
theorem evenAns_wrap (l : List (List Int)) (d : Int) : (∀ x ∈ (evenAns l d).1, IntKind.i64.wrap x = x) ∧ IntKind.i64.wrap (evenAns l d).2.1 = (evenAns l d).2.1 := by
  unfold evenAns
  split
  · rename_i h
    obtain ⟨hp, hd, hx, hl, h24⟩ := rowsB_spec h
    refine ⟨fun x hxm => ?_, ?_⟩
    · have : 0 ≤ x ∧ x ≤ 24 := by
        have go : ∀ (k : Nat) (l2 : List Int), x ∈ evenN d (heightsF l).length k l2 → l2.length ≤ (heightsF l).length → 0 ≤ x ∧ x ≤ (heightsF l).length := by
          intro k
          induction k with
          | zero => intro l2 h _; cases h
          | succ k ih =>
            intro l2 h h2
            have hr : (restF d l2).length ≤ l2.length := by
              unfold restF
              cases e : (cutsF d 0 l2).find? (fun x => decide (goodCut d l2 x)) with
              | none => simp
              | some y =>
                have hy := List.mem_of_find?_eq_some e
                have go2 : ∀ (l3 : List Int) (u : Int), y ∈ cutsF d u l3 → y.2.length ≤ l3.length := by
                  intro l3
                  induction l3 with
                  | nil => intro u h; cases h
                  | cons a t ih2 =>
                    intro u h
                    rw [cutsF] at h
                    split at h
                    · rcases List.mem_cons.1 h with rfl | h
                      · simp
                      · have := ih2 _ h; rw [List.length_cons]; omega
                    · cases h
                exact go2 _ _ hy
            rw [evenN] at h
            rcases List.mem_cons.1 h with rfl | h
            · omega
            · exact ih _ h (by omega)
        have := go _ _ hxm (Nat.le_refl _)
        omega
      exact wrap64 (by omega) (by omega)
    · have := sqr_bound hx (by omega) (by omega) 0
      rw [List.drop_zero] at this
      exact wrap64 (by dsimp only; omega) (by dsimp only; omega)
  · exact ⟨(fun x hx => by cases hx), rfl⟩
theorem EvenBreaks_ok (l : List (List Int)) (d : Int) : OkA Try.prog 10 [.isl 1 (rows (cSl 1 cInt) l), .int .i64 d] (· = lic 3 1 cInt (evenAns l d)) := by
  refine ⟨⟨_, Try.func10, rfl, rfl⟩, fun w I vs hI hargs => ?_⟩
  obtain ⟨vl, us, rfl, h2, hv⟩ := one_args (fun cs e => by cases e) hargs
  obtain ⟨vd, us, rfl, h3, hd⟩ := one_args (fun cs e => by cases e) h2
  obtain rfl := nil_args h3
  cases hd with
  | int k n hn =>
    refine (even_walk l d hn vl w I hI hv).mono ?_
    rintro e w' ⟨v, rfl, hb, ho⟩
    obtain ⟨h1, h2⟩ := evenAns_wrap l d
    exact ⟨_, lic 3 1 cInt (evenAns l d), _, rfl, rfl, hb, lic_rep ho h1 h2⟩

end Go.Proofs.Ytalookmhhkojeaa.Ai
