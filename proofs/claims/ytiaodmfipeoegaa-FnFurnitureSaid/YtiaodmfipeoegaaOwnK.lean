/- Rows of numbers of one's own, boxes, and calls of contracts: for walks by the kit's tactics. -/
import Derived.Test.YtiaodmfipeoegaaTri
import Derived.Test.YtiaodmfipeoegaaCommon
import Derived.Shelf.Abstract
import Derived.WalkKit
import Derived.BigCall
import Derived.Lib.Hide
import Derived.Laws.AppendOwnNone
import Derived.Deep.RegionWith
import Derived.Deep.DeepMust
import Derived.Deep.RegionHeld3
namespace Go
theorem step_append_own {P : Program} {w : World} {ops : Array Oper} {o : Oper} {a : Act} {K : Act → World → Prop} {Q : Exit → Act → World → Prop} {E : Prop} (hgd : o.guard = none) (s x : Operand) (t : TypeId)
    (ho : o.op = .call { callee := .builtin .append, args := #[s, x], argTypes := #[t, t] })
    (base : Nat) (e : TypeId) (i : TypeInfo) (z : Value) (size bytes : Nat) (ht : P.underlying t = some (.slice e)) (hi : P.info? e = some i) (hz : i.zero = some z)
    (hsize : i.size = size) (hby : i.bytes = bytes) (hzs : z.cells.size = size) (hsz : 0 < size)
    (v : Value) (n : Nat) (xs : List Value) (hs : a.eval s = v) (hown : w.ownsRow base e size v n xs)
    (ad : Addr) (m c : Nat) (news : List Value) (hx : a.eval x = .slice (some ad) m c) (hl : news.length = m * size) (hnews : ∀ j u, news[j]? = some u → w.cell? (ad.add j) = some u) (h1 : ∀ u ∈ news, u.oneCell' = true)
    (h63 : n + m ≤ maxLen) (hbytes : (n + m) * bytes ≤ 140737488355328) (hbase : base ≤ w.heap.size)
    (h : ∀ v' w', w'.ownsRow base e size v' (n + m) (xs ++ news) → w.grownBy w' v.ownBlock → (v' = .slice none 0 0 ↔ v = .slice none 0 0 ∧ m = 0) → K (a.put o.dst v') w') :
    if Region.wanted o (yielded ops a.tmps) = true then Oper.wp P o a w K Q else E := by
  have hw : Region.wanted o (yielded ops a.tmps) = true := by simp [Region.wanted, hgd]
  rw [if_pos hw]
  exact wp_append_own w s x t ho base e i z size bytes ht hi hz hsize hby hzs hsz v n xs hs hown ad m c news hx hl hnews h1 h63 hbytes hbase h
end Go
namespace Go.Proofs.Ytiaodmfipeoegaa.Ai
open Go Go.Proofs Go.RowKit
set_option linter.unusedSimpArgs false
set_option linter.unusedVariables false
theorem repIs_ints0 {w : World} {I : Nat → Prop} : ∀ {l : List Int} {vs : List Value}, RepIs w I (l.map cInt).flatten vs → vs = l.map (Value.int .i64)
  | [], _, h => by cases h; rfl
  | x :: r, _, h => by
    simp only [List.map_cons, List.flatten_cons, cInt, List.cons_append, List.nil_append] at h
    cases h with
    | cons h1 h2 =>
      cases h1 with
      | int k n hn => rw [List.map_cons, repIs_ints0 h2]
theorem repIs_ints1 {w : World} {I : Nat → Prop} : ∀ {l : List Int}, (∀ x ∈ l, IntKind.i64.wrap x = x) → RepIs w I (l.map cInt).flatten (l.map (Value.int .i64))
  | [], _ => .nil
  | x :: r, h => .cons (.int _ _ (h x (by simp))) (repIs_ints1 fun y hy => h y (by simp [hy]))
section
variable {P : Program} {w : World} {I : Nat → Prop}
theorem calls_bool {f : FuncId} {args : List PV} {b : Bool} (h : OkA P f args (· = .bool b)) {vs : List Value} (hI : InR w I) (ha : All2 (RepArg w I) args vs) :
    Calls P f vs.toArray w fun e w' => e = .returned (.bool b) ∧ Below w.heap.size w w' := by
  refine (h.2 w I vs hI ha).mono ?_
  rintro e w' ⟨v, r, gs, rfl, rfl, hb, -, -, hr⟩
  cases hr with
  | one hr => cases hr with
    | imm hr => cases hr; exact ⟨rfl, hb⟩
theorem calls_int {f : FuncId} {args : List PV} {n : Int} (h : OkA P f args (· = .int .i64 n)) {vs : List Value} (hI : InR w I) (ha : All2 (RepArg w I) args vs) :
    Calls P f vs.toArray w fun e w' => e = .returned (.int .i64 n) ∧ Below w.heap.size w w' := by
  refine (h.2 w I vs hI ha).mono ?_
  rintro e w' ⟨v, r, gs, rfl, rfl, hb, -, -, hr⟩
  cases hr with
  | one hr => cases hr with
    | imm hr => cases hr; exact ⟨rfl, hb⟩
end

/-- From w to w' only the blocks of S have changed, and new ones have come. -/
structure Upd (S : Nat → Prop) (w w' : World) : Prop where
  os : w'.os = w.os
  tape : w'.tape = w.tape
  output : w'.output = w.output
  size : w.heap.size ≤ w'.heap.size
  block : ∀ k, k < w.heap.size → ¬ S k → w'.heap[k]? = w.heap[k]?
theorem Upd.refl (S : Nat → Prop) (w : World) : Upd S w w := ⟨rfl, rfl, rfl, Nat.le_refl _, fun _ _ _ => rfl⟩
theorem Upd.trans {S : Nat → Prop} {a b c : World} (h : Upd S a b) (k : Upd S b c) : Upd S a c :=
  ⟨k.os.trans h.os, k.tape.trans h.tape, k.output.trans h.output, Nat.le_trans h.size k.size, fun i hi hs => (k.block i (Nat.lt_of_lt_of_le hi h.size) hs).trans (h.block i hi hs)⟩
theorem Upd.of {S : Nat → Prop} {w w' : World} (h : Below w.heap.size w w') : Upd S w w' := ⟨h.os, h.tape, h.output, h.size, fun k hk _ => h.block k hk⟩
theorem Upd.below {S : Nat → Prop} {w w' : World} (h : Upd S w w') {B : Nat} (hB : B ≤ w.heap.size) (hS : ∀ k, S k → B ≤ k) : Below B w w' :=
  ⟨h.os, h.tape, h.output, h.size, fun k hk => h.block k (Nat.lt_of_lt_of_le hk hB) fun hs => by have := hS k hs; omega⟩
/-- A row of numbers of one's own. -/
def OwnI (w : World) (B : Nat) (v : Value) (o : List Int) : Prop := w.ownsRow B 3 1 v o.length (o.map (.int .i64))
theorem OwnI.upd {S : Nat → Prop} {w w' : World} {B : Nat} {v : Value} {o : List Int} (h : OwnI w B v o) (hu : Upd S w w') (hS : ∀ k, S k → k < B) : OwnI w' B v o := by
  obtain ⟨h1, h2⟩ := h
  refine ⟨h1, ?_⟩
  rcases h2 with h2 | ⟨g, cap, cur, hv, hg, hh, r⟩
  · exact .inl h2
  · exact .inr ⟨g, cap, cur, hv, hg, by rw [hu.block g (Array.getElem?_eq_some_iff.1 hh).1 fun hs => by have := hS g hs; omega]; exact hh, r⟩
theorem OwnI.below {w w' : World} {B : Nat} {v : Value} {o : List Int} (h : OwnI w B v o) (hu : Below w.heap.size w w') : OwnI w' B v o := h.upd (Upd.of (S := fun _ => False) hu) fun _ h => h.elim
theorem OwnI.low {w : World} {B C : Nat} {v : Value} {o : List Int} (h : OwnI w B v o) (hC : C ≤ B) : OwnI w C v o := by
  obtain ⟨h1, h2⟩ := h
  refine ⟨h1, ?_⟩
  rcases h2 with h2 | ⟨g, cap, cur, hv, hg, r⟩
  · exact .inl h2
  · exact .inr ⟨g, cap, cur, hv, by omega, r⟩
theorem OwnI.rep {w : World} {B : Nat} {v : Value} {o : List Int} (h : OwnI w B v o) (hx : ∀ x ∈ o, IntKind.i64.wrap x = x) : RepI w (fun k => k < w.heap.size) (.isl 1 (rows cInt o)) v := by
  obtain ⟨-, ⟨rfl, hn⟩ | ⟨g, cap, cur, rfl, hb, hg, h1, h2, h3, h4⟩⟩ := h
  · rw [List.length_eq_zero_iff.1 hn, rows_nil]
    exact .isl0 1 none 0 (Nat.zero_le _)
  · have := RepI.isl (w := w) (I := fun k => k < w.heap.size) 1 (o.map cInt) g 0 cap (o.map (.int .i64)) (fun e he => by obtain ⟨y, -, rfl⟩ := List.mem_map.1 he; rfl)
      (repIs_ints1 hx) (Array.getElem?_eq_some_iff.1 hg).1
      (fun j y hy => by
        rw [Nat.mul_one] at h4
        rw [← h4, List.getElem?_take] at hy
        split at hy
        · rw [Nat.zero_add]
          simp only [World.cell?, hg, Option.bind_some]
          rw [← Array.getElem?_toList]
          simpa using hy
        · cases hy) (by rw [List.length_map]; exact h1) h2
    rw [List.length_map] at this
    rw [rows_eq]; exact this
theorem inr_all (w : World) : InR w (fun k => k < w.heap.size) := ⟨fun _ h => h, 0, Nat.zero_le _, Good.triv _ _⟩

theorem OwnI.cells {w : World} {B g n cap : Nat} {o : List Int} (h : OwnI w B (.slice (some ⟨g, 0, none⟩) n cap) o) : ∀ j u, (o.map (Value.int .i64))[j]? = some u → w.cell? ((⟨g, 0, none⟩ : Addr).add j) = some u := by
  intro j u hu
  obtain ⟨-, ⟨h0, -⟩ | ⟨g2, cap2, cur, h0, hb, hg, h1, h2, h3, h4⟩⟩ := h
  · cases h0
  · cases h0
    rw [Nat.mul_one] at h4
    rw [← h4, List.getElem?_take] at hu
    split at hu
    · rw [Addr.add_lit, Nat.zero_add]
      simp only [World.cell?, hg, Option.bind_some]
      rw [← Array.getElem?_toList]
      simpa using hu
    · cases hu
theorem OwnI.of_row {w : World} {B m : Nat} {v : Value} {p : List Int} {xs : List Value} (h : w.ownsRow B 3 1 v m xs) (hm : m = p.length) (hx : xs = p.map (.int .i64)) : OwnI w B v p := by
  subst hm; subst hx; exact h
theorem own_next {w : World} {B C : Nat} {v : Value} {o : List Int} {j : Int} (h : w.ownsRow C 3 1 v (o.length + 1) (o.map (.int .i64) ++ [.int .i64 j])) (hC : B ≤ C) : OwnI w B v (o ++ [j]) :=
  (OwnI.of_row h (by simp) (by simp)).low hC
theorem own_next2 {w : World} {B C : Nat} {v : Value} {o : List Int} {j : Int} (h : w.ownsRow C 3 1 v (0 + o.length + 1) ([] ++ o.map (.int .i64) ++ [.int .i64 j])) (hC : B ≤ C) : OwnI w B v (o ++ [j]) :=
  (OwnI.of_row h (by simp) (by simp)).low hC
theorem ints_one (l : List Int) : ∀ u ∈ l.map (Value.int .i64), u.oneCell' = true := by
  intro u hu; obtain ⟨x, -, rfl⟩ := List.mem_map.1 hu; rfl
theorem new_cell (w : World) (n : Int) : ∀ j u, ([Value.int .i64 n] : List Value)[j]? = some u → (w.alloc (.cells #[.int .i64 n] 3)).cell? ((⟨w.heap.size, 0, none⟩ : Addr).add j) = some u := by
  intro j u hj
  match j, hj with
  | 0, hj => simp at hj; subst hj; simp [Addr.add]
theorem new_one (n : Int) : ∀ u ∈ ([Value.int .i64 n] : List Value), u.oneCell' = true := by
  intro u hu; simp at hu; subst hu; rfl

theorem OwnI.repQ {w : World} {B : Nat} {v : Value} {o : List Int} (h : OwnI w B v o) (hx : ∀ x ∈ o, IntKind.i64.wrap x = x) {Q : Nat → Prop} (hQ : ∀ g, B ≤ g → Q g) : RepI w Q (.isl 1 (rows cInt o)) v := by
  obtain ⟨-, ⟨rfl, hn⟩ | ⟨g, cap, cur, rfl, hb, hg, h1, h2, h3, h4⟩⟩ := h
  · rw [List.length_eq_zero_iff.1 hn, rows_nil]
    exact .isl0 1 none 0 (Nat.zero_le _)
  · have := RepI.isl (w := w) (I := Q) 1 (o.map cInt) g 0 cap (o.map (.int .i64)) (fun e he => by obtain ⟨y, -, rfl⟩ := List.mem_map.1 he; rfl)
      (repIs_ints1 hx) (hQ g hb)
      (fun j y hy => by
        rw [Nat.mul_one] at h4
        rw [← h4, List.getElem?_take] at hy
        split at hy
        · rw [Nat.zero_add]
          simp only [World.cell?, hg, Option.bind_some]
          rw [← Array.getElem?_toList]
          simpa using hy
        · cases hy) (by rw [List.length_map]; exact h1) h2
    rw [List.length_map] at this
    rw [rows_eq]; exact this
theorem isl_shape {w : World} {I : Nat → Prop} {n : Nat} {es : List (List PV)} {v : Value} (h : RepI w I (.isl n es) v) : ∃ A c, v = .slice A es.length c := by
  cases h with
  | isl0 _ A c hm => exact ⟨A, c, rfl⟩
  | isl _ _ g o c vs h1 hr hI hc hl hm => exact ⟨_, c, rfl⟩
theorem enters_eq {f : FuncId} {fn : Func} {c : Code} (hf : Try.prog.funcs[f]? = some fn) (hname : (fn.name == "runtime.NumGoroutine") = false) (hb : fn.body = some c) : ∀ (args : Array Value) (w : World), (callFunc f args).run Try.prog w = .ok (.enter f args) w := enters_of hf hname hb
theorem OwnI.ne {w : World} {B k : Nat} {v : Value} {o : List Int} (h : OwnI w B v o) (hk : k < B) : v.ownBlock ≠ some k := fun e => by have := (World.ownsRow.lt h k e).1; omega
theorem OwnI.shape {w : World} {B : Nat} {v : Value} {o : List Int} (h : OwnI w B v o) : ∃ k cc, v = .slice k o.length cc := by
  obtain ⟨-, ⟨rfl, hn⟩ | ⟨g, cap, cur, rfl, r⟩⟩ := h
  · exact ⟨none, 0, by rw [hn]⟩
  · exact ⟨_, _, rfl⟩
theorem Upd.mono {S T : Nat → Prop} {w w' : World} (h : Upd S w w') (hs : ∀ k, S k → T k) : Upd T w w' := ⟨h.os, h.tape, h.output, h.size, fun k hk hn => h.block k hk fun e => hn (hs k e)⟩
theorem setCell_size (w : World) (a : Addr) (u : Value) : (w.setCell a u).heap.size = w.heap.size := by simp [World.setCell]
theorem upd_setCell (w : World) (b : Nat) (u : Value) : Upd (· = b) w (w.setCell ⟨b, 0, none⟩ u) :=
  ⟨by simp [World.setCell], by simp [World.setCell], by simp [World.setCell], by rw [setCell_size]; exact Nat.le_refl _, fun k hk hn => Below.heap_setCell _ _ _ _ hn⟩

/-- The best list so far and its number, in two boxes. -/
structure Found (B0 bb bs : Nat) (w : World) (a : List Int × Int) : Prop where
  least : w.heap[bs]? = some (.cells #[.int .i64 a.2] 3 (0, 0))
  best : ∃ vb, w.heap[bb]? = some (.cells #[vb] 46 (0, 0)) ∧ OwnI w B0 vb a.1 ∧ vb.ownBlock ≠ some bs
  bb0 : B0 ≤ bb
  bs0 : B0 ≤ bs
theorem Found.lt {B0 bb bs : Nat} {w : World} {a : List Int × Int} (h : Found B0 bb bs w a) : bb < w.heap.size ∧ bs < w.heap.size ∧ bb ≠ bs := by
  obtain ⟨h1, ⟨vb, h2, -, -⟩, -, -⟩ := h
  exact ⟨(Array.getElem?_eq_some_iff.1 h2).1, (Array.getElem?_eq_some_iff.1 h1).1, fun e => by subst e; rw [h1] at h2; simp at h2⟩
theorem Found.below {B0 bb bs : Nat} {w w' : World} {a : List Int × Int} (h : Found B0 bb bs w a) (hu : Below w.heap.size w w') : Found B0 bb bs w' a := by
  obtain ⟨h1, ⟨vb, h2, h3, h4⟩, h5, h6⟩ := h
  have kp : ∀ {k : Nat} {o : Obj}, w.heap[k]? = some o → w'.heap[k]? = some o := fun {k o} ho => by rw [hu.block k (Array.getElem?_eq_some_iff.1 ho).1]; exact ho
  exact ⟨kp h1, ⟨vb, kp h2, h3.below hu, h4⟩, h5, h6⟩
theorem Found.store {B0 bb bs : Nat} {w : World} {a : List Int × Int} (h : Found B0 bb bs w a) {B : Nat} {v : Value} {o : List Int} (hv : OwnI w B v o) (hB0 : B0 ≤ B) (hb : bb < B) (hs : bs < B) (t : Int) :
    Found B0 bb bs ((w.setCell ⟨bb, 0, none⟩ v).setCell ⟨bs, 0, none⟩ (.int .i64 t)) (o, t) ∧ Upd (fun k => k = bb ∨ k = bs) w ((w.setCell ⟨bb, 0, none⟩ v).setCell ⟨bs, 0, none⟩ (.int .i64 t)) ∧
    (w.setCell ⟨bb, 0, none⟩ v).cell? ⟨bs, 0, none⟩ = some (.int .i64 a.2) ∧ (w.setCell ⟨bb, 0, none⟩ v).frozen? ⟨bs, 0, none⟩ = false := by
  obtain ⟨l1, l2, ne⟩ := h.lt
  obtain ⟨h1, ⟨vb, h2, h3, h4⟩, h5, h6⟩ := h
  have k1 : (w.setCell ⟨bb, 0, none⟩ v).heap[bs]? = some (.cells #[.int .i64 a.2] 3 (0, 0)) := by rw [(upd_setCell w bb v).block _ l2 (fun e => ne e.symm)]; exact h1
  refine ⟨⟨one_setCell k1, ⟨v, ?_, ?_, hv.ne hs⟩, h5, h6⟩, ((upd_setCell w bb v).mono fun k e => .inl e).trans ((upd_setCell _ bs _).mono fun k e => .inr e), cell_of_one k1, free_of_one k1⟩
  · rw [(upd_setCell _ bs _).block _ (by rw [setCell_size]; exact l1) ne]; exact one_setCell h2
  · exact (show OwnI _ B _ _ from ownsRow_setCell_other (a := ⟨bs, 0, none⟩) (ownsRow_setCell_other (a := ⟨bb, 0, none⟩) hv (hv.ne hb) _) (hv.ne hs) _).low hB0

/-- Two boxes for what is found, as they are made: a list without elements, a box that holds it, a box that holds -1. -/
theorem found_ready {B0 : Nat} {w : World} (hb0 : B0 ≤ w.heap.size) :
    Found B0 (w.heap.size + 1) (w.heap.size + 1 + 1) (((w.alloc (.cells #[] 3)).alloc (.cells #[.slice (some ⟨w.heap.size, 0, none⟩) 0 0] 46)).alloc (.cells #[.int .i64 (-1)] 3)) ([], -1) ∧
    Below w.heap.size w (((w.alloc (.cells #[] 3)).alloc (.cells #[.slice (some ⟨w.heap.size, 0, none⟩) 0 0] 46)).alloc (.cells #[.int .i64 (-1)] 3)) ∧
    (((w.alloc (.cells #[] 3)).alloc (.cells #[.slice (some ⟨w.heap.size, 0, none⟩) 0 0] 46)).alloc (.cells #[.int .i64 (-1)] 3)).heap.size = w.heap.size + 3 := by
  generalize hW1 : w.alloc (.cells #[] 3) = W1
  have s1 : W1.heap.size = w.heap.size + 1 := by rw [← hW1]; simp
  have q1 : Below w.heap.size w W1 := by rw [← hW1]; exact (Below.refl _ _).alloc (Nat.le_refl _) _
  have r1 : OwnI W1 B0 (.slice (some ⟨w.heap.size, 0, none⟩) 0 0) [] := by rw [← hW1]; exact World.ownsRow_made w #[] 0 hb0 (Nat.zero_le _) rfl
  generalize hW2 : W1.alloc (.cells #[.slice (some ⟨w.heap.size, 0, none⟩) 0 0] 46) = W2
  have s2 : W2.heap.size = w.heap.size + 2 := by rw [← hW2]; simp [s1]
  have q2 : Below W1.heap.size W1 W2 := by rw [← hW2]; exact (Below.refl _ _).alloc (Nat.le_refl _) _
  have e2 : W2.heap[w.heap.size + 1]? = some (.cells #[.slice (some ⟨w.heap.size, 0, none⟩) 0 0] 46 (0, 0)) := by rw [← hW2, ← s1]; exact heap_alloc_new W1 _
  generalize hW3 : W2.alloc (.cells #[.int .i64 (-1)] 3) = W3
  have s3 : W3.heap.size = w.heap.size + 3 := by rw [← hW3]; simp [s2]
  have q3 : Below W2.heap.size W2 W3 := by rw [← hW3]; exact (Below.refl _ _).alloc (Nat.le_refl _) _
  have e3 : W3.heap[w.heap.size + 1 + 1]? = some (.cells #[.int .i64 (-1)] 3 (0, 0)) := by rw [← hW3, show w.heap.size + 1 + 1 = W2.heap.size by omega]; exact heap_alloc_new W2 _
  refine ⟨⟨e3, ⟨_, by rw [q3.block _ (by omega)]; exact e2, (r1.below q2).below q3, ?_⟩, by omega, by omega⟩, (q1.trans (q2.mono q1.size)).trans (q3.mono (by omega)), s3⟩
  simp [Value.ownBlock]; omega
/-- A list without elements, new. -/
theorem own_new (w : World) {B : Nat} (hB : B ≤ w.heap.size) : OwnI (w.alloc (.cells #[] 3)) B (.slice (some ⟨w.heap.size, 0, none⟩) 0 0) [] := World.ownsRow_made w #[] 0 hB (Nat.zero_le _) rfl
theorem alloc_below (w : World) (o : Obj) : Below w.heap.size w (w.alloc o) := (Below.refl _ _).alloc (Nat.le_refl _) _
theorem found_ready2 {B0 : Nat} {w : World} (hb0 : B0 ≤ w.heap.size) :
    Found B0 (w.heap.size + 1) (w.heap.size + 1 + 1) ((((w.alloc (.cells #[] 3)).alloc (.cells #[.slice (some ⟨w.heap.size, 0, none⟩) 0 0] 46)).alloc (.cells #[.int .i64 (-1)] 3)).alloc (.cells #[] 3)) ([], -1) ∧
    Below w.heap.size w ((((w.alloc (.cells #[] 3)).alloc (.cells #[.slice (some ⟨w.heap.size, 0, none⟩) 0 0] 46)).alloc (.cells #[.int .i64 (-1)] 3)).alloc (.cells #[] 3)) ∧
    ((((w.alloc (.cells #[] 3)).alloc (.cells #[.slice (some ⟨w.heap.size, 0, none⟩) 0 0] 46)).alloc (.cells #[.int .i64 (-1)] 3)).alloc (.cells #[] 3)).heap.size = w.heap.size + 4 ∧
    OwnI ((((w.alloc (.cells #[] 3)).alloc (.cells #[.slice (some ⟨w.heap.size, 0, none⟩) 0 0] 46)).alloc (.cells #[.int .i64 (-1)] 3)).alloc (.cells #[] 3)) (w.heap.size + 3) (.slice (some ⟨w.heap.size + 1 + 1 + 1, 0, none⟩) 0 0) [] := by
  obtain ⟨h1, h2, h3⟩ := found_ready hb0
  generalize ((w.alloc (.cells #[] 3)).alloc (.cells #[.slice (some ⟨w.heap.size, 0, none⟩) 0 0] 46)).alloc (.cells #[.int .i64 (-1)] 3) = X at h1 h2 h3 ⊢
  refine ⟨h1.below (alloc_below _ _), h2.trans ((alloc_below _ _).mono h2.size), by rw [World.size_alloc, h3], ?_⟩
  have := own_new X (B := w.heap.size + 3) (by omega)
  rw [h3] at this
  exact this
theorem own_res {w : World} {B : Nat} {v : Value} {o : List Int} (h : OwnI w B v o) (hx : ∀ x ∈ o, IntKind.i64.wrap x = x) :
    (∀ I, Res1 w I B (.fr 3 1 (rows cInt o)) v (headOf v).toList) ∧ (headOf v).toList.Nodup ∧ ∀ g ∈ (headOf v).toList, B ≤ g ∧ g < w.heap.size := by
  refine ⟨fun I => .fr _ _ _ _ (o.map (.int .i64)) (by rw [rows_eq, List.length_map]; exact h) (by rw [rows_eq]; exact repIs_ints1 hx) (fun x hx => by rw [rows_eq] at hx; obtain ⟨y, -, rfl⟩ := List.mem_map.1 hx; rfl), ?_, ?_⟩
  · cases headOf v <;> simp
  · obtain ⟨-, ⟨rfl, hn⟩ | ⟨g, cap, cur, rfl, hb, hg, r⟩⟩ := h
    · intro g hg; cases hg
    · intro k hk
      obtain rfl : k = g := by simpa [headOf] using hk
      exact ⟨hb, (Array.getElem?_eq_some_iff.1 hg).1⟩
theorem lic_rep {w w' : World} {I : Nat → Prop} {v : Value} {o : List Int} {n : Int} {b : Bool} (h : OwnI w' w.heap.size v o) (hx : ∀ x ∈ o, IntKind.i64.wrap x = x) (hn : IntKind.i64.wrap n = n) :
    RepR I w.heap.size w' (lic 3 1 cInt (o, n, b)) (.tuple #[v, .int .i64 n, .bool b]) ((headOf v).toList ++ ([] ++ ([] ++ []))) := by
  obtain ⟨h1, h2, h3⟩ := own_res h hx
  refine ⟨by simpa using h2, fun g hg => h3 g (by simpa using hg), .tup (.cons (h1 _) (.cons (.imm (.int _ _ hn)) (.cons (.imm (.bool _)) .nil)))⟩
theorem lb_rep {w w' : World} {I : Nat → Prop} {v : Value} {o : List Int} {b : Bool} (h : OwnI w' w.heap.size v o) (hx : ∀ x ∈ o, IntKind.i64.wrap x = x) :
    RepR I w.heap.size w' (lb 3 1 cInt (o, b)) (.tuple #[v, .bool b]) ((headOf v).toList ++ ([] ++ [])) := by
  obtain ⟨h1, h2, h3⟩ := own_res h hx
  exact ⟨by simpa using h2, fun g hg => h3 g (by simpa using hg), .tup (.cons (h1 _) (.cons (.imm (.bool _)) .nil))⟩
theorem one_args {w : World} {I : Nat → Prop} {p : PV} {r : List PV} {vs : List Value} (hp : ∀ cs, p ≠ .agg cs) (h : All2 (RepArg w I) (p :: r) vs) : ∃ u us, vs = u :: us ∧ All2 (RepArg w I) r us ∧ RepI w I p u := by
  cases h with
  | cons h t =>
    cases h with
    | one h => exact ⟨_, _, rfl, t, h⟩
    | agg cs _ _ => exact absurd rfl (hp cs)
theorem nil_args {w : World} {I : Nat → Prop} {vs : List Value} (h : All2 (RepArg w I) [] vs) : vs = [] := by cases h; rfl
theorem own_some {w : World} {B : Nat} {v : Value} {p : List Int} (h : OwnI w B v p) (hp : p ≠ []) : ∃ g cap cur, v = .slice (some ⟨g, 0, none⟩) p.length cap ∧ w.heap[g]? = some (.cells cur 3 (0, 0)) ∧ p.length ≤ cap ∧ cur.size = cap ∧ cur.toList.take p.length = p.map (.int .i64) := by
  obtain ⟨-, ⟨rfl, hn⟩ | ⟨g, cap, cur, rfl, hb, hg, h1, h2, h3, h4⟩⟩ := h
  · exact absurd (List.length_eq_zero_iff.1 hn) hp
  · exact ⟨g, cap, cur, rfl, hg, h1, by omega, by simpa using h4⟩
theorem own_size0 {w : World} {B g : Nat} {p : List Int} (h : OwnI w B (.slice (some ⟨g, 0, none⟩) 0 0) p) : ∃ cur, w.heap[g]? = some (.cells cur 3 (0, 0)) ∧ cur.size = 0 := by
  obtain ⟨-, ⟨h0, hn⟩ | ⟨g2, cap, cur, h0, hb, hg, h1, h2, h3, h4⟩⟩ := h
  · cases h0
  · injection h0 with a b c
    injection a with a
    injection a with a
    subst c; subst a
    exact ⟨cur, hg, by omega⟩
/-- Rows that hold nothing in common lie apart. -/
theorem rows_apart {w : World} {B : Nat} {v1 v2 : Value} {p q : List Int} (h1 : OwnI w B v1 p) (h2 : OwnI w B v2 q) (hp : p ≠ []) (e2 : q = [] → ∃ g, v2 = .slice (some ⟨g, 0, none⟩) 0 0) (hd : ∀ x, x ∈ p → x ∈ q → False) : v1.ownBlock ≠ v2.ownBlock := by
  intro e
  obtain ⟨g, cap, cur, rfl, k1, k2, k3, k4⟩ := own_some h1 hp
  by_cases hq : q = []
  · obtain ⟨g2, rfl⟩ := e2 hq
    obtain ⟨cur2, j1, j2⟩ := own_size0 h2
    obtain rfl : g = g2 := by simpa [Value.ownBlock] using e
    rw [k1] at j1
    obtain rfl : cur = cur2 := by simpa using j1
    have := List.length_pos_iff.2 hp
    omega
  · obtain ⟨g2, cap2, cur2, rfl, j1, j2, j3, j4⟩ := own_some h2 hq
    obtain rfl : g = g2 := by simpa [Value.ownBlock] using e
    rw [k1] at j1
    obtain rfl : cur = cur2 := by simpa using j1
    cases p with
    | nil => exact hp rfl
    | cons x r => cases q with
      | nil => exact hq rfl
      | cons y t =>
        cases hc : cur.toList with
        | nil => rw [hc] at k4; simp at k4
        | cons c cs =>
          rw [hc] at k4 j4
          simp at k4 j4
          have : x = y := by have := k4.1.symm.trans j4.1; simpa using this
          subst this
          exact hd x (by simp) (by simp)
theorem OwnI.kept {w w' : World} {B : Nat} {v : Value} {o : List Int} {row : Option Nat} (h : OwnI w B v o) (hg : w.grownBy w' row) (hne : v.ownBlock = none ∨ v.ownBlock ≠ row) : OwnI w' B v o := World.ownsRow.kept h hg hne
theorem own_some1 {w : World} {B : Nat} {v : Value} {s : List Int} {x : Int} (h : OwnI w B v (s ++ [x])) : ∃ g cap, v = .slice (some ⟨g, 0, none⟩) (s.length + 1) cap := by
  obtain ⟨g, cap, cur, rfl, -⟩ := own_some h (by simp)
  exact ⟨g, cap, by rw [List.length_append]; rfl⟩
/-- A list without elements and one of one element, made one behind the other. -/
theorem two_news (w : World) (n : Int) : (Below w.heap.size w (w.alloc (.cells #[] 3)).drew ∧ (w.alloc (.cells #[] 3)).drew.ownsRow w.heap.size 3 1 (.slice (some ⟨w.heap.size, 0, none⟩) 0 0) 0 []) ∧
    (Below w.heap.size w ((w.alloc (.cells #[] 3)).alloc (.cells #[.int .i64 n] 3)).drew ∧ ((w.alloc (.cells #[] 3)).alloc (.cells #[.int .i64 n] 3)).drew.ownsRow w.heap.size 3 1 (.slice (some ⟨w.heap.size, 0, none⟩) 0 0) 0 [] ∧
      ∀ j u, ([Value.int .i64 n] : List Value)[j]? = some u → ((w.alloc (.cells #[] 3)).alloc (.cells #[.int .i64 n] 3)).drew.cell? ((⟨w.heap.size + 1, 0, none⟩ : Addr).add j) = some u) ∧
    (Below w.heap.size w ((w.alloc (.cells #[.int .i64 n] 3)).alloc (.cells #[] 3)).drew ∧ ((w.alloc (.cells #[.int .i64 n] 3)).alloc (.cells #[] 3)).drew.ownsRow w.heap.size 3 1 (.slice (some ⟨w.heap.size + 1, 0, none⟩) 0 0) 0 [] ∧
      ∀ j u, ([Value.int .i64 n] : List Value)[j]? = some u → ((w.alloc (.cells #[.int .i64 n] 3)).alloc (.cells #[] 3)).drew.cell? ((⟨w.heap.size, 0, none⟩ : Addr).add j) = some u) ∧
    Below w.heap.size w (w.alloc (.cells #[.int .i64 n] 3)).drew := by
  have b1 := alloc_below w (.cells #[] 3)
  have b2 := alloc_below w (.cells #[.int .i64 n] 3)
  have s1 : (w.alloc (.cells #[] 3)).heap.size = w.heap.size + 1 := by simp
  have s2 : (w.alloc (.cells #[.int .i64 n] 3)).heap.size = w.heap.size + 1 := by simp
  refine ⟨⟨b1.drew, World.ownsRow_made w #[] 0 (Nat.le_refl _) (Nat.zero_le _) rfl⟩, ⟨(b1.alloc b1.size _).drew, ?_, ?_⟩, ⟨(b2.alloc b2.size _).drew, ?_, ?_⟩, b2.drew⟩
  · exact World.ownsRow.alloc (World.ownsRow_made w #[] 0 (Nat.le_refl _) (Nat.zero_le _) rfl) _
  · have h := new_cell (w.alloc (.cells #[] 3)) n
    rw [s1] at h; exact h
  · have h := World.ownsRow_made (base := w.heap.size) (e := 3) (size := 1) (w.alloc (.cells #[.int .i64 n] 3)) #[] 0 b2.size (Nat.zero_le _) rfl
    rw [s2] at h; exact h
  · intro j u hj
    have h := new_cell w n j u hj
    have e : j = 0 := by
      cases j with
      | zero => rfl
      | succ j => simp at hj
    subst e
    have hb : ((w.alloc (.cells #[.int .i64 n] 3)).alloc (.cells #[] 3)).heap[w.heap.size]? = (w.alloc (.cells #[.int .i64 n] 3)).heap[w.heap.size]? := (alloc_below _ _).block _ (by omega)
    have e2 : ((⟨w.heap.size, 0, none⟩ : Addr).add 0).block = w.heap.size := by unfold Addr.add; split <;> rfl
    exact (World.cell?_of_block (w' := ((w.alloc (.cells #[.int .i64 n] 3)).alloc (.cells #[] 3)).drew) (by rw [e2]; exact hb)).trans h
/-- What is to be appended stays while another row grows. -/
theorem news_kept {w w' : World} {n : Int} {b : Nat} {row : Option Nat} (h : ∀ j u, ([Value.int .i64 n] : List Value)[j]? = some u → w.cell? ((⟨b, 0, none⟩ : Addr).add j) = some u) (hg : w.grownBy w' row) (hne : some b ≠ row) :
    ∀ j u, ([Value.int .i64 n] : List Value)[j]? = some u → w'.cell? ((⟨b, 0, none⟩ : Addr).add j) = some u := by
  intro j u hj
  have e : ((⟨b, 0, none⟩ : Addr).add j).block = b := by unfold Addr.add; split <;> rfl
  exact hg.cell (h j u hj) (by rw [e]; exact hne)
/-- A row of numbers that is only read, in a block from B on. -/
def InRow (B : Nat) (W : World) (v : Value) (o : List Int) : Prop := RepI W (fun g => B ≤ g ∧ g < W.heap.size ∧ plain W g) (.isl 1 (rows cInt o)) v
theorem InRow.below {B : Nat} {W W' : World} {v : Value} {o : List Int} (h : InRow B W v o) (hu : Below W.heap.size W W') : InRow B W' v o :=
  (show RepI W _ (.isl 1 (rows cInt o)) v from h).mono fun g hg => ⟨⟨hg.1, Nat.lt_of_lt_of_le hg.2.1 hu.size, by obtain ⟨-, h2, a, e, h3⟩ := hg; exact ⟨a, e, (hu.block g h2).trans h3⟩⟩, hu.block g hg.2.1⟩
theorem InRow.arg {B : Nat} {W : World} {v : Value} {o : List Int} (h : InRow B W v o) : RepArg W (fun k => k < W.heap.size) (.isl 1 (rows cInt o)) v :=
  .one ((show RepI W _ (.isl 1 (rows cInt o)) v from h).mono fun g hg => ⟨hg.2.1, rfl⟩)
theorem InRow.shape {B : Nat} {W : World} {v : Value} {o : List Int} (h : InRow B W v o) : ∃ A c, v = .slice A o.length c := by
  have := isl_shape h
  rwa [rows_eq, List.length_map] at this
theorem OwnI.repP {B C : Nat} {w : World} {v : Value} {o : List Int} (h : OwnI w C v o) (hB : B ≤ C) (hx : ∀ x ∈ o, IntKind.i64.wrap x = x) : InRow B w v o := by
  obtain ⟨-, ⟨rfl, hn⟩ | ⟨g, cap, cur, rfl, hb, hg, h1, h2, h3, h4⟩⟩ := h
  · unfold InRow
    rw [List.length_eq_zero_iff.1 hn, rows_nil]
    exact .isl0 1 none 0 (Nat.zero_le _)
  · have := RepI.isl (w := w) (I := fun g => B ≤ g ∧ g < w.heap.size ∧ plain w g) 1 (o.map cInt) g 0 cap (o.map (.int .i64)) (fun e he => by obtain ⟨y, -, rfl⟩ := List.mem_map.1 he; rfl)
      (repIs_ints1 hx) ⟨by omega, (Array.getElem?_eq_some_iff.1 hg).1, _, _, hg⟩
      (fun j y hy => by
        rw [Nat.mul_one] at h4
        rw [← h4, List.getElem?_take] at hy
        split at hy
        · rw [Nat.zero_add]
          simp only [World.cell?, hg, Option.bind_some]
          rw [← Array.getElem?_toList]
          simpa using hy
        · cases hy) (by rw [List.length_map]; exact h1) h2
    rw [List.length_map] at this
    unfold InRow
    rw [rows_eq]; exact this
theorem news_below {w w' : World} {n : Int} {b : Nat} (h : ∀ j u, ([Value.int .i64 n] : List Value)[j]? = some u → w.cell? ((⟨b, 0, none⟩ : Addr).add j) = some u) (hb : b < w.heap.size) (hu : Below w.heap.size w w') :
    ∀ j u, ([Value.int .i64 n] : List Value)[j]? = some u → w'.cell? ((⟨b, 0, none⟩ : Addr).add j) = some u := by
  intro j u hj
  have e : ((⟨b, 0, none⟩ : Addr).add j).block = b := by unfold Addr.add; split <;> rfl
  exact (World.cell?_of_block (by rw [e]; exact hu.block b hb)).trans (h j u hj)
theorem calls_row {P : Program} {w : World} {I : Nat → Prop} {f : FuncId} {args : List PV} {e : TypeId} {l : List Int} (h : OkA P f args (· = .fr e 1 (rows cInt l))) {vs : List Value} (hI : InR w I) (ha : All2 (RepArg w I) args vs) :
    Calls P f vs.toArray w fun en w' => ∃ v, en = .returned v ∧ Below w.heap.size w w' ∧ w'.ownsRow w.heap.size e 1 v l.length (l.map (.int .i64)) := by
  refine (h.2 w I vs hI ha).mono ?_
  rintro en w' ⟨v, r, gs, rfl, rfl, hb, -, -, hr⟩
  refine ⟨v, rfl, hb, ?_⟩
  cases hr with
  | one hr => cases hr with
    | imm hr => cases hr
    | fr _ _ _ _ vals ho hr hl =>
      rw [rows_eq] at ho hr
      have := repIs_ints0 hr
      subst this
      simpa using ho
end Go.Proofs.Ytiaodmfipeoegaa.Ai
