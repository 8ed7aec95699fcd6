/- Rows of numbers of one's own, boxes, and calls of contracts: for walks by the kit's tactics. -/
import Derived.Test.YtngefbdedbbplaaTri
import Derived.Test.YtngefbdedbbplaaCommon
import Derived.Shelf.Abstract
import Derived.WalkKit
import Derived.BigCall
import Derived.Lib.Hide
import Derived.Laws.AppendOwnNone
import Derived.Deep.RegionWith
import Derived.Deep.DeepMust
import Derived.Deep.RegionHeld3
namespace Go
theorem step_append_own {P : Program} {w : World} {ops : Array Oper} {o : Oper} {a : Act} {K : Act → World → Prop} {Q : Exit → Act → World → Prop} {E : Prop} (hgd : o.guard = none) (s x : Operand) (t : TypeId)
    (ho : o.op = .call { callee := .builtin .append, args := #[s, x], argTypes := #[t, t] })
    (base : Nat) (e : TypeId) (i : TypeInfo) (z : Value) (size bytes : Nat) (ht : P.underlying t = some (.slice e)) (hi : P.info? e = some i) (hz : i.zero = some z)
    (hsize : i.size = size) (hby : i.bytes = bytes) (hzs : z.cells.size = size) (hsz : 0 < size)
    (v : Value) (n : Nat) (xs : List Value) (hs : a.eval s = v) (hown : w.ownsRow base e size v n xs)
    (ad : Addr) (m c : Nat) (news : List Value) (hx : a.eval x = .slice (some ad) m c) (hl : news.length = m * size) (hnews : ∀ j u, news[j]? = some u → w.cell? (ad.add j) = some u) (h1 : ∀ u ∈ news, u.oneCell' = true)
    (h63 : n + m ≤ maxLen) (hbytes : (n + m) * bytes ≤ 140737488355328) (hbase : base ≤ w.heap.size)
    (h : ∀ v' w', w'.ownsRow base e size v' (n + m) (xs ++ news) → w.grownBy w' v.ownBlock → (v' = .slice none 0 0 ↔ v = .slice none 0 0 ∧ m = 0) → K (a.put o.dst v') w') :
    if Region.wanted o (yielded ops a.tmps) = true then Oper.wp P o a w K Q else E := by
  have hw : Region.wanted o (yielded ops a.tmps) = true := by simp [Region.wanted, hgd]
  rw [if_pos hw]
  exact wp_append_own w s x t ho base e i z size bytes ht hi hz hsize hby hzs hsz v n xs hs hown ad m c news hx hl hnews h1 h63 hbytes hbase h
end Go
namespace Go.Proofs.Ytngefbdedbbplaa.Ai
open Go Go.Proofs Go.RowKit
set_option linter.unusedSimpArgs false
set_option linter.unusedVariables false
theorem repIs_ints0 {w : World} {I : Nat → Prop} : ∀ {l : List Int} {vs : List Value}, RepIs w I (l.map cInt).flatten vs → vs = l.map (Value.int .i64)
  | [], _, h => by cases h; rfl
  | x :: r, _, h => by
    simp only [List.map_cons, List.flatten_cons, cInt, List.cons_append, List.nil_append] at h
    cases h with
    | cons h1 h2 =>
      cases h1 with
      | int k n hn => rw [List.map_cons, repIs_ints0 h2]
theorem repIs_ints1 {w : World} {I : Nat → Prop} : ∀ {l : List Int}, (∀ x ∈ l, IntKind.i64.wrap x = x) → RepIs w I (l.map cInt).flatten (l.map (Value.int .i64))
  | [], _ => .nil
  | x :: r, h => .cons (.int _ _ (h x (by simp))) (repIs_ints1 fun y hy => h y (by simp [hy]))
section
variable {P : Program} {w : World} {I : Nat → Prop}
theorem calls_bool {f : FuncId} {args : List PV} {b : Bool} (h : OkA P f args (· = .bool b)) {vs : List Value} (hI : InR w I) (ha : All2 (RepArg w I) args vs) :
    Calls P f vs.toArray w fun e w' => e = .returned (.bool b) ∧ Below w.heap.size w w' := by
  refine (h.2 w I vs hI ha).mono ?_
  rintro e w' ⟨v, r, gs, rfl, rfl, hb, -, -, hr⟩
  cases hr with
  | one hr => cases hr with
    | imm hr => cases hr; exact ⟨rfl, hb⟩
theorem calls_int {f : FuncId} {args : List PV} {n : Int} (h : OkA P f args (· = .int .i64 n)) {vs : List Value} (hI : InR w I) (ha : All2 (RepArg w I) args vs) :
    Calls P f vs.toArray w fun e w' => e = .returned (.int .i64 n) ∧ Below w.heap.size w w' := by
  refine (h.2 w I vs hI ha).mono ?_
  rintro e w' ⟨v, r, gs, rfl, rfl, hb, -, -, hr⟩
  cases hr with
  | one hr => cases hr with
    | imm hr => cases hr; exact ⟨rfl, hb⟩
end

/-- From w to w' only the blocks of S have changed, and new ones have come. -/
structure Upd (S : Nat → Prop) (w w' : World) : Prop where
  os : w'.os = w.os
  tape : w'.tape = w.tape
  output : w'.output = w.output
  size : w.heap.size ≤ w'.heap.size
  block : ∀ k, k < w.heap.size → ¬ S k → w'.heap[k]? = w.heap[k]?
theorem Upd.refl (S : Nat → Prop) (w : World) : Upd S w w := ⟨rfl, rfl, rfl, Nat.le_refl _, fun _ _ _ => rfl⟩
theorem Upd.trans {S : Nat → Prop} {a b c : World} (h : Upd S a b) (k : Upd S b c) : Upd S a c :=
  ⟨k.os.trans h.os, k.tape.trans h.tape, k.output.trans h.output, Nat.le_trans h.size k.size, fun i hi hs => (k.block i (Nat.lt_of_lt_of_le hi h.size) hs).trans (h.block i hi hs)⟩
theorem Upd.of {S : Nat → Prop} {w w' : World} (h : Below w.heap.size w w') : Upd S w w' := ⟨h.os, h.tape, h.output, h.size, fun k hk _ => h.block k hk⟩
theorem Upd.below {S : Nat → Prop} {w w' : World} (h : Upd S w w') {B : Nat} (hB : B ≤ w.heap.size) (hS : ∀ k, S k → B ≤ k) : Below B w w' :=
  ⟨h.os, h.tape, h.output, h.size, fun k hk => h.block k (Nat.lt_of_lt_of_le hk hB) fun hs => by have := hS k hs; omega⟩
/-- A row of numbers of one's own. -/
def OwnI (w : World) (B : Nat) (v : Value) (o : List Int) : Prop := w.ownsRow B 3 1 v o.length (o.map (.int .i64))
theorem OwnI.upd {S : Nat → Prop} {w w' : World} {B : Nat} {v : Value} {o : List Int} (h : OwnI w B v o) (hu : Upd S w w') (hS : ∀ k, S k → k < B) : OwnI w' B v o := by
  obtain ⟨h1, h2⟩ := h
  refine ⟨h1, ?_⟩
  rcases h2 with h2 | ⟨g, cap, cur, hv, hg, hh, r⟩
  · exact .inl h2
  · exact .inr ⟨g, cap, cur, hv, hg, by rw [hu.block g (Array.getElem?_eq_some_iff.1 hh).1 fun hs => by have := hS g hs; omega]; exact hh, r⟩
theorem OwnI.below {w w' : World} {B : Nat} {v : Value} {o : List Int} (h : OwnI w B v o) (hu : Below w.heap.size w w') : OwnI w' B v o := h.upd (Upd.of (S := fun _ => False) hu) fun _ h => h.elim
theorem OwnI.low {w : World} {B C : Nat} {v : Value} {o : List Int} (h : OwnI w B v o) (hC : C ≤ B) : OwnI w C v o := by
  obtain ⟨h1, h2⟩ := h
  refine ⟨h1, ?_⟩
  rcases h2 with h2 | ⟨g, cap, cur, hv, hg, r⟩
  · exact .inl h2
  · exact .inr ⟨g, cap, cur, hv, by omega, r⟩
theorem OwnI.rep {w : World} {B : Nat} {v : Value} {o : List Int} (h : OwnI w B v o) (hx : ∀ x ∈ o, IntKind.i64.wrap x = x) : RepI w (fun k => k < w.heap.size) (.isl 1 (rows cInt o)) v := by
  obtain ⟨-, ⟨rfl, hn⟩ | ⟨g, cap, cur, rfl, hb, hg, h1, h2, h3, h4⟩⟩ := h
  · rw [List.length_eq_zero_iff.1 hn, rows_nil]
    exact .isl0 1 none 0 (Nat.zero_le _)
  · have := RepI.isl (w := w) (I := fun k => k < w.heap.size) 1 (o.map cInt) g 0 cap (o.map (.int .i64)) (fun e he => by obtain ⟨y, -, rfl⟩ := List.mem_map.1 he; rfl)
      (repIs_ints1 hx) (Array.getElem?_eq_some_iff.1 hg).1
      (fun j y hy => by
        rw [Nat.mul_one] at h4
        rw [← h4, List.getElem?_take] at hy
        split at hy
        · rw [Nat.zero_add]
          simp only [World.cell?, hg, Option.bind_some]
          rw [← Array.getElem?_toList]
          simpa using hy
        · cases hy) (by rw [List.length_map]; exact h1) h2
    rw [List.length_map] at this
    rw [rows_eq]; exact this
theorem inr_all (w : World) : InR w (fun k => k < w.heap.size) := ⟨fun _ h => h, 0, Nat.zero_le _, Good.triv _ _⟩

theorem OwnI.cells {w : World} {B g n cap : Nat} {o : List Int} (h : OwnI w B (.slice (some ⟨g, 0, none⟩) n cap) o) : ∀ j u, (o.map (Value.int .i64))[j]? = some u → w.cell? ((⟨g, 0, none⟩ : Addr).add j) = some u := by
  intro j u hu
  obtain ⟨-, ⟨h0, -⟩ | ⟨g2, cap2, cur, h0, hb, hg, h1, h2, h3, h4⟩⟩ := h
  · cases h0
  · cases h0
    rw [Nat.mul_one] at h4
    rw [← h4, List.getElem?_take] at hu
    split at hu
    · rw [Addr.add_lit, Nat.zero_add]
      simp only [World.cell?, hg, Option.bind_some]
      rw [← Array.getElem?_toList]
      simpa using hu
    · cases hu
theorem OwnI.of_row {w : World} {B m : Nat} {v : Value} {p : List Int} {xs : List Value} (h : w.ownsRow B 3 1 v m xs) (hm : m = p.length) (hx : xs = p.map (.int .i64)) : OwnI w B v p := by
  subst hm; subst hx; exact h
theorem own_next {w : World} {B C : Nat} {v : Value} {o : List Int} {j : Int} (h : w.ownsRow C 3 1 v (o.length + 1) (o.map (.int .i64) ++ [.int .i64 j])) (hC : B ≤ C) : OwnI w B v (o ++ [j]) :=
  (OwnI.of_row h (by simp) (by simp)).low hC
theorem own_next2 {w : World} {B C : Nat} {v : Value} {o : List Int} {j : Int} (h : w.ownsRow C 3 1 v (0 + o.length + 1) ([] ++ o.map (.int .i64) ++ [.int .i64 j])) (hC : B ≤ C) : OwnI w B v (o ++ [j]) :=
  (OwnI.of_row h (by simp) (by simp)).low hC
theorem ints_one (l : List Int) : ∀ u ∈ l.map (Value.int .i64), u.oneCell' = true := by
  intro u hu; obtain ⟨x, -, rfl⟩ := List.mem_map.1 hu; rfl
theorem new_cell (w : World) (n : Int) : ∀ j u, ([Value.int .i64 n] : List Value)[j]? = some u → (w.alloc (.cells #[.int .i64 n] 3)).cell? ((⟨w.heap.size, 0, none⟩ : Addr).add j) = some u := by
  intro j u hj
  match j, hj with
  | 0, hj => simp at hj; subst hj; simp [Addr.add]
theorem new_one (n : Int) : ∀ u ∈ ([Value.int .i64 n] : List Value), u.oneCell' = true := by
  intro u hu; simp at hu; subst hu; rfl

theorem OwnI.repQ {w : World} {B : Nat} {v : Value} {o : List Int} (h : OwnI w B v o) (hx : ∀ x ∈ o, IntKind.i64.wrap x = x) {Q : Nat → Prop} (hQ : ∀ g, B ≤ g → Q g) : RepI w Q (.isl 1 (rows cInt o)) v := by
  obtain ⟨-, ⟨rfl, hn⟩ | ⟨g, cap, cur, rfl, hb, hg, h1, h2, h3, h4⟩⟩ := h
  · rw [List.length_eq_zero_iff.1 hn, rows_nil]
    exact .isl0 1 none 0 (Nat.zero_le _)
  · have := RepI.isl (w := w) (I := Q) 1 (o.map cInt) g 0 cap (o.map (.int .i64)) (fun e he => by obtain ⟨y, -, rfl⟩ := List.mem_map.1 he; rfl)
      (repIs_ints1 hx) (hQ g hb)
      (fun j y hy => by
        rw [Nat.mul_one] at h4
        rw [← h4, List.getElem?_take] at hy
        split at hy
        · rw [Nat.zero_add]
          simp only [World.cell?, hg, Option.bind_some]
          rw [← Array.getElem?_toList]
          simpa using hy
        · cases hy) (by rw [List.length_map]; exact h1) h2
    rw [List.length_map] at this
    rw [rows_eq]; exact this
theorem isl_shape {w : World} {I : Nat → Prop} {n : Nat} {es : List (List PV)} {v : Value} (h : RepI w I (.isl n es) v) : ∃ A c, v = .slice A es.length c := by
  cases h with
  | isl0 _ A c hm => exact ⟨A, c, rfl⟩
  | isl _ _ g o c vs h1 hr hI hc hl hm => exact ⟨_, c, rfl⟩
theorem enters_eq {f : FuncId} {fn : Func} {c : Code} (hf : Try.prog.funcs[f]? = some fn) (hname : (fn.name == "runtime.NumGoroutine") = false) (hb : fn.body = some c) : ∀ (args : Array Value) (w : World), (callFunc f args).run Try.prog w = .ok (.enter f args) w := enters_of hf hname hb
theorem OwnI.ne {w : World} {B k : Nat} {v : Value} {o : List Int} (h : OwnI w B v o) (hk : k < B) : v.ownBlock ≠ some k := fun e => by have := (World.ownsRow.lt h k e).1; omega
theorem OwnI.shape {w : World} {B : Nat} {v : Value} {o : List Int} (h : OwnI w B v o) : ∃ k cc, v = .slice k o.length cc := by
  obtain ⟨-, ⟨rfl, hn⟩ | ⟨g, cap, cur, rfl, r⟩⟩ := h
  · exact ⟨none, 0, by rw [hn]⟩
  · exact ⟨_, _, rfl⟩
theorem Upd.mono {S T : Nat → Prop} {w w' : World} (h : Upd S w w') (hs : ∀ k, S k → T k) : Upd T w w' := ⟨h.os, h.tape, h.output, h.size, fun k hk hn => h.block k hk fun e => hn (hs k e)⟩
theorem setCell_size (w : World) (a : Addr) (u : Value) : (w.setCell a u).heap.size = w.heap.size := by simp [World.setCell]
theorem upd_setCell (w : World) (b : Nat) (u : Value) : Upd (· = b) w (w.setCell ⟨b, 0, none⟩ u) :=
  ⟨by simp [World.setCell], by simp [World.setCell], by simp [World.setCell], by rw [setCell_size]; exact Nat.le_refl _, fun k hk hn => Below.heap_setCell _ _ _ _ hn⟩

theorem own_new (w : World) {B : Nat} (hB : B ≤ w.heap.size) : OwnI (w.alloc (.cells #[] 3)) B (.slice (some ⟨w.heap.size, 0, none⟩) 0 0) [] := World.ownsRow_made w #[] 0 hB (Nat.zero_le _) rfl
theorem alloc_below (w : World) (o : Obj) : Below w.heap.size w (w.alloc o) := (Below.refl _ _).alloc (Nat.le_refl _) _
end Go.Proofs.Ytngefbdedbbplaa.Ai
