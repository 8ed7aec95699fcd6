/- impl.MostCastings: its boxes, its closure and the walk over all orders. -/
import Derived.Test.YtjmjepdlclehoaaMostC
namespace Go.Proofs.Ytjmjepdlclehoaa.Ai
open Go Go.Proofs Go.RowKit
set_option linter.unusedSimpArgs false
set_option linter.unusedVariables false

theorem OwnI.repQ {w : World} {B : Nat} {v : Value} {o : List Int} (h : OwnI w B v o) (hx : ∀ x ∈ o, IntKind.i64.wrap x = x) {Q : Nat → Prop} (hQ : ∀ g, B ≤ g → Q g) : RepI w Q (.isl 1 (rows cInt o)) v := by
  obtain ⟨-, ⟨rfl, hn⟩ | ⟨g, cap, cur, rfl, hb, hg, h1, h2, h3, h4⟩⟩ := h
  · rw [List.length_eq_zero_iff.1 hn, rows_nil]
    exact .isl0 1 none 0 (Nat.zero_le _)
  · have := RepI.isl (w := w) (I := Q) 1 (o.map cInt) g 0 cap (o.map (.int .i64)) (fun e he => by obtain ⟨y, -, rfl⟩ := List.mem_map.1 he; rfl)
      (repIs_ints1 hx) (hQ g hb)
      (fun j y hy => by
        rw [Nat.mul_one] at h4
        rw [← h4, List.getElem?_take] at hy
        split at hy
        · rw [Nat.zero_add]
          simp only [World.cell?, hg, Option.bind_some]
          rw [← Array.getElem?_toList]
          simpa using hy
        · cases hy) (by rw [List.length_map]; exact h1) h2
    rw [List.length_map] at this
    rw [rows_eq]; exact this
theorem isl_shape {w : World} {I : Nat → Prop} {n : Nat} {es : List (List PV)} {v : Value} (h : RepI w I (.isl n es) v) : ∃ A c, v = .slice A es.length c := by
  cases h with
  | isl0 _ A c hm => exact ⟨A, c, rfl⟩
  | isl _ _ g o c vs h1 hr hI hc hl hm => exact ⟨_, c, rfl⟩
theorem enters_eq {f : FuncId} {fn : Func} {c : Code} (hf : Try.prog.funcs[f]? = some fn) (hname : (fn.name == "runtime.NumGoroutine") = false) (hb : fn.body = some c) : ∀ (args : Array Value) (w : World), (callFunc f args).run Try.prog w = .ok (.enter f args) w := enters_of hf hname hb
def mostAns (m : CMach) (l : List Casting) (minutes : Int) : List Int × Bool := if okM m && (okCs l && inB minutes 0 100000) then (mostF m l minutes, true) else ([], false)
def vM (m : CMach) : Value := .agg #[.int .i64 m.1, .int .i64 m.2.1, .int .i64 m.2.2]

theorem most_each {B0 bb bm bl bn : Nat} {m : CMach} {l : List Casting} {minutes : Int} {vl : Value} (hm : okM m = true) (hl : okCs l = true) (w : World) (v : Value) (h : MostBox B0 bb bm bl bn m l minutes vl w []) (hB0 : B0 ≤ bb + 1) (hB : bb + 1 ≤ w.heap.size) (hv : OwnI w (bb + 1) v []) :
    Calls Try.prog 75 #[.int .i64 (l.length : Int), v, .func (.func 76) #[] #[.pointer (some ⟨bb, 0, none⟩), .pointer (some ⟨bm, 0, none⟩), .pointer (some ⟨bl, 0, none⟩), .pointer (some ⟨bn, 0, none⟩)]] w
      fun e w' => e = .returned (.tuple #[]) ∧ MostBox B0 bb bm bl bn m l minutes vl w' (mostF m l minutes) ∧ Upd (· = bb) w w' :=
  each_walk l.length (by have := okCs_len hl; omega) _ (enters_eq Try.func76 rfl rfl) _ (bb + 1) (· = bb) (MostBox B0 bb bm bl bn m l minutes vl) (mostStep m l minutes) (fun k hk => by omega) (fun w w' a h hb => h.below hb)
    (fun w a o v hi hB hv hd => most_clo hm hl w a o v hi (bb + 1) hB0 hv hd) l.length [] [] w v (by simp) (diff_nil _) h hB hv
/-- What stands ready ahead of the walk: the boxes, a list without elements, a box that holds it, another list. -/
theorem most_ready {B0 bm bl bn : Nat} {m : CMach} {l : List Casting} {minutes : Int} {vl : Value} {w : World} (hb0 : B0 ≤ w.heap.size)
    (h1 : w.heap[bm]? = some (.cells #[.int .i64 m.1, .int .i64 m.2.1, .int .i64 m.2.2] 25 (0, 0))) (h2 : w.heap[bl]? = some (.cells #[vl] 26 (0, 0))) (h3 : w.heap[bn]? = some (.cells #[.int .i64 minutes] 3 (0, 0)))
    (hv : RepI w (fun k => k < B0) (.isl 2 (rows cCasting l)) vl) :
    MostBox B0 (w.heap.size + 1) bm bl bn m l minutes vl (((w.alloc (.cells #[] 3)).alloc (.cells #[.slice (some ⟨w.heap.size, 0, none⟩) 0 0] 29)).alloc (.cells #[] 3)) [] ∧
    OwnI (((w.alloc (.cells #[] 3)).alloc (.cells #[.slice (some ⟨w.heap.size, 0, none⟩) 0 0] 29)).alloc (.cells #[] 3)) (w.heap.size + 1 + 1) (.slice (some ⟨w.heap.size + 1 + 1, 0, none⟩) 0 0) [] ∧
    Below w.heap.size w (((w.alloc (.cells #[] 3)).alloc (.cells #[.slice (some ⟨w.heap.size, 0, none⟩) 0 0] 29)).alloc (.cells #[] 3)) ∧
    (((w.alloc (.cells #[] 3)).alloc (.cells #[.slice (some ⟨w.heap.size, 0, none⟩) 0 0] 29)).alloc (.cells #[] 3)).heap.size = w.heap.size + 3 ∧
    ((w.alloc (.cells #[] 3)).alloc (.cells #[.slice (some ⟨w.heap.size, 0, none⟩) 0 0] 29)).cell? ⟨bl, 0, none⟩ = some vl := by
  generalize hW1 : w.alloc (.cells #[] 3) = W1
  have s1 : W1.heap.size = w.heap.size + 1 := by rw [← hW1]; simp
  have q1 : Below w.heap.size w W1 := by rw [← hW1]; exact (Below.refl _ _).alloc (Nat.le_refl _) _
  have r1 : OwnI W1 B0 (.slice (some ⟨w.heap.size, 0, none⟩) 0 0) [] := by rw [← hW1]; exact World.ownsRow_made w #[] 0 hb0 (Nat.zero_le _) rfl
  generalize hW2 : W1.alloc (.cells #[.slice (some ⟨w.heap.size, 0, none⟩) 0 0] 29) = W2
  have s2 : W2.heap.size = w.heap.size + 2 := by rw [← hW2]; simp [s1]
  have q2 : Below W1.heap.size W1 W2 := by rw [← hW2]; exact (Below.refl _ _).alloc (Nat.le_refl _) _
  have r2 : OwnI W2 B0 (.slice (some ⟨w.heap.size, 0, none⟩) 0 0) [] := r1.below q2
  have e2 : W2.heap[w.heap.size + 1]? = some (.cells #[.slice (some ⟨w.heap.size, 0, none⟩) 0 0] 29 (0, 0)) := by rw [← hW2, ← s1]; exact heap_alloc_new W1 _
  generalize hW3 : W2.alloc (.cells #[] 3) = W3
  have s3 : W3.heap.size = w.heap.size + 3 := by rw [← hW3]; simp [s2]
  have q3 : Below W2.heap.size W2 W3 := by rw [← hW3]; exact (Below.refl _ _).alloc (Nat.le_refl _) _
  have r3 : OwnI W3 (w.heap.size + 1 + 1) (.slice (some ⟨w.heap.size + 1 + 1, 0, none⟩) 0 0) [] := by
    have := World.ownsRow_made (base := w.heap.size + 1 + 1) (e := 3) (size := 1) W2 #[] 0 (by omega) (Nat.zero_le _) rfl
    rw [hW3, s2] at this; exact this
  have b2 : Below w.heap.size w W2 := q1.trans (q2.mono q1.size)
  have b3 : Below w.heap.size w W3 := b2.trans (q3.mono b2.size)
  have kp2 : ∀ {k : Nat} {o : Obj}, w.heap[k]? = some o → W2.heap[k]? = some o := fun {k o} ho => by rw [b2.block k (Array.getElem?_eq_some_iff.1 ho).1]; exact ho
  have kp : ∀ {k : Nat} {o : Obj}, w.heap[k]? = some o → W3.heap[k]? = some o := fun {k o} ho => by rw [b3.block k (Array.getElem?_eq_some_iff.1 ho).1]; exact ho
  refine ⟨⟨kp h1, kp h2, kp h3, ⟨_, by rw [q3.block _ (by omega)]; exact e2, r2.below q3⟩, hv.mono fun g hg => ⟨hg, b3.block g (by omega)⟩, by omega, by omega⟩, r3, b3, s3, cell_of_one (kp2 h2)⟩

set_option maxHeartbeats 4000000 in
set_option maxRecDepth 1000000 in
theorem most_walk (m : CMach) (l : List Casting) (minutes : Int) (hw1 : IntKind.i64.wrap m.1 = m.1) (hw2 : IntKind.i64.wrap m.2.1 = m.2.1) (hw3 : IntKind.i64.wrap m.2.2 = m.2.2) (hw4 : IntKind.i64.wrap minutes = minutes) (vl : Value) (w : World) (I : Nat → Prop) (hI : InR w I) (hv : RepI w I (.isl 2 (rows cCasting l)) vl) :
    Calls Try.prog 14 #[.agg #[.int .i64 m.1, .int .i64 m.2.1, .int .i64 m.2.2], vl, .int .i64 minutes] w fun e w' => ∃ v, e = .returned (.tuple #[v, .bool (mostAns m l minutes).2]) ∧ Below w.heap.size w w' ∧ OwnI w' w.heap.size v (mostAns m l minutes).1 := by
  obtain ⟨vA, vc, rfl⟩ := isl_shape hv
  rw [rows_eq, List.length_map] at hv ⊢
  have hmf : ∀ (fn : Fn) (first cap : Array Value) (w : World), (Instr.makeFunc fn first cap).run Try.prog w = .ok (.func fn first cap) w := fun _ _ _ _ => rfl
  let W1 : World := w.alloc (.cells #[.int .i64 m.1, .int .i64 m.2.1, .int .i64 m.2.2] 25)
  let W2 : World := W1.alloc (.cells #[.slice vA l.length vc] 26)
  let W3 : World := W2.alloc (.cells #[.int .i64 minutes] 3)
  have s1 : W1.heap.size = w.heap.size + 1 := by simp [W1]
  have s2 : W2.heap.size = w.heap.size + 2 := by simp [W2, s1]
  have hsz : W3.heap.size = w.heap.size + 3 := by simp [W3, s2]
  have q1 : Below w.heap.size w W1 := (Below.refl _ _).alloc (Nat.le_refl _) _
  have q2 : Below W1.heap.size W1 W2 := (Below.refl _ _).alloc (Nat.le_refl _) _
  have q3 : Below W2.heap.size W2 W3 := (Below.refl _ _).alloc (Nat.le_refl _) _
  have b3 : Below w.heap.size w W3 := (q1.trans (q2.mono q1.size)).trans (q3.mono (by omega))
  have e1 : W3.heap[w.heap.size]? = some (.cells #[.int .i64 m.1, .int .i64 m.2.1, .int .i64 m.2.2] 25 (0, 0)) := by
    rw [q3.block _ (by omega), q2.block _ (by omega)]; exact heap_alloc_new w _
  have e2 : W3.heap[w.heap.size + 1]? = some (.cells #[.slice vA l.length vc] 26 (0, 0)) := by
    rw [q3.block _ (by omega), ← s1]; exact heap_alloc_new W1 _
  have e3 : W3.heap[w.heap.size + 2]? = some (.cells #[.int .i64 minutes] 3 (0, 0)) := by
    rw [← s2]; exact heap_alloc_new W2 _
  have hA : ∀ W : World, Calls Try.prog 27 #[.agg #[.int .i64 m.1, .int .i64 m.2.1, .int .i64 m.2.2]] W fun e w' => e = .returned (.bool (okM m)) ∧ Below W.heap.size W w' := fun W =>
    calls_bool (IsMachine_ok m) (inr_all W) (vs := [.agg #[.int .i64 m.1, .int .i64 m.2.1, .int .i64 m.2.2]]) (All2.cons (.agg (cMachine m) [.int .i64 m.1, .int .i64 m.2.1, .int .i64 m.2.2] (.cons (.int _ _ hw1) (.cons (.int _ _ hw2) (.cons (.int _ _ hw3) .nil)))) .nil)
  have hC : ∀ W : World, Below w.heap.size w W → Calls Try.prog 28 #[.slice vA l.length vc] W fun e w' => e = .returned (.bool (okCs l)) ∧ Below W.heap.size W w' := fun W hW =>
    calls_bool (AreCastings_ok l) (inr_all W) (vs := [.slice vA l.length vc]) (All2.cons (.one (by rw [rows_eq]; exact hv.mono fun g hg => ⟨Nat.lt_of_lt_of_le (hI.1 g hg) hW.size, hW.block g (hI.1 g hg)⟩)) .nil)
  have hv' : RepI w (fun k => k < w.heap.size) (.isl 2 (rows cCasting l)) (.slice vA l.length vc) := by rw [rows_eq]; exact hv.mono fun g hg => ⟨hI.1 g hg, rfl⟩
  have hN : ∀ W : World, Calls Try.prog 74 #[.int .i64 minutes] W fun e w' => e = .returned (.bool (inB minutes 0 100000)) ∧ Below W.heap.size W w' := fun W =>
    calls_bool (isMinutes_ok minutes) (inr_all W) (vs := [.int .i64 minutes]) (All2.cons (.one (.int _ _ hw4)) .nil)
  have K : ∀ W : World, Below W3.heap.size W3 W → W.heap[w.heap.size]? = some (.cells #[.int .i64 m.1, .int .i64 m.2.1, .int .i64 m.2.2] 25 (0, 0)) ∧ W.heap[w.heap.size + 1]? = some (.cells #[.slice vA l.length vc] 26 (0, 0)) ∧ W.heap[w.heap.size + 2]? = some (.cells #[.int .i64 minutes] 3 (0, 0)) ∧ W.cell? ⟨w.heap.size + 1, 0, none⟩ = some (.slice vA l.length vc) ∧ W.cell? ⟨w.heap.size + 2, 0, none⟩ = some (.int .i64 minutes) := by
    intro W hW
    have a1 := (hW.block w.heap.size (by omega)).trans e1
    have a2 := (hW.block (w.heap.size + 1) (by omega)).trans e2
    have a3 := (hW.block (w.heap.size + 2) (by omega)).trans e3
    exact ⟨a1, a2, a3, cell_of_one a2, cell_of_one a3⟩
  cases hM : okM m
  · rw [hM] at hA
    have ha : mostAns m l minutes = ([], false) := by rw [mostAns, hM]; rfl
    go_enter Try.func14, Try.ntmps14
    go_wp2_with (go_at_call 27; refine (hA _).mono ?_; rintro e w4 ⟨rfl, b4⟩)
    go_ret2
    rw [ha]
    have c4 := b3.trans (b4.mono b3.size)
    exact ⟨_, rfl, c4.alloc c4.size _, World.ownsRow_made _ _ _ c4.size (by decide) rfl⟩
  · rw [hM] at hA
    cases hO : okCs l
    · rw [hO] at hC
      have ha : mostAns m l minutes = ([], false) := by rw [mostAns, hM, hO]; rfl
      go_enter Try.func14, Try.ntmps14
      go_wp2_with (first | (go_at_call 27; go_must (refine (hA _).mono ?_; rintro e w4 ⟨rfl, b4⟩; obtain ⟨k1, k2, k3, k4, k5⟩ := K w4 b4; have c4 := b3.trans (b4.mono b3.size))) | (go_at_call 28; go_must (refine (hC _ c4).mono ?_; rintro e w5 ⟨rfl, b5⟩; have c5 := c4.trans (b5.mono c4.size))))
      go_ret2
      rw [ha]
      exact ⟨_, rfl, c5.alloc c5.size _, World.ownsRow_made _ _ _ c5.size (by decide) rfl⟩
    · rw [hO] at hC
      cases hB : inB minutes 0 100000
      · rw [hB] at hN
        have ha : mostAns m l minutes = ([], false) := by rw [mostAns, hM, hO, hB]; rfl
        go_enter Try.func14, Try.ntmps14
        go_wp2_with (first | (go_at_call 27; go_must (refine (hA _).mono ?_; rintro e w4 ⟨rfl, b4⟩; obtain ⟨k1, k2, k3, k4, k5⟩ := K w4 b4; have c4 := b3.trans (b4.mono b3.size))) | (go_at_call 28; go_must (refine (hC _ c4).mono ?_; rintro e w5 ⟨rfl, b5⟩; have c5 := c4.trans (b5.mono c4.size); obtain ⟨k1, k2, k3, k4, k5⟩ := K w5 (b4.trans (b5.mono b4.size)))) | (go_at_call 74; go_must (refine (hN _).mono ?_; rintro e w6 ⟨rfl, b6⟩; have c6 := c5.trans (b6.mono c5.size))))
        go_ret2
        rw [ha]
        exact ⟨_, rfl, c6.alloc c6.size _, World.ownsRow_made _ _ _ c6.size (by decide) rfl⟩
      · rw [hB] at hN
        have ha : mostAns m l minutes = (mostF m l minutes, true) := by rw [mostAns, hM, hO, hB]; rfl
        go_enter Try.func14, Try.ntmps14
        go_wp2_with (first | (go_at_call 27; go_must (refine (hA _).mono ?_; rintro e w4 ⟨rfl, b4⟩; obtain ⟨k1, k2, k3, k4, k5⟩ := K w4 b4; have c4 := b3.trans (b4.mono b3.size))) | (go_at_call 28; go_must (refine (hC _ c4).mono ?_; rintro e w5 ⟨rfl, b5⟩; have c5 := c4.trans (b5.mono c4.size); obtain ⟨k1, k2, k3, k4, k5⟩ := K w5 (b4.trans (b5.mono b4.size)))) | (go_at_call 74; go_must (refine (hN _).mono ?_; rintro e w6 ⟨rfl, b6⟩; have c6 := c5.trans (b6.mono c5.size); obtain ⟨k1, k2, k3, -, -⟩ := K w6 ((b4.trans (b5.mono b4.size)).trans (b6.mono (b4.trans (b5.mono b4.size)).size)); obtain ⟨g1, g2, g3, g4, g5⟩ := most_ready (m := m) (l := l) (minutes := minutes) c6.size k1 k2 k3 (hv'.mono fun g hg => ⟨hg, c6.block g hg⟩))) | (go_at_call 75; go_must (refine (most_each hM hO _ _ g1 (by have := c6.size; omega) (by omega) g2).mono ?_; rintro e w9 ⟨rfl, i9, u9⟩; obtain ⟨vb, h9, o9⟩ := i9.best; have n9 := cell_of_one h9)))
        go_ret2
        rw [ha]
        refine ⟨vb, rfl, (c6.trans (g3.mono c6.size)).trans (u9.below (by have := c6.size; omega) fun k hk => by have := c6.size; omega), o9⟩
end Go.Proofs.Ytjmjepdlclehoaa.Ai
