/- impl.LeaveMarks: its closure, which calls itself (printed by mkleave.py). -/
import Derived.Test.YtalookmhhkojeaaOwnK
import Derived.Test.YtalookmhhkojeaaMarks
namespace Go.Proofs.Ytalookmhhkojeaa.Ai
open Go Go.Proofs Go.RowKit
set_option linter.unusedSimpArgs false
set_option linter.unusedVariables false

structure LeaveEnv (B0 bk bl bx : Nat) (k : Int) (l : List (List Int)) (vl vx : Value) (w : World) : Prop where
  kb : w.heap[bk]? = some (.cells #[.int .i64 k] 3 (0, 0))
  lb : w.heap[bl]? = some (.cells #[vl] 24 (0, 0))
  xb : w.heap[bx]? = some (.cells #[vx] 76 (0, 0))
  row : RepI w (fun g => g < B0) (.isl 1 (rows (cSl 1 cInt) l)) vl
  b0 : B0 ≤ w.heap.size
  lt : bk < B0 ∧ bl < B0
section
variable {B0 bk bl bx bb bs : Nat} {k : Int} {l : List (List Int)} {vl vx : Value} {w w' : World}
theorem LeaveEnv.upd {S : Nat → Prop} (h : LeaveEnv B0 bk bl bx k l vl vx w) (hu : Upd S w w') (hS : ∀ k, S k → B0 ≤ k ∧ k ≠ bx) : LeaveEnv B0 bk bl bx k l vl vx w' := by
  obtain ⟨h1, h2, h3, h5, h6, h7⟩ := h
  refine ⟨?_, ?_, ?_, h5.mono fun g hg => ⟨hg, hu.block g (by omega) fun e => by have := (hS g e).1; omega⟩, Nat.le_trans h6 hu.size, h7⟩
  · rw [hu.block _ (Array.getElem?_eq_some_iff.1 h1).1 fun e => by have := (hS _ e).1; omega]; exact h1
  · rw [hu.block _ (Array.getElem?_eq_some_iff.1 h2).1 fun e => by have := (hS _ e).1; omega]; exact h2
  · rw [hu.block _ (Array.getElem?_eq_some_iff.1 h3).1 fun e => (hS _ e).2 rfl]; exact h3
theorem LeaveEnv.below (h : LeaveEnv B0 bk bl bx k l vl vx w) (hu : Below w.heap.size w w') : LeaveEnv B0 bk bl bx k l vl vx w' := h.upd (Upd.of (S := fun _ => False) hu) fun _ e => e.elim
theorem LeaveEnv.apart {a : List Int × Int} (h : LeaveEnv B0 bk bl bx k l vl vx w) (f : Found B0 bb bs w a) : ∀ k, k = bb ∨ k = bs → B0 ≤ k ∧ k ≠ bx := by
  obtain ⟨h1, h2, h3, -, -⟩ := h
  obtain ⟨f1, ⟨vb, f2, -, -⟩, f3, f4⟩ := f
  rintro k (rfl | rfl)
  · exact ⟨f3, fun e => by subst e; rw [h3] at f2; simp at f2⟩
  · exact ⟨f4, fun e => by subst e; rw [h3] at f1; simp at f1⟩
end
theorem marks_wrap {n : Nat} (hn : n ≤ 24) {s : List Int} (h : MarksOk n s) : ∀ x ∈ s, IntKind.i64.wrap x = x := fun x hx => by have := h.2 x hx; exact wrap64 (by omega) (by omega)
theorem left_calls {l : List (List Int)} {s : List Int} (hp : parB l = true) (hm : MarksOk l.length s) {w : World} {B0 : Nat} {B : Nat} {vl v : Value} (hv : RepI w (fun g => g < B0) (.isl 1 (rows (cSl 1 cInt) l)) vl) (hb0 : B0 ≤ w.heap.size) (ho : OwnI w B v s) :
    Calls Try.prog 64 #[vl, v] w fun e w' => e = .returned (.int .i64 (leftF l s)) ∧ Below w.heap.size w w' := by
  rw [← hw_left s.length s l rfl hm]
  exact calls_int (heightWithout_ok l s hp hm.2) (inr_all w) (vs := [vl, v]) (All2.cons (.one (hv.mono fun g hg => ⟨Nat.lt_of_lt_of_le hg hb0, rfl⟩)) (All2.cons (.one (ho.rep (marks_wrap (parB_spec hp).2 hm))) .nil))

set_option maxHeartbeats 4000000 in
set_option maxRecDepth 1000000 in
theorem leave_leaf {B0 bk bl bx bb bs : Nat} {l : List (List Int)} {vl vx : Value} (hp : parB l = true) (w : World) (a : List Int × Int) (s : List Int) (g c : Nat) (hf : Found B0 bb bs w a) (he : LeaveEnv B0 bk bl bx (s.length : Int) l vl vx w) (B : Nat) (hB : B0 ≤ B) (hbb : bb < B) (hbs : bs < B) (hv : OwnI w B (.slice (some ⟨g, 0, none⟩) s.length c) s) (hm : MarksOk l.length s) :
    Calls Try.prog 63 #[.slice (some ⟨g, 0, none⟩) s.length c, .pointer (some ⟨bk, 0, none⟩), .pointer (some ⟨bl, 0, none⟩), .pointer (some ⟨bs, 0, none⟩), .pointer (some ⟨bb, 0, none⟩), .pointer (some ⟨bx, 0, none⟩)] w
      fun e w' => e = .returned (.tuple #[]) ∧ (Found B0 bb bs w' (stepM (leftF l) a s) ∧ LeaveEnv B0 bk bl bx (s.length : Int) l vl vx w') ∧ Upd (fun k => k = bb ∨ k = bs) w w' := by
  have hap := he.apart hf
  have c1 := cell_of_one he.kb
  have c2 := cell_of_one he.lb
  have hC := left_calls hp hm he.row he.b0 hv
  have hNo : ∀ w1, Below w.heap.size w w1 → stepM (leftF l) a s = a → (Found B0 bb bs w1 (stepM (leftF l) a s) ∧ LeaveEnv B0 bk bl bx (s.length : Int) l vl vx w1) ∧ Upd (fun k => k = bb ∨ k = bs) w w1 := fun w1 b1 e => by
    rw [e]; exact ⟨⟨hf.below b1, he.below b1⟩, Upd.of b1⟩
  have hYes : ∀ w1, Below w.heap.size w w1 → stepM (leftF l) a s = (s, leftF l s) → (Found B0 bb bs ((w1.setCell ⟨bb, 0, none⟩ (.slice (some ⟨g, 0, none⟩) s.length c)).setCell ⟨bs, 0, none⟩ (.int .i64 (leftF l s))) (stepM (leftF l) a s) ∧ LeaveEnv B0 bk bl bx (s.length : Int) l vl vx ((w1.setCell ⟨bb, 0, none⟩ (.slice (some ⟨g, 0, none⟩) s.length c)).setCell ⟨bs, 0, none⟩ (.int .i64 (leftF l s)))) ∧ Upd (fun k => k = bb ∨ k = bs) w ((w1.setCell ⟨bb, 0, none⟩ (.slice (some ⟨g, 0, none⟩) s.length c)).setCell ⟨bs, 0, none⟩ (.int .i64 (leftF l s))) := fun w1 b1 e => by
    rw [e]
    obtain ⟨s1, s2, -, -⟩ := (hf.below b1).store (hv.below b1) hB hbb hbs (leftF l s)
    exact ⟨⟨s1, (he.below b1).upd s2 hap⟩, (Upd.of b1).trans s2⟩
  generalize hcq : leftF l s = cq at *
  by_cases h0 : a.2 < 0
  · go_enter Try.func63, Try.ntmps63
    go_wp2_with (go_at_call 64; go_must (refine hC.mono ?_; rintro e w1 ⟨rfl, b1⟩; have f1 := hf.below b1; have c5 := cell_of_one f1.least; obtain ⟨vb, g1, g2, g3⟩ := f1.best; have c6 := cell_of_one g1; have c7 := free_of_one g1; obtain ⟨-, -, c8, c9⟩ := f1.store (hv.below b1) hB hbb hbs cq))
    all_goals try (exfalso; omega)
    first | go_end0 | ((try simp only [Exit.inBlock, Exit.then]); refine bodyPost_ret (results_none rfl _ _ _) rfl ?_)
    exact ⟨rfl, hYes _ b1 (by rw [stepM, if_pos (.inl h0), hcq])⟩
  · by_cases h2 : cq < a.2
    · go_enter Try.func63, Try.ntmps63
      go_wp2_with (go_at_call 64; go_must (refine hC.mono ?_; rintro e w1 ⟨rfl, b1⟩; have f1 := hf.below b1; have c5 := cell_of_one f1.least; obtain ⟨vb, g1, g2, g3⟩ := f1.best; have c6 := cell_of_one g1; have c7 := free_of_one g1; obtain ⟨-, -, c8, c9⟩ := f1.store (hv.below b1) hB hbb hbs cq))
      all_goals try (exfalso; omega)
      first | go_end0 | ((try simp only [Exit.inBlock, Exit.then]); refine bodyPost_ret (results_none rfl _ _ _) rfl ?_)
      exact ⟨rfl, hYes _ b1 (by rw [stepM, if_pos (.inr (by omega)), hcq])⟩
    · go_enter Try.func63, Try.ntmps63
      go_wp2_with (go_at_call 64; go_must (refine hC.mono ?_; rintro e w1 ⟨rfl, b1⟩; have f1 := hf.below b1; have c5 := cell_of_one f1.least))
      all_goals try (exfalso; omega)
      first | go_end0 | ((try simp only [Exit.inBlock, Exit.then]); refine bodyPost_ret (results_none rfl _ _ _) rfl ?_)
      exact ⟨rfl, hNo _ b1 (by rw [stepM, if_neg (by omega)])⟩

abbrev leaveFn (bk bl bx bs bb : Nat) : Value := Value.func (.func 63) #[] #[.pointer (some ⟨bk, 0, none⟩), .pointer (some ⟨bl, 0, none⟩), .pointer (some ⟨bs, 0, none⟩), .pointer (some ⟨bb, 0, none⟩), .pointer (some ⟨bx, 0, none⟩)]
set_option maxHeartbeats 4000000 in
set_option maxRecDepth 1000000 in
theorem leave_step {B0 bk bl bx bb bs : Nat} {k : Int} {l : List (List Int)} {vl : Value} (hl : l.length ≤ 24) (B : Nat) (hB : B0 ≤ B) (hbb : bb < B) (hbs : bs < B)
    (w : World) (a : List Int × Int) (s : List Int) (f : Nat) (F : Nat → List Int × Int) (ga ca : Nat) (hf : Found B0 bb bs w a) (he : LeaveEnv B0 bk bl bx k l vl (leaveFn bk bl bx bs bb) w) (hwB : B ≤ w.heap.size) (hv : OwnI w B (.slice (some ⟨ga, 0, none⟩) s.length ca) s)
    (hs : (s.length : Int) < k) (hs4 : s.length < 4) (hf24 : f ≤ 24) (hF : F f = a) (hfl : (s.length = 0 ∧ f = 0) ∨ ∃ m, s[s.length - 1]? = some m ∧ (f : Int) = m + 1 ∧ 0 ≤ m ∧ m < 24)
    (ih : ∀ (i : Nat), f ≤ i → i + 1 < l.length → ∀ (g c : Nat) (W : World), B ≤ W.heap.size → Found B0 bb bs W (F i) → LeaveEnv B0 bk bl bx k l vl (leaveFn bk bl bx bs bb) W → OwnI W B (.slice (some ⟨g, 0, none⟩) (s.length + 1) c) (s ++ [(i : Int)]) →
      Calls Try.prog 63 #[.slice (some ⟨g, 0, none⟩) (s.length + 1) c, .pointer (some ⟨bk, 0, none⟩), .pointer (some ⟨bl, 0, none⟩), .pointer (some ⟨bs, 0, none⟩), .pointer (some ⟨bb, 0, none⟩), .pointer (some ⟨bx, 0, none⟩)] W fun e w' => e = .returned (.tuple #[]) ∧ (Found B0 bb bs w' (F (i + 1)) ∧ LeaveEnv B0 bk bl bx k l vl (leaveFn bk bl bx bs bb) w') ∧ Upd (fun k => k = bb ∨ k = bs) W w') :
    Calls Try.prog 63 #[.slice (some ⟨ga, 0, none⟩) s.length ca, .pointer (some ⟨bk, 0, none⟩), .pointer (some ⟨bl, 0, none⟩), .pointer (some ⟨bs, 0, none⟩), .pointer (some ⟨bb, 0, none⟩), .pointer (some ⟨bx, 0, none⟩)] w
      fun e w' => e = .returned (.tuple #[]) ∧ (Found B0 bb bs w' (F (max f (l.length - 1))) ∧ LeaveEnv B0 bk bl bx k l vl (leaveFn bk bl bx bs bb) w') ∧ Upd (fun k => k = bb ∨ k = bs) w w' := by
  obtain ⟨vA, vc, rfl⟩ := isl_shape he.row
  rw [rows_eq, List.length_map] at *
  obtain ⟨i0, z0, hi, hz0, -, hz1, hz2, hz3, -⟩ := run_zeroValue (envOk 3 _ rfl)
  replace hz1 : i0.size = 1 := hz1
  replace hz2 : i0.bytes = 8 := hz2
  replace hz3 : z0.cells.size = 1 := hz3
  have c1 := cell_of_one he.kb
  have k3 : 0 + s.length ≤ maxLen := by unfold maxLen; omega
  have k4 : (0 + s.length) * 8 ≤ 140737488355328 := by omega
  have k8 : 0 + s.length + 1 ≤ maxLen := by unfold maxLen; omega
  have k9 : (0 + s.length + 1) * 8 ≤ 140737488355328 := by omega
  have k6 : (s.map (Value.int .i64)).length = s.length * 1 := by simp
  have hne : ¬ (s.length : Int) = k := by omega
  have hneb : ((s.length : Int) == k) = false := by simp [hne]
  have HF := Lib.hid hF
  clear hF
  rcases hfl with ⟨hs0, hf0⟩ | ⟨m, hm1, hm2, hm3, hm4⟩
  · have hcf : (Value.int .i64 0 : Value) = .int .i64 (f : Int) := by rw [hf0]; rfl
    have hgt : ¬ (0 : Int) < (s.length : Int) := by omega
    have hgd : decide (0 < s.length) = false := decide_eq_false (by omega)
    have HCF := Lib.hid hcf
    clear hcf hs0 hf0
    go_enter Try.func63, Try.ntmps63
    go_wp2
    go_loopw [9] (fun v wr => ∃ i : Nat, v = .int .i64 (i : Int) ∧ f ≤ i ∧ i ≤ max f (l.length - 1) ∧ Found B0 bb bs wr (F i) ∧ LeaveEnv B0 bk bl bx k l (.slice vA l.length vc) (leaveFn bk bl bx bs bb) wr ∧ Upd (fun k => k = bb ∨ k = bs) w wr) (fun v _ => l.length - (intOf v).toNat)
    case atStart => exact ⟨f, HCF.out, Nat.le_refl _, by omega, by rw [HF.out]; exact hf, he, Upd.refl _ _⟩
    case round =>
      obtain ⟨i, rfl, hfi, him, hf2, he2, u2⟩ := hrel
      have hwr : B ≤ wr.heap.size := Nat.le_trans hwB u2.size
      have hi24 : (i : Int) ≤ 24 := by omega
      have hvr := hv.upd u2 (fun k hk => by omega)
      have c2 := cell_of_one he2.lb
      have hX' : ∀ V, LeaveEnv B0 bk bl bx k l (.slice vA l.length vc) (leaveFn bk bl bx bs bb) V → ∀ W, Below V.heap.size V W → W.cell? ⟨bx, 0, none⟩ = some (Value.func (.func 63) #[] #[.pointer (some ⟨bk, 0, none⟩), .pointer (some ⟨bl, 0, none⟩), .pointer (some ⟨bs, 0, none⟩), .pointer (some ⟨bb, 0, none⟩), .pointer (some ⟨bx, 0, none⟩)]) := fun V hV W hW => cell_of_one (hV.below hW).xb
      have hX : ∀ W, Below wr.heap.size wr W → W.cell? ⟨bx, 0, none⟩ = some (Value.func (.func 63) #[] #[.pointer (some ⟨bk, 0, none⟩), .pointer (some ⟨bl, 0, none⟩), .pointer (some ⟨bs, 0, none⟩), .pointer (some ⟨bb, 0, none⟩), .pointer (some ⟨bx, 0, none⟩)]) := fun W hW => hX' _ he2 W hW
      by_cases hin : i + 1 < l.length
      · have x00 := hX _ (Below.refl _ _)
        have xd0 := hX _ (Below.refl _ _).drew
        obtain ⟨⟨qA0, hA0⟩, ⟨qB0, hB0, nB0⟩, ⟨qC0, hC0, nC0⟩, qD0⟩ := two_news wr (i : Int)
        have xA0 := hX _ qA0
        have xB0 := hX _ qB0
        have xC0 := hX _ qC0
        have xD0 := hX _ qD0
        go_wp2
        all_goals try (exfalso; omega)
        go_region_held3 (fun w' => w'.cell? ⟨bx, 0, none⟩ = some (Value.func (.func 63) #[] #[.pointer (some ⟨bk, 0, none⟩), .pointer (some ⟨bl, 0, none⟩), .pointer (some ⟨bs, 0, none⟩), .pointer (some ⟨bb, 0, none⟩), .pointer (some ⟨bx, 0, none⟩)])) (with_reducible assumption)
        (first
          | (go_at_call 63; refine (ih i hfi hin _ _ _ ?_ ?_ ?_ o60).mono ?_; exact Nat.le_trans hwr q60.size; exact hf2.below q60; exact he2.below q60; rintro e w7 ⟨rfl, e7, u7⟩; have u8 := (Upd.of q60).trans u7; have x7 := hX' _ e7.2 _ (Below.refl _ _))
          | (have zf := f4A0; refine step_append_own rfl _ _ 27 rfl wr.heap.size 3 i0 z0 1 8 Try.underlying27 hi hz0 hz1 hz2 hz3 (by decide) ?_ (0 + s.length) ([] ++ s.map (.int .i64)) ?_ ?_ ?_ 1 1 [.int .i64 (i : Int)] ?_ rfl ?_ (new_one _) k8 k9 ?_ ?_; rotate_left 2; (· (with_reducible exact h5A0)); rotate_left 2; (· exact n5A0); (· exact q50.size); rotate_left 1; (· rfl); (· rfl); intro v6 w6 h6 g6 _; have q60 := q50.grown g6 q50.size (fun k hk => (World.ownsRow.lt h5A0 k hk).1); have x60 := hX _ q60; have o60 := own_next2 h6 hwr; obtain ⟨gg0, cc0, rfl⟩ := own_some1 o60)
          | (have zf := f4B0; refine step_append_own rfl _ _ 27 rfl wr.heap.size 3 i0 z0 1 8 Try.underlying27 hi hz0 hz1 hz2 hz3 (by decide) ?_ (0 + s.length) ([] ++ s.map (.int .i64)) ?_ ?_ ?_ 1 1 [.int .i64 (i : Int)] ?_ rfl ?_ (new_one _) k8 k9 ?_ ?_; rotate_left 2; (· (with_reducible exact f4B0)); rotate_left 2; (· exact m4B0); (· exact q40.size); rotate_left 1; (· rfl); (· rfl); intro v6 w6 h6 g6 _; have q60 := q40.grown g6 q40.size (fun k hk => (World.ownsRow.lt f4B0 k hk).1); have x60 := hX _ q60; have o60 := own_next2 h6 hwr; obtain ⟨gg0, cc0, rfl⟩ := own_some1 o60)
          | (have zf := f4C0; refine step_append_own rfl _ _ 27 rfl wr.heap.size 3 i0 z0 1 8 Try.underlying27 hi hz0 hz1 hz2 hz3 (by decide) ?_ (0 + s.length) ([] ++ s.map (.int .i64)) ?_ ?_ ?_ 1 1 [.int .i64 (i : Int)] ?_ rfl ?_ (new_one _) k8 k9 ?_ ?_; rotate_left 2; (· (with_reducible exact f4C0)); rotate_left 2; (· exact m4C0); (· exact q40.size); rotate_left 1; (· rfl); (· rfl); intro v6 w6 h6 g6 _; have q60 := q40.grown g6 q40.size (fun k hk => (World.ownsRow.lt f4C0 k hk).1); have x60 := hX _ q60; have o60 := own_next2 h6 hwr; obtain ⟨gg0, cc0, rfl⟩ := own_some1 o60)
          | (refine step_append_own rfl _ _ 27 rfl wr.heap.size 3 i0 z0 1 8 Try.underlying27 hi hz0 hz1 hz2 hz3 (by decide) ?_ 0 [] ?_ ?_ ⟨ga, 0, none⟩ s.length ca (s.map (.int .i64)) rfl k6 ?_ (ints_one _) k3 k4 ?_ ?_; rotate_left 2; (· (with_reducible exact hA0)); (· exact (hvr.below qA0).cells); (· exact qA0.size); rotate_left 1; (· rfl); intro v4 w4 h4 g4 _; have f4A0 := h4; have q40 := qA0.grown g4 qA0.size (fun k hk => (World.ownsRow.lt hA0 k hk).1); have x40 := hX _ q40; have q50 : Below wr.heap.size wr (w4.alloc (.cells #[.int .i64 (i : Int)] 3)) := q40.alloc q40.size _; have x50 := hX _ q50; have h5A0 := World.ownsRow.alloc h4 (.cells #[.int .i64 (i : Int)] 3); have n5A0 := new_cell w4 (i : Int))
          | (refine step_append_own rfl _ _ 27 rfl wr.heap.size 3 i0 z0 1 8 Try.underlying27 hi hz0 hz1 hz2 hz3 (by decide) ?_ 0 [] ?_ ?_ ⟨ga, 0, none⟩ s.length ca (s.map (.int .i64)) rfl k6 ?_ (ints_one _) k3 k4 ?_ ?_; rotate_left 2; (· (with_reducible exact hB0)); (· exact (hvr.below qB0).cells); (· exact qB0.size); rotate_left 1; (· rfl); intro v4 w4 h4 g4 _; have f4B0 := h4; have q40 := qB0.grown g4 qB0.size (fun k hk => (World.ownsRow.lt hB0 k hk).1); have x40 := hX _ q40; have m4B0 := news_kept nB0 g4 (by simp [Value.ownBlock]))
          | (refine step_append_own rfl _ _ 27 rfl wr.heap.size 3 i0 z0 1 8 Try.underlying27 hi hz0 hz1 hz2 hz3 (by decide) ?_ 0 [] ?_ ?_ ⟨ga, 0, none⟩ s.length ca (s.map (.int .i64)) rfl k6 ?_ (ints_one _) k3 k4 ?_ ?_; rotate_left 2; (· (with_reducible exact hC0)); (· exact (hvr.below qC0).cells); (· exact qC0.size); rotate_left 1; (· rfl); intro v4 w4 h4 g4 _; have f4C0 := h4; have q40 := qC0.grown g4 qC0.size (fun k hk => (World.ownsRow.lt hC0 k hk).1); have x40 := hX _ q40; have m4C0 := news_kept nC0 g4 (by simp [Value.ownBlock])))
        all_goals (try go_wp2)
        all_goals exact ⟨⟨i + 1, by simp, by omega, by omega, e7.1, e7.2, u2.trans u8⟩, by simp only [intOf]; omega⟩
      · go_wp2
        all_goals try (exfalso; omega)
        first | go_end0 | ((try simp only [Exit.inBlock, Exit.then]); refine bodyPost_ret (results_none rfl _ _ _) rfl ?_)
        exact ⟨rfl, ⟨by rw [show max f (l.length - 1) = i by omega]; exact hf2, he2⟩, u2⟩
  · have hcf : (Value.int .i64 (m + 1) : Value) = .int .i64 (f : Int) := by rw [hm2]
    have hgt : (0 : Int) < (s.length : Int) := by have := (List.getElem?_eq_some_iff.1 hm1).1; omega
    have hgd : decide (0 < s.length) = true := decide_eq_true (by omega)
    have cm : w.cell? ⟨ga, s.length - 1, none⟩ = some (.int .i64 m) := by
      have := hv.cells (s.length - 1) (.int .i64 m) (by rw [List.getElem?_map, hm1]; rfl)
      rwa [Addr.add_lit, Nat.zero_add] at this
    have hix : (0 : Int) ≤ (s.length : Int) - 1 := by omega
    have hix3 : ((s.length : Int) - 1).toNat = s.length - 1 := by omega
    have HCF := Lib.hid hcf
    clear hcf hm1 hm2
    go_enter Try.func63, Try.ntmps63
    go_wp2
    clear hix3 cm
    go_loopw [9] (fun v wr => ∃ i : Nat, v = .int .i64 (i : Int) ∧ f ≤ i ∧ i ≤ max f (l.length - 1) ∧ Found B0 bb bs wr (F i) ∧ LeaveEnv B0 bk bl bx k l (.slice vA l.length vc) (leaveFn bk bl bx bs bb) wr ∧ Upd (fun k => k = bb ∨ k = bs) w wr) (fun v _ => l.length - (intOf v).toNat)
    case atStart => exact ⟨f, HCF.out, Nat.le_refl _, by omega, by rw [HF.out]; exact hf, he, Upd.refl _ _⟩
    case round =>
      obtain ⟨i, rfl, hfi, him, hf2, he2, u2⟩ := hrel
      have hwr : B ≤ wr.heap.size := Nat.le_trans hwB u2.size
      have hi24 : (i : Int) ≤ 24 := by omega
      have hvr := hv.upd u2 (fun k hk => by omega)
      have c2 := cell_of_one he2.lb
      have hX' : ∀ V, LeaveEnv B0 bk bl bx k l (.slice vA l.length vc) (leaveFn bk bl bx bs bb) V → ∀ W, Below V.heap.size V W → W.cell? ⟨bx, 0, none⟩ = some (Value.func (.func 63) #[] #[.pointer (some ⟨bk, 0, none⟩), .pointer (some ⟨bl, 0, none⟩), .pointer (some ⟨bs, 0, none⟩), .pointer (some ⟨bb, 0, none⟩), .pointer (some ⟨bx, 0, none⟩)]) := fun V hV W hW => cell_of_one (hV.below hW).xb
      have hX : ∀ W, Below wr.heap.size wr W → W.cell? ⟨bx, 0, none⟩ = some (Value.func (.func 63) #[] #[.pointer (some ⟨bk, 0, none⟩), .pointer (some ⟨bl, 0, none⟩), .pointer (some ⟨bs, 0, none⟩), .pointer (some ⟨bb, 0, none⟩), .pointer (some ⟨bx, 0, none⟩)]) := fun W hW => hX' _ he2 W hW
      by_cases hin : i + 1 < l.length
      · have x00 := hX _ (Below.refl _ _)
        have xd0 := hX _ (Below.refl _ _).drew
        obtain ⟨⟨qA0, hA0⟩, ⟨qB0, hB0, nB0⟩, ⟨qC0, hC0, nC0⟩, qD0⟩ := two_news wr (i : Int)
        have xA0 := hX _ qA0
        have xB0 := hX _ qB0
        have xC0 := hX _ qC0
        have xD0 := hX _ qD0
        go_wp2
        all_goals try (exfalso; omega)
        go_region_held3 (fun w' => w'.cell? ⟨bx, 0, none⟩ = some (Value.func (.func 63) #[] #[.pointer (some ⟨bk, 0, none⟩), .pointer (some ⟨bl, 0, none⟩), .pointer (some ⟨bs, 0, none⟩), .pointer (some ⟨bb, 0, none⟩), .pointer (some ⟨bx, 0, none⟩)])) (with_reducible assumption)
        (first
          | (go_at_call 63; refine (ih i hfi hin _ _ _ ?_ ?_ ?_ o60).mono ?_; exact Nat.le_trans hwr q60.size; exact hf2.below q60; exact he2.below q60; rintro e w7 ⟨rfl, e7, u7⟩; have u8 := (Upd.of q60).trans u7; have x7 := hX' _ e7.2 _ (Below.refl _ _))
          | (have zf := f4A0; refine step_append_own rfl _ _ 27 rfl wr.heap.size 3 i0 z0 1 8 Try.underlying27 hi hz0 hz1 hz2 hz3 (by decide) ?_ (0 + s.length) ([] ++ s.map (.int .i64)) ?_ ?_ ?_ 1 1 [.int .i64 (i : Int)] ?_ rfl ?_ (new_one _) k8 k9 ?_ ?_; rotate_left 2; (· (with_reducible exact h5A0)); rotate_left 2; (· exact n5A0); (· exact q50.size); rotate_left 1; (· rfl); (· rfl); intro v6 w6 h6 g6 _; have q60 := q50.grown g6 q50.size (fun k hk => (World.ownsRow.lt h5A0 k hk).1); have x60 := hX _ q60; have o60 := own_next2 h6 hwr; obtain ⟨gg0, cc0, rfl⟩ := own_some1 o60)
          | (have zf := f4B0; refine step_append_own rfl _ _ 27 rfl wr.heap.size 3 i0 z0 1 8 Try.underlying27 hi hz0 hz1 hz2 hz3 (by decide) ?_ (0 + s.length) ([] ++ s.map (.int .i64)) ?_ ?_ ?_ 1 1 [.int .i64 (i : Int)] ?_ rfl ?_ (new_one _) k8 k9 ?_ ?_; rotate_left 2; (· (with_reducible exact f4B0)); rotate_left 2; (· exact m4B0); (· exact q40.size); rotate_left 1; (· rfl); (· rfl); intro v6 w6 h6 g6 _; have q60 := q40.grown g6 q40.size (fun k hk => (World.ownsRow.lt f4B0 k hk).1); have x60 := hX _ q60; have o60 := own_next2 h6 hwr; obtain ⟨gg0, cc0, rfl⟩ := own_some1 o60)
          | (have zf := f4C0; refine step_append_own rfl _ _ 27 rfl wr.heap.size 3 i0 z0 1 8 Try.underlying27 hi hz0 hz1 hz2 hz3 (by decide) ?_ (0 + s.length) ([] ++ s.map (.int .i64)) ?_ ?_ ?_ 1 1 [.int .i64 (i : Int)] ?_ rfl ?_ (new_one _) k8 k9 ?_ ?_; rotate_left 2; (· (with_reducible exact f4C0)); rotate_left 2; (· exact m4C0); (· exact q40.size); rotate_left 1; (· rfl); (· rfl); intro v6 w6 h6 g6 _; have q60 := q40.grown g6 q40.size (fun k hk => (World.ownsRow.lt f4C0 k hk).1); have x60 := hX _ q60; have o60 := own_next2 h6 hwr; obtain ⟨gg0, cc0, rfl⟩ := own_some1 o60)
          | (refine step_append_own rfl _ _ 27 rfl wr.heap.size 3 i0 z0 1 8 Try.underlying27 hi hz0 hz1 hz2 hz3 (by decide) ?_ 0 [] ?_ ?_ ⟨ga, 0, none⟩ s.length ca (s.map (.int .i64)) rfl k6 ?_ (ints_one _) k3 k4 ?_ ?_; rotate_left 2; (· (with_reducible exact hA0)); (· exact (hvr.below qA0).cells); (· exact qA0.size); rotate_left 1; (· rfl); intro v4 w4 h4 g4 _; have f4A0 := h4; have q40 := qA0.grown g4 qA0.size (fun k hk => (World.ownsRow.lt hA0 k hk).1); have x40 := hX _ q40; have q50 : Below wr.heap.size wr (w4.alloc (.cells #[.int .i64 (i : Int)] 3)) := q40.alloc q40.size _; have x50 := hX _ q50; have h5A0 := World.ownsRow.alloc h4 (.cells #[.int .i64 (i : Int)] 3); have n5A0 := new_cell w4 (i : Int))
          | (refine step_append_own rfl _ _ 27 rfl wr.heap.size 3 i0 z0 1 8 Try.underlying27 hi hz0 hz1 hz2 hz3 (by decide) ?_ 0 [] ?_ ?_ ⟨ga, 0, none⟩ s.length ca (s.map (.int .i64)) rfl k6 ?_ (ints_one _) k3 k4 ?_ ?_; rotate_left 2; (· (with_reducible exact hB0)); (· exact (hvr.below qB0).cells); (· exact qB0.size); rotate_left 1; (· rfl); intro v4 w4 h4 g4 _; have f4B0 := h4; have q40 := qB0.grown g4 qB0.size (fun k hk => (World.ownsRow.lt hB0 k hk).1); have x40 := hX _ q40; have m4B0 := news_kept nB0 g4 (by simp [Value.ownBlock]))
          | (refine step_append_own rfl _ _ 27 rfl wr.heap.size 3 i0 z0 1 8 Try.underlying27 hi hz0 hz1 hz2 hz3 (by decide) ?_ 0 [] ?_ ?_ ⟨ga, 0, none⟩ s.length ca (s.map (.int .i64)) rfl k6 ?_ (ints_one _) k3 k4 ?_ ?_; rotate_left 2; (· (with_reducible exact hC0)); (· exact (hvr.below qC0).cells); (· exact qC0.size); rotate_left 1; (· rfl); intro v4 w4 h4 g4 _; have f4C0 := h4; have q40 := qC0.grown g4 qC0.size (fun k hk => (World.ownsRow.lt hC0 k hk).1); have x40 := hX _ q40; have m4C0 := news_kept nC0 g4 (by simp [Value.ownBlock])))
        all_goals (try go_wp2)
        all_goals exact ⟨⟨i + 1, by simp, by omega, by omega, e7.1, e7.2, u2.trans u8⟩, by simp only [intOf]; omega⟩
      · go_wp2
        all_goals try (exfalso; omega)
        first | go_end0 | ((try simp only [Exit.inBlock, Exit.then]); refine bodyPost_ret (results_none rfl _ _ _) rfl ?_)
        exact ⟨rfl, ⟨by rw [show max f (l.length - 1) = i by omega]; exact hf2, he2⟩, u2⟩

/- impl.LeaveMarks: the walk and its contract. -/

theorem leave_go {B0 bk bl bx bb bs : Nat} {k : Int} {l : List (List Int)} {vl : Value} (hp : parB l = true) (h4 : k ≤ 4) (B : Nat) (hB : B0 ≤ B) (hbb : bb < B) (hbs : bs < B) :
    ∀ (j : Nat) (s : List Int) (f : Nat) (w : World) (a : List Int × Int) (ga ca : Nat), (s.length : Int) + j = k → MarksOk l.length s → (∀ m ∈ s, m < (f : Int)) → f ≤ 24 → ((s.length = 0 ∧ f = 0) ∨ ∃ m, s[s.length - 1]? = some m ∧ (f : Int) = m + 1 ∧ 0 ≤ m ∧ m < 24) →
      B ≤ w.heap.size → Found B0 bb bs w a → LeaveEnv B0 bk bl bx k l vl (leaveFn bk bl bx bs bb) w → OwnI w B (.slice (some ⟨ga, 0, none⟩) s.length ca) s →
      Calls Try.prog 63 #[.slice (some ⟨ga, 0, none⟩) s.length ca, .pointer (some ⟨bk, 0, none⟩), .pointer (some ⟨bl, 0, none⟩), .pointer (some ⟨bs, 0, none⟩), .pointer (some ⟨bb, 0, none⟩), .pointer (some ⟨bx, 0, none⟩)] w
        fun e w' => e = .returned (.tuple #[]) ∧ (Found B0 bb bs w' (nextS l.length (leftF l) j f s a) ∧ LeaveEnv B0 bk bl bx k l vl (leaveFn bk bl bx bs bb) w') ∧ Upd (fun k => k = bb ∨ k = bs) w w'
  | 0, s, f, w, a, ga, ca, hk, hm, hmf, hf24, hfl, hw, hf, he, hv => by
    obtain rfl : k = (s.length : Int) := by omega
    exact leave_leaf hp w a s ga ca hf he B hB hbb hbs hv hm
  | j + 1, s, f, w, a, ga, ca, hk, hm, hmf, hf24, hfl, hw, hf, he, hv => by
    have hl := (parB_spec hp).2
    have h := leave_step hl B hB hbb hbs w a s f (fun i => (List.range' f (i - f)).foldl (fun b i => nextS l.length (leftF l) j (i + 1) (s ++ [(i : Int)]) b) a) ga ca hf he hw hv (by omega) (by omega) hf24 (by simp) hfl (fun i hfi hin g c W hW hf2 he2 hv2 => by
      have e : s.length + 1 = (s ++ [(i : Int)]).length := by simp
      rw [show i + 1 - f = (i - f) + 1 by omega, List.range'_1_concat, List.foldl_append, show f + (i - f) = i by omega]
      have hm2 := marks_snoc hm (i := i) (fun m h => by have := hmf m h; omega) hin
      rw [e] at hv2 ⊢
      exact leave_go hp h4 B hB hbb hbs j (s ++ [(i : Int)]) (i + 1) W _ g c (by rw [List.length_append, List.length_singleton]; omega) hm2 (last_lt fun m h => by have := hmf m h; omega) (by omega) (.inr ⟨(i : Int), by simp, by omega, by omega, by omega⟩) hW hf2 he2 hv2)
    simp only [show max f (l.length - 1) - f = l.length - 1 - f by omega] at h
    exact h

/-- What stands ready: the boxes of what is found, a box that holds the closure. -/
theorem leave_ready {B0 : Nat} {w : World} (hb0 : B0 ≤ w.heap.size) {k : Int} {l : List (List Int)} {vl : Value} {bk bl : Nat}
    (h1 : w.heap[bk]? = some (.cells #[.int .i64 k] 3 (0, 0))) (h2 : w.heap[bl]? = some (.cells #[vl] 24 (0, 0))) (hlt : bk < B0 ∧ bl < B0) (hv : RepI w (fun k => k < B0) (.isl 1 (rows (cSl 1 cInt) l)) vl) (F : Value) :
    ((((w.alloc (.cells #[] 3)).alloc (.cells #[.slice (some ⟨w.heap.size, 0, none⟩) 0 0] 27)).alloc (.cells #[.int .i64 (-1)] 3)).alloc (.cells #[.nilFunc] 76)).cell? ⟨w.heap.size + 1 + 1 + 1, 0, none⟩ = some .nilFunc ∧ ((((w.alloc (.cells #[] 3)).alloc (.cells #[.slice (some ⟨w.heap.size, 0, none⟩) 0 0] 27)).alloc (.cells #[.int .i64 (-1)] 3)).alloc (.cells #[.nilFunc] 76)).frozen? ⟨w.heap.size + 1 + 1 + 1, 0, none⟩ = false ∧
    ((((w.alloc (.cells #[] 3)).alloc (.cells #[.slice (some ⟨w.heap.size, 0, none⟩) 0 0] 27)).alloc (.cells #[.int .i64 (-1)] 3)).alloc (.cells #[F] 76)).cell? ⟨w.heap.size + 1 + 1 + 1, 0, none⟩ = some F ∧
    Found B0 (w.heap.size + 1) (w.heap.size + 1 + 1) (((((w.alloc (.cells #[] 3)).alloc (.cells #[.slice (some ⟨w.heap.size, 0, none⟩) 0 0] 27)).alloc (.cells #[.int .i64 (-1)] 3)).alloc (.cells #[F] 76)).alloc (.cells #[] 3)) ([], -1) ∧
    LeaveEnv B0 bk bl (w.heap.size + 1 + 1 + 1) k l vl F (((((w.alloc (.cells #[] 3)).alloc (.cells #[.slice (some ⟨w.heap.size, 0, none⟩) 0 0] 27)).alloc (.cells #[.int .i64 (-1)] 3)).alloc (.cells #[F] 76)).alloc (.cells #[] 3)) ∧
    Below w.heap.size w (((((w.alloc (.cells #[] 3)).alloc (.cells #[.slice (some ⟨w.heap.size, 0, none⟩) 0 0] 27)).alloc (.cells #[.int .i64 (-1)] 3)).alloc (.cells #[F] 76)).alloc (.cells #[] 3)) ∧ (((((w.alloc (.cells #[] 3)).alloc (.cells #[.slice (some ⟨w.heap.size, 0, none⟩) 0 0] 27)).alloc (.cells #[.int .i64 (-1)] 3)).alloc (.cells #[F] 76)).alloc (.cells #[] 3)).heap.size = w.heap.size + 5 ∧
    OwnI (((((w.alloc (.cells #[] 3)).alloc (.cells #[.slice (some ⟨w.heap.size, 0, none⟩) 0 0] 27)).alloc (.cells #[.int .i64 (-1)] 3)).alloc (.cells #[F] 76)).alloc (.cells #[] 3)) (w.heap.size + 4) (.slice (some ⟨w.heap.size + 1 + 1 + 1 + 1, 0, none⟩) 0 0) [] := by
  obtain ⟨f1, f2, f3⟩ := found_ready hb0
  generalize ((w.alloc (.cells #[] 3)).alloc (.cells #[.slice (some ⟨w.heap.size, 0, none⟩) 0 0] 27)).alloc (.cells #[.int .i64 (-1)] 3) = X at f1 f2 f3 ⊢
  have q0 := alloc_below X (.cells #[.nilFunc] 76)
  have s0 : (X.alloc (.cells #[.nilFunc] 76)).heap.size = w.heap.size + 4 := by rw [World.size_alloc, f3]
  have x0 : (X.alloc (.cells #[.nilFunc] 76)).heap[w.heap.size + 1 + 1 + 1]? = some (.cells #[.nilFunc] 76 (0, 0)) := by
    rw [show w.heap.size + 1 + 1 + 1 = X.heap.size by omega]; exact heap_alloc_new X _
  have q1 := alloc_below X (.cells #[F] 76)
  have s1 : (X.alloc (.cells #[F] 76)).heap.size = w.heap.size + 4 := by rw [World.size_alloc, f3]
  have x1 : (X.alloc (.cells #[F] 76)).heap[w.heap.size + 1 + 1 + 1]? = some (.cells #[F] 76 (0, 0)) := by
    rw [show w.heap.size + 1 + 1 + 1 = X.heap.size by omega]; exact heap_alloc_new X _
  have d1 := f1.below q1
  have b1 := f2.trans (q1.mono f2.size)
  refine ⟨cell_of_one x0, free_of_one x0, cell_of_one x1, ?_⟩
  generalize X.alloc (.cells #[F] 76) = Y at q1 s1 x1 d1 b1 ⊢
  have q2 := alloc_below Y (.cells #[] 3)
  have b2 : Below w.heap.size w (Y.alloc (.cells #[] 3)) := b1.trans (q2.mono b1.size)
  have r := own_new Y (B := w.heap.size + 4) (by omega)
  rw [s1] at r
  have kp : ∀ {k : Nat} {o : Obj}, w.heap[k]? = some o → (Y.alloc (.cells #[] 3)).heap[k]? = some o := fun {k o} ho => by rw [b2.block k (Array.getElem?_eq_some_iff.1 ho).1]; exact ho
  refine ⟨d1.below q2, ⟨kp h1, kp h2, ?_, hv.mono fun g hg => ⟨hg, b2.block g (by omega)⟩, by rw [World.size_alloc]; omega, hlt⟩, b2, by rw [World.size_alloc, s1], r⟩
  rw [q2.block _ (by omega)]; exact x1

set_option maxHeartbeats 4000000 in
set_option maxRecDepth 1000000 in
theorem leave_walk (l : List (List Int)) (k : Int) (hw1 : IntKind.i64.wrap k = k) (vl : Value) (w : World) (I : Nat → Prop) (hI : InR w I) (hv : RepI w I (.isl 1 (rows (cSl 1 cInt) l)) vl) :
    Calls Try.prog 17 #[vl, .int .i64 k] w fun e w' => ∃ v, e = .returned (.tuple #[v, .int .i64 (leaveAns l k).2.1, .bool (leaveAns l k).2.2]) ∧ Below w.heap.size w w' ∧ OwnI w' w.heap.size v (leaveAns l k).1 := by
  obtain ⟨vA, vc, rfl⟩ := isl_shape hv
  rw [rows_eq, List.length_map] at hv ⊢
  have hmf : ∀ (fn : Fn) (first cap : Array Value) (w : World), (Instr.makeFunc fn first cap).run Try.prog w = .ok (.func fn first cap) w := fun _ _ _ _ => rfl
  have hsf := fun (a : Addr) (c : Array Value) (w : World) => run_store Try.prog w a (.func (.func 63) #[] c) .plain rfl
  let W1 : World := w.alloc (.cells #[.slice vA l.length vc] 24)
  let W2 : World := W1.alloc (.cells #[.int .i64 k] 3)
  have s1 : W1.heap.size = w.heap.size + 1 := by simp [W1]
  have hsz : W2.heap.size = w.heap.size + 2 := by simp [W2, s1]
  have q1 : Below w.heap.size w W1 := (Below.refl _ _).alloc (Nat.le_refl _) _
  have q2 : Below W1.heap.size W1 W2 := (Below.refl _ _).alloc (Nat.le_refl _) _
  have b3 : Below w.heap.size w W2 := q1.trans (q2.mono q1.size)
  have e1 : W2.heap[w.heap.size]? = some (.cells #[.slice vA l.length vc] 24 (0, 0)) := by
    rw [q2.block _ (by omega)]; exact heap_alloc_new w _
  have e2 : W2.heap[w.heap.size + 1]? = some (.cells #[.int .i64 k] 3 (0, 0)) := by
    rw [← s1]; exact heap_alloc_new W1 _
  have hC : ∀ W : World, Below w.heap.size w W → Calls Try.prog 59 #[.slice vA l.length vc] W fun e w' => e = .returned (.bool (parB l)) ∧ Below W.heap.size W w' := fun W hW =>
    calls_bool (AreParallel_ok l) (inr_all W) (vs := [.slice vA l.length vc]) (All2.cons (.one (by rw [rows_eq]; exact hv.mono fun g hg => ⟨Nat.lt_of_lt_of_le (hI.1 g hg) hW.size, hW.block g (hI.1 g hg)⟩)) .nil)
  have hN : ∀ W : World, Calls Try.prog 62 #[.int .i64 k, .int .i64 0, .int .i64 4] W fun e w' => e = .returned (.bool (inB k 0 4)) ∧ Below W.heap.size W w' := fun W =>
    calls_bool (within_ok k 0 4) (inr_all W) (vs := [.int .i64 k, .int .i64 0, .int .i64 4]) (All2.cons (.one (.int _ _ hw1)) (All2.cons (.one (.int _ _ rfl)) (All2.cons (.one (.int _ _ rfl)) .nil)))
  have hv' : RepI w (fun k => k < w.heap.size) (.isl 1 (rows (cSl 1 cInt) l)) (.slice vA l.length vc) := by rw [rows_eq]; exact hv.mono fun g hg => ⟨hI.1 g hg, rfl⟩
  have K : ∀ W : World, Below W2.heap.size W2 W → W.heap[w.heap.size]? = some (.cells #[.slice vA l.length vc] 24 (0, 0)) ∧ W.heap[w.heap.size + 1]? = some (.cells #[.int .i64 k] 3 (0, 0)) ∧
      W.cell? ⟨w.heap.size, 0, none⟩ = some (.slice vA l.length vc) ∧ W.cell? ⟨w.heap.size + 1, 0, none⟩ = some (.int .i64 k) := by
    intro W hW
    have a1 := (hW.block w.heap.size (by omega)).trans e1
    have a2 := (hW.block (w.heap.size + 1) (by omega)).trans e2
    exact ⟨a1, a2, cell_of_one a1, cell_of_one a2⟩
  cases hM : parB l
  · rw [hM] at hC
    have ha : leaveAns l k = ([], 0, false) := by rw [leaveAns, leaveOk, hM]; rfl
    go_enter Try.func17, Try.ntmps17
    go_wp2_with (go_at_call 59; refine (hC _ b3).mono ?_; rintro e w4 ⟨rfl, b4⟩)
    go_ret3
    rw [ha]
    have c4 := b3.trans (b4.mono b3.size)
    exact ⟨_, rfl, c4.alloc c4.size _, own_new _ c4.size⟩
  · rw [hM] at hC
    have hl24 := (parB_spec hM).2
    cases hO : inB k 0 4
    · rw [hO] at hN
      have ha : leaveAns l k = ([], 0, false) := by rw [leaveAns, leaveOk, hM, hO]; rfl
      go_enter Try.func17, Try.ntmps17
      go_wp2_with (first
        | (go_at_call 62; go_must (refine (hN _).mono ?_; rintro e w5 ⟨rfl, b5⟩; have c5 := c4.trans (b5.mono c4.size)))
        | (go_at_call 59; go_must (refine (hC _ b3).mono ?_; rintro e w4 ⟨rfl, b4⟩; obtain ⟨k1, k2, k3, k4⟩ := K w4 b4; have c4 := b3.trans (b4.mono b3.size))))
      go_ret3
      rw [ha]
      exact ⟨_, rfl, c5.alloc c5.size _, own_new _ c5.size⟩
    · rw [hO] at hN
      have hk := inB_spec hO
      by_cases hP : k ≤ max 0 ((l.length : Int) - 1)
      · have hA : leaveOk l k = true := by rw [leaveOk, hM, hO, decide_eq_true hP]; rfl
        have ha : leaveAns l k = ((leaveF l k).1, (leaveF l k).2, true) := by rw [leaveAns, if_pos hA]
        have hnx := next_choose (n := l.length) (left_nn l) k.toNat 0 [] ([], -1)
        have hmg : mergeM ([], -1) (leaveF l k) = leaveF l k := by
          have := (leave_facts hA).2.2.2.2
          unfold mergeM; rw [if_pos ⟨this, .inl (by simp)⟩]
        have eF : nextS l.length (leftF l) k.toNat 0 [] ([], -1) = leaveF l k := hnx.trans hmg
        have HEF := Lib.hid eF
        have HA := Lib.hid ha
        clear hnx hmg eF ha hA
        by_cases hn1 : (1 : Int) < (l.length : Int)
        all_goals
          go_enter Try.func17, Try.ntmps17
          go_wp2_with (first
            | (go_at_call 62; go_must (refine (hN _).mono ?_; rintro e w6 ⟨rfl, b6⟩; have d6 := b4.trans (b6.mono b4.size); have c6 := c4.trans (b6.mono c4.size); obtain ⟨i1, i2, i3, i4⟩ := K w6 d6; obtain ⟨r1, r2, r3, r4, r5, r6, r7, r8⟩ := leave_ready (B0 := W2.heap.size) d6.size i2 i1 (by omega) (hv'.mono fun g hg => ⟨by omega, c6.block g hg⟩) (.func (.func 63) #[] #[.pointer (some ⟨w.heap.size + 1, 0, none⟩), .pointer (some ⟨w.heap.size, 0, none⟩), .pointer (some ⟨w6.heap.size + 1 + 1, 0, none⟩), .pointer (some ⟨w6.heap.size + 1, 0, none⟩), .pointer (some ⟨w6.heap.size + 1 + 1 + 1, 0, none⟩)])))
            | (go_at_call 63; go_must (refine (leave_go hM (by omega) (w6.heap.size + 4) (by have := d6.size; omega) (by omega) (by omega) k.toNat [] 0 _ ([], -1) _ _ (by simp; omega) ⟨.nil, fun m hm => (by cases hm)⟩ (fun m hm => (by cases hm)) (by omega) (.inl ⟨rfl, rfl⟩) (by omega) r4 r5 r8).mono ?_; rintro e w9 ⟨rfl, ⟨f9, -⟩, u9⟩; obtain ⟨vb, h9, o9, -⟩ := f9.best; have n9 := cell_of_one h9; have m9 := cell_of_one f9.least))
            | (go_at_call 59; go_must (refine (hC _ b3).mono ?_; rintro e w4 ⟨rfl, b4⟩; obtain ⟨k1, k2, k3, k4⟩ := K w4 b4; have c4 := b3.trans (b4.mono b3.size))))
          all_goals try (exfalso; omega)
          go_region
          all_goals (try go_wp2)
          go_ret3
          rw [HEF.out] at o9
          rw [HA.out, HEF.out]
          refine ⟨vb, rfl, ((c6.trans (r6.mono c6.size)).trans (u9.below (B := w.heap.size) (by have := c6.size; omega) fun k hk => by have := c6.size; omega)).drew, (o9.low (by omega)).below (Below.refl _ _).drew⟩
      · have ha : leaveAns l k = ([], 0, false) := by rw [leaveAns, leaveOk, hM, hO, decide_eq_false hP]; rfl
        have HA := Lib.hid ha
        clear ha
        go_enter Try.func17, Try.ntmps17
        go_wp2_with (first
          | (go_at_call 62; go_must (refine (hN _).mono ?_; rintro e w5 ⟨rfl, b5⟩; have c5 := c4.trans (b5.mono c4.size); have d5 := b4.trans (b5.mono b4.size); obtain ⟨j1, j2, j3, j4⟩ := K w5 d5))
          | (go_at_call 59; go_must (refine (hC _ b3).mono ?_; rintro e w4 ⟨rfl, b4⟩; obtain ⟨k1, k2, k3, k4⟩ := K w4 b4; have c4 := b3.trans (b4.mono b3.size))))
        all_goals try (exfalso; omega)
        all_goals
          go_ret3
          rw [HA.out]
          exact ⟨_, rfl, c5.alloc c5.size _, own_new _ c5.size⟩
theorem leaveAns_wrap (l : List (List Int)) (k : Int) : (∀ x ∈ (leaveAns l k).1, IntKind.i64.wrap x = x) ∧ IntKind.i64.wrap (leaveAns l k).2.1 = (leaveAns l k).2.1 := by
  unfold leaveAns
  split
  · rename_i h
    obtain ⟨h1, h2, h3, h4, h5⟩ := leave_facts h
    have hp : parB l = true := by simp only [leaveOk, Bool.and_eq_true] at h; exact h.1.1
    have hl := (parB_spec hp).2
    have ht := total_all (par_400 hp).1
    exact ⟨marks_wrap hl h1, wrap64 (by dsimp only; omega) (by dsimp only; omega)⟩
  · exact ⟨(fun x hx => by cases hx), rfl⟩
theorem LeaveMarks_ok (l : List (List Int)) (k : Int) : OkA Try.prog 17 [.isl 1 (rows (cSl 1 cInt) l), .int .i64 k] (· = lic 3 1 cInt (leaveAns l k)) := by
  refine ⟨⟨_, Try.func17, rfl, rfl⟩, fun w I vs hI hargs => ?_⟩
  obtain ⟨vl, us, rfl, h2, hv⟩ := one_args (fun cs e => by cases e) hargs
  obtain ⟨vd, us, rfl, h3, hd⟩ := one_args (fun cs e => by cases e) h2
  obtain rfl := nil_args h3
  cases hd with
  | int k n hn =>
    refine (leave_walk l k hn vl w I hI hv).mono ?_
    rintro e w' ⟨v, rfl, hb, ho⟩
    obtain ⟨h1, h2⟩ := leaveAns_wrap l k
    exact ⟨_, lic 3 1 cInt (leaveAns l k), _, rfl, rfl, hb, lic_rep ho h1 h2⟩

end Go.Proofs.Ytalookmhhkojeaa.Ai
