/- impl.BestCastOrder: its closure and the walk over all orders; the contracts of MostCastings and BestCastOrder. -/
import Derived.Test.YtjmjepdlclehoaaMost
import Derived.Test.YtjmjepdlclehoaaCast3
namespace Go.Proofs.Ytjmjepdlclehoaa.Ai
open Go Go.Proofs Go.RowKit
set_option linter.unusedSimpArgs false
set_option linter.unusedVariables false

theorem OwnI.ne {w : World} {B k : Nat} {v : Value} {o : List Int} (h : OwnI w B v o) (hk : k < B) : v.ownBlock ≠ some k := fun e => by have := (World.ownsRow.lt h k e).1; omega
theorem OwnI.shape {w : World} {B : Nat} {v : Value} {o : List Int} (h : OwnI w B v o) : ∃ k cc, v = .slice k o.length cc := by
  obtain ⟨-, ⟨rfl, hn⟩ | ⟨g, cap, cur, rfl, r⟩⟩ := h
  · exact ⟨none, 0, by rw [hn]⟩
  · exact ⟨_, _, rfl⟩
theorem Upd.mono {S T : Nat → Prop} {w w' : World} (h : Upd S w w') (hs : ∀ k, S k → T k) : Upd T w w' := ⟨h.os, h.tape, h.output, h.size, fun k hk hn => h.block k hk fun e => hn (hs k e)⟩
theorem setCell_size (w : World) (a : Addr) (u : Value) : (w.setCell a u).heap.size = w.heap.size := by simp [World.setCell]
theorem upd_setCell (w : World) (b : Nat) (u : Value) : Upd (· = b) w (w.setCell ⟨b, 0, none⟩ u) :=
  ⟨by simp [World.setCell], by simp [World.setCell], by simp [World.setCell], by rw [setCell_size]; exact Nat.le_refl _, fun k hk hn => Below.heap_setCell _ _ _ _ hn⟩

/-- The best list so far and its number, in two boxes. -/
structure Found (B0 bb bs : Nat) (w : World) (a : List Int × Int) : Prop where
  least : w.heap[bs]? = some (.cells #[.int .i64 a.2] 3 (0, 0))
  best : ∃ vb, w.heap[bb]? = some (.cells #[vb] 29 (0, 0)) ∧ OwnI w B0 vb a.1 ∧ vb.ownBlock ≠ some bs
  bb0 : B0 ≤ bb
  bs0 : B0 ≤ bs
theorem Found.lt {B0 bb bs : Nat} {w : World} {a : List Int × Int} (h : Found B0 bb bs w a) : bb < w.heap.size ∧ bs < w.heap.size ∧ bb ≠ bs := by
  obtain ⟨h1, ⟨vb, h2, -, -⟩, -, -⟩ := h
  exact ⟨(Array.getElem?_eq_some_iff.1 h2).1, (Array.getElem?_eq_some_iff.1 h1).1, fun e => by subst e; rw [h1] at h2; simp at h2⟩
theorem Found.below {B0 bb bs : Nat} {w w' : World} {a : List Int × Int} (h : Found B0 bb bs w a) (hu : Below w.heap.size w w') : Found B0 bb bs w' a := by
  obtain ⟨h1, ⟨vb, h2, h3, h4⟩, h5, h6⟩ := h
  have kp : ∀ {k : Nat} {o : Obj}, w.heap[k]? = some o → w'.heap[k]? = some o := fun {k o} ho => by rw [hu.block k (Array.getElem?_eq_some_iff.1 ho).1]; exact ho
  exact ⟨kp h1, ⟨vb, kp h2, h3.below hu, h4⟩, h5, h6⟩
theorem Found.store {B0 bb bs : Nat} {w : World} {a : List Int × Int} (h : Found B0 bb bs w a) {B : Nat} {v : Value} {o : List Int} (hv : OwnI w B v o) (hB0 : B0 ≤ B) (hb : bb < B) (hs : bs < B) (t : Int) :
    Found B0 bb bs ((w.setCell ⟨bb, 0, none⟩ v).setCell ⟨bs, 0, none⟩ (.int .i64 t)) (o, t) ∧ Upd (fun k => k = bb ∨ k = bs) w ((w.setCell ⟨bb, 0, none⟩ v).setCell ⟨bs, 0, none⟩ (.int .i64 t)) ∧
    (w.setCell ⟨bb, 0, none⟩ v).cell? ⟨bs, 0, none⟩ = some (.int .i64 a.2) ∧ (w.setCell ⟨bb, 0, none⟩ v).frozen? ⟨bs, 0, none⟩ = false := by
  obtain ⟨l1, l2, ne⟩ := h.lt
  obtain ⟨h1, ⟨vb, h2, h3, h4⟩, h5, h6⟩ := h
  have k1 : (w.setCell ⟨bb, 0, none⟩ v).heap[bs]? = some (.cells #[.int .i64 a.2] 3 (0, 0)) := by rw [(upd_setCell w bb v).block _ l2 (fun e => ne e.symm)]; exact h1
  refine ⟨⟨one_setCell k1, ⟨v, ?_, ?_, hv.ne hs⟩, h5, h6⟩, ((upd_setCell w bb v).mono fun k e => .inl e).trans ((upd_setCell _ bs _).mono fun k e => .inr e), cell_of_one k1, free_of_one k1⟩
  · rw [(upd_setCell _ bs _).block _ (by rw [setCell_size]; exact l1) ne]; exact one_setCell h2
  · exact (show OwnI _ B _ _ from ownsRow_setCell_other (a := ⟨bs, 0, none⟩) (ownsRow_setCell_other (a := ⟨bb, 0, none⟩) hv (hv.ne hb) _) (hv.ne hs) _).low hB0

/-- A machine's box and one of castings. -/
structure CastEnv (B0 bm bl : Nat) (m : CMach) (l : List Casting) (vl : Value) (w : World) : Prop where
  mb : w.heap[bm]? = some (.cells #[.int .i64 m.1, .int .i64 m.2.1, .int .i64 m.2.2] 25 (0, 0))
  lb : w.heap[bl]? = some (.cells #[vl] 26 (0, 0))
  row : RepI w (fun k => k < B0) (.isl 2 (rows cCasting l)) vl
  b0 : B0 ≤ w.heap.size
theorem CastEnv.upd {B0 bm bl : Nat} {m : CMach} {l : List Casting} {vl : Value} {S : Nat → Prop} {w w' : World} (h : CastEnv B0 bm bl m l vl w) (hu : Upd S w w') (hS : ∀ k, S k → B0 ≤ k ∧ k ≠ bm ∧ k ≠ bl) : CastEnv B0 bm bl m l vl w' := by
  obtain ⟨h1, h2, h3, h4⟩ := h
  refine ⟨?_, ?_, h3.mono fun g hg => ⟨hg, hu.block g (by omega) fun e => by have := (hS g e).1; omega⟩, Nat.le_trans h4 hu.size⟩
  · rw [hu.block _ (Array.getElem?_eq_some_iff.1 h1).1 fun e => (hS _ e).2.1 rfl]; exact h1
  · rw [hu.block _ (Array.getElem?_eq_some_iff.1 h2).1 fun e => (hS _ e).2.2 rfl]; exact h2
theorem CastEnv.below {B0 bm bl : Nat} {m : CMach} {l : List Casting} {vl : Value} {w w' : World} (h : CastEnv B0 bm bl m l vl w) (hu : Below w.heap.size w w') : CastEnv B0 bm bl m l vl w' := h.upd (Upd.of (S := fun _ => False) hu) fun _ e => e.elim
theorem CastEnv.apart {B0 bm bl bb bs : Nat} {m : CMach} {l : List Casting} {vl : Value} {w : World} {a : List Int × Int} (h : CastEnv B0 bm bl m l vl w) (f : Found B0 bb bs w a) : ∀ k, k = bb ∨ k = bs → B0 ≤ k ∧ k ≠ bm ∧ k ≠ bl := by
  obtain ⟨h1, h2, -, -⟩ := h
  obtain ⟨f1, ⟨vb, f2, -, -⟩, f3, f4⟩ := f
  rintro k (rfl | rfl)
  · exact ⟨f3, fun e => by subst e; rw [h1] at f2; simp at f2, fun e => by subst e; rw [h2] at f2; simp at f2⟩
  · exact ⟨f4, fun e => by subst e; rw [h1] at f1; simp at f1, fun e => by subst e; rw [h2] at f1; simp at f1⟩
/-- The minutes of an order, asked of a world's own things. -/
theorem time_calls {m : CMach} {l : List Casting} (hm : okM m = true) (hl : okCs l = true) {w : World} {I : Nat → Prop} {B : Nat} {vl v : Value} {o : List Int} (hv : RepI w I (.isl 2 (rows cCasting l)) vl) (hI : ∀ g, I g → g < w.heap.size) (ho : OwnI w B v o) (hd : Diff l.length o) :
    ∀ W : World, W.heap = w.heap → Calls Try.prog 68 #[.agg #[.int .i64 m.1, .int .i64 m.2.1, .int .i64 m.2.2], vl, v] W fun e w' => e = .returned (.int .i64 (timeF m l o)) ∧ Below W.heap.size W w' := by
  intro W hW
  have mq := okM_spec hm
  have hx : ∀ x ∈ o, IntKind.i64.wrap x = x := fun x hx => by have := hd.2 x hx; have := okCs_len hl; exact wrap64 (by omega) (by omega)
  have r1 : RepI W (fun k => k < W.heap.size) (.isl 2 (rows cCasting l)) vl := hv.mono fun g hg => ⟨by rw [hW]; exact hI g hg, by rw [hW]⟩
  have r2 : RepI W (fun k => k < W.heap.size) (.isl 1 (rows cInt o)) v := (ho.rep hx).mono fun g hg => ⟨by rw [hW]; exact hg, by rw [hW]⟩
  exact calls_int (time_ok m l o hm hl (fineB_diff.2 hd)) (inr_all W) (vs := [.agg #[.int .i64 m.1, .int .i64 m.2.1, .int .i64 m.2.2], vl, v])
    (All2.cons (.agg (cMachine m) [.int .i64 m.1, .int .i64 m.2.1, .int .i64 m.2.2] (.cons (.int _ _ (wrap64 (by omega) (by omega))) (.cons (.int _ _ (wrap64 (by omega) (by omega))) (.cons (.int _ _ (wrap64 (by omega) (by omega))) .nil))))
      (All2.cons (.one r1) (All2.cons (.one r2) .nil)))

set_option maxHeartbeats 4000000 in
set_option maxRecDepth 1000000 in
theorem best_clo {B0 bb bs bm bl : Nat} {m : CMach} {l : List Casting} {vl : Value} (hm : okM m = true) (hl : okCs l = true) (w : World) (a : List Int × Int) (o : List Int) (v : Value) (hf : Found B0 bb bs w a) (he : CastEnv B0 bm bl m l vl w) (B : Nat) (hB : B0 ≤ B) (hbb : bb < B) (hbs : bs < B) (hv : OwnI w B v o) (hd : Diff l.length o) :
    Calls Try.prog 79 (#[v] ++ #[.pointer (some ⟨bl, 0, none⟩), .pointer (some ⟨bm, 0, none⟩), .pointer (some ⟨bs, 0, none⟩), .pointer (some ⟨bb, 0, none⟩)]) w
      fun e w' => e = .returned (.tuple #[]) ∧ (Found B0 bb bs w' (bestStep m l a o) ∧ CastEnv B0 bm bl m l vl w') ∧ Upd (fun k => k = bb ∨ k = bs) w w' := by
  have hap := he.apart hf
  have hA := time_calls hm hl he.row (fun g hg => Nat.lt_of_lt_of_le hg he.b0) hv hd
  obtain ⟨vA, vc, rfl⟩ := isl_shape he.row
  rw [rows_eq, List.length_map] at *
  obtain ⟨ka, kc, rfl⟩ := hv.shape
  have c2 := cell_of_one he.lb
  have h1 := he.mb
  have m0 : w.cell? ⟨bm, 0, none⟩ = some (.int .i64 m.1) := by simp [World.cell?, h1]
  have m1 : w.cell? ⟨bm, 1, none⟩ = some (.int .i64 m.2.1) := by simp [World.cell?, h1]
  have m2 : w.cell? ⟨bm, 2, none⟩ = some (.int .i64 m.2.2) := by simp [World.cell?, h1]
  have hNo : ∀ w1, Below w.heap.size w w1 → bestStep m l a o = a → (Found B0 bb bs w1 (bestStep m l a o) ∧ CastEnv B0 bm bl m l (.slice vA l.length vc) w1) ∧ Upd (fun k => k = bb ∨ k = bs) w w1 := fun w1 b1 e => by
    rw [e]; exact ⟨⟨hf.below b1, he.below b1⟩, Upd.of b1⟩
  have hYes : ∀ w1, Below w.heap.size w w1 → bestStep m l a o = (o, timeF m l o) → (Found B0 bb bs ((w1.setCell ⟨bb, 0, none⟩ (.slice ka o.length kc)).setCell ⟨bs, 0, none⟩ (.int .i64 (timeF m l o))) (bestStep m l a o) ∧ CastEnv B0 bm bl m l (.slice vA l.length vc) ((w1.setCell ⟨bb, 0, none⟩ (.slice ka o.length kc)).setCell ⟨bs, 0, none⟩ (.int .i64 (timeF m l o)))) ∧ Upd (fun k => k = bb ∨ k = bs) w ((w1.setCell ⟨bb, 0, none⟩ (.slice ka o.length kc)).setCell ⟨bs, 0, none⟩ (.int .i64 (timeF m l o))) := fun w1 b1 e => by
    rw [e]
    obtain ⟨s1, s2, -, -⟩ := (hf.below b1).store (hv.below b1) hB hbb hbs (timeF m l o)
    exact ⟨⟨s1, (he.below b1).upd s2 hap⟩, (Upd.of b1).trans s2⟩
  by_cases hlt : o.length < l.length
  · go_enter Try.func79, Try.ntmps79
    go_wp2
    all_goals try (exfalso; omega)
    first | go_end0 | ((try simp only [Exit.inBlock, Exit.then]); refine bodyPost_ret (results_none rfl _ _ _) rfl ?_)
    exact ⟨rfl, hNo _ (Below.refl _ _) (by rw [bestStep, if_pos hlt])⟩
  · by_cases h0 : a.2 < 0
    · go_enter Try.func79, Try.ntmps79
      go_wp2_with (go_at_call 68; go_must (refine (hA _ ?_).mono ?_; rfl; rintro e w1 ⟨rfl, b1⟩; have f1 := hf.below b1; have c3 := cell_of_one f1.least; obtain ⟨vb, g1, g2, g3⟩ := f1.best; have c4 := cell_of_one g1; have c5 := free_of_one g1; obtain ⟨-, -, c6, c7⟩ := f1.store (hv.below b1) hB hbb hbs (timeF m l o)))
      all_goals try (exfalso; omega)
      go_end0
      exact ⟨rfl, hYes _ b1 (by rw [bestStep, if_neg hlt, if_pos (.inl h0)])⟩
    · by_cases h2 : timeF m l o < a.2
      · go_enter Try.func79, Try.ntmps79
        go_wp2_with (go_at_call 68; go_must (refine (hA _ ?_).mono ?_; rfl; rintro e w1 ⟨rfl, b1⟩; have f1 := hf.below b1; have c3 := cell_of_one f1.least; obtain ⟨vb, g1, g2, g3⟩ := f1.best; have c4 := cell_of_one g1; have c5 := free_of_one g1; obtain ⟨-, -, c6, c7⟩ := f1.store (hv.below b1) hB hbb hbs (timeF m l o)))
        all_goals try (exfalso; omega)
        go_end0
        exact ⟨rfl, hYes _ b1 (by rw [bestStep, if_neg hlt, if_pos (.inr h2)])⟩
      · go_enter Try.func79, Try.ntmps79
        go_wp2_with (go_at_call 68; go_must (refine (hA _ ?_).mono ?_; rfl; rintro e w1 ⟨rfl, b1⟩; have f1 := hf.below b1; have c3 := cell_of_one f1.least))
        all_goals try (exfalso; omega)
        go_end0
        exact ⟨rfl, hNo _ b1 (by rw [bestStep, if_neg hlt, if_neg (by omega)])⟩
end Go.Proofs.Ytjmjepdlclehoaa.Ai
