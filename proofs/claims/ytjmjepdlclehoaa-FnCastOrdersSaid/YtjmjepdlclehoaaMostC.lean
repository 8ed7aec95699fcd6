/- impl.MostCastings: its closure and the walk over all orders. -/
import Derived.Test.YtjmjepdlclehoaaEach
import Derived.Deep.RegionWith
import Derived.Deep.DeepMust
namespace Go.Proofs.Ytjmjepdlclehoaa.Ai
open Go Go.Proofs Go.RowKit
set_option linter.unusedSimpArgs false
set_option linter.unusedVariables false

/-- What the closure of MostCastings finds. -/
structure MostBox (B0 bb bm bl bn : Nat) (m : CMach) (l : List Casting) (minutes : Int) (vl : Value) (w : World) (a : List Int) : Prop where
  mb : w.heap[bm]? = some (.cells #[.int .i64 m.1, .int .i64 m.2.1, .int .i64 m.2.2] 25 (0, 0))
  lb : w.heap[bl]? = some (.cells #[vl] 26 (0, 0))
  nb : w.heap[bn]? = some (.cells #[.int .i64 minutes] 3 (0, 0))
  best : ∃ vb, w.heap[bb]? = some (.cells #[vb] 29 (0, 0)) ∧ OwnI w B0 vb a
  row : RepI w (fun k => k < B0) (.isl 2 (rows cCasting l)) vl
  b0 : B0 ≤ w.heap.size
  bb0 : B0 ≤ bb
theorem MostBox.below {B0 bb bm bl bn : Nat} {m : CMach} {l : List Casting} {minutes : Int} {vl : Value} {w w' : World} {a : List Int} (h : MostBox B0 bb bm bl bn m l minutes vl w a) (hu : Below w.heap.size w w') : MostBox B0 bb bm bl bn m l minutes vl w' a := by
  obtain ⟨h1, h2, h3, ⟨vb, h4, h5⟩, h6, h7, h8⟩ := h
  have kp : ∀ {k : Nat} {o : Obj}, w.heap[k]? = some o → w'.heap[k]? = some o := fun {k o} ho => by rw [hu.block k (Array.getElem?_eq_some_iff.1 ho).1]; exact ho
  exact ⟨kp h1, kp h2, kp h3, ⟨vb, kp h4, h5.below hu⟩, h6.mono fun g hg => ⟨hg, hu.block g (by omega)⟩, Nat.le_trans h7 hu.size, h8⟩

set_option maxHeartbeats 4000000 in
set_option maxRecDepth 1000000 in
theorem most_clo {B0 bb bm bl bn : Nat} {m : CMach} {l : List Casting} {minutes : Int} {vl : Value} (hm : okM m = true) (hl : okCs l = true) (w : World) (a o : List Int) (v : Value) (h : MostBox B0 bb bm bl bn m l minutes vl w a) (B : Nat) (hB : B0 ≤ B) (hv : OwnI w B v o) (hd : Diff l.length o) :
    Calls Try.prog 76 (#[v] ++ #[.pointer (some ⟨bb, 0, none⟩), .pointer (some ⟨bm, 0, none⟩), .pointer (some ⟨bl, 0, none⟩), .pointer (some ⟨bn, 0, none⟩)]) w
      fun e w' => e = .returned (.tuple #[]) ∧ MostBox B0 bb bm bl bn m l minutes vl w' (mostStep m l minutes a o) ∧ Upd (· = bb) w w' := by
  obtain ⟨h1, h2, h3, ⟨vb, h4, h5⟩, h6, h7, h8⟩ := h
  have c2 := cell_of_one h2
  have c3 := cell_of_one h3
  have c4 := cell_of_one h4
  have f4 := free_of_one h4
  have m0 : w.cell? ⟨bm, 0, none⟩ = some (.int .i64 m.1) := by simp [World.cell?, h1]
  have m1 : w.cell? ⟨bm, 1, none⟩ = some (.int .i64 m.2.1) := by simp [World.cell?, h1]
  have m2 : w.cell? ⟨bm, 2, none⟩ = some (.int .i64 m.2.2) := by simp [World.cell?, h1]
  obtain ⟨ka, kc, rfl⟩ : ∃ k cc, v = .slice k o.length cc := by
    obtain ⟨-, ⟨rfl, hn⟩ | ⟨g, cap, cur, rfl, r⟩⟩ := hv
    · exact ⟨none, 0, by rw [hn]⟩
    · exact ⟨_, _, rfl⟩
  obtain ⟨qa, qc, rfl⟩ : ∃ k cc, vb = .slice k a.length cc := by
    obtain ⟨-, ⟨rfl, hn⟩ | ⟨g, cap, cur, rfl, r⟩⟩ := h5
    · exact ⟨none, 0, by rw [hn]⟩
    · exact ⟨_, _, rfl⟩
  have hx : ∀ x ∈ o, IntKind.i64.wrap x = x := fun x hx => by have := hd.2 x hx; have := okCs_len hl; exact wrap64 (by omega) (by omega)
  have mq := okM_spec hm
  have hA : ∀ W : World, W.heap = w.heap → Calls Try.prog 68 #[.agg #[.int .i64 m.1, .int .i64 m.2.1, .int .i64 m.2.2], vl, .slice ka o.length kc] W fun e w' => e = .returned (.int .i64 (timeF m l o)) ∧ Below W.heap.size W w' := by
    intro W hW
    have r1 : RepI W (fun k => k < W.heap.size) (.isl 2 (rows cCasting l)) vl := h6.mono fun g hg => ⟨by rw [hW]; omega, by rw [hW]⟩
    have r2 : RepI W (fun k => k < W.heap.size) (.isl 1 (rows cInt o)) (.slice ka o.length kc) := (hv.rep hx).mono fun g hg => ⟨by rw [hW]; exact hg, by rw [hW]⟩
    exact calls_int (time_ok m l o hm hl (fineB_diff.2 hd)) (inr_all W) (vs := [.agg #[.int .i64 m.1, .int .i64 m.2.1, .int .i64 m.2.2], vl, .slice ka o.length kc])
      (All2.cons (.agg (cMachine m) [.int .i64 m.1, .int .i64 m.2.1, .int .i64 m.2.2] (.cons (.int _ _ (wrap64 (by omega) (by omega))) (.cons (.int _ _ (wrap64 (by omega) (by omega))) (.cons (.int _ _ (wrap64 (by omega) (by omega))) .nil))))
        (All2.cons (.one r1) (All2.cons (.one r2) .nil)))
  have kp : ∀ W w' : World, W.heap = w.heap → Below W.heap.size W w' → ∀ {k : Nat} {ob : Obj}, w.heap[k]? = some ob → w'.heap[k]? = some ob := fun W w' hW hu k ob ho => by rw [hu.block k (by rw [hW]; exact (Array.getElem?_eq_some_iff.1 ho).1), hW]; exact ho
  have hM : MostBox B0 bb bm bl bn m l minutes vl w a := ⟨h1, h2, h3, ⟨_, h4, h5⟩, h6, h7, h8⟩
  have hNo : ∀ w1, Below w.drew.heap.size w.drew w1 → minutes < timeF m l o → MostBox B0 bb bm bl bn m l minutes vl w1 (mostStep m l minutes a o) ∧ Upd (· = bb) w w1 := by
    intro w1 b1 ht
    have b2 : Below w.heap.size w w1 := (Below.refl _ _).drew.trans b1
    rw [mostStep, if_neg (fun hc => by omega)]
    exact ⟨hM.below b2, Upd.of b2⟩
  by_cases hlt : a.length < o.length
  · have hYes : ∀ w1, Below w.drew.heap.size w.drew w1 → timeF m l o ≤ minutes → MostBox B0 bb bm bl bn m l minutes vl (w1.setCell ⟨bb, 0, none⟩ (.slice ka o.length kc)) (mostStep m l minutes a o) ∧ Upd (· = bb) w (w1.setCell ⟨bb, 0, none⟩ (.slice ka o.length kc)) := by
      intro w1 b1 ht
      have b2 : Below w.heap.size w w1 := (Below.refl _ _).drew.trans b1
      obtain ⟨g1, g2, g3, ⟨vb, g4, -⟩, g6, g7, -⟩ := hM.below b2
      have gv := hv.below b2
      rw [mostStep, if_pos ⟨hlt, ht⟩]
      have st : ∀ k, k ≠ bb → (w1.setCell ⟨bb, 0, none⟩ (.slice ka o.length kc)).heap[k]? = w1.heap[k]? := fun k hk => Below.heap_setCell _ _ _ _ hk
      have n1 : bm ≠ bb := fun e => by subst e; rw [g1] at g4; simp at g4
      have n2 : bl ≠ bb := fun e => by subst e; rw [g2] at g4; simp at g4
      have n3 : bn ≠ bb := fun e => by subst e; rw [g3] at g4; simp at g4
      have nv : (Value.slice ka o.length kc).ownBlock ≠ some bb := fun e => by
        obtain ⟨-, ⟨q, -⟩ | ⟨g, cp, cur, q, -, hg, -⟩⟩ := gv
        · rw [q] at e; simp [Value.ownBlock] at e
        · rw [q] at e; simp [Value.ownBlock] at e
          subst e; rw [g4] at hg; simp at hg
      have sz : (w1.setCell ⟨bb, 0, none⟩ (.slice ka o.length kc)).heap.size = w1.heap.size := by simp [World.setCell]
      refine ⟨⟨by rw [st _ n1]; exact g1, by rw [st _ n2]; exact g2, by rw [st _ n3]; exact g3, ⟨_, one_setCell g4, (show OwnI _ B _ _ from ownsRow_setCell_other gv nv _).low hB⟩, g6.mono fun g hg => ⟨hg, st g (by omega)⟩, by omega, h8⟩, ?_⟩
      exact ⟨b2.os, b2.tape, b2.output, by rw [sz]; exact b2.size, fun k hk hs => by rw [st k hs]; exact b2.block k hk⟩
    go_enter Try.func76, Try.ntmps76
    go_wp2
    go_region_with (go_at_call 68; go_must (refine (hA _ ?_).mono ?_; rfl; rintro e w1 ⟨rfl, b1⟩; have c3' := cell_of_one (kp w.drew w1 rfl b1 h3); have c4' := cell_of_one (kp w.drew w1 rfl b1 h4); have f4' := free_of_one (kp w.drew w1 rfl b1 h4)))
    all_goals (try go_wp2)
    all_goals go_end0
    all_goals first
      | exact ⟨rfl, hNo _ b1 (by assumption)⟩
      | exact ⟨rfl, hYes _ b1 (by assumption)⟩
  · go_enter Try.func76, Try.ntmps76
    go_wp2
    go_region
    all_goals (try go_wp2)
    go_end0
    refine ⟨rfl, ?_, Upd.of ((Below.refl _ _).drew)⟩
    rw [mostStep, if_neg (fun hc => hlt hc.1)]
    exact (show MostBox B0 bb bm bl bn m l minutes _ w a from ⟨h1, h2, h3, ⟨_, h4, h5⟩, h6, h7, h8⟩).below ((Below.refl _ _).drew)
end Go.Proofs.Ytjmjepdlclehoaa.Ai
