/- The contract of impl.ShareOfMachines. -/
import Derived.Test.YtjmjepdlclehoaaShare3
namespace Go.Proofs.Ytjmjepdlclehoaa.Ai
open Go Go.Proofs Go.RowKit
set_option linter.unusedSimpArgs false
set_option linter.unusedVariables false

theorem share_go {B0 bb bs bm bn bl bx : Nat} {m n : CMach} {l : List Casting} {vl : Value} (hm : okM m = true) (hn : okM n = true) (hl : okCs l = true) (B : Nat) (hB : B0 ≤ B) (hbb : bb < B) (hbs : bs < B) :
    ∀ (k : Nat) (s : List Int) (w : World) (a : List Int × Int) (ga ca : Nat), s.length + k = l.length → (∀ x ∈ s, x = 0 ∨ x = 1) → B ≤ w.heap.size → Found B0 bb bs w a → ShareEnv B0 bm bn bl bx m n l vl (shareFn bl bx bm bn bs bb) w → OwnI w B (.slice (some ⟨ga, 0, none⟩) s.length ca) s →
      Calls Try.prog 67 #[.slice (some ⟨ga, 0, none⟩) s.length ca, .pointer (some ⟨bl, 0, none⟩), .pointer (some ⟨bx, 0, none⟩), .pointer (some ⟨bm, 0, none⟩), .pointer (some ⟨bn, 0, none⟩), .pointer (some ⟨bs, 0, none⟩), .pointer (some ⟨bb, 0, none⟩)] w
        fun e w' => e = .returned (.tuple #[]) ∧ (Found B0 bb bs w' ((sharesFrom k s).foldl (shareStep m n l) a) ∧ ShareEnv B0 bm bn bl bx m n l vl (shareFn bl bx bm bn bs bb) w') ∧ Upd (fun k => k = bb ∨ k = bs) w w'
  | 0, s, w, a, ga, ca, hk, hx, hw, hf, he, hv => by
    have hs : s.length = l.length := by omega
    have e : sharesFrom 0 s = [s] := by simp [sharesFrom, sharesL]
    rw [e]
    rw [hs] at hv ⊢
    exact share_leaf hm hn hl w a s ⟨ga, 0, none⟩ ca hf he B hB hbb hbs hv hs hx
  | k + 1, s, w, a, ga, ca, hk, hx, hw, hf, he, hv => by
    rw [sharesFrom_succ, List.foldl_append]
    refine share_step hl B hB hbb hbs w a ((sharesFrom k (s ++ [0])).foldl (shareStep m n l) a) ((sharesFrom k (s ++ [1])).foldl (shareStep m n l) ((sharesFrom k (s ++ [0])).foldl (shareStep m n l) a)) s ga ca hf he hw hv (by omega) (fun g c W hW hf he hv => ?_) (fun g c W hW hf he hv => ?_)
    · have e : s.length + 1 = (s ++ [0]).length := by simp
      rw [e] at hv ⊢
      exact share_go hm hn hl B hB hbb hbs k (s ++ [0]) W a g c (by simp; omega) (fun x h => by rcases List.mem_append.1 h with h | h; exact hx x h; exact .inl (by simpa using h)) hW hf he hv
    · have e : s.length + 1 = (s ++ [1]).length := by simp
      rw [e] at hv ⊢
      exact share_go hm hn hl B hB hbb hbs k (s ++ [1]) W _ g c (by simp; omega) (fun x h => by rcases List.mem_append.1 h with h | h; exact hx x h; exact .inr (by simpa using h)) hW hf he hv

def shareAns (m n : CMach) (l : List Casting) : List Int × Int × Bool := if okM m && (okM n && okCs l) then ((shareF m n l).1, (shareF m n l).2, true) else ([], 0, false)

/-- What stands ready: the boxes of what is found, a box that holds the closure. -/
theorem share_ready {B0 : Nat} {w : World} (hb0 : B0 ≤ w.heap.size) {m n : CMach} {l : List Casting} {vl : Value} {bm bn bl : Nat}
    (h1 : w.heap[bm]? = some (.cells #[.int .i64 m.1, .int .i64 m.2.1, .int .i64 m.2.2] 25 (0, 0))) (h2 : w.heap[bn]? = some (.cells #[.int .i64 n.1, .int .i64 n.2.1, .int .i64 n.2.2] 25 (0, 0)))
    (h3 : w.heap[bl]? = some (.cells #[vl] 26 (0, 0))) (hv : RepI w (fun k => k < B0) (.isl 2 (rows cCasting l)) vl) (F : Value) :
    ((((w.alloc (.cells #[] 3)).alloc (.cells #[.slice (some ⟨w.heap.size, 0, none⟩) 0 0] 29)).alloc (.cells #[.int .i64 (-1)] 3)).alloc (.cells #[.nilFunc] 85)).cell? ⟨w.heap.size + 1 + 1 + 1, 0, none⟩ = some .nilFunc ∧ ((((w.alloc (.cells #[] 3)).alloc (.cells #[.slice (some ⟨w.heap.size, 0, none⟩) 0 0] 29)).alloc (.cells #[.int .i64 (-1)] 3)).alloc (.cells #[.nilFunc] 85)).frozen? ⟨w.heap.size + 1 + 1 + 1, 0, none⟩ = false ∧
    ((((w.alloc (.cells #[] 3)).alloc (.cells #[.slice (some ⟨w.heap.size, 0, none⟩) 0 0] 29)).alloc (.cells #[.int .i64 (-1)] 3)).alloc (.cells #[F] 85)).cell? ⟨w.heap.size + 1 + 1 + 1, 0, none⟩ = some F ∧
    Found B0 (w.heap.size + 1) (w.heap.size + 1 + 1) (((((w.alloc (.cells #[] 3)).alloc (.cells #[.slice (some ⟨w.heap.size, 0, none⟩) 0 0] 29)).alloc (.cells #[.int .i64 (-1)] 3)).alloc (.cells #[F] 85)).alloc (.cells #[] 3)) ([], -1) ∧
    ShareEnv B0 bm bn bl (w.heap.size + 1 + 1 + 1) m n l vl F (((((w.alloc (.cells #[] 3)).alloc (.cells #[.slice (some ⟨w.heap.size, 0, none⟩) 0 0] 29)).alloc (.cells #[.int .i64 (-1)] 3)).alloc (.cells #[F] 85)).alloc (.cells #[] 3)) ∧
    Below w.heap.size w (((((w.alloc (.cells #[] 3)).alloc (.cells #[.slice (some ⟨w.heap.size, 0, none⟩) 0 0] 29)).alloc (.cells #[.int .i64 (-1)] 3)).alloc (.cells #[F] 85)).alloc (.cells #[] 3)) ∧ (((((w.alloc (.cells #[] 3)).alloc (.cells #[.slice (some ⟨w.heap.size, 0, none⟩) 0 0] 29)).alloc (.cells #[.int .i64 (-1)] 3)).alloc (.cells #[F] 85)).alloc (.cells #[] 3)).heap.size = w.heap.size + 5 ∧
    OwnI (((((w.alloc (.cells #[] 3)).alloc (.cells #[.slice (some ⟨w.heap.size, 0, none⟩) 0 0] 29)).alloc (.cells #[.int .i64 (-1)] 3)).alloc (.cells #[F] 85)).alloc (.cells #[] 3)) (w.heap.size + 4) (.slice (some ⟨w.heap.size + 1 + 1 + 1 + 1, 0, none⟩) 0 0) [] := by
  obtain ⟨f1, f2, f3⟩ := found_ready hb0
  generalize ((w.alloc (.cells #[] 3)).alloc (.cells #[.slice (some ⟨w.heap.size, 0, none⟩) 0 0] 29)).alloc (.cells #[.int .i64 (-1)] 3) = X at f1 f2 f3 ⊢
  have q0 := alloc_below X (.cells #[.nilFunc] 85)
  have s0 : (X.alloc (.cells #[.nilFunc] 85)).heap.size = w.heap.size + 4 := by rw [World.size_alloc, f3]
  have x0 : (X.alloc (.cells #[.nilFunc] 85)).heap[w.heap.size + 1 + 1 + 1]? = some (.cells #[.nilFunc] 85 (0, 0)) := by
    rw [show w.heap.size + 1 + 1 + 1 = X.heap.size by omega]; exact heap_alloc_new X _
  have q1 := alloc_below X (.cells #[F] 85)
  have s1 : (X.alloc (.cells #[F] 85)).heap.size = w.heap.size + 4 := by rw [World.size_alloc, f3]
  have x1 : (X.alloc (.cells #[F] 85)).heap[w.heap.size + 1 + 1 + 1]? = some (.cells #[F] 85 (0, 0)) := by
    rw [show w.heap.size + 1 + 1 + 1 = X.heap.size by omega]; exact heap_alloc_new X _
  have d1 := f1.below q1
  have b1 := f2.trans (q1.mono f2.size)
  refine ⟨cell_of_one x0, free_of_one x0, cell_of_one x1, ?_⟩
  generalize X.alloc (.cells #[F] 85) = Y at q1 s1 x1 d1 b1 ⊢
  have q2 := alloc_below Y (.cells #[] 3)
  have b2 : Below w.heap.size w (Y.alloc (.cells #[] 3)) := b1.trans (q2.mono b1.size)
  have r := own_new Y (B := w.heap.size + 4) (by omega)
  rw [s1] at r
  have kp : ∀ {k : Nat} {o : Obj}, w.heap[k]? = some o → (Y.alloc (.cells #[] 3)).heap[k]? = some o := fun {k o} ho => by rw [b2.block k (Array.getElem?_eq_some_iff.1 ho).1]; exact ho
  refine ⟨d1.below q2, ⟨kp h1, kp h2, kp h3, ?_, hv.mono fun g hg => ⟨hg, b2.block g (by omega)⟩, by rw [World.size_alloc]; omega⟩, b2, by rw [World.size_alloc, s1], r⟩
  rw [q2.block _ (by omega)]; exact x1

set_option maxHeartbeats 4000000 in
set_option maxRecDepth 1000000 in
theorem share_walk (m n : CMach) (l : List Casting) (hw1 : IntKind.i64.wrap m.1 = m.1) (hw2 : IntKind.i64.wrap m.2.1 = m.2.1) (hw3 : IntKind.i64.wrap m.2.2 = m.2.2) (hu1 : IntKind.i64.wrap n.1 = n.1) (hu2 : IntKind.i64.wrap n.2.1 = n.2.1) (hu3 : IntKind.i64.wrap n.2.2 = n.2.2) (vl : Value) (w : World) (I : Nat → Prop) (hI : InR w I) (hv : RepI w I (.isl 2 (rows cCasting l)) vl) :
    Calls Try.prog 9 #[.agg #[.int .i64 m.1, .int .i64 m.2.1, .int .i64 m.2.2], .agg #[.int .i64 n.1, .int .i64 n.2.1, .int .i64 n.2.2], vl] w fun e w' => ∃ v, e = .returned (.tuple #[v, .int .i64 (shareAns m n l).2.1, .bool (shareAns m n l).2.2]) ∧ Below w.heap.size w w' ∧ OwnI w' w.heap.size v (shareAns m n l).1 := by
  obtain ⟨vA, vc, rfl⟩ := isl_shape hv
  rw [rows_eq, List.length_map] at hv ⊢
  have hmf : ∀ (fn : Fn) (first cap : Array Value) (w : World), (Instr.makeFunc fn first cap).run Try.prog w = .ok (.func fn first cap) w := fun _ _ _ _ => rfl
  have hsf := fun (a : Addr) (c : Array Value) (w : World) => run_store Try.prog w a (.func (.func 67) #[] c) .plain rfl
  let W1 : World := w.alloc (.cells #[.int .i64 m.1, .int .i64 m.2.1, .int .i64 m.2.2] 25)
  let W2 : World := W1.alloc (.cells #[.int .i64 n.1, .int .i64 n.2.1, .int .i64 n.2.2] 25)
  let W3 : World := W2.alloc (.cells #[.slice vA l.length vc] 26)
  have s1 : W1.heap.size = w.heap.size + 1 := by simp [W1]
  have s2 : W2.heap.size = w.heap.size + 2 := by simp [W2, s1]
  have hsz : W3.heap.size = w.heap.size + 3 := by simp [W3, s2]
  have q1 : Below w.heap.size w W1 := (Below.refl _ _).alloc (Nat.le_refl _) _
  have q2 : Below W1.heap.size W1 W2 := (Below.refl _ _).alloc (Nat.le_refl _) _
  have q3 : Below W2.heap.size W2 W3 := (Below.refl _ _).alloc (Nat.le_refl _) _
  have b3 : Below w.heap.size w W3 := (q1.trans (q2.mono q1.size)).trans (q3.mono (by omega))
  have e1 : W3.heap[w.heap.size]? = some (.cells #[.int .i64 m.1, .int .i64 m.2.1, .int .i64 m.2.2] 25 (0, 0)) := by
    rw [q3.block _ (by omega), q2.block _ (by omega)]; exact heap_alloc_new w _
  have e2 : W3.heap[w.heap.size + 1]? = some (.cells #[.int .i64 n.1, .int .i64 n.2.1, .int .i64 n.2.2] 25 (0, 0)) := by
    rw [q3.block _ (by omega), ← s1]; exact heap_alloc_new W1 _
  have e3 : W3.heap[w.heap.size + 1 + 1]? = some (.cells #[.slice vA l.length vc] 26 (0, 0)) := by
    rw [show w.heap.size + 1 + 1 = W2.heap.size by omega]; exact heap_alloc_new W2 _
  have hA : ∀ W : World, Calls Try.prog 27 #[.agg #[.int .i64 m.1, .int .i64 m.2.1, .int .i64 m.2.2]] W fun e w' => e = .returned (.bool (okM m)) ∧ Below W.heap.size W w' := fun W =>
    calls_bool (IsMachine_ok m) (inr_all W) (vs := [.agg #[.int .i64 m.1, .int .i64 m.2.1, .int .i64 m.2.2]]) (All2.cons (.agg (cMachine m) [.int .i64 m.1, .int .i64 m.2.1, .int .i64 m.2.2] (.cons (.int _ _ hw1) (.cons (.int _ _ hw2) (.cons (.int _ _ hw3) .nil)))) .nil)
  have hA2 : ∀ W : World, Calls Try.prog 27 #[.agg #[.int .i64 n.1, .int .i64 n.2.1, .int .i64 n.2.2]] W fun e w' => e = .returned (.bool (okM n)) ∧ Below W.heap.size W w' := fun W =>
    calls_bool (IsMachine_ok n) (inr_all W) (vs := [.agg #[.int .i64 n.1, .int .i64 n.2.1, .int .i64 n.2.2]]) (All2.cons (.agg (cMachine n) [.int .i64 n.1, .int .i64 n.2.1, .int .i64 n.2.2] (.cons (.int _ _ hu1) (.cons (.int _ _ hu2) (.cons (.int _ _ hu3) .nil)))) .nil)
  have hC : ∀ W : World, Below w.heap.size w W → Calls Try.prog 28 #[.slice vA l.length vc] W fun e w' => e = .returned (.bool (okCs l)) ∧ Below W.heap.size W w' := fun W hW =>
    calls_bool (AreCastings_ok l) (inr_all W) (vs := [.slice vA l.length vc]) (All2.cons (.one (by rw [rows_eq]; exact hv.mono fun g hg => ⟨Nat.lt_of_lt_of_le (hI.1 g hg) hW.size, hW.block g (hI.1 g hg)⟩)) .nil)
  have hv' : RepI w (fun k => k < w.heap.size) (.isl 2 (rows cCasting l)) (.slice vA l.length vc) := by rw [rows_eq]; exact hv.mono fun g hg => ⟨hI.1 g hg, rfl⟩
  have K : ∀ W : World, Below W3.heap.size W3 W → W.heap[w.heap.size]? = some (.cells #[.int .i64 m.1, .int .i64 m.2.1, .int .i64 m.2.2] 25 (0, 0)) ∧ W.heap[w.heap.size + 1]? = some (.cells #[.int .i64 n.1, .int .i64 n.2.1, .int .i64 n.2.2] 25 (0, 0)) ∧ W.heap[w.heap.size + 1 + 1]? = some (.cells #[.slice vA l.length vc] 26 (0, 0)) ∧
      W.cell? ⟨w.heap.size + 1, 0, none⟩ = some (.int .i64 n.1) ∧ W.cell? ⟨w.heap.size + 1, 1, none⟩ = some (.int .i64 n.2.1) ∧ W.cell? ⟨w.heap.size + 1, 2, none⟩ = some (.int .i64 n.2.2) ∧ W.cell? ⟨w.heap.size + 1 + 1, 0, none⟩ = some (.slice vA l.length vc) := by
    intro W hW
    have a1 := (hW.block w.heap.size (by omega)).trans e1
    have a2 := (hW.block (w.heap.size + 1) (by omega)).trans e2
    have a3 := (hW.block (w.heap.size + 1 + 1) (by omega)).trans e3
    refine ⟨a1, a2, a3, ?_, ?_, ?_, cell_of_one a3⟩ <;> simp [World.cell?, a2]
  cases hM : okM m
  · rw [hM] at hA
    have ha : shareAns m n l = ([], 0, false) := by rw [shareAns, hM]; rfl
    go_enter Try.func9, Try.ntmps9
    go_wp2_with (go_at_call 27; refine (hA _).mono ?_; rintro e w4 ⟨rfl, b4⟩)
    go_ret3
    rw [ha]
    have c4 := b3.trans (b4.mono b3.size)
    exact ⟨_, rfl, c4.alloc c4.size _, own_new _ c4.size⟩
  · rw [hM] at hA
    cases hO : okM n
    · rw [hO] at hA2
      have ha : shareAns m n l = ([], 0, false) := by rw [shareAns, hM, hO]; rfl
      go_enter Try.func9, Try.ntmps9
      go_wp2_with (go_at_call 27; first | (have hc4 := c4; go_must (refine (hA2 _).mono ?_; rintro e w5 ⟨rfl, b5⟩; have c5 := c4.trans (b5.mono c4.size))) | (go_must (refine (hA _).mono ?_; rintro e w4 ⟨rfl, b4⟩; obtain ⟨k1, k2, k3, k4, k5, k6, k7⟩ := K w4 b4; have c4 := b3.trans (b4.mono b3.size))))
      go_ret3
      rw [ha]
      exact ⟨_, rfl, c5.alloc c5.size _, own_new _ c5.size⟩
    · rw [hO] at hA2
      cases hP : okCs l
      · rw [hP] at hC
        have ha : shareAns m n l = ([], 0, false) := by rw [shareAns, hM, hO, hP]; rfl
        go_enter Try.func9, Try.ntmps9
        go_wp2_with (first
          | (go_at_call 28; go_must (refine (hC _ c5).mono ?_; rintro e w6 ⟨rfl, b6⟩; have c6 := c5.trans (b6.mono c5.size)))
          | (go_at_call 27; first | (have hc4 := c4; go_must (refine (hA2 _).mono ?_; rintro e w5 ⟨rfl, b5⟩; have c5 := c4.trans (b5.mono c4.size); have d5 := b4.trans (b5.mono b4.size); obtain ⟨j1, j2, j3, j4, j5, j6, j7⟩ := K w5 d5)) | (go_must (refine (hA _).mono ?_; rintro e w4 ⟨rfl, b4⟩; obtain ⟨k1, k2, k3, k4, k5, k6, k7⟩ := K w4 b4; have c4 := b3.trans (b4.mono b3.size)))))
        go_ret3
        rw [ha]
        exact ⟨_, rfl, c6.alloc c6.size _, own_new _ c6.size⟩
      · rw [hP] at hC
        have ha : shareAns m n l = ((shareF m n l).1, (shareF m n l).2, true) := by rw [shareAns, hM, hO, hP]; rfl
        go_enter Try.func9, Try.ntmps9
        go_wp2_with (first
          | (go_at_call 28; go_must (refine (hC _ c5).mono ?_; rintro e w6 ⟨rfl, b6⟩; have c6 := c5.trans (b6.mono c5.size); have d6 := d5.trans (b6.mono d5.size); obtain ⟨i1, i2, i3, -⟩ := K w6 d6; obtain ⟨r1, r2, r3, r4, r5, r6, r7, r8⟩ := share_ready c6.size i1 i2 i3 (hv'.mono fun g hg => ⟨hg, c6.block g hg⟩) (.func (.func 67) #[] #[.pointer (some ⟨w.heap.size + 1 + 1, 0, none⟩), .pointer (some ⟨w6.heap.size + 1 + 1 + 1, 0, none⟩), .pointer (some ⟨w.heap.size, 0, none⟩), .pointer (some ⟨w.heap.size + 1, 0, none⟩), .pointer (some ⟨w6.heap.size + 1 + 1, 0, none⟩), .pointer (some ⟨w6.heap.size + 1, 0, none⟩)])))
          | (go_at_call 67; go_must (refine (share_go hM hO hP (w6.heap.size + 4) (by have := c6.size; omega) (by omega) (by omega) l.length [] _ ([], -1) _ _ (by simp) (fun x h => by cases h) (by omega) r4 r5 r8).mono ?_; rintro e w9 ⟨rfl, ⟨f9, -⟩, u9⟩; obtain ⟨vb, h9, o9, -⟩ := f9.best; have n9 := cell_of_one h9; have m9 := cell_of_one f9.least))
          | (go_at_call 27; first | (have hc4 := c4; go_must (refine (hA2 _).mono ?_; rintro e w5 ⟨rfl, b5⟩; have c5 := c4.trans (b5.mono c4.size); have d5 := b4.trans (b5.mono b4.size); obtain ⟨j1, j2, j3, j4, j5, j6, j7⟩ := K w5 d5)) | (go_must (refine (hA _).mono ?_; rintro e w4 ⟨rfl, b4⟩; obtain ⟨k1, k2, k3, k4, k5, k6, k7⟩ := K w4 b4; have c4 := b3.trans (b4.mono b3.size)))))
        go_region
        all_goals (try go_wp2)
        go_ret3
        have eF : (sharesFrom l.length []).foldl (shareStep m n l) ([], -1) = shareF m n l := by rw [shareF, sharesFrom]; congr 1; exact (List.map_congr_left (g := id) fun x _ => by simp).trans (List.map_id _)
        rw [eF] at o9
        rw [ha, eF]
        refine ⟨vb, rfl, ((c6.trans (r6.mono c6.size)).trans (u9.below (B := w.heap.size) (by have := c6.size; omega) fun k hk => by have := c6.size; omega)).drew, o9.below (Below.refl _ _).drew⟩
theorem shareAns_wrap (m n : CMach) (l : List Casting) : (∀ x ∈ (shareAns m n l).1, IntKind.i64.wrap x = x) ∧ IntKind.i64.wrap (shareAns m n l).2.1 = (shareAns m n l).2.1 := by
  unfold shareAns
  split
  · rename_i h
    simp only [Bool.and_eq_true] at h
    obtain ⟨h1, h2, h3, h4⟩ := shareF_spec h.1 h.2.1 (okAll_of h.2.2)
    obtain ⟨h5, h6⟩ := shares_len _ _ h1
    refine ⟨fun x hx => by rcases h6 x hx with rfl | rfl <;> decide, ?_⟩
    show IntKind.i64.wrap (shareF m n l).2 = (shareF m n l).2
    have hask : askB m l (upto l.length) = true := by rw [askB, h.1, h.2.2, fineB_diff.2 (upto_diff _).1]; rfl
    have h7 : timeF m l (upto l.length) ≤ 56000000 := by
      rw [timeF, lastG_last]
      cases e : (endsG m l m.1 0 (upto l.length)).getLast? with
      | none => simp
      | some x => exact ((ends_fits hask).2.1 x (List.mem_of_getLast? e)).2
    have h8 := costS_pos (m := m) (n := n) h.1 (okAll_of h.2.2) (shareF m n l).1
    rw [← h2] at h8
    exact wrap64 (by omega) (by omega)
  · exact ⟨(fun x hx => by cases hx), rfl⟩
theorem ShareOfMachines_ok (m n : CMach) (l : List Casting) : OkA Try.prog 9 [.agg (cMachine m), .agg (cMachine n), .isl 2 (rows cCasting l)] (· = lic 3 1 cInt (shareAns m n l)) := by
  refine ⟨⟨_, Try.func9, rfl, rfl⟩, fun w I vs hI hargs => ?_⟩
  obtain ⟨us, rfl, h2, a1, a2, a3⟩ := mach_args hargs
  obtain ⟨us, rfl, h3, a4, a5, a6⟩ := mach_args h2
  obtain ⟨vl, us, rfl, h4, hv⟩ := one_args (fun cs e => by cases e) h3
  obtain rfl := nil_args h4
  refine (share_walk m n l a1 a2 a3 a4 a5 a6 vl w I hI hv).mono ?_
  rintro e w' ⟨v, rfl, hb, ho⟩
  obtain ⟨h1, h2⟩ := shareAns_wrap m n l
  exact ⟨_, lic 3 1 cInt (shareAns m n l), _, rfl, rfl, hb, lic_rep ho h1 h2⟩
end Go.Proofs.Ytjmjepdlclehoaa.Ai
