/- The contracts of impl.MostCastings and impl.BestCastOrder. -/
import Derived.Test.YtjmjepdlclehoaaBest
namespace Go.Proofs.Ytjmjepdlclehoaa.Ai
open Go Go.Proofs Go.RowKit
set_option linter.unusedSimpArgs false
set_option linter.unusedVariables false

theorem best_each {B0 bb bs bm bl : Nat} {m : CMach} {l : List Casting} {vl : Value} (hm : okM m = true) (hl : okCs l = true) (w : World) (v : Value) (hf : Found B0 bb bs w ([], -1)) (he : CastEnv B0 bm bl m l vl w) (B : Nat) (hB : B0 ≤ B) (hbb : bb < B) (hbs : bs < B) (hw : B ≤ w.heap.size) (hv : OwnI w B v []) :
    Calls Try.prog 75 #[.int .i64 (l.length : Int), v, .func (.func 79) #[] #[.pointer (some ⟨bl, 0, none⟩), .pointer (some ⟨bm, 0, none⟩), .pointer (some ⟨bs, 0, none⟩), .pointer (some ⟨bb, 0, none⟩)]] w
      fun e w' => e = .returned (.tuple #[]) ∧ (Found B0 bb bs w' (bestO m l) ∧ CastEnv B0 bm bl m l vl w') ∧ Upd (fun k => k = bb ∨ k = bs) w w' :=
  each_walk l.length (by have := okCs_len hl; omega) _ (enters_eq Try.func79 rfl rfl) _ B (fun k => k = bb ∨ k = bs) (fun w a => Found B0 bb bs w a ∧ CastEnv B0 bm bl m l vl w) (bestStep m l) (fun k hk => by omega) (fun w w' a h hb => ⟨h.1.below hb, h.2.below hb⟩)
    (fun w a o v hi hB2 hv hd => best_clo hm hl w a o v hi.1 hi.2 B hB hbb hbs hv hd) l.length [] ([], -1) w v (by simp) (diff_nil _) ⟨hf, he⟩ hw hv
/-- Two boxes for what is found, as they are made: a list without elements, a box that holds it, a box that holds -1. -/
theorem found_ready {B0 : Nat} {w : World} (hb0 : B0 ≤ w.heap.size) :
    Found B0 (w.heap.size + 1) (w.heap.size + 1 + 1) (((w.alloc (.cells #[] 3)).alloc (.cells #[.slice (some ⟨w.heap.size, 0, none⟩) 0 0] 29)).alloc (.cells #[.int .i64 (-1)] 3)) ([], -1) ∧
    Below w.heap.size w (((w.alloc (.cells #[] 3)).alloc (.cells #[.slice (some ⟨w.heap.size, 0, none⟩) 0 0] 29)).alloc (.cells #[.int .i64 (-1)] 3)) ∧
    (((w.alloc (.cells #[] 3)).alloc (.cells #[.slice (some ⟨w.heap.size, 0, none⟩) 0 0] 29)).alloc (.cells #[.int .i64 (-1)] 3)).heap.size = w.heap.size + 3 := by
  generalize hW1 : w.alloc (.cells #[] 3) = W1
  have s1 : W1.heap.size = w.heap.size + 1 := by rw [← hW1]; simp
  have q1 : Below w.heap.size w W1 := by rw [← hW1]; exact (Below.refl _ _).alloc (Nat.le_refl _) _
  have r1 : OwnI W1 B0 (.slice (some ⟨w.heap.size, 0, none⟩) 0 0) [] := by rw [← hW1]; exact World.ownsRow_made w #[] 0 hb0 (Nat.zero_le _) rfl
  generalize hW2 : W1.alloc (.cells #[.slice (some ⟨w.heap.size, 0, none⟩) 0 0] 29) = W2
  have s2 : W2.heap.size = w.heap.size + 2 := by rw [← hW2]; simp [s1]
  have q2 : Below W1.heap.size W1 W2 := by rw [← hW2]; exact (Below.refl _ _).alloc (Nat.le_refl _) _
  have e2 : W2.heap[w.heap.size + 1]? = some (.cells #[.slice (some ⟨w.heap.size, 0, none⟩) 0 0] 29 (0, 0)) := by rw [← hW2, ← s1]; exact heap_alloc_new W1 _
  generalize hW3 : W2.alloc (.cells #[.int .i64 (-1)] 3) = W3
  have s3 : W3.heap.size = w.heap.size + 3 := by rw [← hW3]; simp [s2]
  have q3 : Below W2.heap.size W2 W3 := by rw [← hW3]; exact (Below.refl _ _).alloc (Nat.le_refl _) _
  have e3 : W3.heap[w.heap.size + 1 + 1]? = some (.cells #[.int .i64 (-1)] 3 (0, 0)) := by rw [← hW3, show w.heap.size + 1 + 1 = W2.heap.size by omega]; exact heap_alloc_new W2 _
  refine ⟨⟨e3, ⟨_, by rw [q3.block _ (by omega)]; exact e2, (r1.below q2).below q3, ?_⟩, by omega, by omega⟩, (q1.trans (q2.mono q1.size)).trans (q3.mono (by omega)), s3⟩
  simp [Value.ownBlock]; omega
/-- A list without elements, new. -/
theorem own_new (w : World) {B : Nat} (hB : B ≤ w.heap.size) : OwnI (w.alloc (.cells #[] 3)) B (.slice (some ⟨w.heap.size, 0, none⟩) 0 0) [] := World.ownsRow_made w #[] 0 hB (Nat.zero_le _) rfl
theorem alloc_below (w : World) (o : Obj) : Below w.heap.size w (w.alloc o) := (Below.refl _ _).alloc (Nat.le_refl _) _
theorem found_ready2 {B0 : Nat} {w : World} (hb0 : B0 ≤ w.heap.size) :
    Found B0 (w.heap.size + 1) (w.heap.size + 1 + 1) ((((w.alloc (.cells #[] 3)).alloc (.cells #[.slice (some ⟨w.heap.size, 0, none⟩) 0 0] 29)).alloc (.cells #[.int .i64 (-1)] 3)).alloc (.cells #[] 3)) ([], -1) ∧
    Below w.heap.size w ((((w.alloc (.cells #[] 3)).alloc (.cells #[.slice (some ⟨w.heap.size, 0, none⟩) 0 0] 29)).alloc (.cells #[.int .i64 (-1)] 3)).alloc (.cells #[] 3)) ∧
    ((((w.alloc (.cells #[] 3)).alloc (.cells #[.slice (some ⟨w.heap.size, 0, none⟩) 0 0] 29)).alloc (.cells #[.int .i64 (-1)] 3)).alloc (.cells #[] 3)).heap.size = w.heap.size + 4 ∧
    OwnI ((((w.alloc (.cells #[] 3)).alloc (.cells #[.slice (some ⟨w.heap.size, 0, none⟩) 0 0] 29)).alloc (.cells #[.int .i64 (-1)] 3)).alloc (.cells #[] 3)) (w.heap.size + 3) (.slice (some ⟨w.heap.size + 1 + 1 + 1, 0, none⟩) 0 0) [] := by
  obtain ⟨h1, h2, h3⟩ := found_ready hb0
  generalize ((w.alloc (.cells #[] 3)).alloc (.cells #[.slice (some ⟨w.heap.size, 0, none⟩) 0 0] 29)).alloc (.cells #[.int .i64 (-1)] 3) = X at h1 h2 h3 ⊢
  refine ⟨h1.below (alloc_below _ _), h2.trans ((alloc_below _ _).mono h2.size), by rw [World.size_alloc, h3], ?_⟩
  have := own_new X (B := w.heap.size + 3) (by omega)
  rw [h3] at this
  exact this
def bestAns (m : CMach) (l : List Casting) : List Int × Int × Bool := if okM m && okCs l then ((bestO m l).1, (bestO m l).2, true) else ([], 0, false)

set_option maxHeartbeats 4000000 in
set_option maxRecDepth 1000000 in
theorem best_walk (m : CMach) (l : List Casting) (hw1 : IntKind.i64.wrap m.1 = m.1) (hw2 : IntKind.i64.wrap m.2.1 = m.2.1) (hw3 : IntKind.i64.wrap m.2.2 = m.2.2) (vl : Value) (w : World) (I : Nat → Prop) (hI : InR w I) (hv : RepI w I (.isl 2 (rows cCasting l)) vl) :
    Calls Try.prog 16 #[.agg #[.int .i64 m.1, .int .i64 m.2.1, .int .i64 m.2.2], vl] w fun e w' => ∃ v, e = .returned (.tuple #[v, .int .i64 (bestAns m l).2.1, .bool (bestAns m l).2.2]) ∧ Below w.heap.size w w' ∧ OwnI w' w.heap.size v (bestAns m l).1 := by
  obtain ⟨vA, vc, rfl⟩ := isl_shape hv
  rw [rows_eq, List.length_map] at hv ⊢
  have hmf : ∀ (fn : Fn) (first cap : Array Value) (w : World), (Instr.makeFunc fn first cap).run Try.prog w = .ok (.func fn first cap) w := fun _ _ _ _ => rfl
  let W1 : World := w.alloc (.cells #[.int .i64 m.1, .int .i64 m.2.1, .int .i64 m.2.2] 25)
  let W2 : World := W1.alloc (.cells #[.slice vA l.length vc] 26)
  have s1 : W1.heap.size = w.heap.size + 1 := by simp [W1]
  have hsz : W2.heap.size = w.heap.size + 2 := by simp [W2, s1]
  have q1 : Below w.heap.size w W1 := (Below.refl _ _).alloc (Nat.le_refl _) _
  have q2 : Below W1.heap.size W1 W2 := (Below.refl _ _).alloc (Nat.le_refl _) _
  have b3 : Below w.heap.size w W2 := q1.trans (q2.mono q1.size)
  have e1 : W2.heap[w.heap.size]? = some (.cells #[.int .i64 m.1, .int .i64 m.2.1, .int .i64 m.2.2] 25 (0, 0)) := by
    rw [q2.block _ (by omega)]; exact heap_alloc_new w _
  have e2 : W2.heap[w.heap.size + 1]? = some (.cells #[.slice vA l.length vc] 26 (0, 0)) := by
    rw [← s1]; exact heap_alloc_new W1 _
  have hA : ∀ W : World, Calls Try.prog 27 #[.agg #[.int .i64 m.1, .int .i64 m.2.1, .int .i64 m.2.2]] W fun e w' => e = .returned (.bool (okM m)) ∧ Below W.heap.size W w' := fun W =>
    calls_bool (IsMachine_ok m) (inr_all W) (vs := [.agg #[.int .i64 m.1, .int .i64 m.2.1, .int .i64 m.2.2]]) (All2.cons (.agg (cMachine m) [.int .i64 m.1, .int .i64 m.2.1, .int .i64 m.2.2] (.cons (.int _ _ hw1) (.cons (.int _ _ hw2) (.cons (.int _ _ hw3) .nil)))) .nil)
  have hC : ∀ W : World, Below w.heap.size w W → Calls Try.prog 28 #[.slice vA l.length vc] W fun e w' => e = .returned (.bool (okCs l)) ∧ Below W.heap.size W w' := fun W hW =>
    calls_bool (AreCastings_ok l) (inr_all W) (vs := [.slice vA l.length vc]) (All2.cons (.one (by rw [rows_eq]; exact hv.mono fun g hg => ⟨Nat.lt_of_lt_of_le (hI.1 g hg) hW.size, hW.block g (hI.1 g hg)⟩)) .nil)
  have hv' : RepI w (fun k => k < w.heap.size) (.isl 2 (rows cCasting l)) (.slice vA l.length vc) := by rw [rows_eq]; exact hv.mono fun g hg => ⟨hI.1 g hg, rfl⟩
  have K : ∀ W : World, Below W2.heap.size W2 W → CastEnv w.heap.size w.heap.size (w.heap.size + 1) m l (.slice vA l.length vc) W ∧ W.cell? ⟨w.heap.size + 1, 0, none⟩ = some (.slice vA l.length vc) := by
    intro W hW
    have a1 := (hW.block w.heap.size (by omega)).trans e1
    have a2 := (hW.block (w.heap.size + 1) (by omega)).trans e2
    exact ⟨⟨a1, a2, hv'.mono fun g hg => ⟨hg, by rw [hW.block g (by omega)]; exact b3.block g hg⟩, by have := hW.size; omega⟩, cell_of_one a2⟩
  cases hM : okM m
  · rw [hM] at hA
    have ha : bestAns m l = ([], 0, false) := by rw [bestAns, hM]; rfl
    go_enter Try.func16, Try.ntmps16
    go_wp2_with (go_at_call 27; refine (hA _).mono ?_; rintro e w4 ⟨rfl, b4⟩)
    go_ret3
    rw [ha]
    have c4 := b3.trans (b4.mono b3.size)
    exact ⟨_, rfl, c4.alloc c4.size _, World.ownsRow_made _ _ _ c4.size (by decide) rfl⟩
  · rw [hM] at hA
    cases hO : okCs l
    · rw [hO] at hC
      have ha : bestAns m l = ([], 0, false) := by rw [bestAns, hM, hO]; rfl
      go_enter Try.func16, Try.ntmps16
      go_wp2_with (first | (go_at_call 27; go_must (refine (hA _).mono ?_; rintro e w4 ⟨rfl, b4⟩; obtain ⟨k1, k2⟩ := K w4 b4; have c4 := b3.trans (b4.mono b3.size))) | (go_at_call 28; go_must (refine (hC _ c4).mono ?_; rintro e w5 ⟨rfl, b5⟩; have c5 := c4.trans (b5.mono c4.size))))
      go_ret3
      rw [ha]
      exact ⟨_, rfl, c5.alloc c5.size _, World.ownsRow_made _ _ _ c5.size (by decide) rfl⟩
    · rw [hO] at hC
      have ha : bestAns m l = ((bestO m l).1, (bestO m l).2, true) := by rw [bestAns, hM, hO]; rfl
      go_enter Try.func16, Try.ntmps16
      go_wp2_with (first | (go_at_call 27; go_must (refine (hA _).mono ?_; rintro e w4 ⟨rfl, b4⟩; obtain ⟨k1, k2⟩ := K w4 b4; have c4 := b3.trans (b4.mono b3.size))) | (go_at_call 28; go_must (refine (hC _ c4).mono ?_; rintro e w5 ⟨rfl, b5⟩; have c5 := c4.trans (b5.mono c4.size); obtain ⟨k1, k2⟩ := K w5 (b4.trans (b5.mono b4.size)); obtain ⟨g1, g2, g3⟩ := found_ready (B0 := w.heap.size) c5.size; have k3 := k1.below g2; have k4 := cell_of_one k3.lb; obtain ⟨g4, g5, g6, g7⟩ := found_ready2 (B0 := w.heap.size) c5.size; have k5 := k1.below g5)) | (go_at_call 75; go_must (refine (best_each hM hO _ _ g4 k5 (w5.heap.size + 3) (by have := c5.size; omega) (by omega) (by omega) (by omega) g7).mono ?_; rintro e w9 ⟨rfl, ⟨i9, -⟩, u9⟩; obtain ⟨vb, h9, o9, -⟩ := i9.best; have n9 := cell_of_one h9; have m9 := cell_of_one i9.least)))
      go_region
      all_goals (try go_wp2)
      go_ret3
      rw [ha]
      refine ⟨vb, rfl, ((c5.trans (g5.mono c5.size)).trans (u9.below (B := w.heap.size) (by have := c5.size; omega) fun k hk => by have := c5.size; omega)).drew, o9.below (Below.refl _ _).drew⟩
theorem own_res {w : World} {B : Nat} {v : Value} {o : List Int} (h : OwnI w B v o) (hx : ∀ x ∈ o, IntKind.i64.wrap x = x) :
    (∀ I, Res1 w I B (.fr 3 1 (rows cInt o)) v (headOf v).toList) ∧ (headOf v).toList.Nodup ∧ ∀ g ∈ (headOf v).toList, B ≤ g ∧ g < w.heap.size := by
  refine ⟨fun I => .fr _ _ _ _ (o.map (.int .i64)) (by rw [rows_eq, List.length_map]; exact h) (by rw [rows_eq]; exact repIs_ints1 hx) (fun x hx => by rw [rows_eq] at hx; obtain ⟨y, -, rfl⟩ := List.mem_map.1 hx; rfl), ?_, ?_⟩
  · cases headOf v <;> simp
  · obtain ⟨-, ⟨rfl, hn⟩ | ⟨g, cap, cur, rfl, hb, hg, r⟩⟩ := h
    · intro g hg; cases hg
    · intro k hk
      obtain rfl : k = g := by simpa [headOf] using hk
      exact ⟨hb, (Array.getElem?_eq_some_iff.1 hg).1⟩
theorem lic_rep {w w' : World} {I : Nat → Prop} {v : Value} {o : List Int} {n : Int} {b : Bool} (h : OwnI w' w.heap.size v o) (hx : ∀ x ∈ o, IntKind.i64.wrap x = x) (hn : IntKind.i64.wrap n = n) :
    RepR I w.heap.size w' (lic 3 1 cInt (o, n, b)) (.tuple #[v, .int .i64 n, .bool b]) ((headOf v).toList ++ ([] ++ ([] ++ []))) := by
  obtain ⟨h1, h2, h3⟩ := own_res h hx
  refine ⟨by simpa using h2, fun g hg => h3 g (by simpa using hg), .tup (.cons (h1 _) (.cons (.imm (.int _ _ hn)) (.cons (.imm (.bool _)) .nil)))⟩
theorem lb_rep {w w' : World} {I : Nat → Prop} {v : Value} {o : List Int} {b : Bool} (h : OwnI w' w.heap.size v o) (hx : ∀ x ∈ o, IntKind.i64.wrap x = x) :
    RepR I w.heap.size w' (lb 3 1 cInt (o, b)) (.tuple #[v, .bool b]) ((headOf v).toList ++ ([] ++ [])) := by
  obtain ⟨h1, h2, h3⟩ := own_res h hx
  exact ⟨by simpa using h2, fun g hg => h3 g (by simpa using hg), .tup (.cons (h1 _) (.cons (.imm (.bool _)) .nil))⟩
theorem mach_args {w : World} {I : Nat → Prop} {m : CMach} {r : List PV} {vs : List Value} (h : All2 (RepArg w I) (.agg (cMachine m) :: r) vs) : ∃ us, vs = .agg #[.int .i64 m.1, .int .i64 m.2.1, .int .i64 m.2.2] :: us ∧ All2 (RepArg w I) r us ∧ IntKind.i64.wrap m.1 = m.1 ∧ IntKind.i64.wrap m.2.1 = m.2.1 ∧ IntKind.i64.wrap m.2.2 = m.2.2 := by
  cases h with
  | cons h t =>
    cases h with
    | one h => cases h
    | agg _ cs h =>
      cases h with
      | cons h1 h => cases h with
        | cons h2 h => cases h with
          | cons h3 h => cases h; cases h1 with
            | int _ _ a1 => cases h2 with
              | int _ _ a2 => cases h3 with
                | int _ _ a3 => exact ⟨_, rfl, t, a1, a2, a3⟩
theorem one_args {w : World} {I : Nat → Prop} {p : PV} {r : List PV} {vs : List Value} (hp : ∀ cs, p ≠ .agg cs) (h : All2 (RepArg w I) (p :: r) vs) : ∃ u us, vs = u :: us ∧ All2 (RepArg w I) r us ∧ RepI w I p u := by
  cases h with
  | cons h t =>
    cases h with
    | one h => exact ⟨_, _, rfl, t, h⟩
    | agg cs _ _ => exact absurd rfl (hp cs)
theorem nil_args {w : World} {I : Nat → Prop} {vs : List Value} (h : All2 (RepArg w I) [] vs) : vs = [] := by cases h; rfl
theorem diff_wrap {l : List Casting} (hl : okCs l = true) {o : List Int} (h : Diff l.length o) : ∀ x ∈ o, IntKind.i64.wrap x = x := fun x hx => by have := h.2 x hx; have := okCs_len hl; exact wrap64 (by omega) (by omega)
theorem mostAns_wrap (m : CMach) (l : List Casting) (minutes : Int) : ∀ x ∈ (mostAns m l minutes).1, IntKind.i64.wrap x = x := by
  unfold mostAns
  split
  · rename_i h
    simp only [Bool.and_eq_true] at h
    exact diff_wrap h.2.1 (mostF_spec (by have := inB_spec h.2.2; omega)).1
  · intro x hx; cases hx
theorem MostCastings_ok (m : CMach) (l : List Casting) (minutes : Int) : OkA Try.prog 14 [.agg (cMachine m), .isl 2 (rows cCasting l), .int .i64 minutes] (· = lb 3 1 cInt (mostAns m l minutes)) := by
  refine ⟨⟨_, Try.func14, rfl, rfl⟩, fun w I vs hI hargs => ?_⟩
  obtain ⟨us, rfl, h2, a1, a2, a3⟩ := mach_args hargs
  obtain ⟨vl, us, rfl, h3, hv⟩ := one_args (fun cs e => by cases e) h2
  obtain ⟨vn, us, rfl, h4, hn⟩ := one_args (fun cs e => by cases e) h3
  obtain rfl := nil_args h4
  cases hn with
  | int _ _ a4 =>
    refine (most_walk m l minutes a1 a2 a3 a4 vl w I hI hv).mono ?_
    rintro e w' ⟨v, rfl, hb, ho⟩
    exact ⟨_, lb 3 1 cInt (mostAns m l minutes), _, rfl, rfl, hb, lb_rep ho (mostAns_wrap m l minutes)⟩
theorem bestAns_wrap (m : CMach) (l : List Casting) : (∀ x ∈ (bestAns m l).1, IntKind.i64.wrap x = x) ∧ IntKind.i64.wrap (bestAns m l).2.1 = (bestAns m l).2.1 := by
  unfold bestAns
  split
  · rename_i h
    simp only [Bool.and_eq_true] at h
    obtain ⟨h1, h2, h3, -⟩ := bestO_spec h.1 (okAll_of h.2)
    refine ⟨diff_wrap h.2 h1, ?_⟩
    show IntKind.i64.wrap (bestO m l).2 = (bestO m l).2
    rw [h3]
    have hask : askB m l (bestO m l).1 = true := by rw [askB, h.1, h.2, fineB_diff.2 h1]; rfl
    have h5 : 0 ≤ timeF m l (bestO m l).1 ∧ timeF m l (bestO m l).1 ≤ 56000000 := by
      rw [timeF, lastG_last]
      cases e : (endsG m l m.1 0 (bestO m l).1).getLast? with
      | none => simp
      | some x => exact (ends_fits hask).2.1 x (List.mem_of_getLast? e)
    exact wrap64 (by omega) (by omega)
  · exact ⟨(fun x hx => by cases hx), rfl⟩
theorem BestCastOrder_ok (m : CMach) (l : List Casting) : OkA Try.prog 16 [.agg (cMachine m), .isl 2 (rows cCasting l)] (· = lic 3 1 cInt (bestAns m l)) := by
  refine ⟨⟨_, Try.func16, rfl, rfl⟩, fun w I vs hI hargs => ?_⟩
  obtain ⟨us, rfl, h2, a1, a2, a3⟩ := mach_args hargs
  obtain ⟨vl, us, rfl, h3, hv⟩ := one_args (fun cs e => by cases e) h2
  obtain rfl := nil_args h3
  refine (best_walk m l a1 a2 a3 vl w I hI hv).mono ?_
  rintro e w' ⟨v, rfl, hb, ho⟩
  obtain ⟨h1, h2⟩ := bestAns_wrap m l
  exact ⟨_, lic 3 1 cInt (bestAns m l), _, rfl, rfl, hb, lic_rep ho h1 h2⟩
end Go.Proofs.Ytjmjepdlclehoaa.Ai
