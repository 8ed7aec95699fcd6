/- impl.ShareOfMachines: its closure calls itself. -/
import Derived.Test.YtjmjepdlclehoaaShare2
namespace Go
theorem step_append_own {P : Program} {w : World} {ops : Array Oper} {o : Oper} {a : Act} {K : Act → World → Prop} {Q : Exit → Act → World → Prop} {E : Prop} (hgd : o.guard = none) (s x : Operand) (t : TypeId)
    (ho : o.op = .call { callee := .builtin .append, args := #[s, x], argTypes := #[t, t] })
    (base : Nat) (e : TypeId) (i : TypeInfo) (z : Value) (size bytes : Nat) (ht : P.underlying t = some (.slice e)) (hi : P.info? e = some i) (hz : i.zero = some z)
    (hsize : i.size = size) (hby : i.bytes = bytes) (hzs : z.cells.size = size) (hsz : 0 < size)
    (v : Value) (n : Nat) (xs : List Value) (hs : a.eval s = v) (hown : w.ownsRow base e size v n xs)
    (ad : Addr) (m c : Nat) (news : List Value) (hx : a.eval x = .slice (some ad) m c) (hl : news.length = m * size) (hnews : ∀ j u, news[j]? = some u → w.cell? (ad.add j) = some u) (h1 : ∀ u ∈ news, u.oneCell' = true)
    (h63 : n + m ≤ maxLen) (hbytes : (n + m) * bytes ≤ 140737488355328) (hbase : base ≤ w.heap.size)
    (h : ∀ v' w', w'.ownsRow base e size v' (n + m) (xs ++ news) → w.grownBy w' v.ownBlock → (v' = .slice none 0 0 ↔ v = .slice none 0 0 ∧ m = 0) → K (a.put o.dst v') w') :
    if Region.wanted o (yielded ops a.tmps) = true then Oper.wp P o a w K Q else E := by
  have hw : Region.wanted o (yielded ops a.tmps) = true := by simp [Region.wanted, hgd]
  rw [if_pos hw]
  exact wp_append_own w s x t ho base e i z size bytes ht hi hz hsize hby hzs hsz v n xs hs hown ad m c news hx hl hnews h1 h63 hbytes hbase h
end Go
namespace Go.Proofs.Ytjmjepdlclehoaa.Ai
open Go Go.Proofs Go.RowKit
set_option linter.unusedSimpArgs false
set_option linter.unusedVariables false

theorem own_some1 {w : World} {B : Nat} {v : Value} {s : List Int} {x : Int} (h : OwnI w B v (s ++ [x])) : ∃ g cap, v = .slice (some ⟨g, 0, none⟩) (s.length + 1) cap := by
  obtain ⟨g, cap, cur, rfl, -⟩ := own_some h (by simp)
  exact ⟨g, cap, by rw [List.length_append]; rfl⟩
/-- A list without elements and one of one element, made one behind the other. -/
theorem two_news (w : World) (n : Int) : (Below w.heap.size w (w.alloc (.cells #[] 3)).drew ∧ (w.alloc (.cells #[] 3)).drew.ownsRow w.heap.size 3 1 (.slice (some ⟨w.heap.size, 0, none⟩) 0 0) 0 []) ∧
    (Below w.heap.size w ((w.alloc (.cells #[] 3)).alloc (.cells #[.int .i64 n] 3)).drew ∧ ((w.alloc (.cells #[] 3)).alloc (.cells #[.int .i64 n] 3)).drew.ownsRow w.heap.size 3 1 (.slice (some ⟨w.heap.size, 0, none⟩) 0 0) 0 [] ∧
      ∀ j u, ([Value.int .i64 n] : List Value)[j]? = some u → ((w.alloc (.cells #[] 3)).alloc (.cells #[.int .i64 n] 3)).drew.cell? ((⟨w.heap.size + 1, 0, none⟩ : Addr).add j) = some u) ∧
    (Below w.heap.size w ((w.alloc (.cells #[.int .i64 n] 3)).alloc (.cells #[] 3)).drew ∧ ((w.alloc (.cells #[.int .i64 n] 3)).alloc (.cells #[] 3)).drew.ownsRow w.heap.size 3 1 (.slice (some ⟨w.heap.size + 1, 0, none⟩) 0 0) 0 [] ∧
      ∀ j u, ([Value.int .i64 n] : List Value)[j]? = some u → ((w.alloc (.cells #[.int .i64 n] 3)).alloc (.cells #[] 3)).drew.cell? ((⟨w.heap.size, 0, none⟩ : Addr).add j) = some u) ∧
    Below w.heap.size w (w.alloc (.cells #[.int .i64 n] 3)).drew := by
  have b1 := alloc_below w (.cells #[] 3)
  have b2 := alloc_below w (.cells #[.int .i64 n] 3)
  have s1 : (w.alloc (.cells #[] 3)).heap.size = w.heap.size + 1 := by simp
  have s2 : (w.alloc (.cells #[.int .i64 n] 3)).heap.size = w.heap.size + 1 := by simp
  refine ⟨⟨b1.drew, World.ownsRow_made w #[] 0 (Nat.le_refl _) (Nat.zero_le _) rfl⟩, ⟨(b1.alloc b1.size _).drew, ?_, ?_⟩, ⟨(b2.alloc b2.size _).drew, ?_, ?_⟩, b2.drew⟩
  · exact World.ownsRow.alloc (World.ownsRow_made w #[] 0 (Nat.le_refl _) (Nat.zero_le _) rfl) _
  · have h := new_cell (w.alloc (.cells #[] 3)) n
    rw [s1] at h; exact h
  · have h := World.ownsRow_made (base := w.heap.size) (e := 3) (size := 1) (w.alloc (.cells #[.int .i64 n] 3)) #[] 0 b2.size (Nat.zero_le _) rfl
    rw [s2] at h; exact h
  · intro j u hj
    have h := new_cell w n j u hj
    have e : j = 0 := by
      cases j with
      | zero => rfl
      | succ j => simp at hj
    subst e
    have hb : ((w.alloc (.cells #[.int .i64 n] 3)).alloc (.cells #[] 3)).heap[w.heap.size]? = (w.alloc (.cells #[.int .i64 n] 3)).heap[w.heap.size]? := (alloc_below _ _).block _ (by omega)
    have e2 : ((⟨w.heap.size, 0, none⟩ : Addr).add 0).block = w.heap.size := by unfold Addr.add; split <;> rfl
    exact (World.cell?_of_block (w' := ((w.alloc (.cells #[.int .i64 n] 3)).alloc (.cells #[] 3)).drew) (by rw [e2]; exact hb)).trans h
/-- What is to be appended stays while another row grows. -/
theorem news_kept {w w' : World} {n : Int} {b : Nat} {row : Option Nat} (h : ∀ j u, ([Value.int .i64 n] : List Value)[j]? = some u → w.cell? ((⟨b, 0, none⟩ : Addr).add j) = some u) (hg : w.grownBy w' row) (hne : some b ≠ row) :
    ∀ j u, ([Value.int .i64 n] : List Value)[j]? = some u → w'.cell? ((⟨b, 0, none⟩ : Addr).add j) = some u := by
  intro j u hj
  have e : ((⟨b, 0, none⟩ : Addr).add j).block = b := by unfold Addr.add; split <;> rfl
  exact hg.cell (h j u hj) (by rw [e]; exact hne)
/-- The closure's captured boxes. -/
abbrev shareCap (bl bx bm bn bs bb : Nat) : Array Value := #[.pointer (some ⟨bl, 0, none⟩), .pointer (some ⟨bx, 0, none⟩), .pointer (some ⟨bm, 0, none⟩), .pointer (some ⟨bn, 0, none⟩), .pointer (some ⟨bs, 0, none⟩), .pointer (some ⟨bb, 0, none⟩)]
abbrev shareFn (bl bx bm bn bs bb : Nat) : Value := .func (.func 67) #[] (shareCap bl bx bm bn bs bb)
set_option maxHeartbeats 4000000 in
set_option maxRecDepth 1000000 in
theorem share_step {B0 bb bs bm bn bl bx : Nat} {m n : CMach} {l : List Casting} {vl : Value} (hl : okCs l = true) (B : Nat) (hB : B0 ≤ B) (hbb : bb < B) (hbs : bs < B)
    (w : World) (a a1 a2 : List Int × Int) (s : List Int) (ga ca : Nat) (hf : Found B0 bb bs w a) (he : ShareEnv B0 bm bn bl bx m n l vl (shareFn bl bx bm bn bs bb) w) (hwB : B ≤ w.heap.size) (hv : OwnI w B (.slice (some ⟨ga, 0, none⟩) s.length ca) s)
    (hs : s.length < l.length)
    (ih1 : ∀ (g c : Nat) (W : World), B ≤ W.heap.size → Found B0 bb bs W a → ShareEnv B0 bm bn bl bx m n l vl (shareFn bl bx bm bn bs bb) W → OwnI W B (.slice (some ⟨g, 0, none⟩) (s.length + 1) c) (s ++ [0]) →
      Calls Try.prog 67 #[.slice (some ⟨g, 0, none⟩) (s.length + 1) c, .pointer (some ⟨bl, 0, none⟩), .pointer (some ⟨bx, 0, none⟩), .pointer (some ⟨bm, 0, none⟩), .pointer (some ⟨bn, 0, none⟩), .pointer (some ⟨bs, 0, none⟩), .pointer (some ⟨bb, 0, none⟩)] W fun e w' => e = .returned (.tuple #[]) ∧ (Found B0 bb bs w' a1 ∧ ShareEnv B0 bm bn bl bx m n l vl (shareFn bl bx bm bn bs bb) w') ∧ Upd (fun k => k = bb ∨ k = bs) W w')
    (ih2 : ∀ (g c : Nat) (W : World), B ≤ W.heap.size → Found B0 bb bs W a1 → ShareEnv B0 bm bn bl bx m n l vl (shareFn bl bx bm bn bs bb) W → OwnI W B (.slice (some ⟨g, 0, none⟩) (s.length + 1) c) (s ++ [1]) →
      Calls Try.prog 67 #[.slice (some ⟨g, 0, none⟩) (s.length + 1) c, .pointer (some ⟨bl, 0, none⟩), .pointer (some ⟨bx, 0, none⟩), .pointer (some ⟨bm, 0, none⟩), .pointer (some ⟨bn, 0, none⟩), .pointer (some ⟨bs, 0, none⟩), .pointer (some ⟨bb, 0, none⟩)] W fun e w' => e = .returned (.tuple #[]) ∧ (Found B0 bb bs w' a2 ∧ ShareEnv B0 bm bn bl bx m n l vl (shareFn bl bx bm bn bs bb) w') ∧ Upd (fun k => k = bb ∨ k = bs) W w') :
    Calls Try.prog 67 #[.slice (some ⟨ga, 0, none⟩) s.length ca, .pointer (some ⟨bl, 0, none⟩), .pointer (some ⟨bx, 0, none⟩), .pointer (some ⟨bm, 0, none⟩), .pointer (some ⟨bn, 0, none⟩), .pointer (some ⟨bs, 0, none⟩), .pointer (some ⟨bb, 0, none⟩)] w
      fun e w' => e = .returned (.tuple #[]) ∧ (Found B0 bb bs w' a2 ∧ ShareEnv B0 bm bn bl bx m n l vl (shareFn bl bx bm bn bs bb) w') ∧ Upd (fun k => k = bb ∨ k = bs) w w' := by
  have hap := he.apart hf
  obtain ⟨vA, vc, rfl⟩ := isl_shape he.row
  rw [rows_eq, List.length_map] at *
  have hl8 := okCs_len hl
  obtain ⟨i0, z0, hi, hz0, -, hz1, hz2, hz3, -⟩ := run_zeroValue (envOk 3 _ rfl)
  replace hz1 : i0.size = 1 := hz1
  replace hz2 : i0.bytes = 8 := hz2
  replace hz3 : z0.cells.size = 1 := hz3
  have c2 := cell_of_one he.lb
  have c3 := cell_of_one he.xb
  have k3 : 0 + s.length ≤ maxLen := by unfold maxLen; omega
  have k4 : (0 + s.length) * 8 ≤ 140737488355328 := by omega
  have k8 : 0 + s.length + 1 ≤ maxLen := by unfold maxLen; omega
  have k9 : (0 + s.length + 1) * 8 ≤ 140737488355328 := by omega
  have k6 : (s.map (Value.int .i64)).length = s.length * 1 := by simp
  have hX' : ∀ V, ShareEnv B0 bm bn bl bx m n l (.slice vA l.length vc) (shareFn bl bx bm bn bs bb) V → ∀ W, Below V.heap.size V W → W.cell? ⟨bx, 0, none⟩ = some (Value.func (.func 67) #[] #[.pointer (some ⟨bl, 0, none⟩), .pointer (some ⟨bx, 0, none⟩), .pointer (some ⟨bm, 0, none⟩), .pointer (some ⟨bn, 0, none⟩), .pointer (some ⟨bs, 0, none⟩), .pointer (some ⟨bb, 0, none⟩)]) := fun V hV W hW => cell_of_one (hV.below hW).xb
  have hX : ∀ W, Below w.heap.size w W → W.cell? ⟨bx, 0, none⟩ = some (Value.func (.func 67) #[] #[.pointer (some ⟨bl, 0, none⟩), .pointer (some ⟨bx, 0, none⟩), .pointer (some ⟨bm, 0, none⟩), .pointer (some ⟨bn, 0, none⟩), .pointer (some ⟨bs, 0, none⟩), .pointer (some ⟨bb, 0, none⟩)]) := fun W hW => cell_of_one (he.below hW).xb
  have hSe : ∀ W, Below w.heap.size w W → ∀ j u, (s.map (Value.int .i64))[j]? = some u → W.cell? ((⟨ga, 0, none⟩ : Addr).add j) = some u := fun W hW => (hv.below hW).cells
  have x00 := hX _ (Below.refl _ _)
  have xd0 := hX _ (Below.refl _ _).drew
  obtain ⟨⟨qA0, hA0⟩, ⟨qB0, hB0, nB0⟩, ⟨qC0, hC0, nC0⟩, qD0⟩ := two_news w 0
  have xA0 := hX _ qA0
  have xB0 := hX _ qB0
  have xC0 := hX _ qC0
  have xD0 := hX _ qD0
  go_enter Try.func67, Try.ntmps67
  go_wp2
  all_goals try (exfalso; omega)
  go_region_held3 (fun w' => w'.cell? ⟨bx, 0, none⟩ = some (Value.func (.func 67) #[] #[.pointer (some ⟨bl, 0, none⟩), .pointer (some ⟨bx, 0, none⟩), .pointer (some ⟨bm, 0, none⟩), .pointer (some ⟨bn, 0, none⟩), .pointer (some ⟨bs, 0, none⟩), .pointer (some ⟨bb, 0, none⟩)])) (with_reducible assumption)
    (first
      | (go_at_call 67; refine (ih1 _ _ _ ?_ ?_ ?_ o60).mono ?_; exact Nat.le_trans hwB q60.size; exact hf.below q60; exact he.below q60; rintro e w7 ⟨rfl, e7, u7⟩; have u8 := (Upd.of q60).trans u7; have hv7 := hv.upd u8 (fun k hk => by omega); have hX7 := fun W hW => hX' w7 e7.2 W hW; have hw7 : B ≤ w7.heap.size := Nat.le_trans hwB u8.size; have x01 := hX7 _ (Below.refl _ _); have xd1 := hX7 _ (Below.refl _ _).drew; obtain ⟨⟨qA1, hA1⟩, ⟨qB1, hB1, nB1⟩, ⟨qC1, hC1, nC1⟩, qD1⟩ := two_news w7 1; have xA1 := hX7 _ qA1; have xB1 := hX7 _ qB1; have xC1 := hX7 _ qC1; have xD1 := hX7 _ qD1)
      | (have zf := f4A0; refine step_append_own rfl _ _ 29 rfl w.heap.size 3 i0 z0 1 8 Try.underlying29 hi hz0 hz1 hz2 hz3 (by decide) ?_ (0 + s.length) ([] ++ s.map (.int .i64)) ?_ ?_ ?_ 1 1 [.int .i64 0] ?_ rfl ?_ (new_one _) k8 k9 ?_ ?_; rotate_left 2; (· (with_reducible exact h5A0)); rotate_left 2; (· exact n5A0); (· exact q50.size); rotate_left 1; (· rfl); (· rfl); intro v6 w6 h6 g6 _; have q60 := q50.grown g6 q50.size (fun k hk => (World.ownsRow.lt h5A0 k hk).1); have x60 := hX _ q60; have o60 := own_next2 h6 hwB; obtain ⟨gg0, cc0, rfl⟩ := own_some1 o60)
      | (have zf := f4B0; refine step_append_own rfl _ _ 29 rfl w.heap.size 3 i0 z0 1 8 Try.underlying29 hi hz0 hz1 hz2 hz3 (by decide) ?_ (0 + s.length) ([] ++ s.map (.int .i64)) ?_ ?_ ?_ 1 1 [.int .i64 0] ?_ rfl ?_ (new_one _) k8 k9 ?_ ?_; rotate_left 2; (· (with_reducible exact f4B0)); rotate_left 2; (· exact m4B0); (· exact q40.size); rotate_left 1; (· rfl); (· rfl); intro v6 w6 h6 g6 _; have q60 := q40.grown g6 q40.size (fun k hk => (World.ownsRow.lt f4B0 k hk).1); have x60 := hX _ q60; have o60 := own_next2 h6 hwB; obtain ⟨gg0, cc0, rfl⟩ := own_some1 o60)
      | (have zf := f4C0; refine step_append_own rfl _ _ 29 rfl w.heap.size 3 i0 z0 1 8 Try.underlying29 hi hz0 hz1 hz2 hz3 (by decide) ?_ (0 + s.length) ([] ++ s.map (.int .i64)) ?_ ?_ ?_ 1 1 [.int .i64 0] ?_ rfl ?_ (new_one _) k8 k9 ?_ ?_; rotate_left 2; (· (with_reducible exact f4C0)); rotate_left 2; (· exact m4C0); (· exact q40.size); rotate_left 1; (· rfl); (· rfl); intro v6 w6 h6 g6 _; have q60 := q40.grown g6 q40.size (fun k hk => (World.ownsRow.lt f4C0 k hk).1); have x60 := hX _ q60; have o60 := own_next2 h6 hwB; obtain ⟨gg0, cc0, rfl⟩ := own_some1 o60)
      | (refine step_append_own rfl _ _ 29 rfl w.heap.size 3 i0 z0 1 8 Try.underlying29 hi hz0 hz1 hz2 hz3 (by decide) ?_ 0 [] ?_ ?_ ⟨ga, 0, none⟩ s.length ca (s.map (.int .i64)) rfl k6 ?_ (ints_one _) k3 k4 ?_ ?_; rotate_left 2; (· (with_reducible exact hA0)); (· exact (hv.below qA0).cells); (· exact qA0.size); rotate_left 1; (· rfl); intro v4 w4 h4 g4 _; have f4A0 := h4; have q40 := qA0.grown g4 qA0.size (fun k hk => (World.ownsRow.lt hA0 k hk).1); have x40 := hX _ q40; have q50 : Below w.heap.size w (w4.alloc (.cells #[.int .i64 0] 3)) := q40.alloc q40.size _; have x50 := hX _ q50; have h5A0 := World.ownsRow.alloc h4 (.cells #[.int .i64 0] 3); have n5A0 := new_cell w4 0)
      | (refine step_append_own rfl _ _ 29 rfl w.heap.size 3 i0 z0 1 8 Try.underlying29 hi hz0 hz1 hz2 hz3 (by decide) ?_ 0 [] ?_ ?_ ⟨ga, 0, none⟩ s.length ca (s.map (.int .i64)) rfl k6 ?_ (ints_one _) k3 k4 ?_ ?_; rotate_left 2; (· (with_reducible exact hB0)); (· exact (hv.below qB0).cells); (· exact qB0.size); rotate_left 1; (· rfl); intro v4 w4 h4 g4 _; have f4B0 := h4; have q40 := qB0.grown g4 qB0.size (fun k hk => (World.ownsRow.lt hB0 k hk).1); have x40 := hX _ q40; have m4B0 := news_kept nB0 g4 (by simp [Value.ownBlock]))
      | (refine step_append_own rfl _ _ 29 rfl w.heap.size 3 i0 z0 1 8 Try.underlying29 hi hz0 hz1 hz2 hz3 (by decide) ?_ 0 [] ?_ ?_ ⟨ga, 0, none⟩ s.length ca (s.map (.int .i64)) rfl k6 ?_ (ints_one _) k3 k4 ?_ ?_; rotate_left 2; (· (with_reducible exact hC0)); (· exact (hv.below qC0).cells); (· exact qC0.size); rotate_left 1; (· rfl); intro v4 w4 h4 g4 _; have f4C0 := h4; have q40 := qC0.grown g4 qC0.size (fun k hk => (World.ownsRow.lt hC0 k hk).1); have x40 := hX _ q40; have m4C0 := news_kept nC0 g4 (by simp [Value.ownBlock])))
  all_goals (try go_wp2)
  all_goals
    go_region_held3 (fun w' => w'.cell? ⟨bx, 0, none⟩ = some (Value.func (.func 67) #[] #[.pointer (some ⟨bl, 0, none⟩), .pointer (some ⟨bx, 0, none⟩), .pointer (some ⟨bm, 0, none⟩), .pointer (some ⟨bn, 0, none⟩), .pointer (some ⟨bs, 0, none⟩), .pointer (some ⟨bb, 0, none⟩)])) (with_reducible assumption)
      (first
        | (go_at_call 67; refine (ih2 _ _ _ ?_ ?_ ?_ o61).mono ?_; exact Nat.le_trans hw7 q61.size; exact e7.1.below q61; exact e7.2.below q61; rintro e w9 ⟨rfl, e9, u9⟩; have x9 := hX' _ e9.2 _ (Below.refl _ _); have u10 := (u8.trans (Upd.of q61)).trans u9)
        | (have zf := f4A1; refine step_append_own rfl _ _ 29 rfl w7.heap.size 3 i0 z0 1 8 Try.underlying29 hi hz0 hz1 hz2 hz3 (by decide) ?_ (0 + s.length) ([] ++ s.map (.int .i64)) ?_ ?_ ?_ 1 1 [.int .i64 1] ?_ rfl ?_ (new_one _) k8 k9 ?_ ?_; rotate_left 2; (· (with_reducible exact h5A1)); rotate_left 2; (· exact n5A1); (· exact q51.size); rotate_left 1; (· rfl); (· rfl); intro v6 w6 h6 g6 _; have q61 := q51.grown g6 q51.size (fun k hk => (World.ownsRow.lt h5A1 k hk).1); have x61 := hX7 _ q61; have o61 := own_next2 h6 hw7; obtain ⟨gg1, cc1, rfl⟩ := own_some1 o61)
        | (have zf := f4B1; refine step_append_own rfl _ _ 29 rfl w7.heap.size 3 i0 z0 1 8 Try.underlying29 hi hz0 hz1 hz2 hz3 (by decide) ?_ (0 + s.length) ([] ++ s.map (.int .i64)) ?_ ?_ ?_ 1 1 [.int .i64 1] ?_ rfl ?_ (new_one _) k8 k9 ?_ ?_; rotate_left 2; (· (with_reducible exact f4B1)); rotate_left 2; (· exact m4B1); (· exact q41.size); rotate_left 1; (· rfl); (· rfl); intro v6 w6 h6 g6 _; have q61 := q41.grown g6 q41.size (fun k hk => (World.ownsRow.lt f4B1 k hk).1); have x61 := hX7 _ q61; have o61 := own_next2 h6 hw7; obtain ⟨gg1, cc1, rfl⟩ := own_some1 o61)
        | (have zf := f4C1; refine step_append_own rfl _ _ 29 rfl w7.heap.size 3 i0 z0 1 8 Try.underlying29 hi hz0 hz1 hz2 hz3 (by decide) ?_ (0 + s.length) ([] ++ s.map (.int .i64)) ?_ ?_ ?_ 1 1 [.int .i64 1] ?_ rfl ?_ (new_one _) k8 k9 ?_ ?_; rotate_left 2; (· (with_reducible exact f4C1)); rotate_left 2; (· exact m4C1); (· exact q41.size); rotate_left 1; (· rfl); (· rfl); intro v6 w6 h6 g6 _; have q61 := q41.grown g6 q41.size (fun k hk => (World.ownsRow.lt f4C1 k hk).1); have x61 := hX7 _ q61; have o61 := own_next2 h6 hw7; obtain ⟨gg1, cc1, rfl⟩ := own_some1 o61)
        | (refine step_append_own rfl _ _ 29 rfl w7.heap.size 3 i0 z0 1 8 Try.underlying29 hi hz0 hz1 hz2 hz3 (by decide) ?_ 0 [] ?_ ?_ ⟨ga, 0, none⟩ s.length ca (s.map (.int .i64)) rfl k6 ?_ (ints_one _) k3 k4 ?_ ?_; rotate_left 2; (· (with_reducible exact hA1)); (· exact (hv7.below qA1).cells); (· exact qA1.size); rotate_left 1; (· rfl); intro v4 w4 h4 g4 _; have f4A1 := h4; have q41 := qA1.grown g4 qA1.size (fun k hk => (World.ownsRow.lt hA1 k hk).1); have x41 := hX7 _ q41; have q51 : Below w7.heap.size w7 (w4.alloc (.cells #[.int .i64 1] 3)) := q41.alloc q41.size _; have x51 := hX7 _ q51; have h5A1 := World.ownsRow.alloc h4 (.cells #[.int .i64 1] 3); have n5A1 := new_cell w4 1)
        | (refine step_append_own rfl _ _ 29 rfl w7.heap.size 3 i0 z0 1 8 Try.underlying29 hi hz0 hz1 hz2 hz3 (by decide) ?_ 0 [] ?_ ?_ ⟨ga, 0, none⟩ s.length ca (s.map (.int .i64)) rfl k6 ?_ (ints_one _) k3 k4 ?_ ?_; rotate_left 2; (· (with_reducible exact hB1)); (· exact (hv7.below qB1).cells); (· exact qB1.size); rotate_left 1; (· rfl); intro v4 w4 h4 g4 _; have f4B1 := h4; have q41 := qB1.grown g4 qB1.size (fun k hk => (World.ownsRow.lt hB1 k hk).1); have x41 := hX7 _ q41; have m4B1 := news_kept nB1 g4 (by simp [Value.ownBlock]))
        | (refine step_append_own rfl _ _ 29 rfl w7.heap.size 3 i0 z0 1 8 Try.underlying29 hi hz0 hz1 hz2 hz3 (by decide) ?_ 0 [] ?_ ?_ ⟨ga, 0, none⟩ s.length ca (s.map (.int .i64)) rfl k6 ?_ (ints_one _) k3 k4 ?_ ?_; rotate_left 2; (· (with_reducible exact hC1)); (· exact (hv7.below qC1).cells); (· exact qC1.size); rotate_left 1; (· rfl); intro v4 w4 h4 g4 _; have f4C1 := h4; have q41 := qC1.grown g4 qC1.size (fun k hk => (World.ownsRow.lt hC1 k hk).1); have x41 := hX7 _ q41; have m4C1 := news_kept nC1 g4 (by simp [Value.ownBlock])))
  all_goals (try go_wp2)
  all_goals (first | go_end0 | ((try simp only [Exit.inBlock, Exit.then]); refine bodyPost_ret (results_none rfl _ _ _) rfl ?_))
  all_goals exact ⟨rfl, e9, u10⟩
end Go.Proofs.Ytjmjepdlclehoaa.Ai
