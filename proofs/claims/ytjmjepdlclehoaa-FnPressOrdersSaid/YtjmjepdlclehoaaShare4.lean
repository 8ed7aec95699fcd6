/- impl.ShareOfMachines: its closure, which calls itself. -/
import Derived.Test.YtjmjepdlclehoaaBest2
import Derived.Deep.RegionHeld3
namespace Go.Proofs.Ytjmjepdlclehoaa.Ai
open Go Go.Proofs Go.RowKit
set_option linter.unusedSimpArgs false
set_option linter.unusedVariables false

theorem pick_snoc (z : Bool) (x : Int) : ∀ (s : List Int) (i : Int), pickG z i (s ++ [x]) = pickG z i s ++ if (decide (x = 0) == z) = true then [i + s.length] else []
  | [], i => by simp [pickG]
  | k :: r, i => by
    rw [List.cons_append, pickG, pickG, pick_snoc z x r (i + 1)]
    have e : i + 1 + (r.length : Int) = i + ((k :: r).length : Int) := by simp only [List.length_cons]; omega
    split <;> simp [e]
theorem pick_mem (z : Bool) : ∀ (s : List Int) (i x : Int), x ∈ pickG z i s → ∃ j : Nat, x = i + j ∧ ∃ y, s[j]? = some y ∧ (decide (y = 0) == z) = true
  | [], i, x, h => by simp [pickG] at h
  | k :: r, i, x, h => by
    rw [pickG] at h
    have go : x ∈ pickG z (i + 1) r → ∃ j : Nat, x = i + j ∧ ∃ y, (k :: r)[j]? = some y ∧ (decide (y = 0) == z) = true := fun h => by
      obtain ⟨j, e, y, hy, hz⟩ := pick_mem z r (i + 1) x h
      exact ⟨j + 1, by omega, y, by simpa using hy, hz⟩
    split at h
    · rename_i hc
      rcases List.mem_cons.1 h with rfl | h
      · exact ⟨0, by simp, k, rfl, hc⟩
      · exact go h
    · exact go h
theorem pick_disj {s : List Int} {x : Int} (h1 : x ∈ pickG true 0 s) (h2 : x ∈ pickG false 0 s) : False := by
  obtain ⟨j, e, y, hy, hz⟩ := pick_mem true s 0 x h1
  obtain ⟨k, e2, y2, hy2, hz2⟩ := pick_mem false s 0 x h2
  obtain rfl : j = k := by omega
  obtain rfl := Option.some.inj (hy.symm.trans hy2)
  revert hz hz2
  cases decide (y = 0) <;> simp
def sharesFrom (k : Nat) (o : List Int) : List (List Int) := (sharesL k).map (o ++ ·)
theorem sharesFrom_succ (k : Nat) (o : List Int) : sharesFrom (k + 1) o = sharesFrom k (o ++ [0]) ++ sharesFrom k (o ++ [1]) := by
  unfold sharesFrom
  rw [sharesL, List.map_append, List.map_map, List.map_map]
  simp only [Function.comp_def, List.append_assoc, List.cons_append, List.nil_append]

/-- Two machines' boxes, one of castings, one that holds the closure itself. -/
structure ShareEnv (B0 bm bn bl bx : Nat) (m n : CMach) (l : List Casting) (vl vx : Value) (w : World) : Prop where
  mb : w.heap[bm]? = some (.cells #[.int .i64 m.1, .int .i64 m.2.1, .int .i64 m.2.2] 25 (0, 0))
  nb : w.heap[bn]? = some (.cells #[.int .i64 n.1, .int .i64 n.2.1, .int .i64 n.2.2] 25 (0, 0))
  lb : w.heap[bl]? = some (.cells #[vl] 26 (0, 0))
  xb : w.heap[bx]? = some (.cells #[vx] 85 (0, 0))
  row : RepI w (fun k => k < B0) (.isl 2 (rows cCasting l)) vl
  b0 : B0 ≤ w.heap.size
section
variable {B0 bm bn bl bx bb bs : Nat} {m n : CMach} {l : List Casting} {vl vx : Value} {w w' : World}
theorem ShareEnv.upd {S : Nat → Prop} (h : ShareEnv B0 bm bn bl bx m n l vl vx w) (hu : Upd S w w') (hS : ∀ k, S k → B0 ≤ k ∧ k ≠ bm ∧ k ≠ bn ∧ k ≠ bl ∧ k ≠ bx) : ShareEnv B0 bm bn bl bx m n l vl vx w' := by
  obtain ⟨h1, h2, h3, h4, h5, h6⟩ := h
  refine ⟨?_, ?_, ?_, ?_, h5.mono fun g hg => ⟨hg, hu.block g (by omega) fun e => by have := (hS g e).1; omega⟩, Nat.le_trans h6 hu.size⟩
  · rw [hu.block _ (Array.getElem?_eq_some_iff.1 h1).1 fun e => (hS _ e).2.1 rfl]; exact h1
  · rw [hu.block _ (Array.getElem?_eq_some_iff.1 h2).1 fun e => (hS _ e).2.2.1 rfl]; exact h2
  · rw [hu.block _ (Array.getElem?_eq_some_iff.1 h3).1 fun e => (hS _ e).2.2.2.1 rfl]; exact h3
  · rw [hu.block _ (Array.getElem?_eq_some_iff.1 h4).1 fun e => (hS _ e).2.2.2.2 rfl]; exact h4
theorem ShareEnv.below (h : ShareEnv B0 bm bn bl bx m n l vl vx w) (hu : Below w.heap.size w w') : ShareEnv B0 bm bn bl bx m n l vl vx w' := h.upd (Upd.of (S := fun _ => False) hu) fun _ e => e.elim
theorem ShareEnv.apart {a : List Int × Int} (h : ShareEnv B0 bm bn bl bx m n l vl vx w) (f : Found B0 bb bs w a) : ∀ k, k = bb ∨ k = bs → B0 ≤ k ∧ k ≠ bm ∧ k ≠ bn ∧ k ≠ bl ∧ k ≠ bx := by
  obtain ⟨h1, h2, h3, h4, -, -⟩ := h
  obtain ⟨f1, ⟨vb, f2, -, -⟩, f3, f4⟩ := f
  rintro k (rfl | rfl)
  · exact ⟨f3, fun e => by subst e; rw [h1] at f2; simp at f2, fun e => by subst e; rw [h2] at f2; simp at f2, fun e => by subst e; rw [h3] at f2; simp at f2, fun e => by subst e; rw [h4] at f2; simp at f2⟩
  · exact ⟨f4, fun e => by subst e; rw [h1] at f1; simp at f1, fun e => by subst e; rw [h2] at f1; simp at f1, fun e => by subst e; rw [h3] at f1; simp at f1, fun e => by subst e; rw [h4] at f1; simp at f1⟩
end

/-- Two growing rows of numbers in blocks of their own. -/
structure TwoRows (w : World) (B : Nat) (v1 v2 : Value) (p q : List Int) : Prop where
  one : OwnI w B v1 p
  two : OwnI w B v2 q
  ne : v1.ownBlock ≠ v2.ownBlock
  e1 : p = [] → ∃ g, v1 = .slice (some ⟨g, 0, none⟩) 0 0
  e2 : q = [] → ∃ g, v2 = .slice (some ⟨g, 0, none⟩) 0 0
theorem own_some {w : World} {B : Nat} {v : Value} {p : List Int} (h : OwnI w B v p) (hp : p ≠ []) : ∃ g cap cur, v = .slice (some ⟨g, 0, none⟩) p.length cap ∧ w.heap[g]? = some (.cells cur 3 (0, 0)) ∧ p.length ≤ cap ∧ cur.size = cap ∧ cur.toList.take p.length = p.map (.int .i64) := by
  obtain ⟨-, ⟨rfl, hn⟩ | ⟨g, cap, cur, rfl, hb, hg, h1, h2, h3, h4⟩⟩ := h
  · exact absurd (List.length_eq_zero_iff.1 hn) hp
  · exact ⟨g, cap, cur, rfl, hg, h1, by omega, by simpa using h4⟩
theorem own_size0 {w : World} {B g : Nat} {p : List Int} (h : OwnI w B (.slice (some ⟨g, 0, none⟩) 0 0) p) : ∃ cur, w.heap[g]? = some (.cells cur 3 (0, 0)) ∧ cur.size = 0 := by
  obtain ⟨-, ⟨h0, hn⟩ | ⟨g2, cap, cur, h0, hb, hg, h1, h2, h3, h4⟩⟩ := h
  · cases h0
  · injection h0 with a b c
    injection a with a
    injection a with a
    subst c; subst a
    exact ⟨cur, hg, by omega⟩
/-- Rows that hold nothing in common lie apart. -/
theorem rows_apart {w : World} {B : Nat} {v1 v2 : Value} {p q : List Int} (h1 : OwnI w B v1 p) (h2 : OwnI w B v2 q) (hp : p ≠ []) (e2 : q = [] → ∃ g, v2 = .slice (some ⟨g, 0, none⟩) 0 0) (hd : ∀ x, x ∈ p → x ∈ q → False) : v1.ownBlock ≠ v2.ownBlock := by
  intro e
  obtain ⟨g, cap, cur, rfl, k1, k2, k3, k4⟩ := own_some h1 hp
  by_cases hq : q = []
  · obtain ⟨g2, rfl⟩ := e2 hq
    obtain ⟨cur2, j1, j2⟩ := own_size0 h2
    obtain rfl : g = g2 := by simpa [Value.ownBlock] using e
    rw [k1] at j1
    obtain rfl : cur = cur2 := by simpa using j1
    have := List.length_pos_iff.2 hp
    omega
  · obtain ⟨g2, cap2, cur2, rfl, j1, j2, j3, j4⟩ := own_some h2 hq
    obtain rfl : g = g2 := by simpa [Value.ownBlock] using e
    rw [k1] at j1
    obtain rfl : cur = cur2 := by simpa using j1
    cases p with
    | nil => exact hp rfl
    | cons x r => cases q with
      | nil => exact hq rfl
      | cons y t =>
        cases hc : cur.toList with
        | nil => rw [hc] at k4; simp at k4
        | cons c cs =>
          rw [hc] at k4 j4
          simp at k4 j4
          have : x = y := by have := k4.1.symm.trans j4.1; simpa using this
          subst this
          exact hd x (by simp) (by simp)
theorem OwnI.kept {w w' : World} {B : Nat} {v : Value} {o : List Int} {row : Option Nat} (h : OwnI w B v o) (hg : w.grownBy w' row) (hne : v.ownBlock = none ∨ v.ownBlock ≠ row) : OwnI w' B v o := World.ownsRow.kept h hg hne

/- impl.ShareOfMachines: its closure at a whole share. -/

theorem pick_fine (z : Bool) {s : List Int} {n : Nat} (h : s.length ≤ n) : fineB n (pickG z 0 s) = true := by
  obtain ⟨h1, h2⟩ := pick_diff z s 0
  exact fineB_iff.2 ⟨h1, fun x hx => by have := h2 x hx; omega⟩
theorem fine_wrap {l : List Casting} (hl : okCs l = true) {o : List Int} (h : fineB l.length o = true) : ∀ x ∈ o, IntKind.i64.wrap x = x := diff_wrap hl (fineB_diff.1 h)
theorem vM_args {m : CMach} (hm : okM m = true) {w : World} {I : Nat → Prop} : RepArg w I (.agg (cMachine m)) (.agg #[.int .i64 m.1, .int .i64 m.2.1, .int .i64 m.2.2]) := by
  have mq := okM_spec hm
  exact .agg (cMachine m) [.int .i64 m.1, .int .i64 m.2.1, .int .i64 m.2.2] (.cons (.int _ _ (wrap64 (by omega) (by omega))) (.cons (.int _ _ (wrap64 (by omega) (by omega))) (.cons (.int _ _ (wrap64 (by omega) (by omega))) .nil)))
theorem time_calls2 {m : CMach} {l : List Casting} (hm : okM m = true) (hl : okCs l = true) {w : World} {I : Nat → Prop} {B : Nat} {vl v : Value} {o : List Int} (hv : RepI w I (.isl 2 (rows cCasting l)) vl) (hI : ∀ g, I g → g < w.heap.size) (ho : OwnI w B v o) (hd : fineB l.length o = true) :
    ∀ W : World, Below w.heap.size w W → Calls Try.prog 68 #[.agg #[.int .i64 m.1, .int .i64 m.2.1, .int .i64 m.2.2], vl, v] W fun e w' => e = .returned (.int .i64 (timeF m l o)) ∧ Below W.heap.size W w' := by
  intro W hW
  have r1 : RepI W (fun k => k < W.heap.size) (.isl 2 (rows cCasting l)) vl := hv.mono fun g hg => ⟨Nat.lt_of_lt_of_le (hI g hg) hW.size, hW.block g (hI g hg)⟩
  have r2 : RepI W (fun k => k < W.heap.size) (.isl 1 (rows cInt o)) v := (ho.below hW).rep (fine_wrap hl hd)
  exact calls_int (time_ok m l o hm hl hd) (inr_all W) (vs := [.agg #[.int .i64 m.1, .int .i64 m.2.1, .int .i64 m.2.2], vl, v]) (All2.cons (vM_args hm) (All2.cons (.one r1) (All2.cons (.one r2) .nil)))

set_option maxHeartbeats 4000000 in
set_option maxRecDepth 1000000 in
theorem share_leaf {B0 bb bs bm bn bl bx : Nat} {m n : CMach} {l : List Casting} {vl vx : Value} (hm : okM m = true) (hn : okM n = true) (hl : okCs l = true) (w : World) (a : List Int × Int) (s : List Int) (ga : Addr) (ca : Nat) (hf : Found B0 bb bs w a) (he : ShareEnv B0 bm bn bl bx m n l vl vx w) (B : Nat) (hB : B0 ≤ B) (hbb : bb < B) (hbs : bs < B) (hv : OwnI w B (.slice (some ga) l.length ca) s)
    (hs : s.length = l.length) (hx : ∀ x ∈ s, x = 0 ∨ x = 1) :
    Calls Try.prog 67 #[.slice (some ga) l.length ca, .pointer (some ⟨bl, 0, none⟩), .pointer (some ⟨bx, 0, none⟩), .pointer (some ⟨bm, 0, none⟩), .pointer (some ⟨bn, 0, none⟩), .pointer (some ⟨bs, 0, none⟩), .pointer (some ⟨bb, 0, none⟩)] w
      fun e w' => e = .returned (.tuple #[]) ∧ (Found B0 bb bs w' (shareStep m n l a s) ∧ ShareEnv B0 bm bn bl bx m n l vl vx w') ∧ Upd (fun k => k = bb ∨ k = bs) w w' := by
  have hap := he.apart hf
  obtain ⟨vA, vc, rfl⟩ := isl_shape he.row
  rw [rows_eq, List.length_map] at *
  obtain ⟨ga, rfl⟩ : ∃ g, ga = ⟨g, 0, none⟩ := by
    obtain ⟨-, ⟨h0, hn⟩ | ⟨g2, cap, cur, h0, r⟩⟩ := hv
    · cases h0
    · injection h0 with a; injection a with a; exact ⟨g2, a⟩
  have hl8 := okCs_len hl
  obtain ⟨i0, z0, hi, hz0, -, hz1, hz2, hz3, -⟩ := run_zeroValue (envOk 3 _ rfl)
  replace hz1 : i0.size = 1 := hz1
  replace hz2 : i0.bytes = 8 := hz2
  replace hz3 : z0.cells.size = 1 := hz3
  have c2 := cell_of_one he.lb
  have qs := hv.cells
  have glt : ga < w.heap.size := (World.ownsRow.lt hv ga rfl).2
  have HS := Lib.hid hs
  clear hs
  go_enter Try.func67, Try.ntmps67
  go_wp2
  all_goals try (exfalso; omega)
  go_loopw [8, 9, 36] (fun v1 v2 i wr => ∃ j : Nat, j ≤ l.length ∧ i = .int .i64 (j : Int) ∧ TwoRows wr w.heap.size v1 v2 (pickG true 0 (s.take j)) (pickG false 0 (s.take j)) ∧ Below w.heap.size w wr) (fun _ _ i _ => l.length - (intOf i).toNat)
  case atStart =>
    have r1 := own_new w (B := w.heap.size) (Nat.le_refl _)
    have r2 := own_new (w.alloc (.cells #[] 3)) (B := w.heap.size) (by simp)
    have e1 : (w.alloc (.cells #[] 3)).heap.size = w.heap.size + 1 := by simp
    rw [e1] at r2
    exact ⟨0, Nat.zero_le _, rfl, ⟨r1.below (alloc_below _ _), r2, by simp [Value.ownBlock], fun _ => ⟨_, rfl⟩, fun _ => ⟨_, rfl⟩⟩, (alloc_below _ _).trans ((alloc_below _ _).mono (by simp))⟩
  case round =>
    obtain ⟨j, hj, rfl, ht, hb⟩ := hrel
    have heR := he.below hb
    have hfR := hf.below hb
    have hvR := hv.below hb
    have sz := hb.size
    by_cases hlt : j < l.length
    · obtain ⟨x, hxj⟩ : ∃ x, s[j]? = some x := ⟨_, List.getElem?_eq_getElem (by have := HS.out; omega)⟩
      have hx01 := hx x (List.mem_of_getElem? hxj)
      have etk : s.take (j + 1) = s.take j ++ [x] := by rw [List.take_add_one, hxj]; rfl
      have elj : (s.take j).length = j := by rw [List.length_take]; have := HS.out; omega
      have cx : wr.cell? ((⟨ga, 0, none⟩ : Addr).add j) = some (.int .i64 x) := hvR.cells j _ (by rw [List.getElem?_map, hxj]; rfl)
      have cx2 := cx
      rw [Addr.add_lit, Nat.zero_add] at cx2
      have hpl : ∀ z, (pickG z 0 (s.take j)).length ≤ 8 := fun z => by
        have := diff_len _ _ (fineB_diff.1 (pick_fine z (s := s.take j) (n := l.length) (by have := HS.out; omega))); omega
      have hp1 := hpl true
      have hp2 := hpl false
      rcases hx01 with rfl | rfl
      · have k3 : (pickG true 0 (s.take j)).length + 1 ≤ maxLen := by unfold maxLen; omega
        have k4 : ((pickG true 0 (s.take j)).length + 1) * 8 ≤ 140737488355328 := by omega
        have b5 : Below w.heap.size w (wr.alloc (.cells #[.int .i64 (j : Int)] 3)) := hb.trans ((alloc_below _ _).mono sz)
        go_wp2_with (at_builtin; refine wpList_append_own _ rfl _ _ 29 rfl w.heap.size 3 i0 z0 1 8 Try.underlying29 hi hz0 hz1 hz2 hz3 (by decide) _ _ _ rfl (ht.one.alloc _) ⟨_, 0, none⟩ 1 1 [.int .i64 (j : Int)] rfl rfl (new_cell _ _) (new_one _) k3 k4 b5.size ?_; intro v6 w6 h6 g6 _; have g7 : (wr.alloc (.cells #[.int .i64 (j : Int)] 3)).grownBy w6 u8.ownBlock := g6; clear g6; refine Hid.out ?_)
        all_goals try (exfalso; omega)
        refine Lib.hid ?_
        go_wp2
        have o1 : OwnI w6 w.heap.size v6 (pickG true 0 (s.take j) ++ [(j : Int)]) := own_next h6 (Nat.le_refl _)
        have o2 : OwnI w6 w.heap.size u9 (pickG false 0 (s.take j)) := (ht.two.below (alloc_below _ _)).kept g7 (.inr ht.ne.symm)
        have p1 : pickG true 0 (s.take (j + 1)) = pickG true 0 (s.take j) ++ [(j : Int)] := by rw [etk, pick_snoc, elj]; simp
        have p2 : pickG false 0 (s.take (j + 1)) = pickG false 0 (s.take j) := by rw [etk, pick_snoc]; simp
        go_roundw
        case rel =>
          refine ⟨j + 1, hlt, by simp, ?_, b5.grown g7 b5.size (fun k hk => (World.ownsRow.lt ht.one k hk).1)⟩
          rw [p1, p2]
          exact ⟨o1, o2, rows_apart o1 o2 (by simp) ht.e2 (fun x h1 h2 => pick_disj (s := s.take (j + 1)) (by rw [p1]; exact h1) (by rw [p2]; exact h2)), fun e => by simp at e, ht.e2⟩
        case measure => simp only [intOf]; omega
      · have k3 : (pickG false 0 (s.take j)).length + 1 ≤ maxLen := by unfold maxLen; omega
        have k4 : ((pickG false 0 (s.take j)).length + 1) * 8 ≤ 140737488355328 := by omega
        have b5 : Below w.heap.size w (wr.alloc (.cells #[.int .i64 (j : Int)] 3)) := hb.trans ((alloc_below _ _).mono sz)
        go_wp2_with (at_builtin; refine wpList_append_own _ rfl _ _ 29 rfl w.heap.size 3 i0 z0 1 8 Try.underlying29 hi hz0 hz1 hz2 hz3 (by decide) _ _ _ rfl (ht.two.alloc _) ⟨_, 0, none⟩ 1 1 [.int .i64 (j : Int)] rfl rfl (new_cell _ _) (new_one _) k3 k4 b5.size ?_; intro v6 w6 h6 g6 _; have g7 : (wr.alloc (.cells #[.int .i64 (j : Int)] 3)).grownBy w6 u9.ownBlock := g6; clear g6; refine Hid.out ?_)
        all_goals try (exfalso; omega)
        refine Lib.hid ?_
        go_wp2
        have o2 : OwnI w6 w.heap.size v6 (pickG false 0 (s.take j) ++ [(j : Int)]) := own_next h6 (Nat.le_refl _)
        have o1 : OwnI w6 w.heap.size u8 (pickG true 0 (s.take j)) := (ht.one.below (alloc_below _ _)).kept g7 (.inr ht.ne)
        have p1 : pickG true 0 (s.take (j + 1)) = pickG true 0 (s.take j) := by rw [etk, pick_snoc]; simp
        have p2 : pickG false 0 (s.take (j + 1)) = pickG false 0 (s.take j) ++ [(j : Int)] := by rw [etk, pick_snoc, elj]; simp
        go_roundw
        case rel =>
          refine ⟨j + 1, hlt, by simp, ?_, b5.grown g7 b5.size (fun k hk => (World.ownsRow.lt ht.two k hk).1)⟩
          rw [p1, p2]
          exact ⟨o1, o2, (rows_apart o2 o1 (by simp) ht.e1 (fun x h1 h2 => pick_disj (s := s.take (j + 1)) (by rw [p1]; exact h2) (by rw [p2]; exact h1))).symm, ht.e1, fun e => by simp at e⟩
        case measure => simp only [intOf]; omega
    · obtain rfl : j = l.length := by omega
      rw [List.take_of_length_le (Nat.le_of_eq HS.out)] at ht
      have t1 := time_calls2 hm hl heR.row (fun g hg => Nat.lt_of_lt_of_le hg heR.b0) ht.one (pick_fine true (by have := HS.out; omega))
      have t2 := time_calls2 hn hl heR.row (fun g hg => Nat.lt_of_lt_of_le hg heR.b0) ht.two (pick_fine false (by have := HS.out; omega))
      have c3 := cell_of_one heR.lb
      have h1 := heR.mb
      have hS : ∀ w', Below wr.heap.size wr w' → w'.cell? ⟨bm, 0, none⟩ = some (.int .i64 m.1) ∧ w'.cell? ⟨bm, 1, none⟩ = some (.int .i64 m.2.1) ∧ w'.cell? ⟨bm, 2, none⟩ = some (.int .i64 m.2.2) ∧ w'.cell? ⟨bn, 0, none⟩ = some (.int .i64 n.1) ∧ w'.cell? ⟨bn, 1, none⟩ = some (.int .i64 n.2.1) ∧ w'.cell? ⟨bn, 2, none⟩ = some (.int .i64 n.2.2) ∧ w'.cell? ⟨bl, 0, none⟩ = some (.slice vA l.length vc) := fun w' hw => by
        have k1 := (heR.below hw).mb
        have k2 := (heR.below hw).nb
        have k3 := cell_of_one (heR.below hw).lb
        refine ⟨?_, ?_, ?_, ?_, ?_, ?_, k3⟩ <;> simp [World.cell?, k1, k2]
      obtain ⟨m0, m1, m2, n0, n1, n2, -⟩ := hS wr (Below.refl _ _)
      have hNo : ∀ w1, Below wr.heap.size wr w1 → shareStep m n l a s = a → (Found B0 bb bs w1 (shareStep m n l a s) ∧ ShareEnv B0 bm bn bl bx m n l (.slice vA l.length vc) vx w1) ∧ Upd (fun k => k = bb ∨ k = bs) w w1 := fun w1 b1 e => by
        rw [e]; exact ⟨⟨hfR.below b1, heR.below b1⟩, (Upd.of hb).trans (Upd.of b1)⟩
      have hYes : ∀ w1, Below wr.heap.size wr w1 → shareStep m n l a s = (s, costS m n l s) → (Found B0 bb bs ((w1.setCell ⟨bb, 0, none⟩ (.slice (some ⟨ga, 0, none⟩) l.length ca)).setCell ⟨bs, 0, none⟩ (.int .i64 (costS m n l s))) (shareStep m n l a s) ∧ ShareEnv B0 bm bn bl bx m n l (.slice vA l.length vc) vx ((w1.setCell ⟨bb, 0, none⟩ (.slice (some ⟨ga, 0, none⟩) l.length ca)).setCell ⟨bs, 0, none⟩ (.int .i64 (costS m n l s)))) ∧ Upd (fun k => k = bb ∨ k = bs) w ((w1.setCell ⟨bb, 0, none⟩ (.slice (some ⟨ga, 0, none⟩) l.length ca)).setCell ⟨bs, 0, none⟩ (.int .i64 (costS m n l s))) := fun w1 b1 e => by
        rw [e]
        obtain ⟨s1, s2, -, -⟩ := (hfR.below b1).store (hvR.below b1) hB hbb hbs (costS m n l s)
        exact ⟨⟨s1, (heR.below b1).upd s2 hap⟩, ((Upd.of hb).trans (Upd.of b1)).trans s2⟩
      have emax : costS m n l s = max (timeF m l (pickG true 0 s)) (timeF n l (pickG false 0 s)) := rfl
      go_wp2
      all_goals try (exfalso; omega)
      go_region_held3 (fun w' => w'.cell? ⟨bm, 0, none⟩ = some (.int .i64 m.1) ∧ w'.cell? ⟨bm, 1, none⟩ = some (.int .i64 m.2.1) ∧ w'.cell? ⟨bm, 2, none⟩ = some (.int .i64 m.2.2) ∧ w'.cell? ⟨bn, 0, none⟩ = some (.int .i64 n.1) ∧ w'.cell? ⟨bn, 1, none⟩ = some (.int .i64 n.2.1) ∧ w'.cell? ⟨bn, 2, none⟩ = some (.int .i64 n.2.2) ∧ w'.cell? ⟨bl, 0, none⟩ = some (.slice vA l.length vc)) (first | exact hS _ (Below.refl _ _) | exact hS _ (Below.refl _ _).drew | exact hS _ d2 | exact hS _ d1)
        (first
          | (have hd1 := d1; go_at_call 68; refine (t2 _ ?_).mono ?_; exact d1; rintro e w2 ⟨rfl, b2⟩; have d2 : Below wr.heap.size wr w2 := d1.trans (b2.mono d1.size); have f1 := hfR.below d2; have c5 := cell_of_one f1.least; obtain ⟨vb, g1, g2, g3⟩ := f1.best; have c6 := cell_of_one g1; have c7 := free_of_one g1; obtain ⟨-, -, c8, c9⟩ := f1.store (hvR.below d2) hB hbb hbs (costS m n l s))
          | (go_at_call 68; refine (t1 _ ?_).mono ?_; exact (Below.refl _ _).drew; rintro e w1 ⟨rfl, b1⟩; have d1 : Below wr.heap.size wr w1 := (Below.refl _ _).drew.trans b1))
      have emx : (if timeF m l (pickG true 0 s) < timeF n l (pickG false 0 s) then timeF n l (pickG false 0 s) else timeF m l (pickG true 0 s)) = costS m n l s := by
        rw [emax]; split <;> omega
      rw [emx]
      clear emx emax
      generalize hcq : costS m n l s = cq at *
      by_cases h0 : a.2 < 0
      · go_wp2
        all_goals try (exfalso; omega)
        go_end0
        exact ⟨rfl, hYes _ d2 (by rw [shareStep, if_pos (.inl h0), hcq])⟩
      · by_cases h2 : cq < a.2
        · go_wp2
          all_goals try (exfalso; omega)
          go_end0
          exact ⟨rfl, hYes _ d2 (by rw [shareStep, if_pos (.inr (by omega)), hcq])⟩
        · go_wp2
          all_goals try (exfalso; omega)
          go_end0
          exact ⟨rfl, hNo _ d2 (by rw [shareStep, if_neg (by omega)])⟩

/- impl.ShareOfMachines: its closure calls itself. -/
theorem step_append_own {P : Program} {w : World} {ops : Array Oper} {o : Oper} {a : Act} {K : Act → World → Prop} {Q : Exit → Act → World → Prop} {E : Prop} (hgd : o.guard = none) (s x : Operand) (t : TypeId)
    (ho : o.op = .call { callee := .builtin .append, args := #[s, x], argTypes := #[t, t] })
    (base : Nat) (e : TypeId) (i : TypeInfo) (z : Value) (size bytes : Nat) (ht : P.underlying t = some (.slice e)) (hi : P.info? e = some i) (hz : i.zero = some z)
    (hsize : i.size = size) (hby : i.bytes = bytes) (hzs : z.cells.size = size) (hsz : 0 < size)
    (v : Value) (n : Nat) (xs : List Value) (hs : a.eval s = v) (hown : w.ownsRow base e size v n xs)
    (ad : Addr) (m c : Nat) (news : List Value) (hx : a.eval x = .slice (some ad) m c) (hl : news.length = m * size) (hnews : ∀ j u, news[j]? = some u → w.cell? (ad.add j) = some u) (h1 : ∀ u ∈ news, u.oneCell' = true)
    (h63 : n + m ≤ maxLen) (hbytes : (n + m) * bytes ≤ 140737488355328) (hbase : base ≤ w.heap.size)
    (h : ∀ v' w', w'.ownsRow base e size v' (n + m) (xs ++ news) → w.grownBy w' v.ownBlock → (v' = .slice none 0 0 ↔ v = .slice none 0 0 ∧ m = 0) → K (a.put o.dst v') w') :
    if Region.wanted o (yielded ops a.tmps) = true then Oper.wp P o a w K Q else E := by
  have hw : Region.wanted o (yielded ops a.tmps) = true := by simp [Region.wanted, hgd]
  rw [if_pos hw]
  exact wp_append_own w s x t ho base e i z size bytes ht hi hz hsize hby hzs hsz v n xs hs hown ad m c news hx hl hnews h1 h63 hbytes hbase h

theorem own_some1 {w : World} {B : Nat} {v : Value} {s : List Int} {x : Int} (h : OwnI w B v (s ++ [x])) : ∃ g cap, v = .slice (some ⟨g, 0, none⟩) (s.length + 1) cap := by
  obtain ⟨g, cap, cur, rfl, -⟩ := own_some h (by simp)
  exact ⟨g, cap, by rw [List.length_append]; rfl⟩
/-- A list without elements and one of one element, made one behind the other. -/
theorem two_news (w : World) (n : Int) : (Below w.heap.size w (w.alloc (.cells #[] 3)).drew ∧ (w.alloc (.cells #[] 3)).drew.ownsRow w.heap.size 3 1 (.slice (some ⟨w.heap.size, 0, none⟩) 0 0) 0 []) ∧
    (Below w.heap.size w ((w.alloc (.cells #[] 3)).alloc (.cells #[.int .i64 n] 3)).drew ∧ ((w.alloc (.cells #[] 3)).alloc (.cells #[.int .i64 n] 3)).drew.ownsRow w.heap.size 3 1 (.slice (some ⟨w.heap.size, 0, none⟩) 0 0) 0 [] ∧
      ∀ j u, ([Value.int .i64 n] : List Value)[j]? = some u → ((w.alloc (.cells #[] 3)).alloc (.cells #[.int .i64 n] 3)).drew.cell? ((⟨w.heap.size + 1, 0, none⟩ : Addr).add j) = some u) ∧
    (Below w.heap.size w ((w.alloc (.cells #[.int .i64 n] 3)).alloc (.cells #[] 3)).drew ∧ ((w.alloc (.cells #[.int .i64 n] 3)).alloc (.cells #[] 3)).drew.ownsRow w.heap.size 3 1 (.slice (some ⟨w.heap.size + 1, 0, none⟩) 0 0) 0 [] ∧
      ∀ j u, ([Value.int .i64 n] : List Value)[j]? = some u → ((w.alloc (.cells #[.int .i64 n] 3)).alloc (.cells #[] 3)).drew.cell? ((⟨w.heap.size, 0, none⟩ : Addr).add j) = some u) ∧
    Below w.heap.size w (w.alloc (.cells #[.int .i64 n] 3)).drew := by
  have b1 := alloc_below w (.cells #[] 3)
  have b2 := alloc_below w (.cells #[.int .i64 n] 3)
  have s1 : (w.alloc (.cells #[] 3)).heap.size = w.heap.size + 1 := by simp
  have s2 : (w.alloc (.cells #[.int .i64 n] 3)).heap.size = w.heap.size + 1 := by simp
  refine ⟨⟨b1.drew, World.ownsRow_made w #[] 0 (Nat.le_refl _) (Nat.zero_le _) rfl⟩, ⟨(b1.alloc b1.size _).drew, ?_, ?_⟩, ⟨(b2.alloc b2.size _).drew, ?_, ?_⟩, b2.drew⟩
  · exact World.ownsRow.alloc (World.ownsRow_made w #[] 0 (Nat.le_refl _) (Nat.zero_le _) rfl) _
  · have h := new_cell (w.alloc (.cells #[] 3)) n
    rw [s1] at h; exact h
  · have h := World.ownsRow_made (base := w.heap.size) (e := 3) (size := 1) (w.alloc (.cells #[.int .i64 n] 3)) #[] 0 b2.size (Nat.zero_le _) rfl
    rw [s2] at h; exact h
  · intro j u hj
    have h := new_cell w n j u hj
    have e : j = 0 := by
      cases j with
      | zero => rfl
      | succ j => simp at hj
    subst e
    have hb : ((w.alloc (.cells #[.int .i64 n] 3)).alloc (.cells #[] 3)).heap[w.heap.size]? = (w.alloc (.cells #[.int .i64 n] 3)).heap[w.heap.size]? := (alloc_below _ _).block _ (by omega)
    have e2 : ((⟨w.heap.size, 0, none⟩ : Addr).add 0).block = w.heap.size := by unfold Addr.add; split <;> rfl
    exact (World.cell?_of_block (w' := ((w.alloc (.cells #[.int .i64 n] 3)).alloc (.cells #[] 3)).drew) (by rw [e2]; exact hb)).trans h
/-- What is to be appended stays while another row grows. -/
theorem news_kept {w w' : World} {n : Int} {b : Nat} {row : Option Nat} (h : ∀ j u, ([Value.int .i64 n] : List Value)[j]? = some u → w.cell? ((⟨b, 0, none⟩ : Addr).add j) = some u) (hg : w.grownBy w' row) (hne : some b ≠ row) :
    ∀ j u, ([Value.int .i64 n] : List Value)[j]? = some u → w'.cell? ((⟨b, 0, none⟩ : Addr).add j) = some u := by
  intro j u hj
  have e : ((⟨b, 0, none⟩ : Addr).add j).block = b := by unfold Addr.add; split <;> rfl
  exact hg.cell (h j u hj) (by rw [e]; exact hne)
/-- The closure's captured boxes. -/
abbrev shareCap (bl bx bm bn bs bb : Nat) : Array Value := #[.pointer (some ⟨bl, 0, none⟩), .pointer (some ⟨bx, 0, none⟩), .pointer (some ⟨bm, 0, none⟩), .pointer (some ⟨bn, 0, none⟩), .pointer (some ⟨bs, 0, none⟩), .pointer (some ⟨bb, 0, none⟩)]
abbrev shareFn (bl bx bm bn bs bb : Nat) : Value := .func (.func 67) #[] (shareCap bl bx bm bn bs bb)
set_option maxHeartbeats 4000000 in
set_option maxRecDepth 1000000 in
theorem share_step {B0 bb bs bm bn bl bx : Nat} {m n : CMach} {l : List Casting} {vl : Value} (hl : okCs l = true) (B : Nat) (hB : B0 ≤ B) (hbb : bb < B) (hbs : bs < B)
    (w : World) (a a1 a2 : List Int × Int) (s : List Int) (ga ca : Nat) (hf : Found B0 bb bs w a) (he : ShareEnv B0 bm bn bl bx m n l vl (shareFn bl bx bm bn bs bb) w) (hwB : B ≤ w.heap.size) (hv : OwnI w B (.slice (some ⟨ga, 0, none⟩) s.length ca) s)
    (hs : s.length < l.length)
    (ih1 : ∀ (g c : Nat) (W : World), B ≤ W.heap.size → Found B0 bb bs W a → ShareEnv B0 bm bn bl bx m n l vl (shareFn bl bx bm bn bs bb) W → OwnI W B (.slice (some ⟨g, 0, none⟩) (s.length + 1) c) (s ++ [0]) →
      Calls Try.prog 67 #[.slice (some ⟨g, 0, none⟩) (s.length + 1) c, .pointer (some ⟨bl, 0, none⟩), .pointer (some ⟨bx, 0, none⟩), .pointer (some ⟨bm, 0, none⟩), .pointer (some ⟨bn, 0, none⟩), .pointer (some ⟨bs, 0, none⟩), .pointer (some ⟨bb, 0, none⟩)] W fun e w' => e = .returned (.tuple #[]) ∧ (Found B0 bb bs w' a1 ∧ ShareEnv B0 bm bn bl bx m n l vl (shareFn bl bx bm bn bs bb) w') ∧ Upd (fun k => k = bb ∨ k = bs) W w')
    (ih2 : ∀ (g c : Nat) (W : World), B ≤ W.heap.size → Found B0 bb bs W a1 → ShareEnv B0 bm bn bl bx m n l vl (shareFn bl bx bm bn bs bb) W → OwnI W B (.slice (some ⟨g, 0, none⟩) (s.length + 1) c) (s ++ [1]) →
      Calls Try.prog 67 #[.slice (some ⟨g, 0, none⟩) (s.length + 1) c, .pointer (some ⟨bl, 0, none⟩), .pointer (some ⟨bx, 0, none⟩), .pointer (some ⟨bm, 0, none⟩), .pointer (some ⟨bn, 0, none⟩), .pointer (some ⟨bs, 0, none⟩), .pointer (some ⟨bb, 0, none⟩)] W fun e w' => e = .returned (.tuple #[]) ∧ (Found B0 bb bs w' a2 ∧ ShareEnv B0 bm bn bl bx m n l vl (shareFn bl bx bm bn bs bb) w') ∧ Upd (fun k => k = bb ∨ k = bs) W w') :
    Calls Try.prog 67 #[.slice (some ⟨ga, 0, none⟩) s.length ca, .pointer (some ⟨bl, 0, none⟩), .pointer (some ⟨bx, 0, none⟩), .pointer (some ⟨bm, 0, none⟩), .pointer (some ⟨bn, 0, none⟩), .pointer (some ⟨bs, 0, none⟩), .pointer (some ⟨bb, 0, none⟩)] w
      fun e w' => e = .returned (.tuple #[]) ∧ (Found B0 bb bs w' a2 ∧ ShareEnv B0 bm bn bl bx m n l vl (shareFn bl bx bm bn bs bb) w') ∧ Upd (fun k => k = bb ∨ k = bs) w w' := by
  have hap := he.apart hf
  obtain ⟨vA, vc, rfl⟩ := isl_shape he.row
  rw [rows_eq, List.length_map] at *
  have hl8 := okCs_len hl
  obtain ⟨i0, z0, hi, hz0, -, hz1, hz2, hz3, -⟩ := run_zeroValue (envOk 3 _ rfl)
  replace hz1 : i0.size = 1 := hz1
  replace hz2 : i0.bytes = 8 := hz2
  replace hz3 : z0.cells.size = 1 := hz3
  have c2 := cell_of_one he.lb
  have c3 := cell_of_one he.xb
  have k3 : 0 + s.length ≤ maxLen := by unfold maxLen; omega
  have k4 : (0 + s.length) * 8 ≤ 140737488355328 := by omega
  have k8 : 0 + s.length + 1 ≤ maxLen := by unfold maxLen; omega
  have k9 : (0 + s.length + 1) * 8 ≤ 140737488355328 := by omega
  have k6 : (s.map (Value.int .i64)).length = s.length * 1 := by simp
  have hX' : ∀ V, ShareEnv B0 bm bn bl bx m n l (.slice vA l.length vc) (shareFn bl bx bm bn bs bb) V → ∀ W, Below V.heap.size V W → W.cell? ⟨bx, 0, none⟩ = some (Value.func (.func 67) #[] #[.pointer (some ⟨bl, 0, none⟩), .pointer (some ⟨bx, 0, none⟩), .pointer (some ⟨bm, 0, none⟩), .pointer (some ⟨bn, 0, none⟩), .pointer (some ⟨bs, 0, none⟩), .pointer (some ⟨bb, 0, none⟩)]) := fun V hV W hW => cell_of_one (hV.below hW).xb
  have hX : ∀ W, Below w.heap.size w W → W.cell? ⟨bx, 0, none⟩ = some (Value.func (.func 67) #[] #[.pointer (some ⟨bl, 0, none⟩), .pointer (some ⟨bx, 0, none⟩), .pointer (some ⟨bm, 0, none⟩), .pointer (some ⟨bn, 0, none⟩), .pointer (some ⟨bs, 0, none⟩), .pointer (some ⟨bb, 0, none⟩)]) := fun W hW => cell_of_one (he.below hW).xb
  have hSe : ∀ W, Below w.heap.size w W → ∀ j u, (s.map (Value.int .i64))[j]? = some u → W.cell? ((⟨ga, 0, none⟩ : Addr).add j) = some u := fun W hW => (hv.below hW).cells
  have x00 := hX _ (Below.refl _ _)
  have xd0 := hX _ (Below.refl _ _).drew
  obtain ⟨⟨qA0, hA0⟩, ⟨qB0, hB0, nB0⟩, ⟨qC0, hC0, nC0⟩, qD0⟩ := two_news w 0
  have xA0 := hX _ qA0
  have xB0 := hX _ qB0
  have xC0 := hX _ qC0
  have xD0 := hX _ qD0
  go_enter Try.func67, Try.ntmps67
  go_wp2
  all_goals try (exfalso; omega)
  go_region_held3 (fun w' => w'.cell? ⟨bx, 0, none⟩ = some (Value.func (.func 67) #[] #[.pointer (some ⟨bl, 0, none⟩), .pointer (some ⟨bx, 0, none⟩), .pointer (some ⟨bm, 0, none⟩), .pointer (some ⟨bn, 0, none⟩), .pointer (some ⟨bs, 0, none⟩), .pointer (some ⟨bb, 0, none⟩)])) (with_reducible assumption)
    (first
      | (go_at_call 67; refine (ih1 _ _ _ ?_ ?_ ?_ o60).mono ?_; exact Nat.le_trans hwB q60.size; exact hf.below q60; exact he.below q60; rintro e w7 ⟨rfl, e7, u7⟩; have u8 := (Upd.of q60).trans u7; have hv7 := hv.upd u8 (fun k hk => by omega); have hX7 := fun W hW => hX' w7 e7.2 W hW; have hw7 : B ≤ w7.heap.size := Nat.le_trans hwB u8.size; have x01 := hX7 _ (Below.refl _ _); have xd1 := hX7 _ (Below.refl _ _).drew; obtain ⟨⟨qA1, hA1⟩, ⟨qB1, hB1, nB1⟩, ⟨qC1, hC1, nC1⟩, qD1⟩ := two_news w7 1; have xA1 := hX7 _ qA1; have xB1 := hX7 _ qB1; have xC1 := hX7 _ qC1; have xD1 := hX7 _ qD1)
      | (have zf := f4A0; refine step_append_own rfl _ _ 29 rfl w.heap.size 3 i0 z0 1 8 Try.underlying29 hi hz0 hz1 hz2 hz3 (by decide) ?_ (0 + s.length) ([] ++ s.map (.int .i64)) ?_ ?_ ?_ 1 1 [.int .i64 0] ?_ rfl ?_ (new_one _) k8 k9 ?_ ?_; rotate_left 2; (· (with_reducible exact h5A0)); rotate_left 2; (· exact n5A0); (· exact q50.size); rotate_left 1; (· rfl); (· rfl); intro v6 w6 h6 g6 _; have q60 := q50.grown g6 q50.size (fun k hk => (World.ownsRow.lt h5A0 k hk).1); have x60 := hX _ q60; have o60 := own_next2 h6 hwB; obtain ⟨gg0, cc0, rfl⟩ := own_some1 o60)
      | (have zf := f4B0; refine step_append_own rfl _ _ 29 rfl w.heap.size 3 i0 z0 1 8 Try.underlying29 hi hz0 hz1 hz2 hz3 (by decide) ?_ (0 + s.length) ([] ++ s.map (.int .i64)) ?_ ?_ ?_ 1 1 [.int .i64 0] ?_ rfl ?_ (new_one _) k8 k9 ?_ ?_; rotate_left 2; (· (with_reducible exact f4B0)); rotate_left 2; (· exact m4B0); (· exact q40.size); rotate_left 1; (· rfl); (· rfl); intro v6 w6 h6 g6 _; have q60 := q40.grown g6 q40.size (fun k hk => (World.ownsRow.lt f4B0 k hk).1); have x60 := hX _ q60; have o60 := own_next2 h6 hwB; obtain ⟨gg0, cc0, rfl⟩ := own_some1 o60)
      | (have zf := f4C0; refine step_append_own rfl _ _ 29 rfl w.heap.size 3 i0 z0 1 8 Try.underlying29 hi hz0 hz1 hz2 hz3 (by decide) ?_ (0 + s.length) ([] ++ s.map (.int .i64)) ?_ ?_ ?_ 1 1 [.int .i64 0] ?_ rfl ?_ (new_one _) k8 k9 ?_ ?_; rotate_left 2; (· (with_reducible exact f4C0)); rotate_left 2; (· exact m4C0); (· exact q40.size); rotate_left 1; (· rfl); (· rfl); intro v6 w6 h6 g6 _; have q60 := q40.grown g6 q40.size (fun k hk => (World.ownsRow.lt f4C0 k hk).1); have x60 := hX _ q60; have o60 := own_next2 h6 hwB; obtain ⟨gg0, cc0, rfl⟩ := own_some1 o60)
      | (refine step_append_own rfl _ _ 29 rfl w.heap.size 3 i0 z0 1 8 Try.underlying29 hi hz0 hz1 hz2 hz3 (by decide) ?_ 0 [] ?_ ?_ ⟨ga, 0, none⟩ s.length ca (s.map (.int .i64)) rfl k6 ?_ (ints_one _) k3 k4 ?_ ?_; rotate_left 2; (· (with_reducible exact hA0)); (· exact (hv.below qA0).cells); (· exact qA0.size); rotate_left 1; (· rfl); intro v4 w4 h4 g4 _; have f4A0 := h4; have q40 := qA0.grown g4 qA0.size (fun k hk => (World.ownsRow.lt hA0 k hk).1); have x40 := hX _ q40; have q50 : Below w.heap.size w (w4.alloc (.cells #[.int .i64 0] 3)) := q40.alloc q40.size _; have x50 := hX _ q50; have h5A0 := World.ownsRow.alloc h4 (.cells #[.int .i64 0] 3); have n5A0 := new_cell w4 0)
      | (refine step_append_own rfl _ _ 29 rfl w.heap.size 3 i0 z0 1 8 Try.underlying29 hi hz0 hz1 hz2 hz3 (by decide) ?_ 0 [] ?_ ?_ ⟨ga, 0, none⟩ s.length ca (s.map (.int .i64)) rfl k6 ?_ (ints_one _) k3 k4 ?_ ?_; rotate_left 2; (· (with_reducible exact hB0)); (· exact (hv.below qB0).cells); (· exact qB0.size); rotate_left 1; (· rfl); intro v4 w4 h4 g4 _; have f4B0 := h4; have q40 := qB0.grown g4 qB0.size (fun k hk => (World.ownsRow.lt hB0 k hk).1); have x40 := hX _ q40; have m4B0 := news_kept nB0 g4 (by simp [Value.ownBlock]))
      | (refine step_append_own rfl _ _ 29 rfl w.heap.size 3 i0 z0 1 8 Try.underlying29 hi hz0 hz1 hz2 hz3 (by decide) ?_ 0 [] ?_ ?_ ⟨ga, 0, none⟩ s.length ca (s.map (.int .i64)) rfl k6 ?_ (ints_one _) k3 k4 ?_ ?_; rotate_left 2; (· (with_reducible exact hC0)); (· exact (hv.below qC0).cells); (· exact qC0.size); rotate_left 1; (· rfl); intro v4 w4 h4 g4 _; have f4C0 := h4; have q40 := qC0.grown g4 qC0.size (fun k hk => (World.ownsRow.lt hC0 k hk).1); have x40 := hX _ q40; have m4C0 := news_kept nC0 g4 (by simp [Value.ownBlock])))
  all_goals (try go_wp2)
  all_goals
    go_region_held3 (fun w' => w'.cell? ⟨bx, 0, none⟩ = some (Value.func (.func 67) #[] #[.pointer (some ⟨bl, 0, none⟩), .pointer (some ⟨bx, 0, none⟩), .pointer (some ⟨bm, 0, none⟩), .pointer (some ⟨bn, 0, none⟩), .pointer (some ⟨bs, 0, none⟩), .pointer (some ⟨bb, 0, none⟩)])) (with_reducible assumption)
      (first
        | (go_at_call 67; refine (ih2 _ _ _ ?_ ?_ ?_ o61).mono ?_; exact Nat.le_trans hw7 q61.size; exact e7.1.below q61; exact e7.2.below q61; rintro e w9 ⟨rfl, e9, u9⟩; have x9 := hX' _ e9.2 _ (Below.refl _ _); have u10 := (u8.trans (Upd.of q61)).trans u9)
        | (have zf := f4A1; refine step_append_own rfl _ _ 29 rfl w7.heap.size 3 i0 z0 1 8 Try.underlying29 hi hz0 hz1 hz2 hz3 (by decide) ?_ (0 + s.length) ([] ++ s.map (.int .i64)) ?_ ?_ ?_ 1 1 [.int .i64 1] ?_ rfl ?_ (new_one _) k8 k9 ?_ ?_; rotate_left 2; (· (with_reducible exact h5A1)); rotate_left 2; (· exact n5A1); (· exact q51.size); rotate_left 1; (· rfl); (· rfl); intro v6 w6 h6 g6 _; have q61 := q51.grown g6 q51.size (fun k hk => (World.ownsRow.lt h5A1 k hk).1); have x61 := hX7 _ q61; have o61 := own_next2 h6 hw7; obtain ⟨gg1, cc1, rfl⟩ := own_some1 o61)
        | (have zf := f4B1; refine step_append_own rfl _ _ 29 rfl w7.heap.size 3 i0 z0 1 8 Try.underlying29 hi hz0 hz1 hz2 hz3 (by decide) ?_ (0 + s.length) ([] ++ s.map (.int .i64)) ?_ ?_ ?_ 1 1 [.int .i64 1] ?_ rfl ?_ (new_one _) k8 k9 ?_ ?_; rotate_left 2; (· (with_reducible exact f4B1)); rotate_left 2; (· exact m4B1); (· exact q41.size); rotate_left 1; (· rfl); (· rfl); intro v6 w6 h6 g6 _; have q61 := q41.grown g6 q41.size (fun k hk => (World.ownsRow.lt f4B1 k hk).1); have x61 := hX7 _ q61; have o61 := own_next2 h6 hw7; obtain ⟨gg1, cc1, rfl⟩ := own_some1 o61)
        | (have zf := f4C1; refine step_append_own rfl _ _ 29 rfl w7.heap.size 3 i0 z0 1 8 Try.underlying29 hi hz0 hz1 hz2 hz3 (by decide) ?_ (0 + s.length) ([] ++ s.map (.int .i64)) ?_ ?_ ?_ 1 1 [.int .i64 1] ?_ rfl ?_ (new_one _) k8 k9 ?_ ?_; rotate_left 2; (· (with_reducible exact f4C1)); rotate_left 2; (· exact m4C1); (· exact q41.size); rotate_left 1; (· rfl); (· rfl); intro v6 w6 h6 g6 _; have q61 := q41.grown g6 q41.size (fun k hk => (World.ownsRow.lt f4C1 k hk).1); have x61 := hX7 _ q61; have o61 := own_next2 h6 hw7; obtain ⟨gg1, cc1, rfl⟩ := own_some1 o61)
        | (refine step_append_own rfl _ _ 29 rfl w7.heap.size 3 i0 z0 1 8 Try.underlying29 hi hz0 hz1 hz2 hz3 (by decide) ?_ 0 [] ?_ ?_ ⟨ga, 0, none⟩ s.length ca (s.map (.int .i64)) rfl k6 ?_ (ints_one _) k3 k4 ?_ ?_; rotate_left 2; (· (with_reducible exact hA1)); (· exact (hv7.below qA1).cells); (· exact qA1.size); rotate_left 1; (· rfl); intro v4 w4 h4 g4 _; have f4A1 := h4; have q41 := qA1.grown g4 qA1.size (fun k hk => (World.ownsRow.lt hA1 k hk).1); have x41 := hX7 _ q41; have q51 : Below w7.heap.size w7 (w4.alloc (.cells #[.int .i64 1] 3)) := q41.alloc q41.size _; have x51 := hX7 _ q51; have h5A1 := World.ownsRow.alloc h4 (.cells #[.int .i64 1] 3); have n5A1 := new_cell w4 1)
        | (refine step_append_own rfl _ _ 29 rfl w7.heap.size 3 i0 z0 1 8 Try.underlying29 hi hz0 hz1 hz2 hz3 (by decide) ?_ 0 [] ?_ ?_ ⟨ga, 0, none⟩ s.length ca (s.map (.int .i64)) rfl k6 ?_ (ints_one _) k3 k4 ?_ ?_; rotate_left 2; (· (with_reducible exact hB1)); (· exact (hv7.below qB1).cells); (· exact qB1.size); rotate_left 1; (· rfl); intro v4 w4 h4 g4 _; have f4B1 := h4; have q41 := qB1.grown g4 qB1.size (fun k hk => (World.ownsRow.lt hB1 k hk).1); have x41 := hX7 _ q41; have m4B1 := news_kept nB1 g4 (by simp [Value.ownBlock]))
        | (refine step_append_own rfl _ _ 29 rfl w7.heap.size 3 i0 z0 1 8 Try.underlying29 hi hz0 hz1 hz2 hz3 (by decide) ?_ 0 [] ?_ ?_ ⟨ga, 0, none⟩ s.length ca (s.map (.int .i64)) rfl k6 ?_ (ints_one _) k3 k4 ?_ ?_; rotate_left 2; (· (with_reducible exact hC1)); (· exact (hv7.below qC1).cells); (· exact qC1.size); rotate_left 1; (· rfl); intro v4 w4 h4 g4 _; have f4C1 := h4; have q41 := qC1.grown g4 qC1.size (fun k hk => (World.ownsRow.lt hC1 k hk).1); have x41 := hX7 _ q41; have m4C1 := news_kept nC1 g4 (by simp [Value.ownBlock])))
  all_goals (try go_wp2)
  all_goals (first | go_end0 | ((try simp only [Exit.inBlock, Exit.then]); refine bodyPost_ret (results_none rfl _ _ _) rfl ?_))
  all_goals exact ⟨rfl, e9, u10⟩

/- The contract of impl.ShareOfMachines. -/

theorem share_go {B0 bb bs bm bn bl bx : Nat} {m n : CMach} {l : List Casting} {vl : Value} (hm : okM m = true) (hn : okM n = true) (hl : okCs l = true) (B : Nat) (hB : B0 ≤ B) (hbb : bb < B) (hbs : bs < B) :
    ∀ (k : Nat) (s : List Int) (w : World) (a : List Int × Int) (ga ca : Nat), s.length + k = l.length → (∀ x ∈ s, x = 0 ∨ x = 1) → B ≤ w.heap.size → Found B0 bb bs w a → ShareEnv B0 bm bn bl bx m n l vl (shareFn bl bx bm bn bs bb) w → OwnI w B (.slice (some ⟨ga, 0, none⟩) s.length ca) s →
      Calls Try.prog 67 #[.slice (some ⟨ga, 0, none⟩) s.length ca, .pointer (some ⟨bl, 0, none⟩), .pointer (some ⟨bx, 0, none⟩), .pointer (some ⟨bm, 0, none⟩), .pointer (some ⟨bn, 0, none⟩), .pointer (some ⟨bs, 0, none⟩), .pointer (some ⟨bb, 0, none⟩)] w
        fun e w' => e = .returned (.tuple #[]) ∧ (Found B0 bb bs w' ((sharesFrom k s).foldl (shareStep m n l) a) ∧ ShareEnv B0 bm bn bl bx m n l vl (shareFn bl bx bm bn bs bb) w') ∧ Upd (fun k => k = bb ∨ k = bs) w w'
  | 0, s, w, a, ga, ca, hk, hx, hw, hf, he, hv => by
    have hs : s.length = l.length := by omega
    have e : sharesFrom 0 s = [s] := by simp [sharesFrom, sharesL]
    rw [e]
    rw [hs] at hv ⊢
    exact share_leaf hm hn hl w a s ⟨ga, 0, none⟩ ca hf he B hB hbb hbs hv hs hx
  | k + 1, s, w, a, ga, ca, hk, hx, hw, hf, he, hv => by
    rw [sharesFrom_succ, List.foldl_append]
    refine share_step hl B hB hbb hbs w a ((sharesFrom k (s ++ [0])).foldl (shareStep m n l) a) ((sharesFrom k (s ++ [1])).foldl (shareStep m n l) ((sharesFrom k (s ++ [0])).foldl (shareStep m n l) a)) s ga ca hf he hw hv (by omega) (fun g c W hW hf he hv => ?_) (fun g c W hW hf he hv => ?_)
    · have e : s.length + 1 = (s ++ [0]).length := by simp
      rw [e] at hv ⊢
      exact share_go hm hn hl B hB hbb hbs k (s ++ [0]) W a g c (by simp; omega) (fun x h => by rcases List.mem_append.1 h with h | h; exact hx x h; exact .inl (by simpa using h)) hW hf he hv
    · have e : s.length + 1 = (s ++ [1]).length := by simp
      rw [e] at hv ⊢
      exact share_go hm hn hl B hB hbb hbs k (s ++ [1]) W _ g c (by simp; omega) (fun x h => by rcases List.mem_append.1 h with h | h; exact hx x h; exact .inr (by simpa using h)) hW hf he hv

def shareAns (m n : CMach) (l : List Casting) : List Int × Int × Bool := if okM m && (okM n && okCs l) then ((shareF m n l).1, (shareF m n l).2, true) else ([], 0, false)

/-- What stands ready: the boxes of what is found, a box that holds the closure. -/
theorem share_ready {B0 : Nat} {w : World} (hb0 : B0 ≤ w.heap.size) {m n : CMach} {l : List Casting} {vl : Value} {bm bn bl : Nat}
    (h1 : w.heap[bm]? = some (.cells #[.int .i64 m.1, .int .i64 m.2.1, .int .i64 m.2.2] 25 (0, 0))) (h2 : w.heap[bn]? = some (.cells #[.int .i64 n.1, .int .i64 n.2.1, .int .i64 n.2.2] 25 (0, 0)))
    (h3 : w.heap[bl]? = some (.cells #[vl] 26 (0, 0))) (hv : RepI w (fun k => k < B0) (.isl 2 (rows cCasting l)) vl) (F : Value) :
    ((((w.alloc (.cells #[] 3)).alloc (.cells #[.slice (some ⟨w.heap.size, 0, none⟩) 0 0] 29)).alloc (.cells #[.int .i64 (-1)] 3)).alloc (.cells #[.nilFunc] 85)).cell? ⟨w.heap.size + 1 + 1 + 1, 0, none⟩ = some .nilFunc ∧ ((((w.alloc (.cells #[] 3)).alloc (.cells #[.slice (some ⟨w.heap.size, 0, none⟩) 0 0] 29)).alloc (.cells #[.int .i64 (-1)] 3)).alloc (.cells #[.nilFunc] 85)).frozen? ⟨w.heap.size + 1 + 1 + 1, 0, none⟩ = false ∧
    ((((w.alloc (.cells #[] 3)).alloc (.cells #[.slice (some ⟨w.heap.size, 0, none⟩) 0 0] 29)).alloc (.cells #[.int .i64 (-1)] 3)).alloc (.cells #[F] 85)).cell? ⟨w.heap.size + 1 + 1 + 1, 0, none⟩ = some F ∧
    Found B0 (w.heap.size + 1) (w.heap.size + 1 + 1) (((((w.alloc (.cells #[] 3)).alloc (.cells #[.slice (some ⟨w.heap.size, 0, none⟩) 0 0] 29)).alloc (.cells #[.int .i64 (-1)] 3)).alloc (.cells #[F] 85)).alloc (.cells #[] 3)) ([], -1) ∧
    ShareEnv B0 bm bn bl (w.heap.size + 1 + 1 + 1) m n l vl F (((((w.alloc (.cells #[] 3)).alloc (.cells #[.slice (some ⟨w.heap.size, 0, none⟩) 0 0] 29)).alloc (.cells #[.int .i64 (-1)] 3)).alloc (.cells #[F] 85)).alloc (.cells #[] 3)) ∧
    Below w.heap.size w (((((w.alloc (.cells #[] 3)).alloc (.cells #[.slice (some ⟨w.heap.size, 0, none⟩) 0 0] 29)).alloc (.cells #[.int .i64 (-1)] 3)).alloc (.cells #[F] 85)).alloc (.cells #[] 3)) ∧ (((((w.alloc (.cells #[] 3)).alloc (.cells #[.slice (some ⟨w.heap.size, 0, none⟩) 0 0] 29)).alloc (.cells #[.int .i64 (-1)] 3)).alloc (.cells #[F] 85)).alloc (.cells #[] 3)).heap.size = w.heap.size + 5 ∧
    OwnI (((((w.alloc (.cells #[] 3)).alloc (.cells #[.slice (some ⟨w.heap.size, 0, none⟩) 0 0] 29)).alloc (.cells #[.int .i64 (-1)] 3)).alloc (.cells #[F] 85)).alloc (.cells #[] 3)) (w.heap.size + 4) (.slice (some ⟨w.heap.size + 1 + 1 + 1 + 1, 0, none⟩) 0 0) [] := by
  obtain ⟨f1, f2, f3⟩ := found_ready hb0
  generalize ((w.alloc (.cells #[] 3)).alloc (.cells #[.slice (some ⟨w.heap.size, 0, none⟩) 0 0] 29)).alloc (.cells #[.int .i64 (-1)] 3) = X at f1 f2 f3 ⊢
  have q0 := alloc_below X (.cells #[.nilFunc] 85)
  have s0 : (X.alloc (.cells #[.nilFunc] 85)).heap.size = w.heap.size + 4 := by rw [World.size_alloc, f3]
  have x0 : (X.alloc (.cells #[.nilFunc] 85)).heap[w.heap.size + 1 + 1 + 1]? = some (.cells #[.nilFunc] 85 (0, 0)) := by
    rw [show w.heap.size + 1 + 1 + 1 = X.heap.size by omega]; exact heap_alloc_new X _
  have q1 := alloc_below X (.cells #[F] 85)
  have s1 : (X.alloc (.cells #[F] 85)).heap.size = w.heap.size + 4 := by rw [World.size_alloc, f3]
  have x1 : (X.alloc (.cells #[F] 85)).heap[w.heap.size + 1 + 1 + 1]? = some (.cells #[F] 85 (0, 0)) := by
    rw [show w.heap.size + 1 + 1 + 1 = X.heap.size by omega]; exact heap_alloc_new X _
  have d1 := f1.below q1
  have b1 := f2.trans (q1.mono f2.size)
  refine ⟨cell_of_one x0, free_of_one x0, cell_of_one x1, ?_⟩
  generalize X.alloc (.cells #[F] 85) = Y at q1 s1 x1 d1 b1 ⊢
  have q2 := alloc_below Y (.cells #[] 3)
  have b2 : Below w.heap.size w (Y.alloc (.cells #[] 3)) := b1.trans (q2.mono b1.size)
  have r := own_new Y (B := w.heap.size + 4) (by omega)
  rw [s1] at r
  have kp : ∀ {k : Nat} {o : Obj}, w.heap[k]? = some o → (Y.alloc (.cells #[] 3)).heap[k]? = some o := fun {k o} ho => by rw [b2.block k (Array.getElem?_eq_some_iff.1 ho).1]; exact ho
  refine ⟨d1.below q2, ⟨kp h1, kp h2, kp h3, ?_, hv.mono fun g hg => ⟨hg, b2.block g (by omega)⟩, by rw [World.size_alloc]; omega⟩, b2, by rw [World.size_alloc, s1], r⟩
  rw [q2.block _ (by omega)]; exact x1

set_option maxHeartbeats 4000000 in
set_option maxRecDepth 1000000 in
theorem share_walk (m n : CMach) (l : List Casting) (hw1 : IntKind.i64.wrap m.1 = m.1) (hw2 : IntKind.i64.wrap m.2.1 = m.2.1) (hw3 : IntKind.i64.wrap m.2.2 = m.2.2) (hu1 : IntKind.i64.wrap n.1 = n.1) (hu2 : IntKind.i64.wrap n.2.1 = n.2.1) (hu3 : IntKind.i64.wrap n.2.2 = n.2.2) (vl : Value) (w : World) (I : Nat → Prop) (hI : InR w I) (hv : RepI w I (.isl 2 (rows cCasting l)) vl) :
    Calls Try.prog 9 #[.agg #[.int .i64 m.1, .int .i64 m.2.1, .int .i64 m.2.2], .agg #[.int .i64 n.1, .int .i64 n.2.1, .int .i64 n.2.2], vl] w fun e w' => ∃ v, e = .returned (.tuple #[v, .int .i64 (shareAns m n l).2.1, .bool (shareAns m n l).2.2]) ∧ Below w.heap.size w w' ∧ OwnI w' w.heap.size v (shareAns m n l).1 := by
  obtain ⟨vA, vc, rfl⟩ := isl_shape hv
  rw [rows_eq, List.length_map] at hv ⊢
  have hmf : ∀ (fn : Fn) (first cap : Array Value) (w : World), (Instr.makeFunc fn first cap).run Try.prog w = .ok (.func fn first cap) w := fun _ _ _ _ => rfl
  have hsf := fun (a : Addr) (c : Array Value) (w : World) => run_store Try.prog w a (.func (.func 67) #[] c) .plain rfl
  let W1 : World := w.alloc (.cells #[.int .i64 m.1, .int .i64 m.2.1, .int .i64 m.2.2] 25)
  let W2 : World := W1.alloc (.cells #[.int .i64 n.1, .int .i64 n.2.1, .int .i64 n.2.2] 25)
  let W3 : World := W2.alloc (.cells #[.slice vA l.length vc] 26)
  have s1 : W1.heap.size = w.heap.size + 1 := by simp [W1]
  have s2 : W2.heap.size = w.heap.size + 2 := by simp [W2, s1]
  have hsz : W3.heap.size = w.heap.size + 3 := by simp [W3, s2]
  have q1 : Below w.heap.size w W1 := (Below.refl _ _).alloc (Nat.le_refl _) _
  have q2 : Below W1.heap.size W1 W2 := (Below.refl _ _).alloc (Nat.le_refl _) _
  have q3 : Below W2.heap.size W2 W3 := (Below.refl _ _).alloc (Nat.le_refl _) _
  have b3 : Below w.heap.size w W3 := (q1.trans (q2.mono q1.size)).trans (q3.mono (by omega))
  have e1 : W3.heap[w.heap.size]? = some (.cells #[.int .i64 m.1, .int .i64 m.2.1, .int .i64 m.2.2] 25 (0, 0)) := by
    rw [q3.block _ (by omega), q2.block _ (by omega)]; exact heap_alloc_new w _
  have e2 : W3.heap[w.heap.size + 1]? = some (.cells #[.int .i64 n.1, .int .i64 n.2.1, .int .i64 n.2.2] 25 (0, 0)) := by
    rw [q3.block _ (by omega), ← s1]; exact heap_alloc_new W1 _
  have e3 : W3.heap[w.heap.size + 1 + 1]? = some (.cells #[.slice vA l.length vc] 26 (0, 0)) := by
    rw [show w.heap.size + 1 + 1 = W2.heap.size by omega]; exact heap_alloc_new W2 _
  have hA : ∀ W : World, Calls Try.prog 27 #[.agg #[.int .i64 m.1, .int .i64 m.2.1, .int .i64 m.2.2]] W fun e w' => e = .returned (.bool (okM m)) ∧ Below W.heap.size W w' := fun W =>
    calls_bool (IsMachine_ok m) (inr_all W) (vs := [.agg #[.int .i64 m.1, .int .i64 m.2.1, .int .i64 m.2.2]]) (All2.cons (.agg (cMachine m) [.int .i64 m.1, .int .i64 m.2.1, .int .i64 m.2.2] (.cons (.int _ _ hw1) (.cons (.int _ _ hw2) (.cons (.int _ _ hw3) .nil)))) .nil)
  have hA2 : ∀ W : World, Calls Try.prog 27 #[.agg #[.int .i64 n.1, .int .i64 n.2.1, .int .i64 n.2.2]] W fun e w' => e = .returned (.bool (okM n)) ∧ Below W.heap.size W w' := fun W =>
    calls_bool (IsMachine_ok n) (inr_all W) (vs := [.agg #[.int .i64 n.1, .int .i64 n.2.1, .int .i64 n.2.2]]) (All2.cons (.agg (cMachine n) [.int .i64 n.1, .int .i64 n.2.1, .int .i64 n.2.2] (.cons (.int _ _ hu1) (.cons (.int _ _ hu2) (.cons (.int _ _ hu3) .nil)))) .nil)
  have hC : ∀ W : World, Below w.heap.size w W → Calls Try.prog 28 #[.slice vA l.length vc] W fun e w' => e = .returned (.bool (okCs l)) ∧ Below W.heap.size W w' := fun W hW =>
    calls_bool (AreCastings_ok l) (inr_all W) (vs := [.slice vA l.length vc]) (All2.cons (.one (by rw [rows_eq]; exact hv.mono fun g hg => ⟨Nat.lt_of_lt_of_le (hI.1 g hg) hW.size, hW.block g (hI.1 g hg)⟩)) .nil)
  have hv' : RepI w (fun k => k < w.heap.size) (.isl 2 (rows cCasting l)) (.slice vA l.length vc) := by rw [rows_eq]; exact hv.mono fun g hg => ⟨hI.1 g hg, rfl⟩
  have K : ∀ W : World, Below W3.heap.size W3 W → W.heap[w.heap.size]? = some (.cells #[.int .i64 m.1, .int .i64 m.2.1, .int .i64 m.2.2] 25 (0, 0)) ∧ W.heap[w.heap.size + 1]? = some (.cells #[.int .i64 n.1, .int .i64 n.2.1, .int .i64 n.2.2] 25 (0, 0)) ∧ W.heap[w.heap.size + 1 + 1]? = some (.cells #[.slice vA l.length vc] 26 (0, 0)) ∧
      W.cell? ⟨w.heap.size + 1, 0, none⟩ = some (.int .i64 n.1) ∧ W.cell? ⟨w.heap.size + 1, 1, none⟩ = some (.int .i64 n.2.1) ∧ W.cell? ⟨w.heap.size + 1, 2, none⟩ = some (.int .i64 n.2.2) ∧ W.cell? ⟨w.heap.size + 1 + 1, 0, none⟩ = some (.slice vA l.length vc) := by
    intro W hW
    have a1 := (hW.block w.heap.size (by omega)).trans e1
    have a2 := (hW.block (w.heap.size + 1) (by omega)).trans e2
    have a3 := (hW.block (w.heap.size + 1 + 1) (by omega)).trans e3
    refine ⟨a1, a2, a3, ?_, ?_, ?_, cell_of_one a3⟩ <;> simp [World.cell?, a2]
  cases hM : okM m
  · rw [hM] at hA
    have ha : shareAns m n l = ([], 0, false) := by rw [shareAns, hM]; rfl
    go_enter Try.func9, Try.ntmps9
    go_wp2_with (go_at_call 27; refine (hA _).mono ?_; rintro e w4 ⟨rfl, b4⟩)
    go_ret3
    rw [ha]
    have c4 := b3.trans (b4.mono b3.size)
    exact ⟨_, rfl, c4.alloc c4.size _, own_new _ c4.size⟩
  · rw [hM] at hA
    cases hO : okM n
    · rw [hO] at hA2
      have ha : shareAns m n l = ([], 0, false) := by rw [shareAns, hM, hO]; rfl
      go_enter Try.func9, Try.ntmps9
      go_wp2_with (go_at_call 27; first | (have hc4 := c4; go_must (refine (hA2 _).mono ?_; rintro e w5 ⟨rfl, b5⟩; have c5 := c4.trans (b5.mono c4.size))) | (go_must (refine (hA _).mono ?_; rintro e w4 ⟨rfl, b4⟩; obtain ⟨k1, k2, k3, k4, k5, k6, k7⟩ := K w4 b4; have c4 := b3.trans (b4.mono b3.size))))
      go_ret3
      rw [ha]
      exact ⟨_, rfl, c5.alloc c5.size _, own_new _ c5.size⟩
    · rw [hO] at hA2
      cases hP : okCs l
      · rw [hP] at hC
        have ha : shareAns m n l = ([], 0, false) := by rw [shareAns, hM, hO, hP]; rfl
        go_enter Try.func9, Try.ntmps9
        go_wp2_with (first
          | (go_at_call 28; go_must (refine (hC _ c5).mono ?_; rintro e w6 ⟨rfl, b6⟩; have c6 := c5.trans (b6.mono c5.size)))
          | (go_at_call 27; first | (have hc4 := c4; go_must (refine (hA2 _).mono ?_; rintro e w5 ⟨rfl, b5⟩; have c5 := c4.trans (b5.mono c4.size); have d5 := b4.trans (b5.mono b4.size); obtain ⟨j1, j2, j3, j4, j5, j6, j7⟩ := K w5 d5)) | (go_must (refine (hA _).mono ?_; rintro e w4 ⟨rfl, b4⟩; obtain ⟨k1, k2, k3, k4, k5, k6, k7⟩ := K w4 b4; have c4 := b3.trans (b4.mono b3.size)))))
        go_ret3
        rw [ha]
        exact ⟨_, rfl, c6.alloc c6.size _, own_new _ c6.size⟩
      · rw [hP] at hC
        have ha : shareAns m n l = ((shareF m n l).1, (shareF m n l).2, true) := by rw [shareAns, hM, hO, hP]; rfl
        go_enter Try.func9, Try.ntmps9
        go_wp2_with (first
          | (go_at_call 28; go_must (refine (hC _ c5).mono ?_; rintro e w6 ⟨rfl, b6⟩; have c6 := c5.trans (b6.mono c5.size); have d6 := d5.trans (b6.mono d5.size); obtain ⟨i1, i2, i3, -⟩ := K w6 d6; obtain ⟨r1, r2, r3, r4, r5, r6, r7, r8⟩ := share_ready c6.size i1 i2 i3 (hv'.mono fun g hg => ⟨hg, c6.block g hg⟩) (.func (.func 67) #[] #[.pointer (some ⟨w.heap.size + 1 + 1, 0, none⟩), .pointer (some ⟨w6.heap.size + 1 + 1 + 1, 0, none⟩), .pointer (some ⟨w.heap.size, 0, none⟩), .pointer (some ⟨w.heap.size + 1, 0, none⟩), .pointer (some ⟨w6.heap.size + 1 + 1, 0, none⟩), .pointer (some ⟨w6.heap.size + 1, 0, none⟩)])))
          | (go_at_call 67; go_must (refine (share_go hM hO hP (w6.heap.size + 4) (by have := c6.size; omega) (by omega) (by omega) l.length [] _ ([], -1) _ _ (by simp) (fun x h => by cases h) (by omega) r4 r5 r8).mono ?_; rintro e w9 ⟨rfl, ⟨f9, -⟩, u9⟩; obtain ⟨vb, h9, o9, -⟩ := f9.best; have n9 := cell_of_one h9; have m9 := cell_of_one f9.least))
          | (go_at_call 27; first | (have hc4 := c4; go_must (refine (hA2 _).mono ?_; rintro e w5 ⟨rfl, b5⟩; have c5 := c4.trans (b5.mono c4.size); have d5 := b4.trans (b5.mono b4.size); obtain ⟨j1, j2, j3, j4, j5, j6, j7⟩ := K w5 d5)) | (go_must (refine (hA _).mono ?_; rintro e w4 ⟨rfl, b4⟩; obtain ⟨k1, k2, k3, k4, k5, k6, k7⟩ := K w4 b4; have c4 := b3.trans (b4.mono b3.size)))))
        go_region
        all_goals (try go_wp2)
        go_ret3
        have eF : (sharesFrom l.length []).foldl (shareStep m n l) ([], -1) = shareF m n l := by rw [shareF, sharesFrom]; congr 1; exact (List.map_congr_left (g := id) fun x _ => by simp).trans (List.map_id _)
        rw [eF] at o9
        rw [ha, eF]
        refine ⟨vb, rfl, ((c6.trans (r6.mono c6.size)).trans (u9.below (B := w.heap.size) (by have := c6.size; omega) fun k hk => by have := c6.size; omega)).drew, o9.below (Below.refl _ _).drew⟩
theorem shareAns_wrap (m n : CMach) (l : List Casting) : (∀ x ∈ (shareAns m n l).1, IntKind.i64.wrap x = x) ∧ IntKind.i64.wrap (shareAns m n l).2.1 = (shareAns m n l).2.1 := by
  unfold shareAns
  split
  · rename_i h
    simp only [Bool.and_eq_true] at h
    obtain ⟨h1, h2, h3, h4⟩ := shareF_spec h.1 h.2.1 (okAll_of h.2.2)
    obtain ⟨h5, h6⟩ := shares_len _ _ h1
    refine ⟨fun x hx => by rcases h6 x hx with rfl | rfl <;> decide, ?_⟩
    show IntKind.i64.wrap (shareF m n l).2 = (shareF m n l).2
    have hask : askB m l (upto l.length) = true := by rw [askB, h.1, h.2.2, fineB_diff.2 (upto_diff _).1]; rfl
    have h7 : timeF m l (upto l.length) ≤ 56000000 := by
      rw [timeF, lastG_last]
      cases e : (endsG m l m.1 0 (upto l.length)).getLast? with
      | none => simp
      | some x => exact ((ends_fits hask).2.1 x (List.mem_of_getLast? e)).2
    have h8 := costS_pos (m := m) (n := n) h.1 (okAll_of h.2.2) (shareF m n l).1
    rw [← h2] at h8
    exact wrap64 (by omega) (by omega)
  · exact ⟨(fun x hx => by cases hx), rfl⟩
theorem ShareOfMachines_ok (m n : CMach) (l : List Casting) : OkA Try.prog 9 [.agg (cMachine m), .agg (cMachine n), .isl 2 (rows cCasting l)] (· = lic 3 1 cInt (shareAns m n l)) := by
  refine ⟨⟨_, Try.func9, rfl, rfl⟩, fun w I vs hI hargs => ?_⟩
  obtain ⟨us, rfl, h2, a1, a2, a3⟩ := mach_args hargs
  obtain ⟨us, rfl, h3, a4, a5, a6⟩ := mach_args h2
  obtain ⟨vl, us, rfl, h4, hv⟩ := one_args (fun cs e => by cases e) h3
  obtain rfl := nil_args h4
  refine (share_walk m n l a1 a2 a3 a4 a5 a6 vl w I hI hv).mono ?_
  rintro e w' ⟨v, rfl, hb, ho⟩
  obtain ⟨h1, h2⟩ := shareAns_wrap m n l
  exact ⟨_, lic 3 1 cInt (shareAns m n l), _, rfl, rfl, hb, lic_rep ho h1 h2⟩

end Go.Proofs.Ytjmjepdlclehoaa.Ai
