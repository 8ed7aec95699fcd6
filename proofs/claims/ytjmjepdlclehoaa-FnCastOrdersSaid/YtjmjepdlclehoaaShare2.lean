/- impl.ShareOfMachines: its closure at a whole share. -/
import Derived.Test.YtjmjepdlclehoaaShare
import Derived.Deep.RegionHeld3
namespace Go.Proofs.Ytjmjepdlclehoaa.Ai
open Go Go.Proofs Go.RowKit
set_option linter.unusedSimpArgs false
set_option linter.unusedVariables false

theorem pick_fine (z : Bool) {s : List Int} {n : Nat} (h : s.length ≤ n) : fineB n (pickG z 0 s) = true := by
  obtain ⟨h1, h2⟩ := pick_diff z s 0
  exact fineB_iff.2 ⟨h1, fun x hx => by have := h2 x hx; omega⟩
theorem fine_wrap {l : List Casting} (hl : okCs l = true) {o : List Int} (h : fineB l.length o = true) : ∀ x ∈ o, IntKind.i64.wrap x = x := diff_wrap hl (fineB_diff.1 h)
theorem vM_args {m : CMach} (hm : okM m = true) {w : World} {I : Nat → Prop} : RepArg w I (.agg (cMachine m)) (.agg #[.int .i64 m.1, .int .i64 m.2.1, .int .i64 m.2.2]) := by
  have mq := okM_spec hm
  exact .agg (cMachine m) [.int .i64 m.1, .int .i64 m.2.1, .int .i64 m.2.2] (.cons (.int _ _ (wrap64 (by omega) (by omega))) (.cons (.int _ _ (wrap64 (by omega) (by omega))) (.cons (.int _ _ (wrap64 (by omega) (by omega))) .nil)))
theorem time_calls2 {m : CMach} {l : List Casting} (hm : okM m = true) (hl : okCs l = true) {w : World} {I : Nat → Prop} {B : Nat} {vl v : Value} {o : List Int} (hv : RepI w I (.isl 2 (rows cCasting l)) vl) (hI : ∀ g, I g → g < w.heap.size) (ho : OwnI w B v o) (hd : fineB l.length o = true) :
    ∀ W : World, Below w.heap.size w W → Calls Try.prog 68 #[.agg #[.int .i64 m.1, .int .i64 m.2.1, .int .i64 m.2.2], vl, v] W fun e w' => e = .returned (.int .i64 (timeF m l o)) ∧ Below W.heap.size W w' := by
  intro W hW
  have r1 : RepI W (fun k => k < W.heap.size) (.isl 2 (rows cCasting l)) vl := hv.mono fun g hg => ⟨Nat.lt_of_lt_of_le (hI g hg) hW.size, hW.block g (hI g hg)⟩
  have r2 : RepI W (fun k => k < W.heap.size) (.isl 1 (rows cInt o)) v := (ho.below hW).rep (fine_wrap hl hd)
  exact calls_int (time_ok m l o hm hl hd) (inr_all W) (vs := [.agg #[.int .i64 m.1, .int .i64 m.2.1, .int .i64 m.2.2], vl, v]) (All2.cons (vM_args hm) (All2.cons (.one r1) (All2.cons (.one r2) .nil)))

set_option maxHeartbeats 4000000 in
set_option maxRecDepth 1000000 in
theorem share_leaf {B0 bb bs bm bn bl bx : Nat} {m n : CMach} {l : List Casting} {vl vx : Value} (hm : okM m = true) (hn : okM n = true) (hl : okCs l = true) (w : World) (a : List Int × Int) (s : List Int) (ga : Addr) (ca : Nat) (hf : Found B0 bb bs w a) (he : ShareEnv B0 bm bn bl bx m n l vl vx w) (B : Nat) (hB : B0 ≤ B) (hbb : bb < B) (hbs : bs < B) (hv : OwnI w B (.slice (some ga) l.length ca) s)
    (hs : s.length = l.length) (hx : ∀ x ∈ s, x = 0 ∨ x = 1) :
    Calls Try.prog 67 #[.slice (some ga) l.length ca, .pointer (some ⟨bl, 0, none⟩), .pointer (some ⟨bx, 0, none⟩), .pointer (some ⟨bm, 0, none⟩), .pointer (some ⟨bn, 0, none⟩), .pointer (some ⟨bs, 0, none⟩), .pointer (some ⟨bb, 0, none⟩)] w
      fun e w' => e = .returned (.tuple #[]) ∧ (Found B0 bb bs w' (shareStep m n l a s) ∧ ShareEnv B0 bm bn bl bx m n l vl vx w') ∧ Upd (fun k => k = bb ∨ k = bs) w w' := by
  have hap := he.apart hf
  obtain ⟨vA, vc, rfl⟩ := isl_shape he.row
  rw [rows_eq, List.length_map] at *
  obtain ⟨ga, rfl⟩ : ∃ g, ga = ⟨g, 0, none⟩ := by
    obtain ⟨-, ⟨h0, hn⟩ | ⟨g2, cap, cur, h0, r⟩⟩ := hv
    · cases h0
    · injection h0 with a; injection a with a; exact ⟨g2, a⟩
  have hl8 := okCs_len hl
  obtain ⟨i0, z0, hi, hz0, -, hz1, hz2, hz3, -⟩ := run_zeroValue (envOk 3 _ rfl)
  replace hz1 : i0.size = 1 := hz1
  replace hz2 : i0.bytes = 8 := hz2
  replace hz3 : z0.cells.size = 1 := hz3
  have c2 := cell_of_one he.lb
  have qs := hv.cells
  have glt : ga < w.heap.size := (World.ownsRow.lt hv ga rfl).2
  have HS := Lib.hid hs
  clear hs
  go_enter Try.func67, Try.ntmps67
  go_wp2
  all_goals try (exfalso; omega)
  go_loopw [8, 9, 36] (fun v1 v2 i wr => ∃ j : Nat, j ≤ l.length ∧ i = .int .i64 (j : Int) ∧ TwoRows wr w.heap.size v1 v2 (pickG true 0 (s.take j)) (pickG false 0 (s.take j)) ∧ Below w.heap.size w wr) (fun _ _ i _ => l.length - (intOf i).toNat)
  case atStart =>
    have r1 := own_new w (B := w.heap.size) (Nat.le_refl _)
    have r2 := own_new (w.alloc (.cells #[] 3)) (B := w.heap.size) (by simp)
    have e1 : (w.alloc (.cells #[] 3)).heap.size = w.heap.size + 1 := by simp
    rw [e1] at r2
    exact ⟨0, Nat.zero_le _, rfl, ⟨r1.below (alloc_below _ _), r2, by simp [Value.ownBlock], fun _ => ⟨_, rfl⟩, fun _ => ⟨_, rfl⟩⟩, (alloc_below _ _).trans ((alloc_below _ _).mono (by simp))⟩
  case round =>
    obtain ⟨j, hj, rfl, ht, hb⟩ := hrel
    have heR := he.below hb
    have hfR := hf.below hb
    have hvR := hv.below hb
    have sz := hb.size
    by_cases hlt : j < l.length
    · obtain ⟨x, hxj⟩ : ∃ x, s[j]? = some x := ⟨_, List.getElem?_eq_getElem (by have := HS.out; omega)⟩
      have hx01 := hx x (List.mem_of_getElem? hxj)
      have etk : s.take (j + 1) = s.take j ++ [x] := by rw [List.take_add_one, hxj]; rfl
      have elj : (s.take j).length = j := by rw [List.length_take]; have := HS.out; omega
      have cx : wr.cell? ((⟨ga, 0, none⟩ : Addr).add j) = some (.int .i64 x) := hvR.cells j _ (by rw [List.getElem?_map, hxj]; rfl)
      have cx2 := cx
      rw [Addr.add_lit, Nat.zero_add] at cx2
      have hpl : ∀ z, (pickG z 0 (s.take j)).length ≤ 8 := fun z => by
        have := diff_len _ _ (fineB_diff.1 (pick_fine z (s := s.take j) (n := l.length) (by have := HS.out; omega))); omega
      have hp1 := hpl true
      have hp2 := hpl false
      rcases hx01 with rfl | rfl
      · have k3 : (pickG true 0 (s.take j)).length + 1 ≤ maxLen := by unfold maxLen; omega
        have k4 : ((pickG true 0 (s.take j)).length + 1) * 8 ≤ 140737488355328 := by omega
        have b5 : Below w.heap.size w (wr.alloc (.cells #[.int .i64 (j : Int)] 3)) := hb.trans ((alloc_below _ _).mono sz)
        go_wp2_with (at_builtin; refine wpList_append_own _ rfl _ _ 29 rfl w.heap.size 3 i0 z0 1 8 Try.underlying29 hi hz0 hz1 hz2 hz3 (by decide) _ _ _ rfl (ht.one.alloc _) ⟨_, 0, none⟩ 1 1 [.int .i64 (j : Int)] rfl rfl (new_cell _ _) (new_one _) k3 k4 b5.size ?_; intro v6 w6 h6 g6 _; have g7 : (wr.alloc (.cells #[.int .i64 (j : Int)] 3)).grownBy w6 u8.ownBlock := g6; clear g6; refine Hid.out ?_)
        all_goals try (exfalso; omega)
        refine Lib.hid ?_
        go_wp2
        have o1 : OwnI w6 w.heap.size v6 (pickG true 0 (s.take j) ++ [(j : Int)]) := own_next h6 (Nat.le_refl _)
        have o2 : OwnI w6 w.heap.size u9 (pickG false 0 (s.take j)) := (ht.two.below (alloc_below _ _)).kept g7 (.inr ht.ne.symm)
        have p1 : pickG true 0 (s.take (j + 1)) = pickG true 0 (s.take j) ++ [(j : Int)] := by rw [etk, pick_snoc, elj]; simp
        have p2 : pickG false 0 (s.take (j + 1)) = pickG false 0 (s.take j) := by rw [etk, pick_snoc]; simp
        go_roundw
        case rel =>
          refine ⟨j + 1, hlt, by simp, ?_, b5.grown g7 b5.size (fun k hk => (World.ownsRow.lt ht.one k hk).1)⟩
          rw [p1, p2]
          exact ⟨o1, o2, rows_apart o1 o2 (by simp) ht.e2 (fun x h1 h2 => pick_disj (s := s.take (j + 1)) (by rw [p1]; exact h1) (by rw [p2]; exact h2)), fun e => by simp at e, ht.e2⟩
        case measure => simp only [intOf]; omega
      · have k3 : (pickG false 0 (s.take j)).length + 1 ≤ maxLen := by unfold maxLen; omega
        have k4 : ((pickG false 0 (s.take j)).length + 1) * 8 ≤ 140737488355328 := by omega
        have b5 : Below w.heap.size w (wr.alloc (.cells #[.int .i64 (j : Int)] 3)) := hb.trans ((alloc_below _ _).mono sz)
        go_wp2_with (at_builtin; refine wpList_append_own _ rfl _ _ 29 rfl w.heap.size 3 i0 z0 1 8 Try.underlying29 hi hz0 hz1 hz2 hz3 (by decide) _ _ _ rfl (ht.two.alloc _) ⟨_, 0, none⟩ 1 1 [.int .i64 (j : Int)] rfl rfl (new_cell _ _) (new_one _) k3 k4 b5.size ?_; intro v6 w6 h6 g6 _; have g7 : (wr.alloc (.cells #[.int .i64 (j : Int)] 3)).grownBy w6 u9.ownBlock := g6; clear g6; refine Hid.out ?_)
        all_goals try (exfalso; omega)
        refine Lib.hid ?_
        go_wp2
        have o2 : OwnI w6 w.heap.size v6 (pickG false 0 (s.take j) ++ [(j : Int)]) := own_next h6 (Nat.le_refl _)
        have o1 : OwnI w6 w.heap.size u8 (pickG true 0 (s.take j)) := (ht.one.below (alloc_below _ _)).kept g7 (.inr ht.ne)
        have p1 : pickG true 0 (s.take (j + 1)) = pickG true 0 (s.take j) := by rw [etk, pick_snoc]; simp
        have p2 : pickG false 0 (s.take (j + 1)) = pickG false 0 (s.take j) ++ [(j : Int)] := by rw [etk, pick_snoc, elj]; simp
        go_roundw
        case rel =>
          refine ⟨j + 1, hlt, by simp, ?_, b5.grown g7 b5.size (fun k hk => (World.ownsRow.lt ht.two k hk).1)⟩
          rw [p1, p2]
          exact ⟨o1, o2, (rows_apart o2 o1 (by simp) ht.e1 (fun x h1 h2 => pick_disj (s := s.take (j + 1)) (by rw [p1]; exact h2) (by rw [p2]; exact h1))).symm, ht.e1, fun e => by simp at e⟩
        case measure => simp only [intOf]; omega
    · obtain rfl : j = l.length := by omega
      rw [List.take_of_length_le (Nat.le_of_eq HS.out)] at ht
      have t1 := time_calls2 hm hl heR.row (fun g hg => Nat.lt_of_lt_of_le hg heR.b0) ht.one (pick_fine true (by have := HS.out; omega))
      have t2 := time_calls2 hn hl heR.row (fun g hg => Nat.lt_of_lt_of_le hg heR.b0) ht.two (pick_fine false (by have := HS.out; omega))
      have c3 := cell_of_one heR.lb
      have h1 := heR.mb
      have hS : ∀ w', Below wr.heap.size wr w' → w'.cell? ⟨bm, 0, none⟩ = some (.int .i64 m.1) ∧ w'.cell? ⟨bm, 1, none⟩ = some (.int .i64 m.2.1) ∧ w'.cell? ⟨bm, 2, none⟩ = some (.int .i64 m.2.2) ∧ w'.cell? ⟨bn, 0, none⟩ = some (.int .i64 n.1) ∧ w'.cell? ⟨bn, 1, none⟩ = some (.int .i64 n.2.1) ∧ w'.cell? ⟨bn, 2, none⟩ = some (.int .i64 n.2.2) ∧ w'.cell? ⟨bl, 0, none⟩ = some (.slice vA l.length vc) := fun w' hw => by
        have k1 := (heR.below hw).mb
        have k2 := (heR.below hw).nb
        have k3 := cell_of_one (heR.below hw).lb
        refine ⟨?_, ?_, ?_, ?_, ?_, ?_, k3⟩ <;> simp [World.cell?, k1, k2]
      obtain ⟨m0, m1, m2, n0, n1, n2, -⟩ := hS wr (Below.refl _ _)
      have hNo : ∀ w1, Below wr.heap.size wr w1 → shareStep m n l a s = a → (Found B0 bb bs w1 (shareStep m n l a s) ∧ ShareEnv B0 bm bn bl bx m n l (.slice vA l.length vc) vx w1) ∧ Upd (fun k => k = bb ∨ k = bs) w w1 := fun w1 b1 e => by
        rw [e]; exact ⟨⟨hfR.below b1, heR.below b1⟩, (Upd.of hb).trans (Upd.of b1)⟩
      have hYes : ∀ w1, Below wr.heap.size wr w1 → shareStep m n l a s = (s, costS m n l s) → (Found B0 bb bs ((w1.setCell ⟨bb, 0, none⟩ (.slice (some ⟨ga, 0, none⟩) l.length ca)).setCell ⟨bs, 0, none⟩ (.int .i64 (costS m n l s))) (shareStep m n l a s) ∧ ShareEnv B0 bm bn bl bx m n l (.slice vA l.length vc) vx ((w1.setCell ⟨bb, 0, none⟩ (.slice (some ⟨ga, 0, none⟩) l.length ca)).setCell ⟨bs, 0, none⟩ (.int .i64 (costS m n l s)))) ∧ Upd (fun k => k = bb ∨ k = bs) w ((w1.setCell ⟨bb, 0, none⟩ (.slice (some ⟨ga, 0, none⟩) l.length ca)).setCell ⟨bs, 0, none⟩ (.int .i64 (costS m n l s))) := fun w1 b1 e => by
        rw [e]
        obtain ⟨s1, s2, -, -⟩ := (hfR.below b1).store (hvR.below b1) hB hbb hbs (costS m n l s)
        exact ⟨⟨s1, (heR.below b1).upd s2 hap⟩, ((Upd.of hb).trans (Upd.of b1)).trans s2⟩
      have emax : costS m n l s = max (timeF m l (pickG true 0 s)) (timeF n l (pickG false 0 s)) := rfl
      go_wp2
      all_goals try (exfalso; omega)
      go_region_held3 (fun w' => w'.cell? ⟨bm, 0, none⟩ = some (.int .i64 m.1) ∧ w'.cell? ⟨bm, 1, none⟩ = some (.int .i64 m.2.1) ∧ w'.cell? ⟨bm, 2, none⟩ = some (.int .i64 m.2.2) ∧ w'.cell? ⟨bn, 0, none⟩ = some (.int .i64 n.1) ∧ w'.cell? ⟨bn, 1, none⟩ = some (.int .i64 n.2.1) ∧ w'.cell? ⟨bn, 2, none⟩ = some (.int .i64 n.2.2) ∧ w'.cell? ⟨bl, 0, none⟩ = some (.slice vA l.length vc)) (first | exact hS _ (Below.refl _ _) | exact hS _ (Below.refl _ _).drew | exact hS _ d2 | exact hS _ d1)
        (first
          | (have hd1 := d1; go_at_call 68; refine (t2 _ ?_).mono ?_; exact d1; rintro e w2 ⟨rfl, b2⟩; have d2 : Below wr.heap.size wr w2 := d1.trans (b2.mono d1.size); have f1 := hfR.below d2; have c5 := cell_of_one f1.least; obtain ⟨vb, g1, g2, g3⟩ := f1.best; have c6 := cell_of_one g1; have c7 := free_of_one g1; obtain ⟨-, -, c8, c9⟩ := f1.store (hvR.below d2) hB hbb hbs (costS m n l s))
          | (go_at_call 68; refine (t1 _ ?_).mono ?_; exact (Below.refl _ _).drew; rintro e w1 ⟨rfl, b1⟩; have d1 : Below wr.heap.size wr w1 := (Below.refl _ _).drew.trans b1))
      have emx : (if timeF m l (pickG true 0 s) < timeF n l (pickG false 0 s) then timeF n l (pickG false 0 s) else timeF m l (pickG true 0 s)) = costS m n l s := by
        rw [emax]; split <;> omega
      rw [emx]
      clear emx emax
      generalize hcq : costS m n l s = cq at *
      by_cases h0 : a.2 < 0
      · go_wp2
        all_goals try (exfalso; omega)
        go_end0
        exact ⟨rfl, hYes _ d2 (by rw [shareStep, if_pos (.inl h0), hcq])⟩
      · by_cases h2 : cq < a.2
        · go_wp2
          all_goals try (exfalso; omega)
          go_end0
          exact ⟨rfl, hYes _ d2 (by rw [shareStep, if_pos (.inr (by omega)), hcq])⟩
        · go_wp2
          all_goals try (exfalso; omega)
          go_end0
          exact ⟨rfl, hNo _ d2 (by rw [shareStep, if_neg (by omega)])⟩
end Go.Proofs.Ytjmjepdlclehoaa.Ai
