/- spec.csBest: the reference's search for the best order. -/
import Derived.Test.YtjmjepdlclehoaaCast4
namespace Go.Proofs.Ytjmjepdlclehoaa.Ai
open Go Go.Proofs Go.RowKit
set_option linter.unusedSimpArgs false
set_option linter.unusedVariables false

/-- A row of numbers that is only read, in a block from B on. -/
def InRow (B : Nat) (W : World) (v : Value) (o : List Int) : Prop := RepI W (fun g => B ≤ g ∧ g < W.heap.size ∧ plain W g) (.isl 1 (rows cInt o)) v
theorem InRow.below {B : Nat} {W W' : World} {v : Value} {o : List Int} (h : InRow B W v o) (hu : Below W.heap.size W W') : InRow B W' v o :=
  (show RepI W _ (.isl 1 (rows cInt o)) v from h).mono fun g hg => ⟨⟨hg.1, Nat.lt_of_lt_of_le hg.2.1 hu.size, by obtain ⟨-, h2, a, e, h3⟩ := hg; exact ⟨a, e, (hu.block g h2).trans h3⟩⟩, hu.block g hg.2.1⟩
theorem InRow.arg {B : Nat} {W : World} {v : Value} {o : List Int} (h : InRow B W v o) : RepArg W (fun k => k < W.heap.size) (.isl 1 (rows cInt o)) v :=
  .one ((show RepI W _ (.isl 1 (rows cInt o)) v from h).mono fun g hg => ⟨hg.2.1, rfl⟩)
theorem InRow.shape {B : Nat} {W : World} {v : Value} {o : List Int} (h : InRow B W v o) : ∃ A c, v = .slice A o.length c := by
  have := isl_shape h
  rwa [rows_eq, List.length_map] at this
theorem OwnI.repP {B C : Nat} {w : World} {v : Value} {o : List Int} (h : OwnI w C v o) (hB : B ≤ C) (hx : ∀ x ∈ o, IntKind.i64.wrap x = x) : InRow B w v o := by
  obtain ⟨-, ⟨rfl, hn⟩ | ⟨g, cap, cur, rfl, hb, hg, h1, h2, h3, h4⟩⟩ := h
  · unfold InRow
    rw [List.length_eq_zero_iff.1 hn, rows_nil]
    exact .isl0 1 none 0 (Nat.zero_le _)
  · have := RepI.isl (w := w) (I := fun g => B ≤ g ∧ g < w.heap.size ∧ plain w g) 1 (o.map cInt) g 0 cap (o.map (.int .i64)) (fun e he => by obtain ⟨y, -, rfl⟩ := List.mem_map.1 he; rfl)
      (repIs_ints1 hx) ⟨by omega, (Array.getElem?_eq_some_iff.1 hg).1, _, _, hg⟩
      (fun j y hy => by
        rw [Nat.mul_one] at h4
        rw [← h4, List.getElem?_take] at hy
        split at hy
        · rw [Nat.zero_add]
          simp only [World.cell?, hg, Option.bind_some]
          rw [← Array.getElem?_toList]
          simpa using hy
        · cases hy) (by rw [List.length_map]; exact h1) h2
    rw [List.length_map] at this
    unfold InRow
    rw [rows_eq]; exact this
def InCasts (W : World) (v : Value) (l : List Casting) : Prop := RepI W (fun k => k < W.heap.size) (.isl 2 (rows cCasting l)) v
theorem InCasts.below {W W' : World} {v : Value} {l : List Casting} (h : InCasts W v l) (hu : Below W.heap.size W W') : InCasts W' v l := (show RepI W _ (.isl 2 (rows cCasting l)) v from h).mono fun g hg => ⟨Nat.lt_of_lt_of_le hg hu.size, hu.block g hg⟩
theorem InCasts.arg {W : World} {v : Value} {l : List Casting} (h : InCasts W v l) : RepArg W (fun k => k < W.heap.size) (.isl 2 (rows cCasting l)) v := .one h
theorem InCasts.shape {W : World} {v : Value} {l : List Casting} (h : InCasts W v l) : ∃ A c, v = .slice A l.length c := by
  have := isl_shape h
  rwa [rows_eq, List.length_map] at this
theorem news_below {w w' : World} {n : Int} {b : Nat} (h : ∀ j u, ([Value.int .i64 n] : List Value)[j]? = some u → w.cell? ((⟨b, 0, none⟩ : Addr).add j) = some u) (hb : b < w.heap.size) (hu : Below w.heap.size w w') :
    ∀ j u, ([Value.int .i64 n] : List Value)[j]? = some u → w'.cell? ((⟨b, 0, none⟩ : Addr).add j) = some u := by
  intro j u hj
  have e : ((⟨b, 0, none⟩ : Addr).add j).block = b := by unfold Addr.add; split <;> rfl
  exact (World.cell?_of_block (by rw [e]; exact hu.block b hb)).trans (h j u hj)
theorem calls_row {P : Program} {w : World} {I : Nat → Prop} {f : FuncId} {args : List PV} {e : TypeId} {l : List Int} (h : OkA P f args (· = .fr e 1 (rows cInt l))) {vs : List Value} (hI : InR w I) (ha : All2 (RepArg w I) args vs) :
    Calls P f vs.toArray w fun en w' => ∃ v, en = .returned v ∧ Below w.heap.size w w' ∧ w'.ownsRow w.heap.size e 1 v l.length (l.map (.int .i64)) := by
  refine (h.2 w I vs hI ha).mono ?_
  rintro en w' ⟨v, r, gs, rfl, rfl, hb, -, -, hr⟩
  refine ⟨v, rfl, hb, ?_⟩
  cases hr with
  | one hr => cases hr with
    | imm hr => cases hr
    | fr _ _ _ _ vals ho hr hl =>
      rw [rows_eq] at ho hr
      have := repIs_ints0 hr
      subst this
      simpa using ho
abbrev vMach (m : CMach) : Value := .agg #[.int .i64 m.1, .int .i64 m.2.1, .int .i64 m.2.2]

set_option maxHeartbeats 4000000 in
set_option maxRecDepth 1000000 in
theorem csBest_body {B : Nat} {m : CMach} {l : List Casting} (hm : okM m = true) (hl : okCs l = true) (vl : Value) (order : List Int) (hd : Diff l.length order) (G : List Int → List Int × Int → List Int × Int)
    (ih : ∀ (W : World) (u v : Value) (o b : List Int) (t : Int), (∃ i, o = order ++ [i]) → Diff l.length o → B ≤ W.heap.size → InRow B W u o → InRow B W v b → InCasts W vl l →
      Calls Try.prog 90 #[.agg #[.int .i64 m.1, .int .i64 m.2.1, .int .i64 m.2.2], vl, u, v, .int .i64 t] W fun e w' => ∃ r, e = .returned (.tuple #[r, .int .i64 (G o (b, t)).2]) ∧ Below W.heap.size W w' ∧ InRow B w' r (G o (b, t)).1)
    (w : World) (hBw : B ≤ w.heap.size) (vo vb : Value) (best : List Int) (least : Int) (ho : InRow B w vo order) (hb : InRow B w vb best) (hv : InCasts w vl l) :
    Calls Try.prog 90 #[.agg #[.int .i64 m.1, .int .i64 m.2.1, .int .i64 m.2.2], vl, vo, vb, .int .i64 least] w fun e w' => ∃ r, e = .returned (.tuple #[r, .int .i64 (bestB G m l order (best, least)).2]) ∧ Below w.heap.size w w' ∧ InRow B w' r (bestB G m l order (best, least)).1 := by
  obtain ⟨vA, vc, rfl⟩ := hv.shape
  obtain ⟨oA, no, oc, rfl, hno⟩ : ∃ A n c, vo = .slice A n c ∧ n = order.length := by obtain ⟨A, c, h⟩ := ho.shape; exact ⟨A, _, c, h, rfl⟩
  obtain ⟨bA, nb, bc, rfl, hnb⟩ : ∃ A n c, vb = .slice A n c ∧ n = best.length := by obtain ⟨A, c, h⟩ := hb.shape; exact ⟨A, _, c, h, rfl⟩
  have hl8 := okCs_len hl
  have hol := diff_len _ _ hd
  obtain ⟨i0, z0, hi, hz0, -, hz1, hz2, hz3, -⟩ := run_zeroValue (envOk 3 _ rfl)
  replace hz1 : i0.size = 1 := hz1
  replace hz2 : i0.bytes = 8 := hz2
  replace hz3 : z0.cells.size = 1 := hz3
  have q1 : Below w.heap.size w (w.alloc (.cells #[.int .i64 m.1, .int .i64 m.2.1, .int .i64 m.2.2] 25)) := alloc_below _ _
  have e1 : (w.alloc (.cells #[.int .i64 m.1, .int .i64 m.2.1, .int .i64 m.2.2] 25)).heap[w.heap.size]? = some (.cells #[.int .i64 m.1, .int .i64 m.2.1, .int .i64 m.2.2] 25 (0, 0)) := heap_alloc_new w _
  have s1 : (w.alloc (.cells #[.int .i64 m.1, .int .i64 m.2.1, .int .i64 m.2.2] 25)).heap.size = w.heap.size + 1 := by simp
  have hT : Calls Try.prog 87 #[.agg #[.int .i64 m.1, .int .i64 m.2.1, .int .i64 m.2.2], .slice vA l.length vc, .slice oA no oc] (w.alloc (.cells #[.int .i64 m.1, .int .i64 m.2.1, .int .i64 m.2.2] 25)) fun e w' => e = .returned (.int .i64 (timeF m l order)) ∧ Below (w.alloc (.cells #[.int .i64 m.1, .int .i64 m.2.1, .int .i64 m.2.2] 25)).heap.size (w.alloc (.cells #[.int .i64 m.1, .int .i64 m.2.1, .int .i64 m.2.2] 25)) w' :=
    calls_int (csLast_ok m l order hm hl (fineB_diff.2 hd)) (inr_all _) (vs := [.agg #[.int .i64 m.1, .int .i64 m.2.1, .int .i64 m.2.2], .slice vA l.length vc, .slice oA no oc]) (All2.cons (vM_args hm) (All2.cons (hv.below q1).arg (All2.cons (ho.below q1).arg .nil)))
  by_cases hlen : no = l.length
  · subst hlen
    have eB : bestB G m l order (best, least) = if nb < l.length ∨ timeF m l order < least then (order, timeF m l order) else (best, least) := by rw [bestB, if_pos hno.symm, hnb]
    have HN := Lib.hid hno
    have HB := Lib.hid hnb
    clear hno hnb
    by_cases h1 : nb < l.length
    · go_enter Try.func90, Try.ntmps90
      go_wp2_with (go_at_call 87; go_must (refine hT.mono ?_; rintro e w4 ⟨rfl, b4⟩))
      all_goals try (exfalso; omega)
      go_ret2
      rw [eB, if_pos (.inl h1)]
      exact ⟨_, rfl, q1.trans (b4.mono q1.size), (ho.below q1).below b4⟩
    · by_cases h2 : timeF m l order < least
      · go_enter Try.func90, Try.ntmps90
        go_wp2_with (go_at_call 87; go_must (refine hT.mono ?_; rintro e w4 ⟨rfl, b4⟩))
        all_goals try (exfalso; omega)
        go_ret2
        rw [eB, if_pos (.inr h2)]
        exact ⟨_, rfl, q1.trans (b4.mono q1.size), (ho.below q1).below b4⟩
      · go_enter Try.func90, Try.ntmps90
        go_wp2_with (go_at_call 87; go_must (refine hT.mono ?_; rintro e w4 ⟨rfl, b4⟩))
        all_goals try (exfalso; omega)
        go_ret2
        rw [eB, if_neg (by omega)]
        exact ⟨_, rfl, q1.trans (b4.mono q1.size), (hb.below q1).below b4⟩
  · by_cases hstop : nb = l.length ∧ 0 < no ∧ least ≤ timeF m l order
    · obtain ⟨rfl, hpos, hge⟩ := hstop
      have eB : bestB G m l order (best, least) = (best, least) := by rw [bestB, if_neg (show ¬ order.length = l.length by omega), if_pos (show best.length = l.length ∧ 0 < order.length ∧ least ≤ timeF m l order from ⟨by omega, by omega, hge⟩)]
      have HN := Lib.hid hno
      have HB := Lib.hid hnb
      clear hno hnb
      go_enter Try.func90, Try.ntmps90
      go_wp2_with (go_at_call 87; go_must (refine hT.mono ?_; rintro e w4 ⟨rfl, b4⟩))
      all_goals try (exfalso; omega)
      go_ret2
      rw [eB]
      exact ⟨_, rfl, q1.trans (b4.mono q1.size), (hb.below q1).below b4⟩
    · have eB : bestB G m l order (best, least) = (List.range l.length).foldl (bestStepG G order) (best, least) := by rw [bestB, if_neg (show ¬ order.length = l.length by omega), if_neg (fun e : best.length = l.length ∧ 0 < order.length ∧ least ≤ timeF m l order => hstop ⟨by omega, by omega, e.2.2⟩)]
      have HN := Lib.hid hno
      have HB := Lib.hid hnb
      have hcs : nb ≠ l.length ∨ (nb = l.length ∧ no = 0) ∨ (nb = l.length ∧ 0 < no ∧ timeF m l order < least) := by omega
      clear hno hnb hstop
      rcases hcs with hc | ⟨rfl, hc⟩ | ⟨rfl, hc⟩
      all_goals (have HC := Lib.hid hc; clear hc)
      all_goals (go_enter Try.func90, Try.ntmps90)
      all_goals (go_wp2_with (go_at_call 87; go_must (refine hT.mono ?_; rintro e w4 ⟨rfl, b4⟩)))
      all_goals try (exfalso; have := HC.out; omega)
      all_goals
       (go_loopw [3, 4, 59] (fun u3 u4 i wr => ∃ (j : Nat) (a : List Int × Int), j ≤ l.length ∧ i = .int .i64 (j : Int) ∧ u4 = .int .i64 a.2 ∧ a = (List.range j).foldl (bestStepG G order) (best, least) ∧ InRow B wr u3 a.1 ∧ Below w.heap.size w wr ∧ wr.heap[w.heap.size]? = some (.cells #[.int .i64 m.1, .int .i64 m.2.1, .int .i64 m.2.2] 25 (0, 0))) (fun _ _ i _ => l.length - (intOf i).toNat)
        case atStart => first | exact ⟨0, (best, least), Nat.zero_le _, rfl, rfl, rfl, hb.below q1, q1, e1⟩ | exact ⟨0, (best, least), Nat.zero_le _, rfl, rfl, rfl, (hb.below q1).below b4, q1.trans (b4.mono q1.size), (b4.block _ (by omega)).trans e1⟩
        case round =>
          obtain ⟨j, a, hj, rfl, rfl, ha, hu, hbw, hbx⟩ := hrel
          have hoR := ho.below hbw
          have hvR := hv.below hbw
          have A1 := calls_bool (l1Has_ok order (j : Int)) (inr_all wr) (vs := [_, .int .i64 (j : Int)]) (All2.cons hoR.arg (All2.cons (.one (.int _ _ (wrap64 (by omega) (by omega)))) .nil))
          have hnext : (List.range (j + 1)).foldl (bestStepG G order) (best, least) = bestStepG G order a j := by rw [List.range_succ, List.foldl_append, ← ha]; rfl
          have HA := Lib.hid ha
          have HX := Lib.hid hnext
          clear ha hnext
          by_cases hlt : j < l.length
          · by_cases hjo : (j : Int) ∈ order
            · rw [decide_eq_true hjo] at A1
              go_wp2_with (go_at_call 138; refine A1.mono ?_; rintro e w5 ⟨rfl, b5⟩; refine Hid.out ?_)
              all_goals try (exfalso; omega)
              refine Lib.hid ?_
              go_wp2
              go_roundw
              case rel => exact ⟨j + 1, a, hlt, by simp, rfl, by rw [HX.out, bestStepG, if_pos hjo], hu.below b5, hbw.trans (b5.mono hbw.size), (b5.block _ (by have := (Array.getElem?_eq_some_iff.1 hbx).1; omega)).trans hbx⟩
              case measure => simp only [intOf]; omega
            · rw [decide_eq_false hjo] at A1
              have hdn : Diff l.length (order ++ [(j : Int)]) := diff_nat hd (by omega) (by omega) hjo
              go_wp2_with (go_at_call 138; refine A1.mono ?_; rintro e w5 ⟨rfl, b5⟩; refine Hid.out ?_)
              all_goals try (exfalso; omega)
              refine Lib.hid ?_
              have hb5 : Below w.heap.size w w5 := hbw.trans (b5.mono hbw.size)
              have hx5 : w5.heap[w.heap.size]? = some (.cells #[.int .i64 m.1, .int .i64 m.2.1, .int .i64 m.2.2] 25 (0, 0)) := (b5.block _ (by have := (Array.getElem?_eq_some_iff.1 hbx).1; omega)).trans hbx
              have hlt5 : w.heap.size < w5.heap.size := (Array.getElem?_eq_some_iff.1 hx5).1
              have hu5 := hu.below b5
              clear hoR hvR hu b5 hbw hbx A1
              obtain ⟨wr, rfl⟩ : ∃ V : World, V = w5 := ⟨_, rfl⟩
              have hoR := ho.below hb5
              have hvR := hv.below hb5
              have hS6 : ∀ w', Below wr.heap.size wr w' → w'.cell? ⟨w.heap.size, 0, none⟩ = some (.int .i64 m.1) ∧ w'.cell? ⟨w.heap.size, 1, none⟩ = some (.int .i64 m.2.1) ∧ w'.cell? ⟨w.heap.size, 2, none⟩ = some (.int .i64 m.2.2) := fun w' hw => by
                have k1 := (hw.block w.heap.size hlt5).trans hx5
                refine ⟨?_, ?_, ?_⟩ <;> simp [World.cell?, k1]
              have k8 : order.length + 1 ≤ maxLen := by unfold maxLen; omega
              have k9 : (order.length + 1) * 8 ≤ 140737488355328 := by omega
              have qd : Below wr.heap.size wr wr.drew := (Below.refl _ _).drew
              have qn : Below wr.heap.size wr (wr.alloc (.cells #[.int .i64 (j : Int)] 3)).drew := (alloc_below _ _).drew
              have nn : ∀ k u, ([Value.int .i64 (j : Int)] : List Value)[k]? = some u → (wr.alloc (.cells #[.int .i64 (j : Int)] 3)).drew.cell? ((⟨wr.heap.size, 0, none⟩ : Addr).add k) = some u := new_cell wr (j : Int)
              have x0 := hS6 _ (Below.refl _ _)
              have xd := hS6 _ qd
              have xn := hS6 _ qn
              have AO := fun (W : World) (hW : Below wr.heap.size wr W) => calls_row (l1Own_ok order (by omega)) (inr_all W) (vs := [_]) (All2.cons (hoR.below hW).arg .nil)
              go_wp2
              go_region_held3 (fun w' => w'.cell? ⟨w.heap.size, 0, none⟩ = some (.int .i64 m.1) ∧ w'.cell? ⟨w.heap.size, 1, none⟩ = some (.int .i64 m.2.1) ∧ w'.cell? ⟨w.heap.size, 2, none⟩ = some (.int .i64 m.2.2)) (with_reducible assumption)
                (first
                  | (go_at_call 90; refine (ih _ _ _ _ _ _ ⟨_, rfl⟩ hdn (Nat.le_trans hBw (Nat.le_trans hb5.size d6.size)) (o6.repP (Nat.le_trans hBw hb5.size) (diff_wrap hl hdn)) (hu5.below d6) (hvR.below d6)).mono ?_; rintro e w9 ⟨r9, rfl, b9, hr9⟩; have d9 := d6.trans (b9.mono d6.size); have x9 := hS6 _ d9)
                  | (go_at_call 137; first
                      | (refine (AO _ ?_).mono ?_; (· with_reducible exact qd); rintro e w7 ⟨v7, rfl, b7, o7⟩; have flagA := o7; have d7 := qd.trans (b7.mono qd.size); have x7 := hS6 _ d7; have d8 : Below wr.heap.size wr (w7.alloc (.cells #[.int .i64 (j : Int)] 3)) := d7.alloc d7.size _; have x8 := hS6 _ d8; have o8 := World.ownsRow.alloc (show w7.ownsRow wr.heap.size 3 1 v7 order.length (order.map (.int .i64)) from o7) (.cells #[.int .i64 (j : Int)] 3); have n8 := new_cell w7 (j : Int))
                      | (refine (AO _ ?_).mono ?_; (· with_reducible exact qn); rintro e w7 ⟨v7, rfl, b7, o7⟩; have flagB := o7; have d7 := qn.trans (b7.mono qn.size); have x7 := hS6 _ d7; have o8 : w7.ownsRow wr.heap.size 3 1 v7 order.length (order.map (.int .i64)) := OwnI.low o7 qn.size; have n8 := news_below nn (by show wr.heap.size < (wr.alloc _).heap.size; simp) b7))
                  | (have zf := flagA; refine step_append_own rfl _ _ 29 rfl wr.heap.size 3 i0 z0 1 8 Try.underlying29 hi hz0 hz1 hz2 hz3 (by decide) ?_ order.length (order.map (.int .i64)) ?_ ?_ ?_ 1 1 [.int .i64 (j : Int)] ?_ rfl ?_ (new_one _) k8 k9 ?_ ?_; rotate_left 2; (· (with_reducible exact o8)); rotate_left 2; (· exact n8); (· exact d8.size); rotate_left 1; (· rfl); (· rfl); intro v6 w6 h6 g6 _; have d6 := (d8).grown g6 d8.size (fun k hk => (World.ownsRow.lt o8 k hk).1); have o6 : OwnI w6 wr.heap.size v6 (order ++ [(j : Int)]) := OwnI.of_row h6 (by simp) (by simp); have x6 := hS6 _ d6)
                  | (have zf := flagB; refine step_append_own rfl _ _ 29 rfl wr.heap.size 3 i0 z0 1 8 Try.underlying29 hi hz0 hz1 hz2 hz3 (by decide) ?_ order.length (order.map (.int .i64)) ?_ ?_ ?_ 1 1 [.int .i64 (j : Int)] ?_ rfl ?_ (new_one _) k8 k9 ?_ ?_; rotate_left 2; (· (with_reducible exact o8)); rotate_left 2; (· exact n8); (· exact d7.size); rotate_left 1; (· rfl); (· rfl); intro v6 w6 h6 g6 _; have d6 := (d7).grown g6 d7.size (fun k hk => (World.ownsRow.lt o8 k hk).1); have o6 : OwnI w6 wr.heap.size v6 (order ++ [(j : Int)]) := OwnI.of_row h6 (by simp) (by simp); have x6 := hS6 _ d6))
              all_goals (try go_wp2)
              all_goals go_roundw
              all_goals first
                | exact ⟨j + 1, G (order ++ [(j : Int)]) (a.1, a.2), hlt, by simp, rfl, by rw [HX.out, bestStepG, if_neg hjo], hr9, hb5.trans (d9.mono hb5.size), (d9.block _ hlt5).trans hx5⟩
                | (simp only [intOf]; omega)
          · obtain rfl : j = l.length := by omega
            go_wp2
            all_goals try (exfalso; omega)
            go_ret2
            rw [eB, ← HA.out]
            exact ⟨u3, rfl, hbw, hu⟩)
theorem csBest_go {B : Nat} {m : CMach} {l : List Casting} (hm : okM m = true) (hl : okCs l = true) (vl : Value) : ∀ (k : Nat) (w : World) (vo vb : Value) (o b : List Int) (t : Int), o.length + k = l.length → Diff l.length o → B ≤ w.heap.size → InRow B w vo o → InRow B w vb b → InCasts w vl l →
    Calls Try.prog 90 #[.agg #[.int .i64 m.1, .int .i64 m.2.1, .int .i64 m.2.2], vl, vo, vb, .int .i64 t] w fun e w' => ∃ r, e = .returned (.tuple #[r, .int .i64 (bestS m l k o (b, t)).2]) ∧ Below w.heap.size w w' ∧ InRow B w' r (bestS m l k o (b, t)).1
  | 0, w, vo, vb, o, b, t, hk, hd, hB, ho, hb, hv => by
    rw [bestS_zero (by omega) (fun _ a => a)]
    refine csBest_body hm hl vl o hd (fun _ a => a) (fun W u v o2 b2 t2 ⟨i, e⟩ hd2 _ _ _ _ => ?_) w hB vo vb b t ho hb hv
    have := diff_len _ _ hd2
    rw [e, List.length_append] at this
    simp only [List.length_cons, List.length_nil] at this
    omega
  | k + 1, w, vo, vb, o, b, t, hk, hd, hB, ho, hb, hv => by
    rw [bestS_succ (by omega)]
    exact csBest_body hm hl vl o hd (bestS m l k) (fun W u v o2 b2 t2 ⟨i, e⟩ hd2 hB2 hu hv2 hc => csBest_go hm hl vl k W u v o2 b2 t2 (by rw [e, List.length_append]; simp only [List.length_cons, List.length_nil]; omega) hd2 hB2 hu hv2 hc) w hB vo vb b t ho hb hv
theorem csBest_ok (m : CMach) (l : List Casting) (hm : okM m = true) (hl : okCs l = true) (hn : 0 < l.length) : OkA Try.prog 90 [.agg (cMachine m), .isl 2 (rows cCasting l), .nil, .nil, .int .i64 0] (· = liI 1 cInt (bestO m l)) := by
  refine ⟨⟨_, Try.func90, rfl, rfl⟩, fun w I vs hI hargs => ?_⟩
  obtain ⟨us, rfl, h2, a1, a2, a3⟩ := mach_args hargs
  obtain ⟨vl, us, rfl, h3, hv⟩ := one_args (fun cs e => by cases e) h2
  obtain ⟨v1, us, rfl, h4, hv1⟩ := one_args (fun cs e => by cases e) h3
  obtain ⟨v2, us, rfl, h5, hv2⟩ := one_args (fun cs e => by cases e) h4
  obtain ⟨v3, us, rfl, h6, hv3⟩ := one_args (fun cs e => by cases e) h5
  obtain rfl := nil_args h6
  cases hv1; cases hv2; cases hv3
  have e0 : InRow w.heap.size w (.slice none 0 0) [] := by unfold InRow; rw [rows_nil]; exact .isl0 1 none 0 (Nat.zero_le _)
  have h := csBest_go (B := w.heap.size) hm hl vl l.length w _ _ [] [] 0 (by simp) (diff_nil _) (Nat.le_refl _) e0 e0 (hv.mono fun g hg => ⟨hI.1 g hg, rfl⟩)
  rw [bestS_eq hm (okAll_of hl) hn] at h
  refine h.mono ?_
  rintro e w' ⟨r, rfl, hb, hr⟩
  have hw : IntKind.i64.wrap (bestO m l).2 = (bestO m l).2 := by
    have := (bestAns_wrap m l).2
    rw [bestAns, hm, hl] at this
    exact this
  refine ⟨_, liI 1 cInt (bestO m l), [] ++ ([] ++ []), rfl, rfl, hb, List.nodup_nil, (fun g hg => by cases hg), .tup (.cons (.imm ?_) (.cons (.imm (.int _ _ hw)) .nil))⟩
  exact (show RepI w' _ (.isl 1 (rows cInt (bestO m l).1)) r from hr).mono fun g hg => ⟨⟨.inr hg.1, hg.2.1, (by simp), fun _ => hg.2.2⟩, rfl⟩
end Go.Proofs.Ytjmjepdlclehoaa.Ai
