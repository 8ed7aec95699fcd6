/- spec.csBest: the reference's search for the best order. -/
import Derived.Test.YtjmjepdlclehoaaCast4
import Derived.Test.YtjmjepdlclehoaaPress2
namespace Go.Proofs.Ytjmjepdlclehoaa.Ai
open Go Go.Proofs Go.RowKit
set_option linter.unusedSimpArgs false
set_option linter.unusedVariables false

/-- A row of numbers that is only read, in a block from B on. -/
def InRow (B : Nat) (W : World) (v : Value) (o : List Int) : Prop := RepI W (fun g => B ≤ g ∧ g < W.heap.size ∧ plain W g) (.isl 1 (rows cInt o)) v
theorem InRow.below {B : Nat} {W W' : World} {v : Value} {o : List Int} (h : InRow B W v o) (hu : Below W.heap.size W W') : InRow B W' v o :=
  (show RepI W _ (.isl 1 (rows cInt o)) v from h).mono fun g hg => ⟨⟨hg.1, Nat.lt_of_lt_of_le hg.2.1 hu.size, by obtain ⟨-, h2, a, e, h3⟩ := hg; exact ⟨a, e, (hu.block g h2).trans h3⟩⟩, hu.block g hg.2.1⟩
theorem InRow.arg {B : Nat} {W : World} {v : Value} {o : List Int} (h : InRow B W v o) : RepArg W (fun k => k < W.heap.size) (.isl 1 (rows cInt o)) v :=
  .one ((show RepI W _ (.isl 1 (rows cInt o)) v from h).mono fun g hg => ⟨hg.2.1, rfl⟩)
theorem InRow.shape {B : Nat} {W : World} {v : Value} {o : List Int} (h : InRow B W v o) : ∃ A c, v = .slice A o.length c := by
  have := isl_shape h
  rwa [rows_eq, List.length_map] at this
theorem OwnI.repP {B C : Nat} {w : World} {v : Value} {o : List Int} (h : OwnI w C v o) (hB : B ≤ C) (hx : ∀ x ∈ o, IntKind.i64.wrap x = x) : InRow B w v o := by
  obtain ⟨-, ⟨rfl, hn⟩ | ⟨g, cap, cur, rfl, hb, hg, h1, h2, h3, h4⟩⟩ := h
  · unfold InRow
    rw [List.length_eq_zero_iff.1 hn, rows_nil]
    exact .isl0 1 none 0 (Nat.zero_le _)
  · have := RepI.isl (w := w) (I := fun g => B ≤ g ∧ g < w.heap.size ∧ plain w g) 1 (o.map cInt) g 0 cap (o.map (.int .i64)) (fun e he => by obtain ⟨y, -, rfl⟩ := List.mem_map.1 he; rfl)
      (repIs_ints1 hx) ⟨by omega, (Array.getElem?_eq_some_iff.1 hg).1, _, _, hg⟩
      (fun j y hy => by
        rw [Nat.mul_one] at h4
        rw [← h4, List.getElem?_take] at hy
        split at hy
        · rw [Nat.zero_add]
          simp only [World.cell?, hg, Option.bind_some]
          rw [← Array.getElem?_toList]
          simpa using hy
        · cases hy) (by rw [List.length_map]; exact h1) h2
    rw [List.length_map] at this
    unfold InRow
    rw [rows_eq]; exact this
def InCasts (W : World) (v : Value) (l : List Casting) : Prop := RepI W (fun k => k < W.heap.size) (.isl 2 (rows cCasting l)) v
theorem InCasts.below {W W' : World} {v : Value} {l : List Casting} (h : InCasts W v l) (hu : Below W.heap.size W W') : InCasts W' v l := (show RepI W _ (.isl 2 (rows cCasting l)) v from h).mono fun g hg => ⟨Nat.lt_of_lt_of_le hg hu.size, hu.block g hg⟩
theorem InCasts.arg {W : World} {v : Value} {l : List Casting} (h : InCasts W v l) : RepArg W (fun k => k < W.heap.size) (.isl 2 (rows cCasting l)) v := .one h
theorem InCasts.shape {W : World} {v : Value} {l : List Casting} (h : InCasts W v l) : ∃ A c, v = .slice A l.length c := by
  have := isl_shape h
  rwa [rows_eq, List.length_map] at this
theorem news_below {w w' : World} {n : Int} {b : Nat} (h : ∀ j u, ([Value.int .i64 n] : List Value)[j]? = some u → w.cell? ((⟨b, 0, none⟩ : Addr).add j) = some u) (hb : b < w.heap.size) (hu : Below w.heap.size w w') :
    ∀ j u, ([Value.int .i64 n] : List Value)[j]? = some u → w'.cell? ((⟨b, 0, none⟩ : Addr).add j) = some u := by
  intro j u hj
  have e : ((⟨b, 0, none⟩ : Addr).add j).block = b := by unfold Addr.add; split <;> rfl
  exact (World.cell?_of_block (by rw [e]; exact hu.block b hb)).trans (h j u hj)
theorem calls_row {P : Program} {w : World} {I : Nat → Prop} {f : FuncId} {args : List PV} {e : TypeId} {l : List Int} (h : OkA P f args (· = .fr e 1 (rows cInt l))) {vs : List Value} (hI : InR w I) (ha : All2 (RepArg w I) args vs) :
    Calls P f vs.toArray w fun en w' => ∃ v, en = .returned v ∧ Below w.heap.size w w' ∧ w'.ownsRow w.heap.size e 1 v l.length (l.map (.int .i64)) := by
  refine (h.2 w I vs hI ha).mono ?_
  rintro en w' ⟨v, r, gs, rfl, rfl, hb, -, -, hr⟩
  refine ⟨v, rfl, hb, ?_⟩
  cases hr with
  | one hr => cases hr with
    | imm hr => cases hr
    | fr _ _ _ _ vals ho hr hl =>
      rw [rows_eq] at ho hr
      have := repIs_ints0 hr
      subst this
      simpa using ho
abbrev vMach (m : CMach) : Value := .agg #[.int .i64 m.1, .int .i64 m.2.1, .int .i64 m.2.2]

set_option maxHeartbeats 4000000 in
set_option maxRecDepth 1000000 in
theorem csBest_body {B : Nat} {m : CMach} {l : List Casting} (hm : okM m = true) (hl : okCs l = true) (vl : Value) (order : List Int) (hd : Diff l.length order) (G : List Int → List Int × Int → List Int × Int)
    (ih : ∀ (W : World) (u v : Value) (o b : List Int) (t : Int), (∃ i, o = order ++ [i]) → Diff l.length o → B ≤ W.heap.size → InRow B W u o → InRow B W v b → InCasts W vl l →
      Calls Try.prog 90 #[.agg #[.int .i64 m.1, .int .i64 m.2.1, .int .i64 m.2.2], vl, u, v, .int .i64 t] W fun e w' => ∃ r, e = .returned (.tuple #[r, .int .i64 (G o (b, t)).2]) ∧ Below W.heap.size W w' ∧ InRow B w' r (G o (b, t)).1)
    (w : World) (hBw : B ≤ w.heap.size) (vo vb : Value) (best : List Int) (least : Int) (ho : InRow B w vo order) (hb : InRow B w vb best) (hv : InCasts w vl l) :
    Calls Try.prog 90 #[.agg #[.int .i64 m.1, .int .i64 m.2.1, .int .i64 m.2.2], vl, vo, vb, .int .i64 least] w fun e w' => ∃ r, e = .returned (.tuple #[r, .int .i64 (bestB G m l order (best, least)).2]) ∧ Below w.heap.size w w' ∧ InRow B w' r (bestB G m l order (best, least)).1 := by
  obtain ⟨vA, vc, rfl⟩ := hv.shape
  obtain ⟨oA, no, oc, rfl, hno⟩ : ∃ A n c, vo = .slice A n c ∧ n = order.length := by obtain ⟨A, c, h⟩ := ho.shape; exact ⟨A, _, c, h, rfl⟩
  obtain ⟨bA, nb, bc, rfl, hnb⟩ : ∃ A n c, vb = .slice A n c ∧ n = best.length := by obtain ⟨A, c, h⟩ := hb.shape; exact ⟨A, _, c, h, rfl⟩
  have hl8 := okCs_len hl
  have hol := diff_len _ _ hd
  obtain ⟨i0, z0, hi, hz0, -, hz1, hz2, hz3, -⟩ := run_zeroValue (envOk 3 _ rfl)
  replace hz1 : i0.size = 1 := hz1
  replace hz2 : i0.bytes = 8 := hz2
  replace hz3 : z0.cells.size = 1 := hz3
  have q1 : Below w.heap.size w (w.alloc (.cells #[.int .i64 m.1, .int .i64 m.2.1, .int .i64 m.2.2] 25)) := alloc_below _ _
  have e1 : (w.alloc (.cells #[.int .i64 m.1, .int .i64 m.2.1, .int .i64 m.2.2] 25)).heap[w.heap.size]? = some (.cells #[.int .i64 m.1, .int .i64 m.2.1, .int .i64 m.2.2] 25 (0, 0)) := heap_alloc_new w _
  have s1 : (w.alloc (.cells #[.int .i64 m.1, .int .i64 m.2.1, .int .i64 m.2.2] 25)).heap.size = w.heap.size + 1 := by simp
  have hT : Calls Try.prog 87 #[.agg #[.int .i64 m.1, .int .i64 m.2.1, .int .i64 m.2.2], .slice vA l.length vc, .slice oA no oc] (w.alloc (.cells #[.int .i64 m.1, .int .i64 m.2.1, .int .i64 m.2.2] 25)) fun e w' => e = .returned (.int .i64 (timeF m l order)) ∧ Below (w.alloc (.cells #[.int .i64 m.1, .int .i64 m.2.1, .int .i64 m.2.2] 25)).heap.size (w.alloc (.cells #[.int .i64 m.1, .int .i64 m.2.1, .int .i64 m.2.2] 25)) w' :=
    calls_int (csLast_ok m l order hm hl (fineB_diff.2 hd)) (inr_all _) (vs := [.agg #[.int .i64 m.1, .int .i64 m.2.1, .int .i64 m.2.2], .slice vA l.length vc, .slice oA no oc]) (All2.cons (vM_args hm) (All2.cons (hv.below q1).arg (All2.cons (ho.below q1).arg .nil)))
  by_cases hlen : no = l.length
  · subst hlen
    have eB : bestB G m l order (best, least) = if nb < l.length ∨ timeF m l order < least then (order, timeF m l order) else (best, least) := by rw [bestB, if_pos hno.symm, hnb]
    have HN := Lib.hid hno
    have HB := Lib.hid hnb
    clear hno hnb
    by_cases h1 : nb < l.length
    · go_enter Try.func90, Try.ntmps90
      go_wp2_with (go_at_call 87; go_must (refine hT.mono ?_; rintro e w4 ⟨rfl, b4⟩))
      all_goals try (exfalso; omega)
      go_ret2
      rw [eB, if_pos (.inl h1)]
      exact ⟨_, rfl, q1.trans (b4.mono q1.size), (ho.below q1).below b4⟩
    · by_cases h2 : timeF m l order < least
      · go_enter Try.func90, Try.ntmps90
        go_wp2_with (go_at_call 87; go_must (refine hT.mono ?_; rintro e w4 ⟨rfl, b4⟩))
        all_goals try (exfalso; omega)
        go_ret2
        rw [eB, if_pos (.inr h2)]
        exact ⟨_, rfl, q1.trans (b4.mono q1.size), (ho.below q1).below b4⟩
      · go_enter Try.func90, Try.ntmps90
        go_wp2_with (go_at_call 87; go_must (refine hT.mono ?_; rintro e w4 ⟨rfl, b4⟩))
        all_goals try (exfalso; omega)
        go_ret2
        rw [eB, if_neg (by omega)]
        exact ⟨_, rfl, q1.trans (b4.mono q1.size), (hb.below q1).below b4⟩
  · by_cases hstop : nb = l.length ∧ 0 < no ∧ least ≤ timeF m l order
    · obtain ⟨rfl, hpos, hge⟩ := hstop
      have eB : bestB G m l order (best, least) = (best, least) := by rw [bestB, if_neg (show ¬ order.length = l.length by omega), if_pos (show best.length = l.length ∧ 0 < order.length ∧ least ≤ timeF m l order from ⟨by omega, by omega, hge⟩)]
      have HN := Lib.hid hno
      have HB := Lib.hid hnb
      clear hno hnb
      go_enter Try.func90, Try.ntmps90
      go_wp2_with (go_at_call 87; go_must (refine hT.mono ?_; rintro e w4 ⟨rfl, b4⟩))
      all_goals try (exfalso; omega)
      go_ret2
      rw [eB]
      exact ⟨_, rfl, q1.trans (b4.mono q1.size), (hb.below q1).below b4⟩
    · have eB : bestB G m l order (best, least) = (List.range l.length).foldl (bestStepG G order) (best, least) := by rw [bestB, if_neg (show ¬ order.length = l.length by omega), if_neg (fun e : best.length = l.length ∧ 0 < order.length ∧ least ≤ timeF m l order => hstop ⟨by omega, by omega, e.2.2⟩)]
      have HN := Lib.hid hno
      have HB := Lib.hid hnb
      have hcs : nb ≠ l.length ∨ (nb = l.length ∧ no = 0) ∨ (nb = l.length ∧ 0 < no ∧ timeF m l order < least) := by omega
      clear hno hnb hstop
      rcases hcs with hc | ⟨rfl, hc⟩ | ⟨rfl, hc⟩
      all_goals (have HC := Lib.hid hc; clear hc)
      all_goals (go_enter Try.func90, Try.ntmps90)
      all_goals (go_wp2_with (go_at_call 87; go_must (refine hT.mono ?_; rintro e w4 ⟨rfl, b4⟩)))
      all_goals try (exfalso; have := HC.out; omega)
      all_goals
       (go_loopw [3, 4, 59] (fun u3 u4 i wr => ∃ (j : Nat) (a : List Int × Int), j ≤ l.length ∧ i = .int .i64 (j : Int) ∧ u4 = .int .i64 a.2 ∧ a = (List.range j).foldl (bestStepG G order) (best, least) ∧ InRow B wr u3 a.1 ∧ Below w.heap.size w wr ∧ wr.heap[w.heap.size]? = some (.cells #[.int .i64 m.1, .int .i64 m.2.1, .int .i64 m.2.2] 25 (0, 0))) (fun _ _ i _ => l.length - (intOf i).toNat)
        case atStart => first | exact ⟨0, (best, least), Nat.zero_le _, rfl, rfl, rfl, hb.below q1, q1, e1⟩ | exact ⟨0, (best, least), Nat.zero_le _, rfl, rfl, rfl, (hb.below q1).below b4, q1.trans (b4.mono q1.size), (b4.block _ (by omega)).trans e1⟩
        case round =>
          obtain ⟨j, a, hj, rfl, rfl, ha, hu, hbw, hbx⟩ := hrel
          have hoR := ho.below hbw
          have hvR := hv.below hbw
          have A1 := calls_bool (l1Has_ok order (j : Int)) (inr_all wr) (vs := [_, .int .i64 (j : Int)]) (All2.cons hoR.arg (All2.cons (.one (.int _ _ (wrap64 (by omega) (by omega)))) .nil))
          have hnext : (List.range (j + 1)).foldl (bestStepG G order) (best, least) = bestStepG G order a j := by rw [List.range_succ, List.foldl_append, ← ha]; rfl
          have HA := Lib.hid ha
          have HX := Lib.hid hnext
          clear ha hnext
          by_cases hlt : j < l.length
          · by_cases hjo : (j : Int) ∈ order
            · rw [decide_eq_true hjo] at A1
              go_wp2_with (go_at_call 138; refine A1.mono ?_; rintro e w5 ⟨rfl, b5⟩; refine Hid.out ?_)
              all_goals try (exfalso; omega)
              refine Lib.hid ?_
              go_wp2
              go_roundw
              case rel => exact ⟨j + 1, a, hlt, by simp, rfl, by rw [HX.out, bestStepG, if_pos hjo], hu.below b5, hbw.trans (b5.mono hbw.size), (b5.block _ (by have := (Array.getElem?_eq_some_iff.1 hbx).1; omega)).trans hbx⟩
              case measure => simp only [intOf]; omega
            · rw [decide_eq_false hjo] at A1
              have hdn : Diff l.length (order ++ [(j : Int)]) := diff_nat hd (by omega) (by omega) hjo
              go_wp2_with (go_at_call 138; refine A1.mono ?_; rintro e w5 ⟨rfl, b5⟩; refine Hid.out ?_)
              all_goals try (exfalso; omega)
              refine Lib.hid ?_
              have hb5 : Below w.heap.size w w5 := hbw.trans (b5.mono hbw.size)
              have hx5 : w5.heap[w.heap.size]? = some (.cells #[.int .i64 m.1, .int .i64 m.2.1, .int .i64 m.2.2] 25 (0, 0)) := (b5.block _ (by have := (Array.getElem?_eq_some_iff.1 hbx).1; omega)).trans hbx
              have hlt5 : w.heap.size < w5.heap.size := (Array.getElem?_eq_some_iff.1 hx5).1
              have hu5 := hu.below b5
              clear hoR hvR hu b5 hbw hbx A1
              obtain ⟨wr, rfl⟩ : ∃ V : World, V = w5 := ⟨_, rfl⟩
              have hoR := ho.below hb5
              have hvR := hv.below hb5
              have hS6 : ∀ w', Below wr.heap.size wr w' → w'.cell? ⟨w.heap.size, 0, none⟩ = some (.int .i64 m.1) ∧ w'.cell? ⟨w.heap.size, 1, none⟩ = some (.int .i64 m.2.1) ∧ w'.cell? ⟨w.heap.size, 2, none⟩ = some (.int .i64 m.2.2) := fun w' hw => by
                have k1 := (hw.block w.heap.size hlt5).trans hx5
                refine ⟨?_, ?_, ?_⟩ <;> simp [World.cell?, k1]
              have k8 : order.length + 1 ≤ maxLen := by unfold maxLen; omega
              have k9 : (order.length + 1) * 8 ≤ 140737488355328 := by omega
              have qd : Below wr.heap.size wr wr.drew := (Below.refl _ _).drew
              have qn : Below wr.heap.size wr (wr.alloc (.cells #[.int .i64 (j : Int)] 3)).drew := (alloc_below _ _).drew
              have nn : ∀ k u, ([Value.int .i64 (j : Int)] : List Value)[k]? = some u → (wr.alloc (.cells #[.int .i64 (j : Int)] 3)).drew.cell? ((⟨wr.heap.size, 0, none⟩ : Addr).add k) = some u := new_cell wr (j : Int)
              have x0 := hS6 _ (Below.refl _ _)
              have xd := hS6 _ qd
              have xn := hS6 _ qn
              have AO := fun (W : World) (hW : Below wr.heap.size wr W) => calls_row (l1Own_ok order (by omega)) (inr_all W) (vs := [_]) (All2.cons (hoR.below hW).arg .nil)
              go_wp2
              go_region_held3 (fun w' => w'.cell? ⟨w.heap.size, 0, none⟩ = some (.int .i64 m.1) ∧ w'.cell? ⟨w.heap.size, 1, none⟩ = some (.int .i64 m.2.1) ∧ w'.cell? ⟨w.heap.size, 2, none⟩ = some (.int .i64 m.2.2)) (with_reducible assumption)
                (first
                  | (go_at_call 90; refine (ih _ _ _ _ _ _ ⟨_, rfl⟩ hdn (Nat.le_trans hBw (Nat.le_trans hb5.size d6.size)) (o6.repP (Nat.le_trans hBw hb5.size) (diff_wrap hl hdn)) (hu5.below d6) (hvR.below d6)).mono ?_; rintro e w9 ⟨r9, rfl, b9, hr9⟩; have d9 := d6.trans (b9.mono d6.size); have x9 := hS6 _ d9)
                  | (go_at_call 137; first
                      | (refine (AO _ ?_).mono ?_; (· with_reducible exact qd); rintro e w7 ⟨v7, rfl, b7, o7⟩; have flagA := o7; have d7 := qd.trans (b7.mono qd.size); have x7 := hS6 _ d7; have d8 : Below wr.heap.size wr (w7.alloc (.cells #[.int .i64 (j : Int)] 3)) := d7.alloc d7.size _; have x8 := hS6 _ d8; have o8 := World.ownsRow.alloc (show w7.ownsRow wr.heap.size 3 1 v7 order.length (order.map (.int .i64)) from o7) (.cells #[.int .i64 (j : Int)] 3); have n8 := new_cell w7 (j : Int))
                      | (refine (AO _ ?_).mono ?_; (· with_reducible exact qn); rintro e w7 ⟨v7, rfl, b7, o7⟩; have flagB := o7; have d7 := qn.trans (b7.mono qn.size); have x7 := hS6 _ d7; have o8 : w7.ownsRow wr.heap.size 3 1 v7 order.length (order.map (.int .i64)) := OwnI.low o7 qn.size; have n8 := news_below nn (by show wr.heap.size < (wr.alloc _).heap.size; simp) b7))
                  | (have zf := flagA; refine step_append_own rfl _ _ 29 rfl wr.heap.size 3 i0 z0 1 8 Try.underlying29 hi hz0 hz1 hz2 hz3 (by decide) ?_ order.length (order.map (.int .i64)) ?_ ?_ ?_ 1 1 [.int .i64 (j : Int)] ?_ rfl ?_ (new_one _) k8 k9 ?_ ?_; rotate_left 2; (· (with_reducible exact o8)); rotate_left 2; (· exact n8); (· exact d8.size); rotate_left 1; (· rfl); (· rfl); intro v6 w6 h6 g6 _; have d6 := (d8).grown g6 d8.size (fun k hk => (World.ownsRow.lt o8 k hk).1); have o6 : OwnI w6 wr.heap.size v6 (order ++ [(j : Int)]) := OwnI.of_row h6 (by simp) (by simp); have x6 := hS6 _ d6)
                  | (have zf := flagB; refine step_append_own rfl _ _ 29 rfl wr.heap.size 3 i0 z0 1 8 Try.underlying29 hi hz0 hz1 hz2 hz3 (by decide) ?_ order.length (order.map (.int .i64)) ?_ ?_ ?_ 1 1 [.int .i64 (j : Int)] ?_ rfl ?_ (new_one _) k8 k9 ?_ ?_; rotate_left 2; (· (with_reducible exact o8)); rotate_left 2; (· exact n8); (· exact d7.size); rotate_left 1; (· rfl); (· rfl); intro v6 w6 h6 g6 _; have d6 := (d7).grown g6 d7.size (fun k hk => (World.ownsRow.lt o8 k hk).1); have o6 : OwnI w6 wr.heap.size v6 (order ++ [(j : Int)]) := OwnI.of_row h6 (by simp) (by simp); have x6 := hS6 _ d6))
              all_goals (try go_wp2)
              all_goals go_roundw
              all_goals first
                | exact ⟨j + 1, G (order ++ [(j : Int)]) (a.1, a.2), hlt, by simp, rfl, by rw [HX.out, bestStepG, if_neg hjo], hr9, hb5.trans (d9.mono hb5.size), (d9.block _ hlt5).trans hx5⟩
                | (simp only [intOf]; omega)
          · obtain rfl : j = l.length := by omega
            go_wp2
            all_goals try (exfalso; omega)
            go_ret2
            rw [eB, ← HA.out]
            exact ⟨u3, rfl, hbw, hu⟩)
theorem csBest_go {B : Nat} {m : CMach} {l : List Casting} (hm : okM m = true) (hl : okCs l = true) (vl : Value) : ∀ (k : Nat) (w : World) (vo vb : Value) (o b : List Int) (t : Int), o.length + k = l.length → Diff l.length o → B ≤ w.heap.size → InRow B w vo o → InRow B w vb b → InCasts w vl l →
    Calls Try.prog 90 #[.agg #[.int .i64 m.1, .int .i64 m.2.1, .int .i64 m.2.2], vl, vo, vb, .int .i64 t] w fun e w' => ∃ r, e = .returned (.tuple #[r, .int .i64 (bestS m l k o (b, t)).2]) ∧ Below w.heap.size w w' ∧ InRow B w' r (bestS m l k o (b, t)).1
  | 0, w, vo, vb, o, b, t, hk, hd, hB, ho, hb, hv => by
    rw [bestS_zero (by omega) (fun _ a => a)]
    refine csBest_body hm hl vl o hd (fun _ a => a) (fun W u v o2 b2 t2 ⟨i, e⟩ hd2 _ _ _ _ => ?_) w hB vo vb b t ho hb hv
    have := diff_len _ _ hd2
    rw [e, List.length_append] at this
    simp only [List.length_cons, List.length_nil] at this
    omega
  | k + 1, w, vo, vb, o, b, t, hk, hd, hB, ho, hb, hv => by
    rw [bestS_succ (by omega)]
    exact csBest_body hm hl vl o hd (bestS m l k) (fun W u v o2 b2 t2 ⟨i, e⟩ hd2 hB2 hu hv2 hc => csBest_go hm hl vl k W u v o2 b2 t2 (by rw [e, List.length_append]; simp only [List.length_cons, List.length_nil]; omega) hd2 hB2 hu hv2 hc) w hB vo vb b t ho hb hv
theorem csBest_ok (m : CMach) (l : List Casting) (hm : okM m = true) (hl : okCs l = true) (hn : 0 < l.length) : OkA Try.prog 90 [.agg (cMachine m), .isl 2 (rows cCasting l), .nil, .nil, .int .i64 0] (· = liI 1 cInt (bestO m l)) := by
  refine ⟨⟨_, Try.func90, rfl, rfl⟩, fun w I vs hI hargs => ?_⟩
  obtain ⟨us, rfl, h2, a1, a2, a3⟩ := mach_args hargs
  obtain ⟨vl, us, rfl, h3, hv⟩ := one_args (fun cs e => by cases e) h2
  obtain ⟨v1, us, rfl, h4, hv1⟩ := one_args (fun cs e => by cases e) h3
  obtain ⟨v2, us, rfl, h5, hv2⟩ := one_args (fun cs e => by cases e) h4
  obtain ⟨v3, us, rfl, h6, hv3⟩ := one_args (fun cs e => by cases e) h5
  obtain rfl := nil_args h6
  cases hv1; cases hv2; cases hv3
  have e0 : InRow w.heap.size w (.slice none 0 0) [] := by unfold InRow; rw [rows_nil]; exact .isl0 1 none 0 (Nat.zero_le _)
  have h := csBest_go (B := w.heap.size) hm hl vl l.length w _ _ [] [] 0 (by simp) (diff_nil _) (Nat.le_refl _) e0 e0 (hv.mono fun g hg => ⟨hI.1 g hg, rfl⟩)
  rw [bestS_eq hm (okAll_of hl) hn] at h
  refine h.mono ?_
  rintro e w' ⟨r, rfl, hb, hr⟩
  have hw : IntKind.i64.wrap (bestO m l).2 = (bestO m l).2 := by
    have := (bestAns_wrap m l).2
    rw [bestAns, hm, hl] at this
    exact this
  refine ⟨_, liI 1 cInt (bestO m l), [] ++ ([] ++ []), rfl, rfl, hb, List.nodup_nil, (fun g hg => by cases hg), .tup (.cons (.imm ?_) (.cons (.imm (.int _ _ hw)) .nil))⟩
  exact (show RepI w' _ (.isl 1 (rows cInt (bestO m l).1)) r from hr).mono fun g hg => ⟨⟨.inr hg.1, hg.2.1, (by simp), fun _ => hg.2.2⟩, rfl⟩

/- spec.prBest: the reference's search for the first order with the least cost. -/

noncomputable def costP (p : Press) (l : List PressJob) (ink : Int) (delay : Bool) (o : List Int) : Int := if delay then delayP p l ink o else washP p l ink o
def prStepG (G : List Int → List Int × Int × Bool → List Int × Int × Bool) (o : List Int) (b : List Int × Int × Bool) (i : Nat) : List Int × Int × Bool := if (i : Int) ∈ o then b else G (o ++ [(i : Int)]) b
def prB (G : List Int → List Int × Int × Bool → List Int × Int × Bool) (C : List Int → Int) (n : Nat) (o : List Int) (a : List Int × Int × Bool) : List Int × Int × Bool :=
  if a.2.2 = true ∧ a.2.1 ≤ C o then (a.1, a.2.1, true) else if o.length = n then (o, C o, true) else (List.range n).foldl (prStepG G o) a
theorem prS_zero {C : List Int → Int} {n : Nat} {o : List Int} {a : List Int × Int × Bool} (ho : o.length = n) (G : List Int → List Int × Int × Bool → List Int × Int × Bool) : prS C n 0 o a = prB G C n o a := by
  rw [prS, prB]
  by_cases h : a.2.2 = true ∧ a.2.1 ≤ C o
  · rw [if_pos h, if_pos h]
  · rw [if_neg h, if_neg h, if_pos ho]
theorem prS_succ {C : List Int → Int} {n k : Nat} {o : List Int} {a : List Int × Int × Bool} (ho : o.length ≠ n) : prS C n (k + 1) o a = prB (prS C n k) C n o a := by
  rw [prS, prB, if_neg ho]; rfl
theorem diff_wrapN {n : Nat} (hn : n ≤ 100) {o : List Int} (h : Diff n o) : ∀ x ∈ o, IntKind.i64.wrap x = x := fun x hx => by have := h.2 x hx; exact wrap64 (by omega) (by omega)
/-- Rows that are only read, of any kind. -/
def InAny {α : Type} (n : Nat) (f : α → List PV) (W : World) (v : Value) (xs : List α) : Prop := RepI W (fun k => k < W.heap.size) (.isl n (rows f xs)) v
theorem InAny.below {α : Type} {n : Nat} {f : α → List PV} {W W' : World} {v : Value} {xs : List α} (h : InAny n f W v xs) (hu : Below W.heap.size W W') : InAny n f W' v xs :=
  (show RepI W _ (.isl n (rows f xs)) v from h).mono fun g hg => ⟨Nat.lt_of_lt_of_le hg hu.size, hu.block g hg⟩
theorem InAny.shape {α : Type} {n : Nat} {f : α → List PV} {W : World} {v : Value} {xs : List α} (h : InAny n f W v xs) : ∃ A c, v = .slice A xs.length c := by
  have := isl_shape h
  rwa [rows_eq, List.length_map] at this
/-- A press's washing, jobs and their times. -/
structure PrIn (p : Press) (l : List PressJob) (times : List Int) (vw vl vt : Value) (W : World) : Prop where
  wash : InAny 1 cInt W vw p.2.2.2
  jobs : InAny 3 cPressJob W vl l
  times : InAny 1 cInt W vt times
theorem PrIn.below {p : Press} {l : List PressJob} {times : List Int} {vw vl vt : Value} {W W' : World} (h : PrIn p l times vw vl vt W) (hu : Below W.heap.size W W') : PrIn p l times vw vl vt W' := ⟨h.1.below hu, h.2.below hu, h.3.below hu⟩
theorem press_arg {p : Press} (hp : okPress p = true) {W : World} {vw : Value} {I : Nat → Prop} (h : RepI W I (.isl 1 (rows cInt p.2.2.2)) vw) : RepArg W I (.agg (cPress p)) (.agg #[.int .i64 p.1, .int .i64 p.2.1, .int .i64 p.2.2.1, vw]) := by
  have s1 := okPress_spec hp
  exact .agg (cPress p) [.int .i64 p.1, .int .i64 p.2.1, .int .i64 p.2.2.1, vw] (.cons (.int _ _ (wrap64 (by omega) (by omega))) (.cons (.int _ _ (wrap64 (by omega) (by omega))) (.cons (.int _ _ (wrap64 (by omega) (by omega))) (.cons h .nil))))

set_option maxHeartbeats 4000000 in
set_option maxRecDepth 1000000 in
theorem prBest_body {B : Nat} {p : Press} {l : List PressJob} {ink : Int} {times : List Int} (hwk : workB p ink l = true) (ht : times = l.map (minsF p)) (delay : Bool) (vw vl vt : Value) (order : List Int) (hd : Diff l.length order) (G : List Int → List Int × Int × Bool → List Int × Int × Bool)
    (ih : ∀ (W : World) (u v : Value) (o b : List Int) (t : Int) (fd : Bool), (∃ i, o = order ++ [i]) → Diff l.length o → B ≤ W.heap.size → InRow B W u o → InRow B W v b → PrIn p l times vw vl vt W →
      Calls Try.prog 113 #[.agg #[.int .i64 p.1, .int .i64 p.2.1, .int .i64 p.2.2.1, vw], .int .i64 ink, vl, vt, u, v, .int .i64 t, .bool fd, .bool delay] W fun e w' => ∃ r, e = .returned (.tuple #[r, .int .i64 (G o (b, t, fd)).2.1, .bool (G o (b, t, fd)).2.2]) ∧ Below W.heap.size W w' ∧ InRow B w' r (G o (b, t, fd)).1)
    (w : World) (hBw : B ≤ w.heap.size) (vo vb : Value) (best : List Int) (least : Int) (found : Bool) (ho : InRow B w vo order) (hb : InRow B w vb best) (hen : PrIn p l times vw vl vt w) :
    Calls Try.prog 113 #[.agg #[.int .i64 p.1, .int .i64 p.2.1, .int .i64 p.2.2.1, vw], .int .i64 ink, vl, vt, vo, vb, .int .i64 least, .bool found, .bool delay] w fun e w' => ∃ r, e = .returned (.tuple #[r, .int .i64 (prB G (costP p l ink delay) l.length order (best, least, found)).2.1, .bool (prB G (costP p l ink delay) l.length order (best, least, found)).2.2]) ∧ Below w.heap.size w w' ∧ InRow B w' r (prB G (costP p l ink delay) l.length order (best, least, found)).1 := by
  obtain ⟨k1, k2, k3⟩ := workB_spec hwk
  obtain ⟨vA, vc, rfl⟩ := hen.jobs.shape
  obtain ⟨oA, no, oc, rfl, hno⟩ : ∃ A n c, vo = .slice A n c ∧ n = order.length := by obtain ⟨A, c, h⟩ := ho.shape; exact ⟨A, _, c, h, rfl⟩
  have hl7 := okJobs_len7 k3
  have hl8 : l.length ≤ 100 := by omega
  have hol := diff_len _ _ hd
  obtain ⟨i0, z0, hi, hz0, -, hz1, hz2, hz3, -⟩ := run_zeroValue (envOk 3 _ rfl)
  replace hz1 : i0.size = 1 := hz1
  replace hz2 : i0.bytes = 8 := hz2
  replace hz3 : z0.cells.size = 1 := hz3
  have q1 : Below w.heap.size w (w.alloc (.cells #[.int .i64 p.1, .int .i64 p.2.1, .int .i64 p.2.2.1, vw] 56)) := alloc_below _ _
  have e1 : (w.alloc (.cells #[.int .i64 p.1, .int .i64 p.2.1, .int .i64 p.2.2.1, vw] 56)).heap[w.heap.size]? = some (.cells #[.int .i64 p.1, .int .i64 p.2.1, .int .i64 p.2.2.1, vw] 56 (0, 0)) := heap_alloc_new w _
  have s1 : (w.alloc (.cells #[.int .i64 p.1, .int .i64 p.2.1, .int .i64 p.2.2.1, vw] 56)).heap.size = w.heap.size + 1 := by simp
  have he1 := hen.below q1
  have hT := calls_int (prCost_ok p ink l times order delay hwk (fineB_diff.2 hd) ht) (inr_all (w.alloc (.cells #[.int .i64 p.1, .int .i64 p.2.1, .int .i64 p.2.2.1, vw] 56))) (vs := [.agg #[.int .i64 p.1, .int .i64 p.2.1, .int .i64 p.2.2.1, vw], .int .i64 ink, .slice vA l.length vc, vt, .slice oA no oc, .bool delay])
    (All2.cons (press_arg k1 he1.wash) (All2.cons (.one (.int _ _ (wrap64 (by omega) (by omega)))) (All2.cons (.one he1.jobs) (All2.cons (.one he1.times) (All2.cons (ho.below q1).arg (All2.cons (.one (.bool _)) .nil))))))
  have hT2 : Calls Try.prog 151 #[.agg #[.int .i64 p.1, .int .i64 p.2.1, .int .i64 p.2.2.1, vw], .int .i64 ink, .slice vA l.length vc, vt, .slice oA no oc, .bool delay] (w.alloc (.cells #[.int .i64 p.1, .int .i64 p.2.1, .int .i64 p.2.2.1, vw] 56)) fun e w' => e = .returned (.int .i64 (costP p l ink delay order)) ∧ Below (w.alloc (.cells #[.int .i64 p.1, .int .i64 p.2.1, .int .i64 p.2.2.1, vw] 56)).heap.size (w.alloc (.cells #[.int .i64 p.1, .int .i64 p.2.1, .int .i64 p.2.2.1, vw] 56)) w' := hT
  clear hT
  generalize hcq : costP p l ink delay order = cq at hT2
  have hT := hT2
  have HQ := Lib.hid hcq
  clear hT2 hcq
  by_cases hstop : found = true ∧ least ≤ cq
  · obtain ⟨rfl, hge⟩ := hstop
    have eB : prB G (costP p l ink delay) l.length order (best, least, true) = (best, least, true) := by rw [prB, if_pos (show (true = true) ∧ least ≤ costP p l ink delay order from ⟨rfl, by rw [HQ.out]; exact hge⟩)]
    have HN := Lib.hid hno
    clear hno
    go_enter Try.func113, Try.ntmps113
    go_wp2_with (go_at_call 151; go_must (refine hT.mono ?_; rintro e w4 ⟨rfl, b4⟩))
    all_goals try (exfalso; omega)
    go_ret3
    rw [eB]
    exact ⟨_, rfl, q1.trans (b4.mono q1.size), (hb.below q1).below b4⟩
  · have hst : ¬ ((best, least, found).2.2 = true ∧ (best, least, found).2.1 ≤ costP p l ink delay order) := by rw [HQ.out]; exact hstop
    have hfd : found = false ∨ (found = true ∧ cq < least) := by
      cases found with
      | false => exact .inl rfl
      | true => exact .inr ⟨rfl, by have : ¬ least ≤ cq := fun e => hstop ⟨rfl, e⟩; omega⟩
    by_cases hlen : no = l.length
    · subst hlen
      have eB : prB G (costP p l ink delay) l.length order (best, least, found) = (order, cq, true) := by rw [prB, if_neg hst, if_pos hno.symm, HQ.out]
      have HN := Lib.hid hno
      clear hno hst hstop
      rcases hfd with rfl | ⟨rfl, hlt⟩
      all_goals (go_enter Try.func113, Try.ntmps113
                 go_wp2_with (go_at_call 151; go_must (refine hT.mono ?_; rintro e w4 ⟨rfl, b4⟩)))
      all_goals try (exfalso; omega)
      all_goals go_ret3
      all_goals rw [eB]
      all_goals exact ⟨_, rfl, q1.trans (b4.mono q1.size), (ho.below q1).below b4⟩
    · obtain ⟨a0, ha0⟩ : ∃ a : List Int × Int × Bool, a = (best, least, found) := ⟨_, rfl⟩
      have eB : prB G (costP p l ink delay) l.length order (best, least, found) = (List.range l.length).foldl (prStepG G order) a0 := by rw [prB, if_neg hst, if_neg (show ¬ order.length = l.length by omega), ha0]
      have HN := Lib.hid hno
      have HA0 := Lib.hid ha0
      clear hno hst hstop ha0
      have hfd2 : (found = false ∧ cq ≤ cq) ∨ (found = true ∧ cq < least) := hfd.imp (fun h => ⟨h, Int.le_refl _⟩) id
      clear hfd
      have hne : (((no : Nat) : Int) == ((l.length : Nat) : Int)) = false := by simp only [beq_eq_false_iff_ne, ne_eq]; omega
      rcases hfd2 with ⟨rfl, hlt⟩ | ⟨rfl, hlt⟩
      all_goals (have HL := Lib.hid hlt; clear hlt)
      all_goals (
        go_enter Try.func113, Try.ntmps113
        go_wp2_with (go_at_call 151; go_must (refine hT.mono ?_; rintro e w4 ⟨rfl, b4⟩)))
      all_goals try (exfalso; have := HL.out; omega)
      all_goals
       (go_loopw [5, 6, 7, 47] (fun u3 u4 u5 i wr => ∃ (j : Nat) (a : List Int × Int × Bool), j ≤ l.length ∧ i = .int .i64 (j : Int) ∧ u4 = .int .i64 a.2.1 ∧ u5 = .bool a.2.2 ∧ a = (List.range j).foldl (prStepG G order) a0 ∧ InRow B wr u3 a.1 ∧ Below w.heap.size w wr ∧ wr.heap[w.heap.size]? = some (.cells #[.int .i64 p.1, .int .i64 p.2.1, .int .i64 p.2.2.1, vw] 56 (0, 0))) (fun _ _ _ i _ => l.length - (intOf i).toNat)
        case atStart => exact ⟨0, a0, Nat.zero_le _, rfl, by rw [HA0.out], by rw [HA0.out], rfl, by rw [HA0.out]; exact (hb.below q1).below b4, q1.trans (b4.mono q1.size), (b4.block _ (by omega)).trans e1⟩
        case round =>
          obtain ⟨j, a, hj, rfl, rfl, rfl, ha, hu, hbw, hbx⟩ := hrel
          have hoR := ho.below hbw
          have A1 := calls_bool (l1Has_ok order (j : Int)) (inr_all wr) (vs := [_, .int .i64 (j : Int)]) (All2.cons hoR.arg (All2.cons (.one (.int _ _ (wrap64 (by omega) (by omega)))) .nil))
          have hnext : (List.range (j + 1)).foldl (prStepG G order) a0 = prStepG G order a j := by rw [List.range_succ, List.foldl_append, ← ha]; rfl
          have HA := Lib.hid ha
          have HX := Lib.hid hnext
          clear ha hnext
          by_cases hlt : j < l.length
          · by_cases hjo : (j : Int) ∈ order
            · rw [decide_eq_true hjo] at A1
              go_wp2_with (go_at_call 138; refine A1.mono ?_; rintro e w5 ⟨rfl, b5⟩; refine Hid.out ?_)
              all_goals try (exfalso; omega)
              refine Lib.hid ?_
              go_wp2
              go_roundw
              case rel => exact ⟨j + 1, a, hlt, by simp, rfl, rfl, by rw [HX.out, prStepG, if_pos hjo], hu.below b5, hbw.trans (b5.mono hbw.size), (b5.block _ (by have := (Array.getElem?_eq_some_iff.1 hbx).1; omega)).trans hbx⟩
              case measure => simp only [intOf]; omega
            · rw [decide_eq_false hjo] at A1
              have hdn : Diff l.length (order ++ [(j : Int)]) := diff_nat hd (by omega) (by omega) hjo
              go_wp2_with (go_at_call 138; refine A1.mono ?_; rintro e w5 ⟨rfl, b5⟩; refine Hid.out ?_)
              all_goals try (exfalso; omega)
              refine Lib.hid ?_
              have hb5 : Below w.heap.size w w5 := hbw.trans (b5.mono hbw.size)
              have hx5 : w5.heap[w.heap.size]? = some (.cells #[.int .i64 p.1, .int .i64 p.2.1, .int .i64 p.2.2.1, vw] 56 (0, 0)) := (b5.block _ (by have := (Array.getElem?_eq_some_iff.1 hbx).1; omega)).trans hbx
              have hlt5 : w.heap.size < w5.heap.size := (Array.getElem?_eq_some_iff.1 hx5).1
              have hu5 := hu.below b5
              clear hoR hu b5 hbw hbx A1
              obtain ⟨wr, rfl⟩ : ∃ V : World, V = w5 := ⟨_, rfl⟩
              have hoR := ho.below hb5
              have henR := hen.below hb5
              have hS6 : ∀ w', Below wr.heap.size wr w' → w'.cell? ⟨w.heap.size, 0, none⟩ = some (.int .i64 p.1) ∧ w'.cell? ⟨w.heap.size, 1, none⟩ = some (.int .i64 p.2.1) ∧ w'.cell? ⟨w.heap.size, 2, none⟩ = some (.int .i64 p.2.2.1) ∧ w'.cell? ⟨w.heap.size, 3, none⟩ = some vw := fun w' hw => by
                have k1 := (hw.block w.heap.size hlt5).trans hx5
                refine ⟨?_, ?_, ?_, ?_⟩ <;> simp [World.cell?, k1]
              have k8 : order.length + 1 ≤ maxLen := by unfold maxLen; omega
              have k9 : (order.length + 1) * 8 ≤ 140737488355328 := by omega
              have qd : Below wr.heap.size wr wr.drew := (Below.refl _ _).drew
              have qn : Below wr.heap.size wr (wr.alloc (.cells #[.int .i64 (j : Int)] 3)).drew := (alloc_below _ _).drew
              have nn : ∀ k u, ([Value.int .i64 (j : Int)] : List Value)[k]? = some u → (wr.alloc (.cells #[.int .i64 (j : Int)] 3)).drew.cell? ((⟨wr.heap.size, 0, none⟩ : Addr).add k) = some u := new_cell wr (j : Int)
              have x0 := hS6 _ (Below.refl _ _)
              have xd := hS6 _ qd
              have xn := hS6 _ qn
              have AO := fun (W : World) (hW : Below wr.heap.size wr W) => calls_row (l1Own_ok order (by omega)) (inr_all W) (vs := [_]) (All2.cons (hoR.below hW).arg .nil)
              go_wp2
              go_region_held3 (fun w' => w'.cell? ⟨w.heap.size, 0, none⟩ = some (.int .i64 p.1) ∧ w'.cell? ⟨w.heap.size, 1, none⟩ = some (.int .i64 p.2.1) ∧ w'.cell? ⟨w.heap.size, 2, none⟩ = some (.int .i64 p.2.2.1) ∧ w'.cell? ⟨w.heap.size, 3, none⟩ = some vw) (with_reducible assumption)
                (first
                  | (go_at_call 113; refine (ih _ _ _ _ _ _ _ ⟨_, rfl⟩ hdn (Nat.le_trans hBw (Nat.le_trans hb5.size d6.size)) (o6.repP (Nat.le_trans hBw hb5.size) (diff_wrapN hl8 hdn)) (hu5.below d6) (henR.below d6)).mono ?_; rintro e w9 ⟨r9, rfl, b9, hr9⟩; have d9 := d6.trans (b9.mono d6.size); have x9 := hS6 _ d9)
                  | (go_at_call 137; first
                      | (refine (AO _ ?_).mono ?_; (· with_reducible exact qd); rintro e w7 ⟨v7, rfl, b7, o7⟩; have flagA := o7; have d7 := qd.trans (b7.mono qd.size); have x7 := hS6 _ d7; have d8 : Below wr.heap.size wr (w7.alloc (.cells #[.int .i64 (j : Int)] 3)) := d7.alloc d7.size _; have x8 := hS6 _ d8; have o8 := World.ownsRow.alloc (show w7.ownsRow wr.heap.size 3 1 v7 order.length (order.map (.int .i64)) from o7) (.cells #[.int .i64 (j : Int)] 3); have n8 := new_cell w7 (j : Int))
                      | (refine (AO _ ?_).mono ?_; (· with_reducible exact qn); rintro e w7 ⟨v7, rfl, b7, o7⟩; have flagB := o7; have d7 := qn.trans (b7.mono qn.size); have x7 := hS6 _ d7; have o8 : w7.ownsRow wr.heap.size 3 1 v7 order.length (order.map (.int .i64)) := OwnI.low o7 qn.size; have n8 := news_below nn (by show wr.heap.size < (wr.alloc _).heap.size; simp) b7))
                  | (have zf := flagA; refine step_append_own rfl _ _ 29 rfl wr.heap.size 3 i0 z0 1 8 Try.underlying29 hi hz0 hz1 hz2 hz3 (by decide) ?_ order.length (order.map (.int .i64)) ?_ ?_ ?_ 1 1 [.int .i64 (j : Int)] ?_ rfl ?_ (new_one _) k8 k9 ?_ ?_; rotate_left 2; (· (with_reducible exact o8)); rotate_left 2; (· exact n8); (· exact d8.size); rotate_left 1; (· rfl); (· rfl); intro v6 w6 h6 g6 _; have d6 := (d8).grown g6 d8.size (fun k hk => (World.ownsRow.lt o8 k hk).1); have o6 : OwnI w6 wr.heap.size v6 (order ++ [(j : Int)]) := OwnI.of_row h6 (by simp) (by simp); have x6 := hS6 _ d6)
                  | (have zf := flagB; refine step_append_own rfl _ _ 29 rfl wr.heap.size 3 i0 z0 1 8 Try.underlying29 hi hz0 hz1 hz2 hz3 (by decide) ?_ order.length (order.map (.int .i64)) ?_ ?_ ?_ 1 1 [.int .i64 (j : Int)] ?_ rfl ?_ (new_one _) k8 k9 ?_ ?_; rotate_left 2; (· (with_reducible exact o8)); rotate_left 2; (· exact n8); (· exact d7.size); rotate_left 1; (· rfl); (· rfl); intro v6 w6 h6 g6 _; have d6 := (d7).grown g6 d7.size (fun k hk => (World.ownsRow.lt o8 k hk).1); have o6 : OwnI w6 wr.heap.size v6 (order ++ [(j : Int)]) := OwnI.of_row h6 (by simp) (by simp); have x6 := hS6 _ d6))
              all_goals (try go_wp2)
              all_goals go_roundw
              all_goals first
                | exact ⟨j + 1, G (order ++ [(j : Int)]) (a.1, a.2.1, a.2.2), hlt, by simp, rfl, rfl, by rw [HX.out, prStepG, if_neg hjo], hr9, hb5.trans (d9.mono hb5.size), (d9.block _ hlt5).trans hx5⟩
                | (simp only [intOf]; omega)
          · obtain rfl : j = l.length := by omega
            go_wp2
            all_goals try (exfalso; omega)
            go_ret3
            rw [eB, ← HA.out]
            exact ⟨_, rfl, hbw, hu⟩)
theorem prBest_go {B : Nat} {p : Press} {l : List PressJob} {ink : Int} {times : List Int} (hwk : workB p ink l = true) (ht : times = l.map (minsF p)) (delay : Bool) (vw vl vt : Value) : ∀ (k : Nat) (w : World) (vo vb : Value) (o b : List Int) (t : Int) (fd : Bool), o.length + k = l.length → Diff l.length o → B ≤ w.heap.size → InRow B w vo o → InRow B w vb b → PrIn p l times vw vl vt w →
    Calls Try.prog 113 #[.agg #[.int .i64 p.1, .int .i64 p.2.1, .int .i64 p.2.2.1, vw], .int .i64 ink, vl, vt, vo, vb, .int .i64 t, .bool fd, .bool delay] w fun e w' => ∃ r, e = .returned (.tuple #[r, .int .i64 (prS (costP p l ink delay) l.length k o (b, t, fd)).2.1, .bool (prS (costP p l ink delay) l.length k o (b, t, fd)).2.2]) ∧ Below w.heap.size w w' ∧ InRow B w' r (prS (costP p l ink delay) l.length k o (b, t, fd)).1
  | 0, w, vo, vb, o, b, t, fd, hk, hd, hB, ho, hb, hv => by
    rw [prS_zero (by omega) (fun _ a => a)]
    refine prBest_body hwk ht delay vw vl vt o hd (fun _ a => a) (fun W u v o2 b2 t2 fd2 ⟨i, e⟩ hd2 _ _ _ _ => ?_) w hB vo vb b t fd ho hb hv
    have := diff_len _ _ hd2
    rw [e, List.length_append] at this
    simp only [List.length_cons, List.length_nil] at this
    omega
  | k + 1, w, vo, vb, o, b, t, fd, hk, hd, hB, ho, hb, hv => by
    rw [prS_succ (by omega)]
    exact prBest_body hwk ht delay vw vl vt o hd (prS (costP p l ink delay) l.length k) (fun W u v o2 b2 t2 fd2 ⟨i, e⟩ hd2 hB2 hu hv2 hc => prBest_go hwk ht delay vw vl vt k W u v o2 b2 t2 fd2 (by rw [e, List.length_append]; simp only [List.length_cons, List.length_nil]; omega) hd2 hB2 hu hv2 hc) w hB vo vb b t fd ho hb hv
theorem press_args_of {w : World} {I : Nat → Prop} {p : Press} {r : List PV} {vs : List Value} (h : All2 (RepArg w I) (.agg (cPress p) :: r) vs) : ∃ vw us, vs = .agg #[.int .i64 p.1, .int .i64 p.2.1, .int .i64 p.2.2.1, vw] :: us ∧ All2 (RepArg w I) r us ∧ RepI w I (.isl 1 (rows cInt p.2.2.2)) vw := by
  cases h with
  | cons h t =>
    cases h with
    | one h => cases h
    | agg _ cs h =>
      cases h with
      | cons h1 h => cases h with
        | cons h2 h => cases h with
          | cons h3 h => cases h with
            | cons h4 h => cases h; cases h1 with
              | int _ _ a1 => cases h2 with
                | int _ _ a2 => cases h3 with
                  | int _ _ a3 => exact ⟨_, _, rfl, t, h4⟩
theorem costP_cost {p : Press} (l : List PressJob) (ink : Int) (delay : Bool) (h : okPress p = true) : IsCost (costP p l ink delay) := by
  cases delay with
  | false => exact wash_cost l ink h
  | true => exact delay_cost p l ink
theorem costP_bound {p : Press} {l : List PressJob} {ink : Int} {delay : Bool} {o : List Int} (hwk : workB p ink l = true) (hd : Diff l.length o) : 0 ≤ costP p l ink delay o ∧ costP p l ink delay o ≤ 100000000 := by
  obtain ⟨k1, k2, k3⟩ := workB_spec hwk
  have hl := okJobs_len7 k3
  have hol := diff_len _ _ hd
  refine ⟨(costP_cost l ink delay k1).pos o, ?_⟩
  cases delay with
  | false =>
    have := (washP_pos (l := l) (okPress_spec k1).1 o ink).2
    show washP p l ink o ≤ _
    omega
  | true =>
    show delayP p l ink o ≤ _
    unfold delayP lateD
    rcases fold_max_pos (fun x : Int × Int => x.1 - (jobAt l x.2).2.2) ((endsP p l ink 0 o).zip o) 0 with h | ⟨x, hx, h⟩
    · rw [h]; omega
    · rw [h]
      obtain ⟨h1, h2⟩ := List.of_mem_zip (show (x.1, x.2) ∈ _ from hx)
      have h3 := endsP_bound k1 k3 o ink 0 hd.2 x.1 h1
      have h4 := hd.2 x.2 h2
      obtain ⟨y, hy⟩ : ∃ y, l[x.2.toNat]? = some y := ⟨_, List.getElem?_eq_getElem (by omega)⟩
      have h5 := okJob_spec (okJobs_mem k3 y (List.mem_of_getElem? hy))
      rw [jobAt_some hy]
      omega
theorem prBest_ok (p : Press) (ink : Int) (l : List PressJob) (times : List Int) (delay : Bool) (hwk : workB p ink l = true) (ht : times = l.map (minsF p)) :
    OkA Try.prog 113 [.agg (cPress p), .int .i64 ink, .isl 3 (rows cPressJob l), .isl 1 (rows cInt times), .nil, .nil, .int .i64 0, .bool false, .bool delay] (· = licI 1 cInt ((leastF (costP p l ink delay) l.length).1, (leastF (costP p l ink delay) l.length).2, true)) := by
  refine ⟨⟨_, Try.func113, rfl, rfl⟩, fun w I vs hI hargs => ?_⟩
  obtain ⟨vw, us, rfl, h2, hvw⟩ := press_args_of hargs
  obtain ⟨v1, us, rfl, h3, hv1⟩ := one_args (fun cs e => by cases e) h2
  obtain ⟨vl, us, rfl, h4, hvl⟩ := one_args (fun cs e => by cases e) h3
  obtain ⟨vt, us, rfl, h5, hvt⟩ := one_args (fun cs e => by cases e) h4
  obtain ⟨v2, us, rfl, h6, hv2⟩ := one_args (fun cs e => by cases e) h5
  obtain ⟨v3, us, rfl, h7, hv3⟩ := one_args (fun cs e => by cases e) h6
  obtain ⟨v4, us, rfl, h8, hv4⟩ := one_args (fun cs e => by cases e) h7
  obtain ⟨v5, us, rfl, h9, hv5⟩ := one_args (fun cs e => by cases e) h8
  obtain ⟨v6, us, rfl, h10, hv6⟩ := one_args (fun cs e => by cases e) h9
  obtain rfl := nil_args h10
  cases hv1; cases hv2; cases hv3; cases hv4; cases hv5; cases hv6
  obtain ⟨k1, k2, k3⟩ := workB_spec hwk
  have e0 : InRow w.heap.size w (.slice none 0 0) [] := by unfold InRow; rw [rows_nil]; exact .isl0 1 none 0 (Nat.zero_le _)
  have h := prBest_go (B := w.heap.size) hwk ht delay vw vl vt l.length w _ _ [] [] 0 false (by simp) (diff_nil _) (Nat.le_refl _) e0 e0 ⟨hvw.mono fun g hg => ⟨hI.1 g hg, rfl⟩, hvl.mono fun g hg => ⟨hI.1 g hg, rfl⟩, hvt.mono fun g hg => ⟨hI.1 g hg, rfl⟩⟩
  rw [prS_eq (costP_cost l ink delay k1)] at h
  refine h.mono ?_
  rintro e w' ⟨r, rfl, hb, hr⟩
  obtain ⟨f1, f2, f3, -⟩ := leastF_spec (n := l.length) (costP_cost l ink delay k1)
  have hbd := costP_bound (delay := delay) hwk f1
  have hw : IntKind.i64.wrap (leastF (costP p l ink delay) l.length).2 = (leastF (costP p l ink delay) l.length).2 := by rw [f3]; exact wrap64 (by omega) (by omega)
  refine ⟨_, licI 1 cInt ((leastF (costP p l ink delay) l.length).1, (leastF (costP p l ink delay) l.length).2, true), [] ++ ([] ++ ([] ++ [])), rfl, rfl, hb, List.nodup_nil, (fun g hg => by cases hg), .tup (.cons (.imm ?_) (.cons (.imm (.int _ _ hw)) (.cons (.imm (.bool _)) .nil)))⟩
  exact (show RepI w' _ (.isl 1 (rows cInt (leastF (costP p l ink delay) l.length).1)) r from hr).mono fun g hg => ⟨⟨.inr hg.1, hg.2.1, (by simp), fun _ => hg.2.2⟩, rfl⟩

end Go.Proofs.Ytjmjepdlclehoaa.Ai
