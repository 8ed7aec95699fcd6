/- The law FnFolds: its body returns true. -/
import Derived.Test.YtbamclepgabciaaDoorFoldsDraw
import Derived.Test.YtbamclepgabciaaDoorScheme
import Derived.Test.YtbamclepgabciaaDoorAiCut
namespace Go.Proofs.YtbamclepgabciaaDoor.Ai
open Go Go.Proofs
set_option linter.unusedSimpArgs false
set_option maxRecDepth 10000
set_option maxHeartbeats 4000000
set_option linter.unusedVariables false
theorem lst_ok {g : Bool} {p f : List Int} {b : Bool} (h : (f, b) = if g then (p, true) else ([], false)) : b = g ∧ (b = true → f = p) := by
  cases g
  · exact ⟨(Prod.mk.inj h).2, fun e => by rw [(Prod.mk.inj h).2] at e; cases e⟩
  · exact ⟨(Prod.mk.inj h).2, fun _ => (Prod.mk.inj h).1⟩
theorem siz_ok {l : List Fold} {c r : Int} {b : Bool} (h : (c, r, b) = if goodF l then ((sizeF l).1, (sizeF l).2, true) else (0, 0, false)) : b = goodF l ∧ (b = true → c = p2 (wide l) ∧ r = p2 (high l)) := by
  cases hg : goodF l
  · rw [hg] at h
    have e := Prod.mk.inj (Prod.mk.inj h).2
    exact ⟨e.2, fun e' => by rw [e.2] at e'; cases e'⟩
  · rw [hg] at h
    have e := Prod.mk.inj (Prod.mk.inj h).2
    exact ⟨e.2, fun _ => ⟨(Prod.mk.inj h).1, e.1⟩⟩
theorem sch_ok {l : List Fold} {t : List UInt8} {b : Bool} (h : (t, b) = schF l) : b = goodF l := by
  unfold schF at h
  cases hg : goodF l
  · rw [hg] at h; exact (Prod.mk.inj h).2
  · rw [hg] at h; exact (Prod.mk.inj h).2
noncomputable abbrev midFolds (more : List Int) : List (Nat × PV) := [(1, .isl 1 (rows cU8 more))]

section
variable {κ : Ctx} {X Y : Req → (PV → Prop) → Prop} {L : Code → (Ex → St → Prop) → St → Prop} {Q : PV → Prop}

theorem folds_part1 (m : Mach Tryd.prog G κ X Y L) (hQ : ∀ r, r = PV.bool true → Q r) (code more : List Int) (hf : ∀ x ∈ code, 0 ≤ x ∧ x ≤ 255) (E0 : St → Prop)
    (hE0 : ∀ (s' : St) (σ : List Fold × Bool × List Int × List Int × List Int × Int × Int), headOk s' [] = true → Ai.norm [1, 5, 7, 8, 12, 16, 21, 22] [] s' = St.at 346 [(1, .isl 1 (rows cU8 more)), (5, .isl 2 (rows cFold σ.1)), (7, .bool σ.2.1), (8, .isl 1 (rows cInt σ.2.2.1)), (12, .isl 1 (rows cInt σ.2.2.2.1)), (16, .isl 1 (rows cInt σ.2.2.2.2.1)), (21, .int .i64 σ.2.2.2.2.2.1), (22, .int .i64 σ.2.2.2.2.2.2)] [] → ((more.length : Int) ≤ 9223372036854775807 ∧ ((σ.2.1 = goodF σ.1) ∧ (σ.2.1 = true → σ.2.2.1 = pagesL σ.1 true ∧ σ.2.2.2.1 = pagesL σ.1 false ∧ σ.2.2.2.2.1 = (foldedF σ.1).map (·.1) ∧ σ.2.2.2.2.2.1 = p2 (wide σ.1) ∧ σ.2.2.2.2.2.2 = p2 (high σ.1)))) → E0 s') :
    Ai.code X L G (front 14 (Tryd.f4.body.getD .skip)) (fun e s' => match e with | .normal => E0 s' | .exit i => EndsIn (post G Tryd.f4.results.toList Q) (.exit i) s' | .ret => EndsIn (post G Tryd.f4.results.toList Q) .ret s') (start 346 [.isl 1 (rows cU8 code), .isl 1 (rows cU8 more)] []) := by
  conv => cbv
  refine r_lenR m.sX fun n1 hn1 mn1 => ?_
  conv => cbv
  refine r_lenR m.sX fun n2 hn2 mn2 => ?_
  conv => cbv
  refine r_add m.sX fun r1 hr1 => ?_
  conv => cbv
  refine r_gtr m.sX (fun h1 => ?_) (fun h1 => ?_) <;> conv => cbv
  · exact hQ _ (congrArg PV.bool (by first | rfl | omega | (simp [*]; done) | (subst_vars; simp [*]; done)))   -- leaf 1
  · have h : CurIn code := ⟨by omega, hf⟩
    have hmr : (more.length : Int) ≤ 9223372036854775807 := by omega
    refine r_callE m.sX ((drawPagesOnFront_ok code h).iceE) ?_
    rintro _ ⟨_, ⟨l, rfl, bl_1⟩, rfl⟩
    conv => cbv
    refine r_callF (lbI 1 cInt) m.sX ((PagesOnFront_ok l).ice) fun v hf => ?_
    obtain ⟨f, ok⟩ := v
    conv => cbv
    have o1 := lst_ok hf
    refine r_callF (lbI 1 cInt) m.sX ((specPagesOnFront_ok l).ice) fun y1 hy1 => ?_
    obtain rfl := hf.trans hy1.symm
    clear hy1
    conv => cbv
    refine r_callF (lbI 1 cInt) m.sX ((PagesOnBack_ok l).ice) fun v hb => ?_
    obtain ⟨b, one⟩ := v
    conv => cbv
    have o2 := lst_ok hb
    refine r_callF (lbI 1 cInt) m.sX ((specPagesOnBack_ok l).ice) fun y2 hy2 => ?_
    obtain rfl := hb.trans hy2.symm
    clear hy2
    conv => cbv
    refine r_callF (lbI 1 cInt) m.sX ((LeafOrder_ok l).ice) fun v ho => ?_
    obtain ⟨o, three⟩ := v
    conv => cbv
    have o3 := lst_ok ho
    refine r_callF (lbI 1 cInt) m.sX ((specLeafOrder_ok l).ice) fun y3 hy3 => ?_
    obtain rfl := ho.trans hy3.symm
    clear hy3
    conv => cbv
    refine r_callF iib m.sX (SheetSize_ok l) fun v hc => ?_
    obtain ⟨c, r, five⟩ := v
    conv => cbv
    have o5 := siz_ok hc
    refine r_callF iib m.sX (specSheetSize_ok l) fun y4 hy4 => ?_
    obtain rfl := hc.trans hy4.symm
    clear hy4
    conv => cbv
    refine r_callF sb m.sX (SchemeText_ok l) fun v ht => ?_
    obtain ⟨t, seven⟩ := v
    conv => cbv
    have o7 := sch_ok ht
    refine r_callF sb m.sX (specSchemeText_ok l) fun y5 hy5 => ?_
    obtain rfl := ht.trans hy5.symm
    clear hy5
    conv => cbv
    rcases Bool.eq_false_or_eq_true ok with rfl | rfl <;> conv => cbv
    · have g_ : goodF l = true := o1.1.symm
      refine r_callBT m.sX (qInts_ok f f) (by first | assumption | exact decide_eq_true rfl | (simp [*]; done) | omega) ?_   -- h2
      conv => cbv
      obtain rfl : one = true := by exact o2.1.trans o1.1.symm
      conv => cbv
      refine r_callBT m.sX (qInts_ok b b) (by first | assumption | exact decide_eq_true rfl | (simp [*]; done) | omega) ?_   -- h3
      conv => cbv
      obtain rfl : three = true := by exact o3.1.trans o1.1.symm
      conv => cbv
      refine r_callBT m.sX (qInts_ok o o) (by first | assumption | exact decide_eq_true rfl | (simp [*]; done) | omega) ?_   -- h4
      conv => cbv
      obtain rfl : five = true := by exact o5.1.trans o1.1.symm
      conv => cbv
      refine r_neqF m.sX (by first | omega | rfl) ?_
      conv => cbv
      refine r_neqF m.sX (by first | omega | rfl) ?_
      conv => cbv
      obtain rfl : seven = true := by exact o7.trans o1.1.symm
      conv => cbv
      refine r_sneqF m.sX (by first | omega | rfl) ?_
      conv => cbv
      refine r_callBT m.sX (AreFolds_ok l) (by first | assumption | exact decide_eq_true rfl | (simp [*]; done) | omega) ?_   -- h8
      conv => cbv
      exact hE0 _ (l, true, f, b, o, c, r) (by cbv) (by cbv) ⟨hmr, ⟨(by (try dsimp only) <;> (exact o1.1)), (by (try dsimp only) <;> (first | exact fun _ => ⟨o1.2 rfl, o2.2 rfl, o3.2 rfl, (o5.2 rfl).1, (o5.2 rfl).2⟩ | exact fun e => by cases e))⟩⟩
    · have g_ : goodF l = false := o1.1.symm
      refine r_callBT m.sX (qInts_ok f f) (by first | assumption | exact decide_eq_true rfl | (simp [*]; done) | omega) ?_   -- h9
      conv => cbv
      obtain rfl : one = false := by exact o2.1.trans o1.1.symm
      conv => cbv
      refine r_callBT m.sX (qInts_ok b b) (by first | assumption | exact decide_eq_true rfl | (simp [*]; done) | omega) ?_   -- h10
      conv => cbv
      obtain rfl : three = false := by exact o3.1.trans o1.1.symm
      conv => cbv
      refine r_callBT m.sX (qInts_ok o o) (by first | assumption | exact decide_eq_true rfl | (simp [*]; done) | omega) ?_   -- h11
      conv => cbv
      obtain rfl : five = false := by exact o5.1.trans o1.1.symm
      conv => cbv
      refine r_neqF m.sX (by first | omega | rfl) ?_
      conv => cbv
      refine r_neqF m.sX (by first | omega | rfl) ?_
      conv => cbv
      obtain rfl : seven = false := by exact o7.trans o1.1.symm
      conv => cbv
      refine r_sneqF m.sX (by first | omega | rfl) ?_
      conv => cbv
      refine r_callBF m.sX (AreFolds_ok l) (by first | assumption | exact decide_eq_true rfl | (simp [*]; done) | omega) ?_   -- h15
      conv => cbv
      exact hE0 _ (l, false, f, b, o, c, r) (by cbv) (by cbv) ⟨hmr, ⟨(by (try dsimp only) <;> (exact o1.1)), (by (try dsimp only) <;> (first | exact fun _ => ⟨o1.2 rfl, o2.2 rfl, o3.2 rfl, (o5.2 rfl).1, (o5.2 rfl).2⟩ | exact fun e => by cases e))⟩⟩

theorem folds_part2 (m : Mach Tryd.prog G κ X Y L) (hQ : ∀ r, r = PV.bool true → Q r) (more : List Int) (h : CurIn more) (l : List Fold) (ok : Bool) (front_ : List Int) (back : List Int) (order : List Int) (columns : Int) (rows_ : Int) (g0 : ok = goodF l) (st : ok = true → front_ = pagesL l true ∧ back = pagesL l false ∧ order = (foldedF l).map (·.1) ∧ columns = p2 (wide l) ∧ rows_ = p2 (high l)) (E0 : St → Prop)
    (hE0 : ∀ (s' : St) (a : Unit), headOk s' [] = true → Ai.norm [1] [] s' = St.at 346 (midFolds more) [] → True → E0 s') :
    Ai.code X L G (front 1 (rest 14 (Tryd.f4.body.getD .skip))) (fun e s' => match e with | .normal => E0 s' | .exit i => EndsIn (post G Tryd.f4.results.toList Q) (.exit i) s' | .ret => EndsIn (post G Tryd.f4.results.toList Q) .ret s') (St.at 346 [(1, .isl 1 (rows cU8 more)), (5, .isl 2 (rows cFold l)), (7, .bool ok), (8, .isl 1 (rows cInt front_)), (12, .isl 1 (rows cInt back)), (16, .isl 1 (rows cInt order)), (21, .int .i64 columns), (22, .int .i64 rows_)] []) := by
  conv => cbv
  rcases Bool.eq_false_or_eq_true ok with rfl | rfl <;> conv => cbv
  · have g_ : goodF l = true := g0.symm
    obtain ⟨fe, be, oe, cw, rw_⟩ := st rfl
    have tx := text_ok g_
    have fl : front_.length = 2 ^ l.length := by rw [fe, tx.lenf]
    have f16 : front_.length ≤ 16 := by rw [fl]; exact pow16 (goodF_le g_)
    have bl : back.length = front_.length := by rw [be, fl, tx.lenb]
    have ol : order.length = front_.length := by rw [oe, List.length_map, folded_length g_, fl]
    have fs : (front_.length : Int) = columns * rows_ := by rw [cw, rw_, fe, tx.size, Int.natCast_mul]; rfl
    refine r_lenR m.sX fun n1 hn1 mn1 => ?_
    conv => cbv
    refine r_mulf m.sX (by first | omega | (subst_vars; omega)) (by first | omega | (subst_vars; omega)) fun r1 hr1 => ?_
    conv => cbv
    refine r_neqF m.sX (by first | omega | rfl) ?_
    conv => cbv
    refine r_lenR m.sX fun n2 hn2 mn2 => ?_
    conv => cbv
    refine r_lenR m.sX fun n3 hn3 mn3 => ?_
    conv => cbv
    refine r_neqF m.sX (by first | omega | rfl) ?_
    conv => cbv
    refine r_lenR m.sX fun n4 hn4 mn4 => ?_
    conv => cbv
    refine r_lenR m.sX fun n5 hn5 mn5 => ?_
    conv => cbv
    refine r_neqF m.sX (by first | omega | rfl) ?_
    conv => cbv
    refine r_lenR m.sX fun n6 hn6 mn6 => ?_
    conv => cbv
    refine r_mulf m.sX (by first | omega | (subst_vars; omega)) (by first | omega | (subst_vars; omega)) fun r2 hr2 => ?_
    conv => cbv
    refine r_addf m.sX (by omega) (by omega) fun r3 hr3 => ?_
    conv => cbv
    refine r_make cBool false m.sX rfl (by omega) (by omega) (by dsimp only; omega) (by omega) fun met hmet => ?_   -- met = replicate r3
    have lmet : (met.length : Int) = r3 := by rw [hmet]; first | done | (simp; done) | (simp; omega)
    conv => cbv
    refine r_lenR m.sX fun n7 hn7 mn7 => ?_
    conv => cbv
    refine r_loopF (α := List Bool × Int) m 346 [1, 5, 8, 12, 16, 215, 216] [⟨28, 225, 4, 1, 0⟩] (fun σ => [(1, .isl 1 (rows cU8 more)), (5, .isl 2 (rows cFold l)), (8, .isl 1 (rows cInt front_)), (12, .isl 1 (rows cInt back)), (16, .isl 1 (rows cInt order)), (28, .osl 225 0), (215, .int .i64 n7), (216, .int .i64 σ.2)]) (fun σ => [(225, 0, .row 4 1 (rows cBool σ.1))])
      (fun σ => (0 ≤ σ.2) ∧ (σ.2 ≤ n7) ∧ (σ.1 = metAt l σ.2.toNat)) (fun σ => (n7 - σ.2).toNat) (met, 0) ?_ ?_ ?_ ?_
    · cbv
    · cbv
    · exact ⟨(by (try dsimp only); first | omega | (simp only [List.length_nil]; omega) | (simp only [List.length_cons, List.length_nil]; omega)), (by (try dsimp only); first | omega | (simp only [List.length_nil]; omega) | (simp only [List.length_cons, List.length_nil]; omega)), (by (try dsimp only) <;> (rw [hmet, show Int.toNat r3 = 2 * front_.length + 1 by omega, fl]; rfl))⟩
    rintro ⟨met_2, i1⟩ ⟨lo1, hi1, q⟩ E hE F hF
    dsimp only at lo1 hi1 q
    have ml : met_2.length = 2 * front_.length + 1 := by rw [q, metAt_length, fl]
    conv => cbv
    refine r_lss m.sX (fun h4 => ?_) (fun h4 => ?_) <;> conv => cbv
    · refine r_draw m (by kernel_rfl) ?_
      conv => cbv
      refine r_index m.sY (by omega) (by omega) fun low hlow => ?_
      conv => cbv
      have mlow := get_mem hlow
      have dlow := drop_cons hlow
      have klow := take_snoc hlow
      have jlow : (i1 + 1).toNat = Int.toNat i1 + 1 := by omega
      have vlow := nth_some hlow
      refine r_index m.sY (by omega) (by omega) fun high hhigh => ?_
      conv => cbv
      have mhigh := get_mem hhigh
      have dhigh := drop_cons hhigh
      have khigh := take_snoc hhigh
      have jhigh : (i1 + 1).toNat = Int.toNat i1 + 1 := by omega
      have vhigh := nth_some hhigh
      have fa : (pagesL l true)[Int.toNat i1]? = some low := by rw [← fe]; exact hlow
      have fb : (pagesL l false)[Int.toNat i1]? = some high := by rw [← be]; exact hhigh
      obtain ⟨la1, la2, la3, la4, la5, la6, la7, la8⟩ := law_at g_ fa fb
      rw [← fl] at la2
      rw [← q] at la5
      rw [← oe] at la6
      clear fl fs
      refine r_gtr m.sX (fun h5 => ?_) (fun h5 => ?_) <;> conv => cbv
      · have mn : min low high = high := Int.min_eq_right (Int.le_of_lt h5)
        have mx : max low high = low := Int.max_eq_left (Int.le_of_lt h5)
        rw [mn] at la1 la3 la4 la5 la6
        rw [mx] at la2 la3
        have la9 : low ≤ 2 * (front_.length : Int) := la2
        clear la2
        refine r_lssF m.sX (by first | omega | rfl) ?_
        conv => cbv
        refine r_lenR m.sX fun n8 hn8 mn8 => ?_
        conv => cbv
        refine r_mulf m.sX (by first | omega | (subst_vars; omega)) (by first | omega | (subst_vars; omega)) fun r4 hr4 => ?_
        conv => cbv
        refine r_gtrF m.sX (by first | omega | rfl) ?_
        conv => cbv
        refine r_addf m.sX (by omega) (by omega) fun r5 hr5 => ?_
        conv => cbv
        refine r_neqF m.sX (by first | omega | rfl) ?_
        conv => cbv
        refine r_modf m.sX (by omega) (by omega) fun r6 hr6 br6 => ?_
        conv => cbv
        refine r_neqF m.sX (by first | omega | rfl) ?_
        conv => cbv
        refine r_oindex m.sX (by omega) (by omega) ?_
        conv => cbv
        obtain ⟨x1, hx1⟩ := get_ex (xs := met_2) (i := Int.toNat high) (by omega)
        have mx1 := get_mem hx1
        refine r_oload m.sX hx1 (Nat.le_of_ble_eq_true rfl) ?_
        conv => cbv
        obtain rfl : x1 = false := by exact Option.some.inj (hx1.symm.trans la5)
        conv => cbv
        first | refine r_divf m.sX (by omega) (by omega) fun r7 hr7 br7 => ?_ | refine r_tdivf m.sX (by omega) (by omega) fun r7 hr7 br7 => ?_
        conv => cbv
        refine r_index m.sX (by omega) (by omega) fun x2 hx2 => ?_
        conv => cbv
        have mx2 := get_mem hx2
        have vx2 := nth_some hx2
        refine r_neqF m.sX ((by rw [← hr7] at la6; have z := Option.some.inj (hx2.symm.trans la6); omega)) ?_
        conv => cbv
        refine r_oindex m.sX (by omega) (by omega) ?_
        conv => cbv
        obtain ⟨y1, hy1⟩ := get_ex (xs := met_2) (i := Int.toNat high) (by omega)
        refine r_ostore (l := Int.toNat high) true m.sX hy1 (Nat.le_of_ble_eq_true rfl) rfl fun met_3 hmet_3 => ?_   -- met_3 = met_2.set high true
        have lmet_3 : (met_3.length : Int) = met_2.length := by rw [hmet_3]; first | done | (simp; done) | (simp; omega)
        conv => cbv
        refine r_index m.sX (by omega) (by omega) fun x3 hx3 => ?_
        conv => cbv
        have mx3 := get_mem hx3
        have dx3 := drop_cons hx3
        have kx3 := take_snoc hx3
        have jx3 : (i1 + 1).toNat = Int.toNat i1 + 1 := by omega
        have vx3 := nth_some hx3
        obtain rfl : low = x3 := Option.some.inj (hlow.symm.trans hx3)
        refine r_callF ibb m.sX (PlaceOfPage_ok l low) fun v hcell => ?_
        obtain ⟨cell, up, nine⟩ := v
        conv => cbv
        have ce := (Prod.mk.inj (hcell.trans la7)).1
        refine r_index m.sX (by omega) (by omega) fun x4 hx4 => ?_
        conv => cbv
        have mx4 := get_mem hx4
        have dx4 := drop_cons hx4
        have kx4 := take_snoc hx4
        have jx4 : (i1 + 1).toNat = Int.toNat i1 + 1 := by omega
        have vx4 := nth_some hx4
        obtain rfl : high = x4 := Option.some.inj (hhigh.symm.trans hx4)
        refine r_callF ibb m.sX (PlaceOfPage_ok l high) fun v hother => ?_
        obtain ⟨other, down, ten⟩ := v
        conv => cbv
        have oc := (Prod.mk.inj (hother.trans la8)).1
        obtain rfl : nine = true := by exact (Prod.mk.inj (Prod.mk.inj (hcell.trans la7)).2).2
        conv => cbv
        refine r_neqF m.sX (by first | omega | rfl) ?_
        conv => cbv
        obtain rfl : up = true := by exact (Prod.mk.inj (Prod.mk.inj (hcell.trans la7)).2).1
        conv => cbv
        obtain rfl : ten = true := by exact (Prod.mk.inj (Prod.mk.inj (hother.trans la8)).2).2
        conv => cbv
        refine r_neqF m.sX (by first | omega | rfl) ?_
        conv => cbv
        obtain rfl : down = false := by exact (Prod.mk.inj (Prod.mk.inj (hother.trans la8)).2).1
        conv => cbv
        refine r_addf m.sX (by omega) (by omega) fun r8 hr8 => ?_
        conv => cbv
        try have tr8 : Int.toNat r8 = Int.toNat i1 + 1 := by omega
        refine hE _ (met_3, r8) ?_ ?_ ⟨(by (try dsimp only); first | omega | (simp only [List.length_nil]; omega) | (simp only [List.length_cons, List.length_nil]; omega)), (by (try dsimp only); first | omega | (simp only [List.length_nil]; omega) | (simp only [List.length_cons, List.length_nil]; omega)), (by (try dsimp only) <;> (rw [hmet_3, tr8, met_next fa fb, ← q, mn]))⟩ (by first | omega | (dsimp only; omega))
        · cbv
        · cbv
      · have mn : min low high = low := Int.min_eq_left h5
        have mx : max low high = high := Int.max_eq_right h5
        rw [mn] at la1 la3 la4 la5 la6
        rw [mx] at la2 la3
        have la9 : high ≤ 2 * (front_.length : Int) := la2
        clear la2
        refine r_lssF m.sX (by first | omega | rfl) ?_
        conv => cbv
        refine r_lenR m.sX fun n9 hn9 mn9 => ?_
        conv => cbv
        refine r_mulf m.sX (by first | omega | (subst_vars; omega)) (by first | omega | (subst_vars; omega)) fun r9 hr9 => ?_
        conv => cbv
        refine r_gtrF m.sX (by first | omega | rfl) ?_
        conv => cbv
        refine r_addf m.sX (by omega) (by omega) fun r10 hr10 => ?_
        conv => cbv
        refine r_neqF m.sX (by first | omega | rfl) ?_
        conv => cbv
        refine r_modf m.sX (by omega) (by omega) fun r11 hr11 br11 => ?_
        conv => cbv
        refine r_neqF m.sX (by first | omega | rfl) ?_
        conv => cbv
        refine r_oindex m.sX (by omega) (by omega) ?_
        conv => cbv
        obtain ⟨x5, hx5⟩ := get_ex (xs := met_2) (i := Int.toNat low) (by omega)
        have mx5 := get_mem hx5
        refine r_oload m.sX hx5 (Nat.le_of_ble_eq_true rfl) ?_
        conv => cbv
        obtain rfl : x5 = false := by exact Option.some.inj (hx5.symm.trans la5)
        conv => cbv
        first | refine r_divf m.sX (by omega) (by omega) fun r12 hr12 br12 => ?_ | refine r_tdivf m.sX (by omega) (by omega) fun r12 hr12 br12 => ?_
        conv => cbv
        refine r_index m.sX (by omega) (by omega) fun x6 hx6 => ?_
        conv => cbv
        have mx6 := get_mem hx6
        have vx6 := nth_some hx6
        refine r_neqF m.sX ((by rw [← hr12] at la6; have z := Option.some.inj (hx6.symm.trans la6); omega)) ?_
        conv => cbv
        refine r_oindex m.sX (by omega) (by omega) ?_
        conv => cbv
        obtain ⟨y2, hy2⟩ := get_ex (xs := met_2) (i := Int.toNat low) (by omega)
        refine r_ostore (l := Int.toNat low) true m.sX hy2 (Nat.le_of_ble_eq_true rfl) rfl fun met_4 hmet_4 => ?_   -- met_4 = met_2.set low true
        have lmet_4 : (met_4.length : Int) = met_2.length := by rw [hmet_4]; first | done | (simp; done) | (simp; omega)
        conv => cbv
        refine r_index m.sX (by omega) (by omega) fun x7 hx7 => ?_
        conv => cbv
        have mx7 := get_mem hx7
        have dx7 := drop_cons hx7
        have kx7 := take_snoc hx7
        have jx7 : (i1 + 1).toNat = Int.toNat i1 + 1 := by omega
        have vx7 := nth_some hx7
        obtain rfl : low = x7 := Option.some.inj (hlow.symm.trans hx7)
        refine r_callF ibb m.sX (PlaceOfPage_ok l low) fun v hcell_2 => ?_
        obtain ⟨cell_2, up_2, nine_2⟩ := v
        conv => cbv
        have ce := (Prod.mk.inj (hcell_2.trans la7)).1
        refine r_index m.sX (by omega) (by omega) fun x8 hx8 => ?_
        conv => cbv
        have mx8 := get_mem hx8
        have dx8 := drop_cons hx8
        have kx8 := take_snoc hx8
        have jx8 : (i1 + 1).toNat = Int.toNat i1 + 1 := by omega
        have vx8 := nth_some hx8
        obtain rfl : high = x8 := Option.some.inj (hhigh.symm.trans hx8)
        refine r_callF ibb m.sX (PlaceOfPage_ok l high) fun v hother_2 => ?_
        obtain ⟨other_2, down_2, ten_2⟩ := v
        conv => cbv
        have oc := (Prod.mk.inj (hother_2.trans la8)).1
        obtain rfl : nine_2 = true := by exact (Prod.mk.inj (Prod.mk.inj (hcell_2.trans la7)).2).2
        conv => cbv
        refine r_neqF m.sX (by first | omega | rfl) ?_
        conv => cbv
        obtain rfl : up_2 = true := by exact (Prod.mk.inj (Prod.mk.inj (hcell_2.trans la7)).2).1
        conv => cbv
        obtain rfl : ten_2 = true := by exact (Prod.mk.inj (Prod.mk.inj (hother_2.trans la8)).2).2
        conv => cbv
        refine r_neqF m.sX (by first | omega | rfl) ?_
        conv => cbv
        obtain rfl : down_2 = false := by exact (Prod.mk.inj (Prod.mk.inj (hother_2.trans la8)).2).1
        conv => cbv
        refine r_addf m.sX (by omega) (by omega) fun r13 hr13 => ?_
        conv => cbv
        try have tr13 : Int.toNat r13 = Int.toNat i1 + 1 := by omega
        refine hE _ (met_4, r13) ?_ ?_ ⟨(by (try dsimp only); first | omega | (simp only [List.length_nil]; omega) | (simp only [List.length_cons, List.length_nil]; omega)), (by (try dsimp only); first | omega | (simp only [List.length_nil]; omega) | (simp only [List.length_cons, List.length_nil]; omega)), (by (try dsimp only) <;> (rw [hmet_4, tr13, met_next fa fb, ← q, mn]))⟩ (by first | omega | (dsimp only; omega))
        · cbv
        · cbv
    · have dz_i1 := drop_end (xs := front_) (i := Int.toNat i1) (by omega)
      have tz_i1 := take_end (xs := front_) (i := Int.toNat i1) (by omega)
      refine hF _ _ ?_
      conv => cbv
      exact hE0 _ () (by cbv) (by cbv) trivial
  · exact hE0 _ () (by cbv) (by cbv) trivial

theorem folds_part3 (m : Mach Tryd.prog G κ X Y L) (hQ : ∀ r, r = PV.bool true → Q r) (more : List Int) (h : CurIn more) :
    Ai.code X L G (rest 1 (rest 14 (Tryd.f4.body.getD .skip))) (EndsIn (post G Tryd.f4.results.toList Q)) (St.at 346 (midFolds more) []) := by
  conv => cbv
  refine r_callE m.sX ((drawPlaceOfPage2_ok more h).iceE) ?_
  rintro _ ⟨_, ⟨u, page, rfl, bu_1⟩, rfl⟩
  conv => cbv
  refine r_callF ibb m.sX (PlaceOfPage_ok u page) fun v hx => ?_
  obtain ⟨x, up, nine⟩ := v
  conv => cbv
  refine r_callF ibb m.sX (specPlaceOfPage_ok u page) fun y1 hy1 => ?_
  obtain rfl := hx.trans hy1.symm
  clear hy1
  conv => cbv
  rcases Bool.eq_false_or_eq_true nine with rfl | rfl <;> conv => cbv
  · refine r_eqlT m.sX (by first | omega | rfl) ?_
    conv => cbv
    rcases Bool.eq_false_or_eq_true up with rfl | rfl <;> conv => cbv
    · exact hQ _ (congrArg PV.bool (by first | rfl | omega | (simp [*]; done) | (subst_vars; simp [*]; done)))   -- leaf 2
    · exact hQ _ (congrArg PV.bool (by first | rfl | omega | (simp [*]; done) | (subst_vars; simp [*]; done)))   -- leaf 3
  · refine r_eqlT m.sX (by first | omega | rfl) ?_
    conv => cbv
    rcases Bool.eq_false_or_eq_true up with rfl | rfl <;> conv => cbv
    · exact hQ _ (congrArg PV.bool (by first | rfl | omega | (simp [*]; done) | (subst_vars; simp [*]; done)))   -- leaf 4
    · exact hQ _ (congrArg PV.bool (by first | rfl | omega | (simp [*]; done) | (subst_vars; simp [*]; done)))   -- leaf 5

end

theorem lawFolds_ok (code more : List Int) (hf : ∀ x ∈ code, 0 ≤ x ∧ x ≤ 255) (hg : ∀ x ∈ more, 0 ≤ x ∧ x ≤ 255) : OkA Tryd.prog 4 [.isl 1 (rows cU8 code), .isl 1 (rows cU8 more)] (· = .bool true) :=
  fn_introW envOk fieldsOk mixed Tryd.func4 rfl (c := Tryd.f4.body.getD .skip) rfl fun κ X Y L Q m hQ =>
    W_cut m 14 346 [1, 5, 7, 8, 12, 16, 21, 22] [] (fun σ : List Fold × Bool × List Int × List Int × List Int × Int × Int => [(1, .isl 1 (rows cU8 more)), (5, .isl 2 (rows cFold σ.1)), (7, .bool σ.2.1), (8, .isl 1 (rows cInt σ.2.2.1)), (12, .isl 1 (rows cInt σ.2.2.2.1)), (16, .isl 1 (rows cInt σ.2.2.2.2.1)), (21, .int .i64 σ.2.2.2.2.2.1), (22, .int .i64 σ.2.2.2.2.2.2)]) (fun σ => []) (fun σ => (more.length : Int) ≤ 9223372036854775807 ∧ ((σ.2.1 = goodF σ.1) ∧ (σ.2.1 = true → σ.2.2.1 = pagesL σ.1 true ∧ σ.2.2.2.1 = pagesL σ.1 false ∧ σ.2.2.2.2.1 = (foldedF σ.1).map (·.1) ∧ σ.2.2.2.2.2.1 = p2 (wide σ.1) ∧ σ.2.2.2.2.2.2 = p2 (high σ.1)))) (folds_part1 m hQ code more hf) fun ⟨l, ok, front_, back, order, columns, rows_⟩ ⟨hl, ⟨g0, st⟩⟩ =>
    W_cut m 1 346 [1] [] (fun _ : Unit => midFolds more) (fun _ => []) (fun _ => True) (folds_part2 m hQ more ⟨hl, hg⟩ l ok front_ back order columns rows_ g0 st) fun _ _ =>
    W_last m (folds_part3 m hQ more ⟨hl, hg⟩)

end Go.Proofs.YtbamclepgabciaaDoor.Ai
