/- The law FnTables: its body returns true. -/
import Derived.Test.YtnkikmdkkkhlcaaTableDraw
import Derived.Test.YtnkikmdkkkhlcaaAiCut
namespace Go.Proofs.Ytnkikmdkkkhlcaa.Ai
open Go Go.Proofs
set_option maxRecDepth 10000
set_option maxHeartbeats 4000000
set_option linter.unusedVariables false

theorem least_ok {n g : Int} {l : List Entry} {s : List Int} {b : Bool} (h : (s, b) = leastF n l g) : okG n l g = b := by
  unfold leastF at h
  split at h <;> simp_all
theorem cols_ok {n g : Int} {l : List Entry} {s : List Int} {b : Bool} (h : (s, b) = colsF n l g) : okG n l g = b := by
  unfold colsF at h
  split at h <;> simp_all
theorem tot_ok {n g : Int} {l : List Entry} {s : Int} {b : Bool} (h : (s, b) = totF n l g) : okG n l g = b := by
  unfold totF at h
  split at h <;> simp_all
theorem okG_T {n g : Int} {l : List Entry} (h : okG n l g = true) : okT n l = true := by
  rw [okG, Bool.and_eq_true] at h; exact h.1

/-- What the table's numbers are. -/
structure TabNums (n : Int) (l : List Entry) (g : Int) (st ws : List Int) (tot : Int) : Prop where
  tin : TabIn n l g
  st : st = (startsF l g n.toNat).take n.toNat
  ws : ws = widthsF l g n.toNat
  tot : tot = sAt l g n.toNat - g
theorem tab_nums {n g : Int} {l : List Entry} {st ws : List Int} {tot : Int} (h1 : (st, true) = leastF n l g) (h2 : (ws, true) = colsF n l g) (h3 : (tot, true) = totF n l g) : TabNums n l g st ws tot := by
  have e := least_ok h1
  rw [leastF, if_pos e] at h1
  rw [colsF, if_pos e] at h2
  rw [totF, if_pos e] at h3
  exact ⟨okG_in e, (Prod.mk.inj h1).1, (Prod.mk.inj h2).1, (Prod.mk.inj h3).1⟩

theorem tot_val {n g : Int} {l : List Entry} {s : Int} (h : (s, true) = totF n l g) : s = sAt l g n.toNat - g := by
  have e := tot_ok h
  rw [totF, if_pos e] at h
  exact (Prod.mk.inj h).1
theorem without_ok {n g i : Int} {l : List Entry} {s : Int} {b : Bool} (h : (s, b) = withoutF n l g i) : (okG n l g && inB i 0 (l.length - 1)) = b := by
  unfold withoutF at h
  split at h <;> simp_all
theorem without_val {n g i : Int} {l : List Entry} {s : Int} (h : (s, true) = withoutF n l g i) : s = sAt (l.eraseIdx i.toNat) g n.toNat - g := by
  have e := without_ok h
  rw [withoutF, if_pos e] at h
  exact (Prod.mk.inj h).1
theorem addE_ok {n : Int} {l a : List Entry} {x : Entry} (h : (a, true) = addE n l x) : okT n l = true ∧ okT n a = true ∧ a = l ++ [x] := by
  unfold addE at h
  split at h
  · rename_i hc
    rw [Bool.and_eq_true] at hc
    have e := (Prod.mk.inj h).1
    exact ⟨hc.1, by rw [e]; exact hc.2, e⟩
  · simp at h
theorem okG3 {n : Int} {l : List Entry} (h : okT n l = true) : okG n l 3 = true := by rw [okG, h]; rfl

noncomputable abbrev midTables (more : List Int) : List (Nat × PV) := [(1, .isl 1 (rows cU8 more))]

section
variable {κ : Ctx} {X Y : Req → (PV → Prop) → Prop} {L : Code → (Ex → St → Prop) → St → Prop} {Q : PV → Prop}

theorem tables_part1 (m : Mach Try.prog G κ X Y L) (hQ : ∀ r, r = PV.bool true → Q r) (code more : List Int) (hf : ∀ x ∈ code, 0 ≤ x ∧ x ≤ 255) (E0 : St → Prop)
    (hE0 : ∀ (s' : St) (a : Unit), headOk s' [] = true → Ai.norm [1] [] s' = St.at 323 (midTables more) [] → (more.length : Int) ≤ 9223372036854775807 → E0 s') :
    Ai.code X L G (front 11 (Try.f6.body.getD .skip)) (fun e s' => match e with | .normal => E0 s' | .exit i => EndsIn (post G Try.f6.results.toList Q) (.exit i) s' | .ret => EndsIn (post G Try.f6.results.toList Q) .ret s') (start 323 [.isl 1 (rows cU8 code), .isl 1 (rows cU8 more)] []) := by
  conv => cbv
  refine r_callB m.sX (big_ok code more) (fun h1 => ?_) (fun h1 => ?_) <;> conv => cbv
  · exact hQ _ (congrArg PV.bool (by first | rfl | omega | (simp [*]; done) | (subst_vars; simp [*]; done)))   -- leaf 1
  · rw [Bool.or_eq_false_iff, decide_eq_false_iff_not, decide_eq_false_iff_not] at h1
    have h : CurIn code := ⟨by omega, hf⟩
    have hd : (more.length : Int) ≤ 9223372036854775807 := by omega
    refine r_callE m.sX ((drawLeastStarts_ok code h).iceE) ?_
    rintro _ ⟨_, ⟨n, l, gap, rfl, bn_1, bn_2⟩, rfl⟩
    conv => cbv
    refine r_callF (lbI 1 cInt) m.sX (LeastStarts_ok n l gap (by first | rfl | assumption | omega | (simp only [List.length_append, List.length_cons, List.length_nil] at *; omega))) fun v hs_ => ?_
    obtain ⟨s_, ok⟩ := v
    conv => cbv
    have os := least_ok hs_
    refine r_callF (lbI 1 cInt) m.sX ((specLeastStarts_ok n l gap (by first | rfl | assumption | omega | (simp only [List.length_append, List.length_cons, List.length_nil] at *; omega))).ice) fun y1 hy1 => ?_
    obtain rfl := hy1.trans hs_.symm
    clear hy1
    conv => cbv
    refine r_callF (lbI 1 cInt) m.sX ((ColumnWidths_ok n l gap (by first | rfl | assumption | omega | (simp only [List.length_append, List.length_cons, List.length_nil] at *; omega))).ice) fun v hw => ?_
    obtain ⟨w, one⟩ := v
    conv => cbv
    have ow := cols_ok hw
    refine r_callF (lbI 1 cInt) m.sX ((specColumnWidths_ok n l gap (by first | rfl | assumption | omega | (simp only [List.length_append, List.length_cons, List.length_nil] at *; omega))).ice) fun y2 hy2 => ?_
    obtain rfl := hy2.trans hw.symm
    clear hy2
    conv => cbv
    refine r_callF ib m.sX (TableWidth_ok n l gap (by first | rfl | assumption | omega | (simp only [List.length_append, List.length_cons, List.length_nil] at *; omega))) fun v ht => ?_
    obtain ⟨t, three⟩ := v
    conv => cbv
    have ot := tot_ok ht
    refine r_callF ib m.sX (specTableWidth_ok n l gap (by first | rfl | assumption | omega | (simp only [List.length_append, List.length_cons, List.length_nil] at *; omega))) fun y3 hy3 => ?_
    obtain rfl := hy3.trans ht.symm
    clear hy3
    conv => cbv
    rcases Bool.eq_false_or_eq_true ok with rfl | rfl <;> conv => cbv
    · refine r_callBT m.sX (sameInts_ok s_ s_) (by first | assumption | (simp [*]; done) | omega) ?_   -- h2
      conv => cbv
      obtain rfl : one = true := by exact ow.symm.trans os
      conv => cbv
      refine r_callBT m.sX (sameInts_ok w w) (by first | assumption | (simp [*]; done) | omega) ?_   -- h3
      conv => cbv
      obtain rfl : three = true := by exact ot.symm.trans os
      conv => cbv
      have tn := tab_nums hs_ hw ht
      have hc := tn.tin.cols
      have hgp := tn.tin.gap
      have wm := widths_mem tn.tin (m := n.toNat) (by omega)
      rw [← tn.ws] at wm
      have wl := widths_length l gap n.toNat
      rw [← tn.ws] at wl
      have wf : SumFits w := sumfits_of 6360 (fun x hx => by have := wm x hx; omega) (by omega)
      have sl : (s_.length : Int) = n := by rw [tn.st]; simp [startsF_length]; omega
      have e0 := widths_sum l gap n.toNat n.toNat (Nat.le_refl _)
      rw [← tn.ws, take_end (by omega), Int.toNat_of_nonneg (by omega)] at e0
      have e1 := tn.tot
      have sb := sAt_bound tn.tin n.toNat
      refine r_neqF m.sX (by omega) ?_
      conv => cbv
      refine r_callBT m.sX (IsTable_ok n l (by first | rfl | assumption | omega | (simp only [List.length_append, List.length_cons, List.length_nil] at *; omega))) (by exact okG_T os) ?_   -- h5
      conv => cbv
      refine r_callF (PV.int .i64) m.sX (pSum_ok w (by first | rfl | assumption | omega | (simp only [List.length_append, List.length_cons, List.length_nil] at *; omega))) fun r1 hr1 => ?_
      conv => cbv
      refine r_subf m.sX (by omega) (by omega) fun r2 hr2 => ?_
      conv => cbv
      have g1 := mul_bound (show 0 ≤ r2 by omega) (show r2 ≤ 9 by omega) hgp.1 hgp.2
      refine r_mulf m.sX (by omega) (by omega) fun r3 hr3 => ?_
      conv => cbv
      have e3 : r3 = n * gap - gap := by rw [hr3, hr2, Int.sub_mul, Int.one_mul]
      refine r_addf m.sX (by omega) (by omega) fun r4 hr4 => ?_
      conv => cbv
      refine r_neqF m.sX (by omega) ?_
      conv => cbv
      refine r_lenR m.sX fun n1 hn1 mn1 => ?_
      conv => cbv
      refine r_neqF m.sX (by omega) ?_
      conv => cbv
      refine r_lenR m.sX fun n2 hn2 mn2 => ?_
      conv => cbv
      refine r_neqF m.sX (by omega) ?_
      conv => cbv
      refine r_lenR m.sX fun n3 hn3 mn3 => ?_
      conv => cbv
      refine r_loop (α := Int) m 323 [1, 6, 7, 14, 166, 167, 168] [] (fun σ => [(1, .isl 1 (rows cU8 more)), (6, .isl 3 (rows cEntry l)), (7, .int .i64 gap), (14, .isl 1 (rows cInt w)), (166, .isl 1 (rows cInt s_)), (167, .int .i64 n3), (168, .int .i64 σ)]) (fun σ => [])
        (fun σ => (0 ≤ σ) ∧ (σ ≤ n3)) (fun σ => (n3 - σ).toNat) 0 ?_ ?_ ?_ ?_
      · cbv
      · cbv
      · exact ⟨(by (try dsimp only); first | omega | (simp only [List.length_nil]; omega)), (by (try dsimp only); first | omega | (simp only [List.length_nil]; omega))⟩
      rintro i1 ⟨lo1, hi1⟩ E hE
      conv => cbv
      refine r_lss m.sX (fun h9 => ?_) (fun h9 => ?_) <;> conv => cbv
      · refine r_index m.sX (by omega) (by omega) fun start hstart => ?_
        conv => cbv
        have mstart := get_mem hstart
        have dstart := drop_cons hstart
        have kstart := take_snoc hstart
        have jstart : (i1 + 1).toNat = Int.toNat i1 + 1 := by omega
        have vstart := nth_some hstart
        have e3' : start = sAt l gap (Int.toNat i1) := by rw [← vstart, tn.st, nth_take (by omega)]; exact starts_at _ _ _ _ (by omega)
        refine r_islice (i := 0) (j := i1) m.sX (by omega) (by omega) (by omega) fun zs1 hzs1 => ?_   -- zs1 = w[None:i1]
        have lzs1 : (zs1.length : Int) = i1 - 0 := by rw [hzs1]; first | done | (simp; done) | (simp; omega)
        have e2 := widths_sum l gap n.toNat (Int.toNat i1) (by omega)
        have z1 : zs1 = w.take (Int.toNat i1) := hzs1
        rw [← tn.ws, Int.toNat_of_nonneg lo1, ← z1] at e2
        have wf1 : SumFits zs1 := sumfits_of 6360 (fun x hx => by have := wm x (List.mem_of_mem_take (z1 ▸ hx)); omega) (by omega)
        have g2 := mul_bound lo1 (show i1 ≤ 10 by omega) hgp.1 hgp.2
        have sb1 := sAt_bound tn.tin (Int.toNat i1)
        conv => cbv
        refine r_callF (PV.int .i64) m.sX (pSum_ok zs1 (by first | rfl | assumption | omega | (simp only [List.length_append, List.length_cons, List.length_nil] at *; omega))) fun r5 hr5 => ?_
        conv => cbv
        refine r_mulf m.sX (by omega) (by omega) fun r6 hr6 => ?_
        conv => cbv
        refine r_addf m.sX (by omega) (by omega) fun r7 hr7 => ?_
        conv => cbv
        refine r_neqF m.sX (by omega) ?_
        conv => cbv
        refine r_index m.sX (by omega) (by omega) fun x1 hx1 => ?_
        conv => cbv
        have mx1 := get_mem hx1
        have dx1 := drop_cons hx1
        have kx1 := take_snoc hx1
        have jx1 : (i1 + 1).toNat = Int.toNat i1 + 1 := by omega
        have vx1 := nth_some hx1
        have e4 := (widths_at (l := l) (g := gap) (n := n.toNat) (k := Int.toNat i1) (by rw [← tn.ws]; exact hx1)).1
        rw [wAt] at e4
        have e5 := sAt_next l gap (Int.toNat i1)
        refine r_lssF m.sX (by omega) ?_
        conv => cbv
        refine r_addf m.sX (by omega) (by omega) fun r8 hr8 => ?_
        conv => cbv
        have tr8 : Int.toNat r8 = Int.toNat i1 + 1 := by omega
        refine hE _ r8 ?_ ?_ ⟨(by (try dsimp only); first | omega | (simp only [List.length_nil]; omega)), (by (try dsimp only); first | omega | (simp only [List.length_nil]; omega))⟩ (by first | omega | (dsimp only; omega))
        · cbv
        · cbv
      · have dz_i1 := drop_end (xs := s_) (i := Int.toNat i1) (by omega)
        have tz_i1 := take_end (xs := s_) (i := Int.toNat i1) (by omega)
        refine r_lenR m.sX fun n4 hn4 mn4 => ?_
        conv => cbv
        refine r_loop (α := Int) m 323 [1, 7, 14, 191, 192, 193] [] (fun σ => [(1, .isl 1 (rows cU8 more)), (7, .int .i64 gap), (14, .isl 1 (rows cInt w)), (191, .isl 3 (rows cEntry l)), (192, .int .i64 n4), (193, .int .i64 σ)]) (fun σ => [])
          (fun σ => (0 ≤ σ) ∧ (σ ≤ n4)) (fun σ => (n4 - σ).toNat) 0 ?_ ?_ ?_ ?_
        · cbv
        · cbv
        · exact ⟨(by (try dsimp only); first | omega | (simp only [List.length_nil]; omega)), (by (try dsimp only); first | omega | (simp only [List.length_nil]; omega))⟩
        rintro i2 ⟨lo2, hi2⟩ E hE
        conv => cbv
        refine r_lss m.sX (fun h12 => ?_) (fun h12 => ?_) <;> conv => cbv
        · refine r_index m.sX (by omega) (by omega) fun v hxA => ?_
          obtain ⟨xA, xB, xC⟩ := v
          conv => cbv
          have hx := hxA
          have mx := get_mem hx
          have dx := drop_cons hx
          have kx := take_snoc hx
          have jx : (i2 + 1).toNat = Int.toNat i2 + 1 := by omega
          have ex := okE_spec (tn.tin.ent _ mx)
          try dsimp only at ex
          refine r_draw m (by kernel_rfl) ?_
          conv => cbv
          refine r_addf m.sY (by omega) (by omega) fun r9 hr9 => ?_
          conv => cbv
          refine r_islice (i := xA) (j := r9) m.sY (by omega) (by omega) (by omega) fun zs2 hzs2 => ?_   -- zs2 = w[xA:r9]
          have lzs2 : (zs2.length : Int) = r9 - xA := by rw [hzs2]; first | done | (simp; done) | (simp; omega)
          have e6 := widths_part l gap n.toNat (Int.toNat xA) (Int.toNat r9) (by omega) (by omega)
          try dsimp only at e6
          rw [← tn.ws, ← hzs2, Int.toNat_of_nonneg ex.1.1, Int.toNat_of_nonneg (by omega)] at e6
          have e7 := sAt_entry tn.tin mx
          try dsimp only at e7
          rw [← hr9] at e7
          have wf2 : SumFits zs2 := sumfits_of 6360 (fun y hx => by have := wm y (List.mem_of_mem_take (List.mem_of_mem_drop (hzs2 ▸ hx))); omega) (by omega)
          have sb2 := sAt_bound tn.tin (Int.toNat r9)
          try dsimp only at sb2
          have sb3 := sAt_bound tn.tin (Int.toNat xA)
          try dsimp only at sb3
          conv => cbv
          refine r_callFS (PV.int .i64) m.sY (pSum_ok zs2 (by first | rfl | assumption | omega | (simp only [List.length_append, List.length_cons, List.length_nil] at *; omega))) trivial fun r10 hr10 => ?_
          conv => cbv
          try dsimp only at hr10
          refine r_subf m.sY (by omega) (by omega) fun r11 hr11 => ?_
          conv => cbv
          have g3 := mul_bound (show 0 ≤ r11 by omega) (show r11 ≤ 9 by omega) hgp.1 hgp.2
          try dsimp only at g3
          refine r_mulf m.sY (by omega) (by omega) fun r12 hr12 => ?_
          conv => cbv
          have e8 : r12 = (r9 - xA) * gap - gap := by rw [hr12, hr11, show r9 - xA = xB by omega, Int.sub_mul, Int.one_mul]
          refine r_addf m.sY (by omega) (by omega) fun r13 hr13 => ?_
          conv => cbv
          refine r_lssF m.sY (by omega) ?_
          conv => cbv
          refine r_addf m.sX (by omega) (by omega) fun r14 hr14 => ?_
          conv => cbv
          have tr14 : Int.toNat r14 = Int.toNat i2 + 1 := by omega
          refine hE _ r14 ?_ ?_ ⟨(by (try dsimp only); first | omega | (simp only [List.length_nil]; omega)), (by (try dsimp only); first | omega | (simp only [List.length_nil]; omega))⟩ (by first | omega | (dsimp only; omega))
          · cbv
          · cbv
        · have dz_i2 := drop_end (xs := l) (i := Int.toNat i2) (by omega)
          have tz_i2 := take_end (xs := l) (i := Int.toNat i2) (by omega)
          exact hE0 _ () (by cbv) (by cbv) hd
    · refine r_callBT m.sX (sameInts_ok s_ s_) (by first | assumption | (simp [*]; done) | omega) ?_   -- h14
      conv => cbv
      obtain rfl : one = false := by exact ow.symm.trans os
      conv => cbv
      refine r_callBT m.sX (sameInts_ok w w) (by first | assumption | (simp [*]; done) | omega) ?_   -- h15
      conv => cbv
      obtain rfl : three = false := by exact ot.symm.trans os
      conv => cbv
      refine r_neqF m.sX (by omega) ?_
      conv => cbv
      exact hE0 _ () (by cbv) (by cbv) hd

theorem tables_part2 (m : Mach Try.prog G κ X Y L) (hQ : ∀ r, r = PV.bool true → Q r) (more : List Int) (h : CurIn more) (E0 : St → Prop)
    (hE0 : ∀ (s' : St) (a : Unit), headOk s' [] = true → Ai.norm [1] [] s' = St.at 323 (midTables more) [] → True → E0 s') :
    Ai.code X L G (front 5 (rest 11 (Try.f6.body.getD .skip))) (fun e s' => match e with | .normal => E0 s' | .exit i => EndsIn (post G Try.f6.results.toList Q) (.exit i) s' | .ret => EndsIn (post G Try.f6.results.toList Q) .ret s') (St.at 323 (midTables more) []) := by
  conv => cbv
  refine r_callE m.sX ((drawAddEntry_ok more h).iceE) ?_
  rintro _ ⟨_, ⟨m_, u, ⟨xA, xB, xC⟩, rfl, bm__1, bm__2⟩, rfl⟩
  conv => cbv
  refine r_callF (lbI 3 cEntry) m.sX ((AddEntry_ok m_ u (xA, xB, xC) (by first | rfl | assumption | omega | (simp only [List.length_append, List.length_cons, List.length_nil] at *; omega)) (by first | rfl | assumption | omega | (simp only [List.length_append, List.length_cons, List.length_nil] at *; omega))).ice) fun v ha => ?_
  obtain ⟨a, five⟩ := v
  conv => cbv
  try dsimp only at ha
  refine r_callF (lbI 3 cEntry) m.sX ((specAddEntry_ok m_ u (xA, xB, xC) (by first | rfl | assumption | omega | (simp only [List.length_append, List.length_cons, List.length_nil] at *; omega))).ice) fun y1 hy1 => ?_
  obtain rfl := hy1.trans ha.symm
  clear hy1
  conv => cbv
  rcases Bool.eq_false_or_eq_true five with rfl | rfl <;> conv => cbv
  · obtain ⟨ad1, ad2, ad3⟩ := addE_ok ha
    refine r_callBT m.sX (pSameEntries_ok a) (by first | assumption | (simp [*]; done) | omega) ?_   -- h1
    conv => cbv
    refine r_callF ib m.sX (TableWidth_ok m_ u 3 (by first | rfl | assumption | omega | (simp only [List.length_append, List.length_cons, List.length_nil] at *; omega))) fun v hbefore => ?_
    obtain ⟨before, seven⟩ := v
    conv => cbv
    try dsimp only at hbefore
    refine r_callF ib m.sX (TableWidth_ok m_ a 3 (by first | rfl | assumption | omega | (simp only [List.length_append, List.length_cons, List.length_nil] at *; omega))) fun v hafter => ?_
    obtain ⟨after, eight⟩ := v
    conv => cbv
    try dsimp only at hafter
    refine r_lenR m.sX fun n1 hn1 mn1 => ?_
    conv => cbv
    refine r_callF ib m.sX (WidthWithout_ok m_ a 3 n1 (by first | rfl | assumption | omega | (simp only [List.length_append, List.length_cons, List.length_nil] at *; omega))) fun v hwithout => ?_
    obtain ⟨without, nine⟩ := v
    conv => cbv
    try dsimp only at hwithout
    obtain rfl : seven = true := by exact (tot_ok hbefore).symm.trans (okG3 ad1)
    conv => cbv
    obtain rfl : eight = true := by exact (tot_ok hafter).symm.trans (okG3 ad2)
    conv => cbv
    obtain rfl : nine = true := by refine (without_ok hwithout).symm.trans ?_; rw [okG3 ad2, ad3]; simp [inB]; omega
    conv => cbv
    have f1 := tot_val hbefore
    try dsimp only at f1
    have f2 := tot_val hafter
    try dsimp only at f2
    have f3 := without_val hwithout
    try dsimp only at f3
    rw [hn1, Int.toNat_natCast, ad3, List.eraseIdx_append_of_length_le (Nat.le_refl _), Nat.sub_self] at f3
    simp only [List.eraseIdx_zero, List.tail_cons, List.append_nil] at f3
    have f4 := sAt_mono (l := u) (g := 3) (xA, xB, xC) m_.toNat
    try dsimp only at f4
    rw [← ad3] at f4
    refine r_lssF m.sX (by omega) ?_
    conv => cbv
    refine r_neqF m.sX (by omega) ?_
    conv => cbv
    refine r_lenR m.sX fun n2 hn2 mn2 => ?_
    conv => cbv
    rw [ad3] at hn2; simp only [List.length_append, List.length_singleton] at hn2
    refine r_lenR m.sX fun n3 hn3 mn3 => ?_
    conv => cbv
    refine r_addf m.sX (by omega) (by omega) fun r1 hr1 => ?_
    conv => cbv
    refine r_neqF m.sX (by omega) ?_
    conv => cbv
    exact hE0 _ () (by cbv) (by cbv) trivial
  · refine r_callBT m.sX (pSameEntries_ok a) (by first | assumption | (simp [*]; done) | omega) ?_   -- h5
    conv => cbv
    exact hE0 _ () (by cbv) (by cbv) trivial

theorem tables_part3 (m : Mach Try.prog G κ X Y L) (hQ : ∀ r, r = PV.bool true → Q r) (more : List Int) (h : CurIn more) :
    Ai.code X L G (rest 5 (rest 11 (Try.f6.body.getD .skip))) (EndsIn (post G Try.f6.results.toList Q)) (St.at 323 (midTables more) []) := by
  conv => cbv
  refine r_callE m.sX ((drawEntriesOver_ok more h).iceE) ?_
  rintro _ ⟨_, ⟨k, v, column, rfl, bk_1, bk_2⟩, rfl⟩
  conv => cbv
  refine r_callF (lbI 1 cInt) m.sX ((EntriesOver_ok k v column (by first | rfl | assumption | omega | (simp only [List.length_append, List.length_cons, List.length_nil] at *; omega))).ice) fun v ho => ?_
  obtain ⟨o, seven⟩ := v
  conv => cbv
  refine r_callF (lbI 1 cInt) m.sX ((specEntriesOver_ok k v column (by first | rfl | assumption | omega | (simp only [List.length_append, List.length_cons, List.length_nil] at *; omega))).ice) fun y1 hy1 => ?_
  obtain rfl := hy1.trans ho.symm
  clear hy1
  conv => cbv
  rcases Bool.eq_false_or_eq_true seven with rfl | rfl <;> conv => cbv
  · refine r_callBT m.sX (sameInts_ok o o) (by first | assumption | (simp [*]; done) | omega) ?_   -- h1
    conv => cbv
    exact hQ _ (congrArg PV.bool (by first | rfl | omega | (simp [*]; done) | (subst_vars; simp [*]; done)))   -- leaf 2
  · refine r_callBT m.sX (sameInts_ok o o) (by first | assumption | (simp [*]; done) | omega) ?_   -- h2
    conv => cbv
    exact hQ _ (congrArg PV.bool (by first | rfl | omega | (simp [*]; done) | (subst_vars; simp [*]; done)))   -- leaf 3

end

theorem lawTables_ok (code more : List Int) (hf : ∀ x ∈ code, 0 ≤ x ∧ x ≤ 255) (hg : ∀ x ∈ more, 0 ≤ x ∧ x ≤ 255) : OkA Try.prog 6 [.isl 1 (rows cU8 code), .isl 1 (rows cU8 more)] (· = .bool true) :=
  fn_introW envOk fieldsOk mixed Try.func6 rfl (c := Try.f6.body.getD .skip) rfl fun κ X Y L Q m hQ =>
    W_cut m 11 323 [1] [] (fun _ : Unit => midTables more) (fun _ => []) (fun _ => (more.length : Int) ≤ 9223372036854775807) (tables_part1 m hQ code more hf) fun _ hl =>
    W_cut m 5 323 [1] [] (fun _ : Unit => midTables more) (fun _ => []) (fun _ => True) (tables_part2 m hQ more ⟨hl, hg⟩) fun _ _ =>
    W_last m (tables_part3 m hQ more ⟨hl, hg⟩)

end Go.Proofs.Ytnkikmdkkkhlcaa.Ai
