/- The law FnParallels: its body returns true. -/
import Derived.Test.YtifkjlpkhfldoaaParDraw2
import Derived.Test.YtifkjlpkhfldoaaAiCut
namespace Go.Proofs.Ytifkjlpkhfldoaa.Ai
open Go Go.Proofs
set_option maxRecDepth 10000
set_option maxHeartbeats 4000000
set_option linter.unusedVariables false
def sumT (l : List (List Int)) (k : Nat) : Int := ((l.take k).map List.sum).sum
theorem sumT_take {l : List (List Int)} {i : Nat} {x : List Int} (h : l[i]? = some x) : sumT l (i + 1) = sumT l i + x.sum := by
  unfold sumT
  rw [List.take_add_one, h, Option.toList_some, List.map_append, List.sum_append]; simp
theorem tot_one {l : List (List Int)} {t : Int} {one : Bool} (h : (t, one) = totalAns l) : one = parB l := by
  unfold totalAns at h; split at h
  · rename_i hc; rw [hc]; exact (Prod.mk.inj h).2
  · rename_i hc; rw [(Prod.mk.inj h).2]; simpa using hc
theorem bl_three {l : List (List Int)} {t : List Int} {one : Bool} (h : (t, one) = blanksAns l) : one = parB l := by
  unfold blanksAns at h; split at h
  · rename_i hc; rw [hc]; exact (Prod.mk.inj h).2
  · rename_i hc; rw [(Prod.mk.inj h).2]; simpa using hc
theorem he_five {l : List (List Int)} {t : List Int} {one : Bool} (h : (t, one) = heightsAns l) : one = parB l := by
  unfold heightsAns at h; split at h
  · rename_i hc; rw [hc]; exact (Prod.mk.inj h).2
  · rename_i hc; rw [(Prod.mk.inj h).2]; simpa using hc
theorem sav_par {l : List (List Int)} {i s : Int} {ok : Bool} (h : (s, ok) = savedAns l i) (he : ok = true) : parB l = true := by
  subst he
  unfold savedAns at h; split at h
  · rename_i hc; unfold markB at hc; rw [Bool.and_eq_true] at hc; exact hc.1
  · cases (Prod.mk.inj h).2
theorem headP_bd {l : List (List Int)} (h : parB l = true) : 0 ≤ headP l ∧ headP l ≤ 6 ∧ (l = [] → headP l = 0) := by
  obtain ⟨p1, p2⟩ := parB_spec h
  cases l with
  | nil => exact ⟨by decide, by decide, fun _ => rfl⟩
  | cons a t =>
    have := p1 a (by simp)
    exact ⟨by omega, by omega, fun e => by cases e⟩
theorem row_bd {l : List (List Int)} (h : parB l = true) {r : List Int} (hr : r ∈ l) : (r.length : Int) = headP l ∧ (0 ≤ r.sum ∧ r.sum ≤ 1200) ∧ SumFits r := by
  obtain ⟨p1, p2⟩ := parB_spec h
  obtain ⟨q1, q2, q3, q4⟩ := p1 r hr
  have := sum_bound (ws := r) (B := 200) (by omega) q4
  exact ⟨q1, ⟨by omega, by omega⟩, sumfits_of 200 (fun z hz => by have := q4 z hz; omega) (by omega)⟩
structure ParFacts (l : List (List Int)) (t : Int) (b hh : List Int) : Prop where
  a : SumFits hh
  c : SumFits b
  d : hh.sum = t
  e : sumT l l.length + b.sum = t * headP l
  f : 0 ≤ t ∧ t ≤ 4800
  g : 0 ≤ b.sum ∧ b.sum ≤ 28800
theorem par_facts {l : List (List Int)} {t : Int} {b hh : List Int} (h : parB l = true) (ht : (t, true) = totalAns l) (hb : (b, true) = blanksAns l) (hv : (hh, true) = heightsAns l) : ParFacts l t b hh := by
  unfold totalAns at ht
  unfold blanksAns at hb
  unfold heightsAns at hv
  rw [if_pos h] at ht hb hv
  obtain ⟨rfl, -⟩ := Prod.mk.inj ht
  obtain ⟨rfl, -⟩ := Prod.mk.inj hb
  obtain ⟨rfl, -⟩ := Prod.mk.inj hv
  have h2 := (parB_spec h).2
  have hb1 := blanksT_bd h l.length (Nat.le_refl _)
  rw [blanksT_all (Nat.le_refl _)] at hb1
  have hb2 := blanksF_len h
  have hb3 := headP_bd h
  have hb4 := sum_bound (ws := blanksF l) (B := 4800) (by omega) fun z hz => by have := hb1 z hz; omega
  refine ⟨sumfits_of 200 (fun z hz => ?_) (by simp [heightsF]; omega), sumfits_of 4800 (fun z hz => by have := hb1 z hz; omega) (by omega), rfl, ?_, total_in h, ⟨by omega, by omega⟩⟩
  · obtain ⟨r, hr, rfl⟩ := List.mem_map.1 hz
    have := hiF_in h r hr
    omega
  · rw [sumT, List.take_length]
    exact par_sum h
theorem back_law {u w bk : List (List Int)} {x y : Int} {el : Bool} (h : (w, true) = swapAns u x y) (k : (bk, el) = swapAns w y x) : el = true ∧ bk = u := by
  have := k.trans (swap_law h).symm
  exact ⟨(Prod.mk.inj this).2, (Prod.mk.inj this).1⟩
theorem tot_eq {l : List (List Int)} {t : Int} (h : (t, true) = totalAns l) : t = totalF l := by
  have hp := (tot_one h).symm
  unfold totalAns at h
  rw [if_pos hp] at h
  exact (Prod.mk.inj h).1
theorem col_eq {l : List (List Int)} {i n c : Int} (h : parB l = true) (hn : n = l.length) (hi : ¬ i < n) (h0 : 0 ≤ i) (hc : (i = 0 ∧ c = 0) ∨ c = headP l) : c = headP l := by
  rcases hc with ⟨z, z2⟩ | z
  · rw [z2, (headP_bd h).2.2 (List.length_eq_zero_iff.1 (by omega))]
  · exact z
theorem sum_eq {l : List (List Int)} {i n t lines c r : Int} {b hh : List Int} (F : ParFacts l t b hh) (hn : n = l.length) (hi : i = n) (q : lines = sumT l i.toNat) (hc : c = headP l) (hr : r = lines + b.sum) : r = t * c := by
  have e : i.toNat = l.length := by omega
  rw [e] at q
  rw [hr, hc, ← F.e, q]
theorem tot_bd {l : List (List Int)} {t : Int} {b : Bool} (h : (t, b) = totalAns l) : 0 ≤ t ∧ t ≤ 4800 := by
  unfold totalAns at h; split at h
  · rename_i hc; rw [(Prod.mk.inj h).1]; exact total_in hc
  · rw [(Prod.mk.inj h).1]; omega
theorem sameLists_ok (l : List (List Int))  : OkA Try.prog 22 [.isl 1 (rows (cSl 1 cInt) l), .isl 1 (rows (cSl 1 cInt) l)] (· = .bool (true)) :=
  fn_intro envOk fieldsOk mixed Try.func22 rfl fun κ X Y L Q m hQ => by
    conv => cbv
    refine r_lenR m.sX fun n1 hn1 mn1 => ?_
    conv => cbv
    refine r_lenR m.sX fun n2 hn2 mn2 => ?_
    conv => cbv
    refine r_neqF m.sX (by first | omega | rfl) ?_
    conv => cbv
    refine r_lenR m.sX fun n3 hn3 mn3 => ?_
    conv => cbv
    refine r_loopF (α := Int) m 27 [0, 1, 12, 13] [] (fun σ => [(0, .isl 1 (rows (cSl 1 cInt) l)), (1, .isl 1 (rows (cSl 1 cInt) l)), (12, .int .i64 n3), (13, .int .i64 σ)]) (fun σ => [])
      (fun σ => (0 ≤ σ) ∧ (σ ≤ n3)) (fun σ => (n3 - σ).toNat) 0 ?_ ?_ ?_ ?_
    · cbv
    · cbv
    · exact ⟨(by (try dsimp only); first | omega | (simp only [List.length_nil]; omega) | (simp only [List.length_cons, List.length_nil]; omega)), (by (try dsimp only); first | omega | (simp only [List.length_nil]; omega) | (simp only [List.length_cons, List.length_nil]; omega))⟩
    rintro i1 ⟨lo1, hi1⟩ E hE F hF
    conv => cbv
    refine r_lss m.sX (fun h2 => ?_) (fun h2 => ?_) <;> conv => cbv
    · refine r_draw m (by kernel_rfl) ?_
      conv => cbv
      refine r_index m.sY (by omega) (by omega) fun x1 hx1 => ?_
      conv => cbv
      have mx1 := get_mem hx1
      have dx1 := drop_cons hx1
      have kx1 := take_snoc hx1
      have jx1 : (i1 + 1).toNat = Int.toNat i1 + 1 := by omega
      refine r_index m.sY (by omega) (by omega) fun x2 hx2 => ?_
      conv => cbv
      have mx2 := get_mem hx2
      have dx2 := drop_cons hx2
      have kx2 := take_snoc hx2
      have jx2 : (i1 + 1).toNat = Int.toNat i1 + 1 := by omega
      obtain rfl : x1 = x2 := Option.some.inj (hx1.symm.trans hx2)
      refine r_callBTS m.sY (sameInts_ok x1 x1) (by first | assumption | exact decide_eq_true rfl | (simp [*]; done) | omega) ?_   -- h3
      conv => cbv
      refine r_addf m.sX (by omega) (by omega) fun r1 hr1 => ?_
      conv => cbv
      try have tr1 : Int.toNat r1 = Int.toNat i1 + 1 := by omega
      refine hE _ r1 ?_ ?_ ⟨(by (try dsimp only); first | omega | (simp only [List.length_nil]; omega) | (simp only [List.length_cons, List.length_nil]; omega)), (by (try dsimp only); first | omega | (simp only [List.length_nil]; omega) | (simp only [List.length_cons, List.length_nil]; omega))⟩ (by first | omega | (dsimp only; omega))
      · cbv
      · cbv
    · have dz_i1 := drop_end (xs := l) (i := Int.toNat i1) (by omega)
      have tz_i1 := take_end (xs := l) (i := Int.toNat i1) (by omega)
      refine hF _ _ ?_
      conv => cbv
      exact hQ _ (congrArg PV.bool (by first | rfl | omega | (simp [*]; done) | (subst_vars; simp [*]; done)))   -- leaf 1

noncomputable abbrev midParallels (more : List Int) : List (Nat × PV) := [(1, .isl 1 (rows cU8 more))]

section
variable {κ : Ctx} {X Y : Req → (PV → Prop) → Prop} {L : Code → (Ex → St → Prop) → St → Prop} {Q : PV → Prop}

theorem parallels_part1 (m : Mach Try.prog G κ X Y L) (hQ : ∀ r, r = PV.bool true → Q r) (code more : List Int) (hf : ∀ x ∈ code, 0 ≤ x ∧ x ≤ 255) (E0 : St → Prop)
    (hE0 : ∀ (s' : St) (a : Unit), headOk s' [] = true → Ai.norm [1] [] s' = St.at 330 (midParallels more) [] → (more.length : Int) ≤ 9223372036854775807 → E0 s') :
    Ai.code X L G (front 14 (Try.f3.body.getD .skip)) (fun e s' => match e with | .normal => E0 s' | .exit i => EndsIn (post G Try.f3.results.toList Q) (.exit i) s' | .ret => EndsIn (post G Try.f3.results.toList Q) .ret s') (start 330 [.isl 1 (rows cU8 code), .isl 1 (rows cU8 more)] []) := by
  conv => cbv
  refine r_callB m.sX (big_ok code more) (fun h1 => ?_) (fun h1 => ?_) <;> conv => cbv
  · exact hQ _ (congrArg PV.bool (by first | rfl | omega | (simp [*]; done) | (subst_vars; simp [*]; done)))   -- leaf 1
  · rw [Bool.or_eq_false_iff, decide_eq_false_iff_not, decide_eq_false_iff_not] at h1
    have h : CurIn code := ⟨by omega, hf⟩
    have hmr : (more.length : Int) ≤ 9223372036854775807 := by omega
    refine r_callE m.sX ((drawSavedBy_ok code h).iceE) ?_
    rintro _ ⟨_, ⟨l, i, rfl, bl_1⟩, rfl⟩
    conv => cbv
    refine r_callF ib m.sX (SavedBy_ok l i) fun v hs_ => ?_
    obtain ⟨s_, ok⟩ := v
    conv => cbv
    refine r_callF ib m.sX (specSavedBy_ok l i) fun y1 hy1 => ?_
    obtain rfl := hs_.trans hy1.symm
    clear hy1
    conv => cbv
    refine r_callF ib m.sX (TotalHeight_ok l) fun v ht => ?_
    obtain ⟨t, one⟩ := v
    conv => cbv
    refine r_callF ib m.sX (specTotalHeight_ok l) fun y2 hy2 => ?_
    obtain rfl := ht.trans hy2.symm
    clear hy2
    conv => cbv
    refine r_callF (lbI 1 cInt) m.sX ((BlanksOf_ok l).ice) fun v hb => ?_
    obtain ⟨b, three⟩ := v
    conv => cbv
    refine r_callF (lbI 1 cInt) m.sX ((specBlanksOf_ok l).ice) fun y3 hy3 => ?_
    obtain rfl := hb.trans hy3.symm
    clear hy3
    conv => cbv
    refine r_callF (lbI 1 cInt) m.sX ((RowHeights_ok l).ice) fun v hh_ => ?_
    obtain ⟨h_, five⟩ := v
    conv => cbv
    have e1 := tot_one ht
    have e3 := bl_three hb
    have e5 := he_five hh_
    have e0 := sav_par hs_
    refine r_callF (lbI 1 cInt) m.sX ((specRowHeights_ok l).ice) fun y4 hy4 => ?_
    obtain rfl := hh_.trans hy4.symm
    clear hy4
    conv => cbv
    rcases Bool.eq_false_or_eq_true ok with rfl | rfl <;> conv => cbv
    · refine r_neqF m.sX ((by first | rfl | omega | assumption | exact decide_eq_true rfl | (subst_vars; omega))) ?_
      conv => cbv
      obtain rfl : one = true := by exact e1.trans (e0 rfl)
      conv => cbv
      refine r_neqF m.sX ((by first | rfl | omega | assumption | exact decide_eq_true rfl | (subst_vars; omega))) ?_
      conv => cbv
      obtain rfl : three = true := by exact e3.trans e1.symm
      conv => cbv
      refine r_callBT m.sX (sameInts_ok b b) (by first | rfl | omega | assumption | exact decide_eq_true rfl | (subst_vars; omega)) ?_   -- h4
      conv => cbv
      obtain rfl : five = true := by exact e5.trans e1.symm
      conv => cbv
      refine r_callBT m.sX (sameInts_ok h_ h_) (by first | rfl | omega | assumption | exact decide_eq_true rfl | (subst_vars; omega)) ?_   -- h5
      conv => cbv
      refine r_callBT m.sX (AreParallel_ok l) (by exact e1.symm) ?_   -- h6
      conv => cbv
      refine r_lenR m.sX fun n1 hn1 mn1 => ?_
      conv => cbv
      have PF := par_facts e1.symm ht hb hh_
      have F1 := PF.a; have F2 := PF.c; have F3 := PF.d; have F5 := PF.f; have F6 := PF.g
      obtain ⟨G1, G2, G3⟩ := headP_bd e1.symm
      have te := tot_eq ht
      refine r_loopF (α := Int × Int × Int) m 330 [1, 5, 6, 8, 9, 13, 17, 21, 23, 24, 166, 167, 168] [] (fun σ => [(1, .isl 1 (rows cU8 more)), (5, .isl 1 (rows (cSl 1 cInt) l)), (6, .int .i64 i), (8, .bool true), (9, .int .i64 s_), (13, .int .i64 t), (17, .isl 1 (rows cInt b)), (21, .isl 1 (rows cInt h_)), (23, .int .i64 σ.1), (24, .int .i64 σ.2.1), (166, .isl 1 (rows (cSl 1 cInt) l)), (167, .int .i64 n1), (168, .int .i64 σ.2.2)]) (fun σ => [])
        (fun σ => (0 ≤ σ.2.2) ∧ (σ.2.2 ≤ n1) ∧ (σ.1 = sumT l σ.2.2.toNat) ∧ (0 ≤ σ.1 ∧ σ.1 ≤ 1200 * σ.2.2) ∧ ((σ.2.2 = 0 ∧ σ.2.1 = 0) ∨ σ.2.1 = headP l)) (fun σ => (n1 - σ.2.2).toNat) (0, 0, 0) ?_ ?_ ?_ ?_
      · cbv
      · cbv
      · exact ⟨(by (try dsimp only); first | omega | (simp only [List.length_nil]; omega) | (simp only [List.length_cons, List.length_nil]; omega)), (by (try dsimp only); first | omega | (simp only [List.length_nil]; omega) | (simp only [List.length_cons, List.length_nil]; omega)), (by (try dsimp only) <;> (rfl)), (by (try dsimp only) <;> first | omega | rfl | (simp [*]; done)), (by (try dsimp only) <;> first | omega | rfl | (simp [*]; done))⟩
      rintro ⟨lines, columns, i1⟩ ⟨lo1, hi1, q, bd, cw⟩ E hE F hF
      dsimp only at lo1 hi1 q bd cw
      conv => cbv
      refine r_lss m.sX (fun h7 => ?_) (fun h7 => ?_) <;> conv => cbv
      · refine r_index m.sX (by omega) (by omega) fun row hrow => ?_
        conv => cbv
        have mrow := get_mem hrow
        have drow := drop_cons hrow
        have krow := take_snoc hrow
        have jrow : (i1 + 1).toNat = Int.toNat i1 + 1 := by omega
        obtain ⟨rb1, rb2, rb3⟩ := row_bd e1.symm mrow
        refine r_callF (PV.int .i64) m.sX (pSum_ok row (by first | rfl | assumption | omega | (simp only [List.length_append, List.length_cons, List.length_nil] at *; omega))) fun r1 hr1 => ?_
        conv => cbv
        refine r_addf m.sX (by omega) (by omega) fun lines_2 hlines_2 => ?_
        conv => cbv
        refine r_lenR m.sX fun columns_2 hcolumns_2 mcolumns_2 => ?_
        conv => cbv
        refine r_addf m.sX (by omega) (by omega) fun r2 hr2 => ?_
        conv => cbv
        try have tr2 : Int.toNat r2 = Int.toNat i1 + 1 := by omega
        refine hE _ (lines_2, columns_2, r2) ?_ ?_ ⟨(by (try dsimp only); first | omega | (simp only [List.length_nil]; omega) | (simp only [List.length_cons, List.length_nil]; omega)), (by (try dsimp only); first | omega | (simp only [List.length_nil]; omega) | (simp only [List.length_cons, List.length_nil]; omega)), (by (try dsimp only) <;> (rw [tr2, sumT_take hrow, ← q]; omega)), (by (try dsimp only) <;> first | omega | rfl | (simp [*]; done) | (rw [bd]; simp [*]; done)), (by (try dsimp only) <;> first | omega | rfl | (simp [*]; done) | (rw [cw]; simp [*]; done))⟩ (by first | omega | (dsimp only; omega))
        · cbv
        · cbv
      · have dz_i1 := drop_end (xs := l) (i := Int.toNat i1) (by omega)
        have tz_i1 := take_end (xs := l) (i := Int.toNat i1) (by omega)
        refine hF _ _ ?_
        conv => cbv
        refine r_callF (PV.int .i64) m.sX (pSum_ok h_ (by first | rfl | assumption | omega | (simp only [List.length_append, List.length_cons, List.length_nil] at *; omega))) fun r3 hr3 => ?_
        conv => cbv
        refine r_neqF m.sX ((by first | rfl | omega | assumption | exact decide_eq_true rfl | (subst_vars; omega))) ?_
        conv => cbv
        refine r_callF (PV.int .i64) m.sX (pSum_ok b (by first | rfl | assumption | omega | (simp only [List.length_append, List.length_cons, List.length_nil] at *; omega))) fun r4 hr4 => ?_
        conv => cbv
        refine r_addf m.sX (by omega) (by omega) fun r5 hr5 => ?_
        conv => cbv
        have cc : columns = headP l := col_eq e1.symm hn1 (by omega) (by omega) cw
        have sm : r5 = t * columns := sum_eq PF hn1 (by omega) q cc (hr5.trans (by rw [hr4]))
        have mb : 0 ≤ t * columns ∧ t * columns ≤ 1000000 := (by rw [← sm]; omega)
        refine r_mulf m.sX (by first | omega | (subst_vars; omega)) (by first | omega | (subst_vars; omega)) fun r6 hr6 => ?_
        conv => cbv
        refine r_neqF m.sX ((by first | omega | exact sm.trans hr6.symm)) ?_
        conv => cbv
        refine r_callF (lbI 1 (cSl 1 cInt)) m.sX ((JoinRows_ok l i).ice) fun v hj => ?_
        obtain ⟨j, seven⟩ := v
        conv => cbv
        refine r_callF (lbI 1 (cSl 1 cInt)) m.sX ((specJoinRows_ok l i).ice) fun y5 hy5 => ?_
        obtain rfl := hj.trans hy5.symm
        clear hy5
        conv => cbv
        rcases Bool.eq_false_or_eq_true seven with rfl | rfl <;> conv => cbv
        · refine r_callBT m.sX (sameLists_ok j) (by first | rfl | omega | assumption | exact decide_eq_true rfl | (subst_vars; omega)) ?_   -- h10
          conv => cbv
          refine r_lssF m.sX ((by have := (best_law hs_).1; omega)) ?_
          conv => cbv
          refine r_callF ib m.sX (TotalHeight_ok j) fun v hnow => ?_
          obtain ⟨now, nine⟩ := v
          conv => cbv
          obtain ⟨jl1, jl2⟩ := join_law hs_ hj _ _ hnow
          have jb := tot_bd hnow
          obtain rfl : nine = true := by first | rfl | omega | assumption | exact decide_eq_true rfl | (subst_vars; omega)
          conv => cbv
          refine r_subf m.sX (by omega) (by omega) fun r7 hr7 => ?_
          conv => cbv
          refine r_neqF m.sX ((by first | rfl | omega | assumption | exact decide_eq_true rfl | (subst_vars; omega))) ?_
          conv => cbv
          refine r_callF iib m.sX (BestJoin_ok l) fun v hk => ?_
          obtain ⟨k, most, nine_2⟩ := v
          conv => cbv
          obtain ⟨bl0, bl1⟩ := best_law hs_
          obtain ⟨bl2, bl3⟩ := bl1 _ _ _ hk
          refine r_callF iib m.sX (specBestJoin_ok l) fun y6 hy6 => ?_
          obtain rfl := hk.trans hy6.symm
          clear hy6
          conv => cbv
          obtain rfl : nine_2 = true := by first | rfl | omega | assumption | exact decide_eq_true rfl | (subst_vars; omega)
          conv => cbv
          refine r_neqF m.sX ((by first | rfl | omega | assumption | exact decide_eq_true rfl | (subst_vars; omega))) ?_
          conv => cbv
          refine r_neqF m.sX ((by first | rfl | omega | assumption | exact decide_eq_true rfl | (subst_vars; omega))) ?_
          conv => cbv
          refine r_lssF m.sX ((by first | rfl | omega | assumption | exact decide_eq_true rfl | (subst_vars; omega))) ?_
          conv => cbv
          exact hE0 _ () (by cbv) (by cbv) hmr
        · refine r_callBT m.sX (sameLists_ok j) (by first | rfl | omega | assumption | exact decide_eq_true rfl | (subst_vars; omega)) ?_   -- h16
          conv => cbv
          refine r_lssF m.sX ((by have := (best_law hs_).1; omega)) ?_
          conv => cbv
          refine r_callF iib m.sX (BestJoin_ok l) fun v hk_2 => ?_
          obtain ⟨k_2, most_2, nine_3⟩ := v
          conv => cbv
          obtain ⟨bl0, bl1⟩ := best_law hs_
          obtain ⟨bl2, bl3⟩ := bl1 _ _ _ hk_2
          refine r_callF iib m.sX (specBestJoin_ok l) fun y7 hy7 => ?_
          obtain rfl := hk_2.trans hy7.symm
          clear hy7
          conv => cbv
          obtain rfl : nine_3 = true := by first | rfl | omega | assumption | exact decide_eq_true rfl | (subst_vars; omega)
          conv => cbv
          refine r_neqF m.sX ((by first | rfl | omega | assumption | exact decide_eq_true rfl | (subst_vars; omega))) ?_
          conv => cbv
          refine r_neqF m.sX ((by first | rfl | omega | assumption | exact decide_eq_true rfl | (subst_vars; omega))) ?_
          conv => cbv
          refine r_lssF m.sX ((by first | rfl | omega | assumption | exact decide_eq_true rfl | (subst_vars; omega))) ?_
          conv => cbv
          exact hE0 _ () (by cbv) (by cbv) hmr
    · refine r_neqF m.sX ((by first | rfl | omega | assumption | exact decide_eq_true rfl | (subst_vars; omega))) ?_
      conv => cbv
      rcases Bool.eq_false_or_eq_true one with rfl | rfl <;> conv => cbv
      · refine r_neqF m.sX ((by first | rfl | omega | assumption | exact decide_eq_true rfl | (subst_vars; omega))) ?_
        conv => cbv
        obtain rfl : three = true := by exact e3.trans e1.symm
        conv => cbv
        refine r_callBT m.sX (sameInts_ok b b) (by first | rfl | omega | assumption | exact decide_eq_true rfl | (subst_vars; omega)) ?_   -- h23
        conv => cbv
        obtain rfl : five = true := by exact e5.trans e1.symm
        conv => cbv
        refine r_callBT m.sX (sameInts_ok h_ h_) (by first | rfl | omega | assumption | exact decide_eq_true rfl | (subst_vars; omega)) ?_   -- h24
        conv => cbv
        refine r_callBT m.sX (AreParallel_ok l) (by exact e1.symm) ?_   -- h25
        conv => cbv
        refine r_lenR m.sX fun n2 hn2 mn2 => ?_
        conv => cbv
        have PF := par_facts e1.symm ht hb hh_
        have F1 := PF.a; have F2 := PF.c; have F3 := PF.d; have F5 := PF.f; have F6 := PF.g
        obtain ⟨G1, G2, G3⟩ := headP_bd e1.symm
        refine r_loopF (α := Int × Int × Int) m 330 [1, 5, 6, 8, 9, 13, 17, 21, 23, 24, 166, 167, 168] [] (fun σ => [(1, .isl 1 (rows cU8 more)), (5, .isl 1 (rows (cSl 1 cInt) l)), (6, .int .i64 i), (8, .bool false), (9, .int .i64 s_), (13, .int .i64 t), (17, .isl 1 (rows cInt b)), (21, .isl 1 (rows cInt h_)), (23, .int .i64 σ.1), (24, .int .i64 σ.2.1), (166, .isl 1 (rows (cSl 1 cInt) l)), (167, .int .i64 n2), (168, .int .i64 σ.2.2)]) (fun σ => [])
          (fun σ => (0 ≤ σ.2.2) ∧ (σ.2.2 ≤ n2) ∧ (σ.1 = sumT l σ.2.2.toNat) ∧ (0 ≤ σ.1 ∧ σ.1 ≤ 1200 * σ.2.2) ∧ ((σ.2.2 = 0 ∧ σ.2.1 = 0) ∨ σ.2.1 = headP l)) (fun σ => (n2 - σ.2.2).toNat) (0, 0, 0) ?_ ?_ ?_ ?_
        · cbv
        · cbv
        · exact ⟨(by (try dsimp only); first | omega | (simp only [List.length_nil]; omega) | (simp only [List.length_cons, List.length_nil]; omega)), (by (try dsimp only); first | omega | (simp only [List.length_nil]; omega) | (simp only [List.length_cons, List.length_nil]; omega)), (by (try dsimp only) <;> (rfl)), (by (try dsimp only) <;> first | omega | rfl | (simp [*]; done)), (by (try dsimp only) <;> first | omega | rfl | (simp [*]; done))⟩
        rintro ⟨lines_3, columns_3, i2⟩ ⟨lo2, hi2, q, bd, cw⟩ E hE F hF
        dsimp only at lo2 hi2 q bd cw
        conv => cbv
        refine r_lss m.sX (fun h26 => ?_) (fun h26 => ?_) <;> conv => cbv
        · refine r_index m.sX (by omega) (by omega) fun row_2 hrow_2 => ?_
          conv => cbv
          have mrow_2 := get_mem hrow_2
          have drow_2 := drop_cons hrow_2
          have krow_2 := take_snoc hrow_2
          have jrow_2 : (i2 + 1).toNat = Int.toNat i2 + 1 := by omega
          obtain ⟨rb1, rb2, rb3⟩ := row_bd e1.symm mrow_2
          refine r_callF (PV.int .i64) m.sX (pSum_ok row_2 (by first | rfl | assumption | omega | (simp only [List.length_append, List.length_cons, List.length_nil] at *; omega))) fun r8 hr8 => ?_
          conv => cbv
          refine r_addf m.sX (by omega) (by omega) fun lines_4 hlines_4 => ?_
          conv => cbv
          refine r_lenR m.sX fun columns_4 hcolumns_4 mcolumns_4 => ?_
          conv => cbv
          refine r_addf m.sX (by omega) (by omega) fun r9 hr9 => ?_
          conv => cbv
          try have tr9 : Int.toNat r9 = Int.toNat i2 + 1 := by omega
          refine hE _ (lines_4, columns_4, r9) ?_ ?_ ⟨(by (try dsimp only); first | omega | (simp only [List.length_nil]; omega) | (simp only [List.length_cons, List.length_nil]; omega)), (by (try dsimp only); first | omega | (simp only [List.length_nil]; omega) | (simp only [List.length_cons, List.length_nil]; omega)), (by (try dsimp only) <;> (rw [tr9, sumT_take hrow_2, ← q]; omega)), (by (try dsimp only) <;> first | omega | rfl | (simp [*]; done) | (rw [bd]; simp [*]; done)), (by (try dsimp only) <;> first | omega | rfl | (simp [*]; done) | (rw [cw]; simp [*]; done))⟩ (by first | omega | (dsimp only; omega))
          · cbv
          · cbv
        · have dz_i2 := drop_end (xs := l) (i := Int.toNat i2) (by omega)
          have tz_i2 := take_end (xs := l) (i := Int.toNat i2) (by omega)
          refine hF _ _ ?_
          conv => cbv
          refine r_callF (PV.int .i64) m.sX (pSum_ok h_ (by first | rfl | assumption | omega | (simp only [List.length_append, List.length_cons, List.length_nil] at *; omega))) fun r10 hr10 => ?_
          conv => cbv
          refine r_neqF m.sX ((by first | rfl | omega | assumption | exact decide_eq_true rfl | (subst_vars; omega))) ?_
          conv => cbv
          refine r_callF (PV.int .i64) m.sX (pSum_ok b (by first | rfl | assumption | omega | (simp only [List.length_append, List.length_cons, List.length_nil] at *; omega))) fun r11 hr11 => ?_
          conv => cbv
          refine r_addf m.sX (by omega) (by omega) fun r12 hr12 => ?_
          conv => cbv
          have cc : columns_3 = headP l := col_eq e1.symm hn2 (by omega) (by omega) cw
          have sm : r12 = t * columns_3 := sum_eq PF hn2 (by omega) q cc (hr12.trans (by rw [hr11]))
          have mb : 0 ≤ t * columns_3 ∧ t * columns_3 ≤ 1000000 := (by rw [← sm]; omega)
          refine r_mulf m.sX (by first | omega | (subst_vars; omega)) (by first | omega | (subst_vars; omega)) fun r13 hr13 => ?_
          conv => cbv
          refine r_neqF m.sX ((by first | omega | exact sm.trans hr13.symm)) ?_
          conv => cbv
          exact hE0 _ () (by cbv) (by cbv) hmr
      · refine r_neqF m.sX ((by first | rfl | omega | assumption | exact decide_eq_true rfl | (subst_vars; omega))) ?_
        conv => cbv
        obtain rfl : three = false := by exact e3.trans e1.symm
        conv => cbv
        refine r_callBT m.sX (sameInts_ok b b) (by first | rfl | omega | assumption | exact decide_eq_true rfl | (subst_vars; omega)) ?_   -- h30
        conv => cbv
        obtain rfl : five = false := by exact e5.trans e1.symm
        conv => cbv
        refine r_callBT m.sX (sameInts_ok h_ h_) (by first | rfl | omega | assumption | exact decide_eq_true rfl | (subst_vars; omega)) ?_   -- h31
        conv => cbv
        refine r_callBF m.sX (AreParallel_ok l) (by exact e1.symm) ?_   -- h32
        conv => cbv
        exact hE0 _ () (by cbv) (by cbv) hmr

theorem parallels_part2 (m : Mach Try.prog G κ X Y L) (hQ : ∀ r, r = PV.bool true → Q r) (more : List Int) (h : CurIn more) :
    Ai.code X L G (rest 14 (Try.f3.body.getD .skip)) (EndsIn (post G Try.f3.results.toList Q)) (St.at 330 (midParallels more) []) := by
  conv => cbv
  refine r_callE m.sX ((drawSwapColumns_ok more h).iceE) ?_
  rintro _ ⟨_, ⟨u, x, y, rfl, bu_1⟩, rfl⟩
  conv => cbv
  refine r_callF (lbI 1 (cSl 1 cInt)) m.sX ((SwapColumns_ok u x y).ice) fun v hw => ?_
  obtain ⟨w, seven⟩ := v
  conv => cbv
  refine r_callF (lbI 1 (cSl 1 cInt)) m.sX ((specSwapColumns_ok u x y).ice) fun y1 hy1 => ?_
  obtain rfl := hw.trans hy1.symm
  clear hy1
  conv => cbv
  refine r_callF ib m.sX (MostBlank_ok u) fun v hm_ => ?_
  obtain ⟨m_, nine⟩ := v
  conv => cbv
  refine r_callF ib m.sX (specMostBlank_ok u) fun y2 hy2 => ?_
  obtain rfl := hm_.trans hy2.symm
  clear hy2
  conv => cbv
  rcases Bool.eq_false_or_eq_true seven with rfl | rfl <;> conv => cbv
  · refine r_callBT m.sX (sameLists_ok w) (by first | rfl | omega | assumption | exact decide_eq_true rfl | (subst_vars; omega)) ?_   -- h1
    conv => cbv
    rcases Bool.eq_false_or_eq_true nine with rfl | rfl <;> conv => cbv
    · refine r_neqF m.sX ((by first | rfl | omega | assumption | exact decide_eq_true rfl | (subst_vars; omega))) ?_
      conv => cbv
      refine r_callF (lbI 1 (cSl 1 cInt)) m.sX ((SwapColumns_ok w y x).ice) fun v hback => ?_
      obtain ⟨back, eleven⟩ := v
      conv => cbv
      obtain ⟨eb, rfl⟩ := back_law hw hback
      obtain rfl : eleven = true := by first | rfl | omega | assumption | exact decide_eq_true rfl | (subst_vars; omega)
      conv => cbv
      refine r_callBT m.sX (sameLists_ok back) (by first | rfl | omega | assumption | exact decide_eq_true rfl | (subst_vars; omega)) ?_   -- h3
      conv => cbv
      exact hQ _ (congrArg PV.bool (by first | rfl | omega | (simp [*]; done) | (subst_vars; simp [*]; done)))   -- leaf 2
    · refine r_neqF m.sX ((by first | rfl | omega | assumption | exact decide_eq_true rfl | (subst_vars; omega))) ?_
      conv => cbv
      refine r_callF (lbI 1 (cSl 1 cInt)) m.sX ((SwapColumns_ok w y x).ice) fun v hback_2 => ?_
      obtain ⟨back_2, eleven_2⟩ := v
      conv => cbv
      obtain ⟨eb, rfl⟩ := back_law hw hback_2
      obtain rfl : eleven_2 = true := by first | rfl | omega | assumption | exact decide_eq_true rfl | (subst_vars; omega)
      conv => cbv
      refine r_callBT m.sX (sameLists_ok back_2) (by first | rfl | omega | assumption | exact decide_eq_true rfl | (subst_vars; omega)) ?_   -- h5
      conv => cbv
      exact hQ _ (congrArg PV.bool (by first | rfl | omega | (simp [*]; done) | (subst_vars; simp [*]; done)))   -- leaf 3
  · refine r_callBT m.sX (sameLists_ok w) (by first | rfl | omega | assumption | exact decide_eq_true rfl | (subst_vars; omega)) ?_   -- h6
    conv => cbv
    rcases Bool.eq_false_or_eq_true nine with rfl | rfl <;> conv => cbv
    · refine r_neqF m.sX ((by first | rfl | omega | assumption | exact decide_eq_true rfl | (subst_vars; omega))) ?_
      conv => cbv
      exact hQ _ (congrArg PV.bool (by first | rfl | omega | (simp [*]; done) | (subst_vars; simp [*]; done)))   -- leaf 4
    · refine r_neqF m.sX ((by first | rfl | omega | assumption | exact decide_eq_true rfl | (subst_vars; omega))) ?_
      conv => cbv
      exact hQ _ (congrArg PV.bool (by first | rfl | omega | (simp [*]; done) | (subst_vars; simp [*]; done)))   -- leaf 5

end

theorem lawParallels_ok (code more : List Int) (hf : ∀ x ∈ code, 0 ≤ x ∧ x ≤ 255) (hg : ∀ x ∈ more, 0 ≤ x ∧ x ≤ 255) : OkA Try.prog 3 [.isl 1 (rows cU8 code), .isl 1 (rows cU8 more)] (· = .bool true) :=
  fn_introW envOk fieldsOk mixed Try.func3 rfl (c := Try.f3.body.getD .skip) rfl fun κ X Y L Q m hQ =>
    W_cut m 14 330 [1] [] (fun _ : Unit => midParallels more) (fun _ => []) (fun _ => (more.length : Int) ≤ 9223372036854775807) (parallels_part1 m hQ code more hf) fun _ hl =>
    W_last m (parallels_part2 m hQ more ⟨hl, hg⟩)

end Go.Proofs.Ytifkjlpkhfldoaa.Ai
