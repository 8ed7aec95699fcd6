/- The law FnDrifts: its body returns true. -/
import Derived.Test.YtfnfjgdepilgkaaDrift
import Derived.Test.YtfnfjgdepilgkaaTrialDraw
import Derived.Test.YtfnfjgdepilgkaaAiCut
namespace Go.Proofs.Ytfnfjgdepilgkaa.Ai
open Go Go.Proofs
set_option maxRecDepth 10000
set_option maxHeartbeats 4000000
set_option linter.unusedVariables false

noncomputable abbrev midDrifts (more : List Int) : List (Nat × PV) := [(1, .isl 1 (rows cU8 more))]

section
variable {κ : Ctx} {X Y : Req → (PV → Prop) → Prop} {L : Code → (Ex → St → Prop) → St → Prop} {Q : PV → Prop}

theorem drifts_part1 (m : Mach Try.prog G κ X Y L) (hQ : ∀ r, r = PV.bool true → Q r) (code more : List Int) (hf : ∀ x ∈ code, 0 ≤ x ∧ x ≤ 255) (E0 : St → Prop)
    (hE0 : ∀ (s' : St) (σ : List Int × Bool × Int × Int × Int), headOk s' [] = true → Ai.norm [1, 5, 8, 9, 10, 14] [] s' = St.at 339 [(1, .isl 1 (rows cU8 more)), (5, .isl 1 (rows cInt σ.1)), (8, .bool σ.2.1), (9, .int .i64 σ.2.2.1), (10, .int .i64 σ.2.2.2.1), (14, .int .i64 σ.2.2.2.2)] [] → ((more.length : Int) ≤ 9223372036854775807 ∧ (((σ.2.2.1, σ.2.2.2.1, σ.2.1) = ldA σ.1) ∧ ((σ.2.2.2.2, σ.2.1) = corrA σ.1))) → E0 s') :
    Ai.code X L G (front 8 (Try.f4.body.getD .skip)) (fun e s' => match e with | .normal => E0 s' | .exit i => EndsIn (post G Try.f4.results.toList Q) (.exit i) s' | .ret => EndsIn (post G Try.f4.results.toList Q) .ret s') (start 339 [.isl 1 (rows cU8 code), .isl 1 (rows cU8 more)] []) := by
  conv => cbv
  refine r_callB m.sX (big_ok code more) (fun h1 => ?_) (fun h1 => ?_) <;> conv => cbv
  · exact hQ _ (congrArg PV.bool (by first | rfl | omega | (simp [*]; done) | (subst_vars; simp [*]; done)))   -- leaf 1
  · rw [Bool.or_eq_false_iff, decide_eq_false_iff_not, decide_eq_false_iff_not] at h1
    have h : CurIn code := ⟨by omega, hf⟩
    have hmr : (more.length : Int) ≤ 9223372036854775807 := by omega
    refine r_callE m.sX ((drawLongestDrift_ok code h).iceE) ?_
    rintro _ ⟨_, ⟨l, rfl, bl_1⟩, rfl⟩
    conv => cbv
    refine r_callF iib m.sX (LongestDrift_ok l) fun v hf => ?_
    obtain ⟨f, n, ok⟩ := v
    conv => cbv
    have F1 := ld_two hf
    refine r_callF iib m.sX (specLongestDrift_ok l) fun y1 hy1 => ?_
    obtain rfl := hf.trans hy1.symm
    clear hy1
    conv => cbv
    refine r_callF ib m.sX (CorrectionFor_ok l) fun v hc => ?_
    obtain ⟨c, one⟩ := v
    conv => cbv
    have F2 := corr_two hc
    refine r_callF ib m.sX (specCorrectionFor_ok l) fun y2 hy2 => ?_
    obtain rfl := hc.trans hy2.symm
    clear hy2
    conv => cbv
    rcases Bool.eq_false_or_eq_true ok with rfl | rfl <;> conv => cbv
    · refine r_neqF m.sX ((by first | omega | assumption | exact decide_eq_true rfl | (subst_vars; omega))) ?_
      conv => cbv
      refine r_neqF m.sX ((by first | omega | assumption | exact decide_eq_true rfl | (subst_vars; omega))) ?_
      conv => cbv
      obtain rfl : one = true := by exact F2.symm.trans F1
      conv => cbv
      refine r_neqF m.sX ((by first | omega | assumption | exact decide_eq_true rfl | (subst_vars; omega))) ?_
      conv => cbv
      exact hE0 _ (l, true, f, n, c) (by cbv) (by cbv) ⟨hmr, ⟨(by (try dsimp only) <;> (first | assumption | omega | (simp [*]; done))), (by (try dsimp only) <;> (first | assumption | omega | (simp [*]; done)))⟩⟩
    · refine r_neqF m.sX ((by first | omega | assumption | exact decide_eq_true rfl | (subst_vars; omega))) ?_
      conv => cbv
      refine r_neqF m.sX ((by first | omega | assumption | exact decide_eq_true rfl | (subst_vars; omega))) ?_
      conv => cbv
      obtain rfl : one = false := by exact F2.symm.trans F1
      conv => cbv
      refine r_neqF m.sX ((by first | omega | assumption | exact decide_eq_true rfl | (subst_vars; omega))) ?_
      conv => cbv
      exact hE0 _ (l, false, f, n, c) (by cbv) (by cbv) ⟨hmr, ⟨(by (try dsimp only) <;> (first | assumption | omega | (simp [*]; done))), (by (try dsimp only) <;> (first | assumption | omega | (simp [*]; done)))⟩⟩

theorem drifts_part2 (m : Mach Try.prog G κ X Y L) (hQ : ∀ r, r = PV.bool true → Q r) (more : List Int) (h : CurIn more) (l : List Int) (ok : Bool) (from_ : Int) (count : Int) (correction : Int) (cl : (from_, count, ok) = ldA l) (cc : (correction, ok) = corrA l) (E0 : St → Prop)
    (hE0 : ∀ (s' : St) (σ : Unit), headOk s' [] = true → Ai.norm [1] [] s' = St.at 339 [(1, .isl 1 (rows cU8 more))] [] → (True ∧ ((True))) → E0 s') :
    Ai.code X L G (front 1 (rest 8 (Try.f4.body.getD .skip))) (fun e s' => match e with | .normal => E0 s' | .exit i => EndsIn (post G Try.f4.results.toList Q) (.exit i) s' | .ret => EndsIn (post G Try.f4.results.toList Q) .ret s') (St.at 339 [(1, .isl 1 (rows cU8 more)), (5, .isl 1 (rows cInt l)), (8, .bool ok), (9, .int .i64 from_), (10, .int .i64 count), (14, .int .i64 correction)] []) := by
  conv => cbv
  rcases Bool.eq_false_or_eq_true ok with rfl | rfl <;> conv => cbv
  · obtain ⟨ok1, sg, f', n', hsg, ef, en, rn⟩ := ld_facts cl
    have ll := ok1.len
    have rf := rn.fit
    have rp := rn.pos
    have cv : correction = corrI l := corr_val cc
    have cb := corr_bound ok1
    rw [← cv] at cb
    have cle := corr_least (l := l) (by omega)
    rw [← cv] at cle
    refine r_lssF m.sX ((by first | omega | assumption | exact decide_eq_true rfl | (subst_vars; omega))) ?_
    conv => cbv
    refine r_addf m.sX (by omega) (by omega) fun r1 hr1 => ?_
    conv => cbv
    refine r_lenR m.sX fun n1 hn1 mn1 => ?_
    conv => cbv
    refine r_gtrF m.sX ((by first | omega | assumption | exact decide_eq_true rfl | (subst_vars; omega))) ?_
    conv => cbv
    refine r_addf m.sX (by omega) (by omega) fun k hk => ?_
    conv => cbv
    refine r_loopF (α := Int) m 339 [1, 5, 9, 10, 14, 16] [] (fun σ => [(1, .isl 1 (rows cU8 more)), (5, .isl 1 (rows cInt l)), (9, .int .i64 from_), (10, .int .i64 count), (14, .int .i64 correction), (16, .int .i64 σ)]) (fun σ => [])
      (fun σ => from_ + 2 ≤ σ) (fun σ => (r1 - σ).toNat) k ?_ ?_ ?_ ?_
    · cbv
    · cbv
    · exact (by (try dsimp only) <;> first | omega | rfl | (simp [*]; done))
    rintro k_2 kb E hE F hF
    conv => cbv
    refine r_addf m.sX (by omega) (by omega) fun r2 hr2 => ?_
    conv => cbv
    refine r_lss m.sX (fun h3 => ?_) (fun h3 => ?_) <;> conv => cbv
    · have d1 := rn.run (k_2.toNat - f') (by omega) (by omega)
      have d2 := rn.run (k_2.toNat - 1 - f') (by omega) (by omega)
      rw [show f' + (k_2.toNat - f') = k_2.toNat by omega] at d1
      rw [show f' + (k_2.toNat - 1 - f') = k_2.toNat - 1 by omega] at d2
      refine r_draw m (by kernel_rfl) ?_
      conv => cbv
      refine r_index m.sY (by omega) (by omega) fun x1 hx1 => ?_
      conv => cbv
      have mx1 := get_mem hx1
      have vx1 := nth_some hx1
      refine r_subf m.sY (by omega) (by omega) fun r3 hr3 => ?_
      conv => cbv
      refine r_index m.sY (by omega) (by omega) fun x2 hx2 => ?_
      conv => cbv
      have mx2 := get_mem hx2
      have vx2 := nth_some hx2
      rw [dif, nth_some hx1, show k_2.toNat - 1 = r3.toNat by omega, nth_some hx2] at d1
      refine r_gtr m.sY (fun h4 => ?_) (fun h4 => ?_) <;> conv => cbv
      · refine r_subf m.sY (by omega) (by omega) fun r4 hr4 => ?_
        conv => cbv
        refine r_index m.sY (by omega) (by omega) fun x3 hx3 => ?_
        conv => cbv
        have mx3 := get_mem hx3
        have vx3 := nth_some hx3
        refine r_subf m.sY (by omega) (by omega) fun r5 hr5 => ?_
        conv => cbv
        refine r_index m.sY (by omega) (by omega) fun x4 hx4 => ?_
        conv => cbv
        have mx4 := get_mem hx4
        have vx4 := nth_some hx4
        rw [dif, show k_2.toNat - 1 = r4.toNat by omega, nth_some hx3, show r4.toNat - 1 = r5.toNat by omega, nth_some hx4] at d2
        refine r_gtrT m.sY ((by rcases hsg with e | e <;> rw [e] at d1 d2 <;> omega)) ?_
        conv => cbv
        refine r_index m.sY (by omega) (by omega) fun x5 hx5 => ?_
        conv => cbv
        have mx5 := get_mem hx5
        have vx5 := nth_some hx5
        obtain rfl : x1 = x5 := Option.some.inj (hx1.symm.trans hx5)
        refine r_subf m.sY (by omega) (by omega) fun r6 hr6 => ?_
        conv => cbv
        refine r_index m.sY (by omega) (by omega) fun x6 hx6 => ?_
        conv => cbv
        have mx6 := get_mem hx6
        have vx6 := nth_some hx6
        refine r_eqlF m.sY ((by have z : x6 = x2 := Option.some.inj (hx6.symm.trans (by rw [show r6.toNat = r3.toNat by omega]; exact hx2)); omega)) ?_
        conv => cbv
        refine r_addf m.sX (by omega) (by omega) fun k_3 hk_3 => ?_
        conv => cbv
        refine hE _ k_3 ?_ ?_ (by (try dsimp only) <;> (omega)) (by first | omega | (dsimp only; omega))
        · cbv
        · cbv
      · refine r_subf m.sY (by omega) (by omega) fun r7 hr7 => ?_
        conv => cbv
        refine r_index m.sY (by omega) (by omega) fun x7 hx7 => ?_
        conv => cbv
        have mx7 := get_mem hx7
        have vx7 := nth_some hx7
        refine r_subf m.sY (by omega) (by omega) fun r8 hr8 => ?_
        conv => cbv
        refine r_index m.sY (by omega) (by omega) fun x8 hx8 => ?_
        conv => cbv
        have mx8 := get_mem hx8
        have vx8 := nth_some hx8
        rw [dif, show k_2.toNat - 1 = r7.toNat by omega, nth_some hx7, show r7.toNat - 1 = r8.toNat by omega, nth_some hx8] at d2
        refine r_gtrF m.sY ((by rcases hsg with e | e <;> rw [e] at d1 d2 <;> omega)) ?_
        conv => cbv
        refine r_index m.sY (by omega) (by omega) fun x9 hx9 => ?_
        conv => cbv
        have mx9 := get_mem hx9
        have vx9 := nth_some hx9
        obtain rfl : x1 = x9 := Option.some.inj (hx1.symm.trans hx9)
        refine r_subf m.sY (by omega) (by omega) fun r9 hr9 => ?_
        conv => cbv
        refine r_index m.sY (by omega) (by omega) fun x10 hx10 => ?_
        conv => cbv
        have mx10 := get_mem hx10
        have vx10 := nth_some hx10
        refine r_eqlF m.sY ((by have z : x10 = x2 := Option.some.inj (hx10.symm.trans (by rw [show r9.toNat = r3.toNat by omega]; exact hx2)); rcases hsg with e | e <;> rw [e] at d1 <;> omega)) ?_
        conv => cbv
        refine r_addf m.sX (by omega) (by omega) fun k_4 hk_4 => ?_
        conv => cbv
        refine hE _ k_4 ?_ ?_ (by (try dsimp only) <;> (omega)) (by first | omega | (dsimp only; omega))
        · cbv
        · cbv
    · refine hF _ _ ?_
      conv => cbv
      refine r_lenR m.sX fun n2 hn2 mn2 => ?_
      conv => cbv
      refine r_loopF (α := List Int × Int) m 339 [1, 14, 153, 154, 155] [⟨17, 137, 3, 1, 0⟩] (fun σ => [(1, .isl 1 (rows cU8 more)), (14, .int .i64 correction), (17, .osl 137 0), (153, .isl 1 (rows cInt l)), (154, .int .i64 n2), (155, .int .i64 σ.2)]) (fun σ => [(137, 0, .row 3 1 (rows cInt σ.1))])
        (fun σ => (0 ≤ σ.2) ∧ (σ.2 ≤ n2) ∧ (DevS l correction σ.2.toNat 0 σ.1)) (fun σ => (n2 - σ.2).toNat) ([0, 0, 0], 0) ?_ ?_ ?_ ?_
      · cbv
      · (try dsimp only); simp only [rows_cons, rows_nil]; cbv
      · exact ⟨(by (try dsimp only); first | omega | (simp only [List.length_nil]; omega)), (by (try dsimp only); first | omega | (simp only [List.length_nil]; omega)), (by (try dsimp only) <;> (exact dev_zero l correction))⟩
      rintro ⟨sums, i1⟩ ⟨lo2, hi2, dq⟩ E hE F hF
      dsimp only at lo2 hi2 dq
      conv => cbv
      refine r_lss m.sX (fun h9 => ?_) (fun h9 => ?_) <;> conv => cbv
      · refine r_index m.sX (by omega) (by omega) fun d hd => ?_
        conv => cbv
        have md := get_mem hd
        have dd := drop_cons hd
        have kd := take_snoc hd
        have jd : (i1 + 1).toNat = Int.toNat i1 + 1 := by omega
        have vd := nth_some hd
        have bd := ok1.bound _ md
        have l3 := dq.1
        refine r_lenR m.sX fun n3 hn3 mn3 => ?_
        conv => cbv
        refine r_loopF (α := List Int × Int) m 339 [1, 14, 19, 153, 154, 155, 160, 161] [⟨17, 137, 3, 1, 0⟩] (fun σ => [(1, .isl 1 (rows cU8 more)), (14, .int .i64 correction), (17, .osl 137 0), (19, .int .i64 d), (153, .isl 1 (rows cInt l)), (154, .int .i64 n2), (155, .int .i64 i1), (160, .int .i64 n3), (161, .int .i64 σ.2)]) (fun σ => [(137, 0, .row 3 1 (rows cInt σ.1))])
          (fun σ => (0 ≤ σ.2) ∧ (σ.2 ≤ n3) ∧ (DevS l correction i1.toNat σ.2 σ.1)) (fun σ => (n3 - σ.2).toNat) (sums, 0) ?_ ?_ ?_ ?_
        · cbv
        · cbv
        · exact ⟨(by (try dsimp only); first | omega | (simp only [List.length_nil]; omega)), (by (try dsimp only); first | omega | (simp only [List.length_nil]; omega)), (by (try dsimp only) <;> (exact dq))⟩
        rintro ⟨sums_2, i2⟩ ⟨lo3, hi3, ds⟩ E2 hE2 F2 hF2
        dsimp only at lo3 hi3 ds
        conv => cbv
        refine r_lss m.sX (fun h10 => ?_) (fun h10 => ?_) <;> conv => cbv
        · have l4 := ds.1
          refine r_addf m.sX (by omega) (by omega) fun r10 hr10 => ?_
          conv => cbv
          refine r_addf m.sX (by omega) (by omega) fun r11 hr11 => ?_
          conv => cbv
          refine r_subf m.sX (by omega) (by omega) fun x hx => ?_
          conv => cbv
          refine r_lss m.sX (fun h11 => ?_) (fun h11 => ?_) <;> conv => cbv
          · refine r_neg m.sX fun r12 hr12 => ?_   -- r12 = wrap (-x)
            have e12 : r12 = -x := by rw [hr12]; exact wrap64 (by omega) (by omega)
            conv => cbv
            refine r_oindex m.sX (by omega) (by omega) ?_
            conv => cbv
            obtain ⟨x11, hx11⟩ := get_ex (xs := sums_2) (i := Int.toNat i2) (by omega)
            have mx11 := get_mem hx11
            have dx11 := drop_cons hx11
            have kx11 := take_snoc hx11
            have jx11 : (i2 + 1).toNat = Int.toNat i2 + 1 := by omega
            have vx11 := nth_some hx11
            have xb := dev_le ok1 cb ds hx11
            refine r_oload m.sX hx11 (Nat.le_of_ble_eq_true rfl) ?_
            conv => cbv
            refine r_addf m.sX (by omega) (by omega) fun r13 hr13 => ?_
            conv => cbv
            have e13 : r13 = x11 + absI (d + correction + i2 - 1) := by rw [hr13, e12]; unfold absI; omega
            refine r_oindex m.sX (by omega) (by omega) ?_
            conv => cbv
            obtain ⟨y1, hy1⟩ := get_ex (xs := sums_2) (i := Int.toNat i2) (by omega)
            refine r_ostore (l := Int.toNat i2) r13 m.sX hy1 (Nat.le_of_ble_eq_true rfl) rfl fun sums_3 hsums_3 => ?_   -- sums_3 = sums_2.set i2 r13
            have lsums_3 : (sums_3.length : Int) = sums_2.length := by rw [hsums_3]; first | done | (simp; done) | (simp; omega)
            conv => cbv
            refine r_addf m.sX (by omega) (by omega) fun r14 hr14 => ?_
            conv => cbv
            try have tr14 : Int.toNat r14 = Int.toNat i2 + 1 := by omega
            refine hE2 _ (sums_3, r14) ?_ ?_ ⟨(by (try dsimp only); first | omega | (simp only [List.length_nil]; omega)), (by (try dsimp only); first | omega | (simp only [List.length_nil]; omega)), (by (try dsimp only) <;> (first | (rw [hsums_3, e13, hr14]; exact dev_set ds hd hx11 (by omega)) | (rw [hsums_4, e15, hr14]; exact dev_set ds hd hx12 (by omega))))⟩ (by first | omega | (dsimp only; omega))
            · cbv
            · cbv
          · refine r_oindex m.sX (by omega) (by omega) ?_
            conv => cbv
            obtain ⟨x12, hx12⟩ := get_ex (xs := sums_2) (i := Int.toNat i2) (by omega)
            have mx12 := get_mem hx12
            have dx12 := drop_cons hx12
            have kx12 := take_snoc hx12
            have jx12 : (i2 + 1).toNat = Int.toNat i2 + 1 := by omega
            have vx12 := nth_some hx12
            have xb := dev_le ok1 cb ds hx12
            refine r_oload m.sX hx12 (Nat.le_of_ble_eq_true rfl) ?_
            conv => cbv
            refine r_addf m.sX (by omega) (by omega) fun r15 hr15 => ?_
            conv => cbv
            have e15 : r15 = x12 + absI (d + correction + i2 - 1) := by unfold absI; omega
            refine r_oindex m.sX (by omega) (by omega) ?_
            conv => cbv
            obtain ⟨y2, hy2⟩ := get_ex (xs := sums_2) (i := Int.toNat i2) (by omega)
            refine r_ostore (l := Int.toNat i2) r15 m.sX hy2 (Nat.le_of_ble_eq_true rfl) rfl fun sums_4 hsums_4 => ?_   -- sums_4 = sums_2.set i2 r15
            have lsums_4 : (sums_4.length : Int) = sums_2.length := by rw [hsums_4]; first | done | (simp; done) | (simp; omega)
            conv => cbv
            refine r_addf m.sX (by omega) (by omega) fun r16 hr16 => ?_
            conv => cbv
            try have tr16 : Int.toNat r16 = Int.toNat i2 + 1 := by omega
            refine hE2 _ (sums_4, r16) ?_ ?_ ⟨(by (try dsimp only); first | omega | (simp only [List.length_nil]; omega)), (by (try dsimp only); first | omega | (simp only [List.length_nil]; omega)), (by (try dsimp only) <;> (first | (rw [hsums_3, e13, hr16]; exact dev_set ds hd hx11 (by omega)) | (rw [hsums_4, e15, hr16]; exact dev_set ds hd hx12 (by omega))))⟩ (by first | omega | (dsimp only; omega))
            · cbv
            · cbv
        · have dz_i2 := drop_end (xs := sums) (i := Int.toNat i2) (by omega)
          have tz_i2 := take_end (xs := sums) (i := Int.toNat i2) (by omega)
          refine hF2 _ _ ?_
          conv => cbv
          refine r_addf m.sX (by omega) (by omega) fun r17 hr17 => ?_
          conv => cbv
          try have tr17 : Int.toNat r17 = Int.toNat i1 + 1 := by omega
          refine hE _ (sums_2, r17) ?_ ?_ ⟨(by (try dsimp only); first | omega | (simp only [List.length_nil]; omega)), (by (try dsimp only); first | omega | (simp only [List.length_nil]; omega)), (by (try dsimp only) <;> (rw [tr17]; have e3 : i2 = 3 := (by omega); rw [e3] at ds; exact dev_done ds))⟩ (by first | omega | (dsimp only; omega))
          · cbv
          · cbv
      · have fin := dev_fin (show DevS l correction l.length 0 sums by have z := dq; rw [show i1.toNat = l.length by omega] at z; exact z)
        have l5 := dq.1
        have dz_i1 := drop_end (xs := l) (i := Int.toNat i1) (by omega)
        have tz_i1 := take_end (xs := l) (i := Int.toNat i1) (by omega)
        refine hF _ _ ?_
        conv => cbv
        refine r_draw m (by kernel_rfl) ?_
        conv => cbv
        refine r_oindex m.sY (by omega) (by omega) ?_
        conv => cbv
        obtain ⟨x13, hx13⟩ := get_ex (xs := sums) (i := Int.toNat 1) (by omega)
        have mx13 := get_mem hx13
        have vx13 := nth_some hx13
        refine r_oload m.sY hx13 (Nat.le_of_ble_eq_true rfl) ?_
        conv => cbv
        refine r_oindex m.sY (by omega) (by omega) ?_
        conv => cbv
        obtain ⟨x14, hx14⟩ := get_ex (xs := sums) (i := Int.toNat 0) (by omega)
        have mx14 := get_mem hx14
        have vx14 := nth_some hx14
        refine r_oload m.sY hx14 (Nat.le_of_ble_eq_true rfl) ?_
        conv => cbv
        refine r_gtrF m.sY ((by have a1 : nth sums 1 = x13 := nth_some hx13; have a0 : nth sums 0 = x14 := nth_some hx14; omega)) ?_
        conv => cbv
        refine r_oindex m.sY (by omega) (by omega) ?_
        conv => cbv
        obtain ⟨x15, hx15⟩ := get_ex (xs := sums) (i := Int.toNat 1) (by omega)
        have mx15 := get_mem hx15
        have vx15 := nth_some hx15
        refine r_oload m.sY hx15 (Nat.le_of_ble_eq_true rfl) ?_
        conv => cbv
        refine r_oindex m.sY (by omega) (by omega) ?_
        conv => cbv
        obtain ⟨x16, hx16⟩ := get_ex (xs := sums) (i := Int.toNat 2) (by omega)
        have mx16 := get_mem hx16
        have vx16 := nth_some hx16
        refine r_oload m.sY hx16 (Nat.le_of_ble_eq_true rfl) ?_
        conv => cbv
        refine r_gtrF m.sY ((by have a1 : nth sums 1 = x15 := nth_some hx15; have a0 : nth sums 2 = x16 := nth_some hx16; omega)) ?_
        conv => cbv
        exact hE0 _ () (by cbv) (by cbv) ⟨trivial, (by (try dsimp only) <;> (first | assumption | omega | (simp [*]; done)))⟩
  · exact hE0 _ () (by cbv) (by cbv) ⟨trivial, (by (try dsimp only) <;> (first | assumption | omega | (simp [*]; done)))⟩

theorem drifts_part3 (m : Mach Try.prog G κ X Y L) (hQ : ∀ r, r = PV.bool true → Q r) (more : List Int) (h : CurIn more) (x1 : True) (E0 : St → Prop)
    (hE0 : ∀ (s' : St) (σ : Unit), headOk s' [] = true → Ai.norm [1] [] s' = St.at 339 [(1, .isl 1 (rows cU8 more))] [] → (True ∧ ((True))) → E0 s') :
    Ai.code X L G (front 7 (rest 1 (rest 8 (Try.f4.body.getD .skip)))) (fun e s' => match e with | .normal => E0 s' | .exit i => EndsIn (post G Try.f4.results.toList Q) (.exit i) s' | .ret => EndsIn (post G Try.f4.results.toList Q) .ret s') (St.at 339 [(1, .isl 1 (rows cU8 more))] []) := by
  conv => cbv
  refine r_callE m.sX ((drawFirstAlarm_ok more h).iceE) ?_
  rintro _ ⟨_, ⟨u, aim, limit, rfl, bu_1⟩, rfl⟩
  conv => cbv
  refine r_callF ib m.sX (FirstAlarm_ok u aim limit) fun v ha => ?_
  obtain ⟨a, three⟩ := v
  conv => cbv
  refine r_callF ib m.sX (specFirstAlarm_ok u aim limit) fun y1 hy1 => ?_
  obtain rfl := ha.trans hy1.symm
  clear hy1
  conv => cbv
  refine r_callF (lbI 1 cInt) m.sX ((SumsOff_ok u aim).ice) fun v hs_ => ?_
  obtain ⟨s_, five⟩ := v
  conv => cbv
  have F := al_fail ha hs_
  refine r_callF (lbI 1 cInt) m.sX ((specSumsOff_ok u aim).ice) fun y2 hy2 => ?_
  obtain rfl := hs_.trans hy2.symm
  clear hy2
  conv => cbv
  rcases Bool.eq_false_or_eq_true three with rfl | rfl <;> conv => cbv
  · obtain ⟨s0, es, hl0, jj, ej, hj1, hj2, hj3, hj4⟩ := al_sums ha
    have hs0 : s_ = s0 := (Prod.mk.inj (hs_.trans es)).1
    rw [← hs0] at hj1 hj2 hj3 hj4
    refine r_neqF m.sX ((by first | omega | assumption | exact decide_eq_true rfl | (subst_vars; omega))) ?_
    conv => cbv
    obtain rfl : five = true := by exact F rfl
    conv => cbv
    refine r_callBT m.sX (sameInts_ok s_ s_) (by first | omega | assumption | exact decide_eq_true rfl | (subst_vars; omega)) ?_   -- h2
    conv => cbv
    refine r_addf m.sX (by omega) (by omega) fun r1 hr1 => ?_
    conv => cbv
    refine r_islice (i := 0) (j := r1) m.sX (by omega) (by omega) (by omega) fun zs1 hzs1 => ?_   -- zs1 = s_[None:r1]
    have lzs1 : (zs1.length : Int) = r1 - 0 := by rw [hzs1]; first | done | (simp; done) | (simp; omega)
    conv => cbv
    refine r_lenR m.sX fun n1 hn1 mn1 => ?_
    conv => cbv
    refine r_loopF (α := Int) m 339 [1, 24, 27, 261, 262, 263] [] (fun σ => [(1, .isl 1 (rows cU8 more)), (24, .int .i64 limit), (27, .int .i64 a), (261, .isl 1 (rows cInt zs1)), (262, .int .i64 n1), (263, .int .i64 σ)]) (fun σ => [])
      (fun σ => (0 ≤ σ) ∧ (σ ≤ n1)) (fun σ => (n1 - σ).toNat) 0 ?_ ?_ ?_ ?_
    · cbv
    · cbv
    · exact ⟨(by (try dsimp only); first | omega | (simp only [List.length_nil]; omega)), (by (try dsimp only); first | omega | (simp only [List.length_nil]; omega))⟩
    rintro i1 ⟨lo4, hi4⟩ E hE F hF
    conv => cbv
    refine r_lss m.sX (fun h3 => ?_) (fun h3 => ?_) <;> conv => cbv
    · refine r_index m.sX (by omega) (by omega) fun k hk => ?_
      conv => cbv
      have mk := get_mem hk
      have dk := drop_cons hk
      have kk := take_snoc hk
      have jk : (i1 + 1).toNat = Int.toNat i1 + 1 := by omega
      have vk := nth_some hk
      have ke := slice_nth hzs1 hk
      refine r_gtr m.sX (fun h4 => ?_) (fun h4 => ?_) <;> conv => cbv
      · refine r_eqlT m.sX ((by rcases Nat.lt_or_ge i1.toNat jj with z | z; (exfalso; have y := hj4 _ z; rw [ke] at y; unfold absI at y; omega); omega)) ?_
        conv => cbv
        refine r_addf m.sX (by omega) (by omega) fun r2 hr2 => ?_
        conv => cbv
        try have tr2 : Int.toNat r2 = Int.toNat i1 + 1 := by omega
        refine hE _ r2 ?_ ?_ ⟨(by (try dsimp only); first | omega | (simp only [List.length_nil]; omega)), (by (try dsimp only); first | omega | (simp only [List.length_nil]; omega))⟩ (by first | omega | (dsimp only; omega))
        · cbv
        · cbv
      · refine r_neg m.sX fun r3 hr3 => ?_   -- r3 = wrap (-limit)
        have e3 : r3 = -limit := by rw [hr3]; exact wrap64 (by omega) (by omega)
        conv => cbv
        refine r_lss m.sX (fun h6 => ?_) (fun h6 => ?_) <;> conv => cbv
        · refine r_eqlT m.sX ((by rcases Nat.lt_or_ge i1.toNat jj with z | z; (exfalso; have y := hj4 _ z; rw [ke] at y; unfold absI at y; omega); omega)) ?_
          conv => cbv
          refine r_addf m.sX (by omega) (by omega) fun r4 hr4 => ?_
          conv => cbv
          try have tr4 : Int.toNat r4 = Int.toNat i1 + 1 := by omega
          refine hE _ r4 ?_ ?_ ⟨(by (try dsimp only); first | omega | (simp only [List.length_nil]; omega)), (by (try dsimp only); first | omega | (simp only [List.length_nil]; omega))⟩ (by first | omega | (dsimp only; omega))
          · cbv
          · cbv
        · refine r_eqlF m.sX ((by intro z; have y := hj3; rw [show jj = i1.toNat by omega, ke] at y; unfold absI at y; omega)) ?_
          conv => cbv
          refine r_addf m.sX (by omega) (by omega) fun r5 hr5 => ?_
          conv => cbv
          try have tr5 : Int.toNat r5 = Int.toNat i1 + 1 := by omega
          refine hE _ r5 ?_ ?_ ⟨(by (try dsimp only); first | omega | (simp only [List.length_nil]; omega)), (by (try dsimp only); first | omega | (simp only [List.length_nil]; omega))⟩ (by first | omega | (dsimp only; omega))
          · cbv
          · cbv
    · have dz_i1 := drop_end (xs := zs1) (i := Int.toNat i1) (by omega)
      have tz_i1 := take_end (xs := zs1) (i := Int.toNat i1) (by omega)
      refine hF _ _ ?_
      conv => cbv
      exact hE0 _ () (by cbv) (by cbv) ⟨trivial, (by (try dsimp only) <;> (first | assumption | omega | (simp [*]; done)))⟩
  · refine r_neqF m.sX ((by first | omega | assumption | exact decide_eq_true rfl | (subst_vars; omega))) ?_
    conv => cbv
    rcases Bool.eq_false_or_eq_true five with rfl | rfl <;> conv => cbv
    · refine r_callBT m.sX (sameInts_ok s_ s_) (by first | omega | assumption | exact decide_eq_true rfl | (subst_vars; omega)) ?_   -- h10
      conv => cbv
      exact hE0 _ () (by cbv) (by cbv) ⟨trivial, (by (try dsimp only) <;> (first | assumption | omega | (simp [*]; done)))⟩
    · refine r_callBT m.sX (sameInts_ok s_ s_) (by first | omega | assumption | exact decide_eq_true rfl | (subst_vars; omega)) ?_   -- h11
      conv => cbv
      exact hE0 _ () (by cbv) (by cbv) ⟨trivial, (by (try dsimp only) <;> (first | assumption | omega | (simp [*]; done)))⟩

theorem drifts_part4 (m : Mach Try.prog G κ X Y L) (hQ : ∀ r, r = PV.bool true → Q r) (more : List Int) (h : CurIn more) (x1 : True) :
    Ai.code X L G (rest 7 (rest 1 (rest 8 (Try.f4.body.getD .skip)))) (EndsIn (post G Try.f4.results.toList Q)) (St.at 339 [(1, .isl 1 (rows cU8 more))] []) := by
  conv => cbv
  refine r_callE m.sX ((drawJoinTrials_ok more h).iceE) ?_
  rintro _ ⟨_, ⟨x, y, rfl, bx_1, bx_2⟩, rfl⟩
  conv => cbv
  refine r_callF (lbI 1 cInt) m.sX ((JoinTrials_ok x y).ice) fun v hj => ?_
  obtain ⟨j, seven⟩ := v
  conv => cbv
  refine r_callF (lbI 1 cInt) m.sX ((specJoinTrials_ok x y).ice) fun y1 hy1 => ?_
  obtain rfl := hj.trans hy1.symm
  clear hy1
  conv => cbv
  rcases Bool.eq_false_or_eq_true seven with rfl | rfl <;> conv => cbv
  · obtain ⟨z0, ez, ezl, ezs, ta, tb, ezn, ezm⟩ := join_facts hj
    have sfa := ta.fits
    have sfb := tb.fits
    have sa := ta.sum
    have sb := tb.sum
    refine r_callBT m.sX (sameInts_ok j j) (by first | omega | assumption | exact decide_eq_true rfl | (subst_vars; omega)) ?_   -- h1
    conv => cbv
    refine r_callF (lbI 1 cInt) m.sX ((SumsOff_ok j 0).ice) fun v hz => ?_
    obtain ⟨z, nine⟩ := v
    conv => cbv
    have zz : z = z0 := (Prod.mk.inj (hz.trans ez)).1
    rw [← zz] at ezl ezs ezn ezm
    refine r_draw m (by kernel_rfl) ?_
    conv => cbv
    obtain rfl : nine = true := by exact (Prod.mk.inj (hz.trans ez)).2
    conv => cbv
    refine r_lenRS m.sY (by omega) fun n1 hn1 => ?_
    conv => cbv
    refine r_lenRS m.sY (by omega) fun n2 hn2 => ?_
    conv => cbv
    refine r_lenRS m.sY (by omega) fun n3 hn3 => ?_
    conv => cbv
    refine r_addf m.sY (by omega) (by omega) fun r1 hr1 => ?_
    conv => cbv
    refine r_eqlT m.sY ((by first | omega | assumption | exact decide_eq_true rfl | (subst_vars; omega))) ?_
    conv => cbv
    refine r_lenRS m.sY (by omega) fun n4 hn4 => ?_
    conv => cbv
    refine r_subf m.sY (by omega) (by omega) fun r2 hr2 => ?_
    conv => cbv
    refine r_index m.sY (by omega) (by omega) fun x1 hx1 => ?_
    conv => cbv
    have mx1 := get_mem hx1
    have vx1 := nth_some hx1
    have xv : nth z (z.length - 1) = x1 := by rw [show z.length - 1 = r2.toNat by omega]; exact nth_some hx1
    refine r_callFS (PV.int .i64) m.sY (pSum_ok x (by first | rfl | assumption | omega | (simp only [List.length_append, List.length_cons, List.length_nil] at *; omega))) trivial fun r3 hr3 => ?_
    conv => cbv
    refine r_callFS (PV.int .i64) m.sY (pSum_ok y (by first | rfl | assumption | omega | (simp only [List.length_append, List.length_cons, List.length_nil] at *; omega))) trivial fun r4 hr4 => ?_
    conv => cbv
    refine r_addf m.sY (by omega) (by omega) fun r5 hr5 => ?_
    conv => cbv
    refine r_eqlT m.sY ((by first | omega | assumption | exact decide_eq_true rfl | (subst_vars; omega))) ?_
    conv => cbv
    exact hQ _ (congrArg PV.bool (by first | rfl | omega | (simp [*]; done) | (subst_vars; simp [*]; done)))   -- leaf 2
  · refine r_callBT m.sX (sameInts_ok j j) (by first | omega | assumption | exact decide_eq_true rfl | (subst_vars; omega)) ?_   -- h4
    conv => cbv
    exact hQ _ (congrArg PV.bool (by first | rfl | omega | (simp [*]; done) | (subst_vars; simp [*]; done)))   -- leaf 3

end

theorem lawDrifts_ok (code more : List Int) (hf : ∀ x ∈ code, 0 ≤ x ∧ x ≤ 255) (hg : ∀ x ∈ more, 0 ≤ x ∧ x ≤ 255) : OkA Try.prog 4 [.isl 1 (rows cU8 code), .isl 1 (rows cU8 more)] (· = .bool true) :=
  fn_introW envOk fieldsOk mixed Try.func4 rfl (c := Try.f4.body.getD .skip) rfl fun κ X Y L Q m hQ =>
    W_cut m 8 339 [1, 5, 8, 9, 10, 14] [] (fun σ : List Int × Bool × Int × Int × Int => [(1, .isl 1 (rows cU8 more)), (5, .isl 1 (rows cInt σ.1)), (8, .bool σ.2.1), (9, .int .i64 σ.2.2.1), (10, .int .i64 σ.2.2.2.1), (14, .int .i64 σ.2.2.2.2)]) (fun σ => []) (fun σ => (more.length : Int) ≤ 9223372036854775807 ∧ (((σ.2.2.1, σ.2.2.2.1, σ.2.1) = ldA σ.1) ∧ ((σ.2.2.2.2, σ.2.1) = corrA σ.1))) (drifts_part1 m hQ code more hf) fun ⟨l, ok, from_, count, correction⟩ ⟨hl, ⟨cl, cc⟩⟩ =>
    W_cut m 1 339 [1] [] (fun σ : Unit => [(1, .isl 1 (rows cU8 more))]) (fun σ => []) (fun σ => True ∧ ((True))) (drifts_part2 m hQ more ⟨hl, hg⟩ l ok from_ count correction cl cc) fun _ ⟨_, x1⟩ =>
    W_cut m 7 339 [1] [] (fun σ : Unit => [(1, .isl 1 (rows cU8 more))]) (fun σ => []) (fun σ => True ∧ ((True))) (drifts_part3 m hQ more ⟨hl, hg⟩ x1) fun _ ⟨_, x1⟩ =>
    W_last m (drifts_part4 m hQ more ⟨hl, hg⟩ x1)

end Go.Proofs.Ytfnfjgdepilgkaa.Ai
