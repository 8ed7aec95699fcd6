/- The law FnSafeOrders: its body returns true. -/
import Derived.Test.YtbamclepgabciaaFormDraw
import Derived.Test.YtbamclepgabciaaFinish
import Derived.Test.YtbamclepgabciaaAiCut
namespace Go.Proofs.Ytbamclepgabciaa.Ai
open Go Go.Proofs
set_option linter.unusedSimpArgs false
set_option maxRecDepth 10000
set_option maxHeartbeats 4000000
set_option linter.unusedVariables false
theorem canA_ok {free : List Int} {l : List PForm} {i : Int} {a ok : Bool} (h : (a, ok) = canA free l i) : ok = askB free l i := by
  unfold canA at h
  split at h
  · rename_i hc; rw [hc]; exact (Prod.mk.inj h).2
  · rename_i hc; rw [(Prod.mk.inj h).2]; simpa using hc
theorem stuck_two {f : List Int} {g : List PForm} (h : formsB f g = true) {stuck : List Int} {three : Bool} (hs : (stuck, three) = stuckA f g) : three = true ∧ isSafeB f g = decide (stuck.length = 0) := by
  rw [stuckA, if_pos h] at hs
  obtain ⟨e1, e2⟩ := Prod.mk.inj hs
  exact ⟨e2, by rw [stuck_safe, e1]⟩
theorem pSameForms_ok (a : List PForm) (b : List PForm)  : OkA Try.prog 20 [.isl 2 (rows cForm a), .isl 2 (rows cForm b)] (· = .bool (decide (a = b))) :=
  fn_intro envOk fieldsOk mixed Try.func20 rfl fun κ X Y L Q m hQ => by
    conv => cbv
    refine r_lenR m.sX fun n1 hn1 mn1 => ?_
    conv => cbv
    refine r_lenR m.sX fun n2 hn2 mn2 => ?_
    conv => cbv
    refine r_neq m.sX (fun h1 => ?_) (fun h1 => ?_) <;> conv => cbv
    · exact hQ _ (congrArg PV.bool (by exact (decide_eq_false fun e => by rw [e] at hn1; omega).symm))   -- leaf 1
    · refine r_lenR m.sX fun n3 hn3 mn3 => ?_
      conv => cbv
      refine r_loopF (α := Int) m 40 [1, 12, 13, 14] [] (fun σ => [(1, .isl 2 (rows cForm b)), (12, .isl 2 (rows cForm a)), (13, .int .i64 n3), (14, .int .i64 σ)]) (fun σ => [])
        (fun σ => (0 ≤ σ) ∧ (σ ≤ n3) ∧ (a.take σ.toNat = b.take σ.toNat)) (fun σ => (n3 - σ).toNat) 0 ?_ ?_ ?_ ?_
      · cbv
      · cbv
      · exact ⟨(by (try dsimp only); first | omega | (simp only [List.length_nil]; omega) | (simp only [List.length_cons, List.length_nil]; omega)), (by (try dsimp only); first | omega | (simp only [List.length_nil]; omega) | (simp only [List.length_cons, List.length_nil]; omega)), (by (try dsimp only) <;> first | omega | rfl | (simp [*]; done))⟩
      rintro i1 ⟨lo1, hi1, q⟩ E hE F hF
      conv => cbv
      refine r_lss m.sX (fun h2 => ?_) (fun h2 => ?_) <;> conv => cbv
      · refine r_index m.sX (by omega) (by omega) fun v hxA => ?_
        obtain ⟨xA, xB⟩ := v
        conv => cbv
        have hx := hxA
        have mx := get_mem hx
        have dx := drop_cons hx
        have kx := take_snoc hx
        have jx : (i1 + 1).toNat = Int.toNat i1 + 1 := by omega
        refine r_draw m (by kernel_rfl) ?_
        conv => cbv
        refine r_index m.sY (by omega) (by omega) fun v hx1A => ?_
        obtain ⟨x1A, x1B⟩ := v
        conv => cbv
        have hx1 := hx1A
        have mx1 := get_mem hx1
        have dx1 := drop_cons hx1
        have kx1 := take_snoc hx1
        have jx1 : (i1 + 1).toNat = Int.toNat i1 + 1 := by omega
        refine r_callBS m.sY (sameInts_ok xA x1A) (fun h3 => ?_) (fun h3 => ?_) <;> conv => cbv
        · have E3 := of_decide_eq_true h3
          try dsimp only at E3
          refine r_index m.sY (by omega) (by omega) fun v hx2A => ?_
          obtain ⟨x2A, x2B⟩ := v
          conv => cbv
          have hx2 := hx2A
          have mx2 := get_mem hx2
          have dx2 := drop_cons hx2
          have kx2 := take_snoc hx2
          have jx2 : (i1 + 1).toNat = Int.toNat i1 + 1 := by omega
          obtain ⟨rfl, rfl⟩ : x1A = x2A ∧ x1B = x2B := by have := Option.some.inj (hx1.symm.trans hx2); simpa using this
          refine r_callBS m.sY (sameInts_ok xB x1B) (fun h4 => ?_) (fun h4 => ?_) <;> conv => cbv
          · have E4 := of_decide_eq_true h4
            try dsimp only at E4
            refine r_addf m.sX (by omega) (by omega) fun r1 hr1 => ?_
            conv => cbv
            try have tr1 : Int.toNat r1 = Int.toNat i1 + 1 := by omega
            refine hE _ r1 ?_ ?_ ⟨(by (try dsimp only); first | omega | (simp only [List.length_nil]; omega) | (simp only [List.length_cons, List.length_nil]; omega)), (by (try dsimp only); first | omega | (simp only [List.length_nil]; omega) | (simp only [List.length_cons, List.length_nil]; omega)), (by (try dsimp only) <;> (rw [tr1, kx, kx1, q, E3, E4]))⟩ (by first | omega | (dsimp only; omega))
            · cbv
            · cbv
          · have E4 := of_decide_eq_false h4
            try dsimp only at E4
            refine hF _ _ ?_
            conv => cbv
            exact hQ _ (congrArg PV.bool (by exact (decide_eq_false fun e => by rw [e] at hx; exact E4 (Prod.mk.inj (Option.some.inj (hx.symm.trans hx1))).2).symm))   -- leaf 2
        · have E3 := of_decide_eq_false h3
          try dsimp only at E3
          refine hF _ _ ?_
          conv => cbv
          exact hQ _ (congrArg PV.bool (by exact (decide_eq_false fun e => by rw [e] at hx; exact E3 (Prod.mk.inj (Option.some.inj (hx.symm.trans hx1))).1).symm))   -- leaf 3
      · have dz_i1 := drop_end (xs := a) (i := Int.toNat i1) (by omega)
        have tz_i1 := take_end (xs := a) (i := Int.toNat i1) (by omega)
        refine hF _ _ ?_
        conv => cbv
        exact hQ _ (congrArg PV.bool (by exact (decide_eq_true (eq_of_takes (by omega) q (by omega))).symm))   -- leaf 4

theorem stuckA_ok {free : List Int} {l : List PForm} {o : List Int} {ok : Bool} (h : (o, ok) = stuckA free l) : ok = formsB free l := by
  unfold stuckA at h
  split at h
  · rename_i hc; rw [hc]; exact (Prod.mk.inj h).2
  · rename_i hc; rw [(Prod.mk.inj h).2]; simpa using hc
theorem sum_small {l : List Int} {B : Int} (h : allB l 0 B = true) (h1 : l.length ≤ 6) (hB : B ≤ 100000) (h0 : 0 ≤ B) : SumFits l :=
  sumfits_of 100000 (fun n hn => by have := allB_mem h n hn; omega) (by omega)
theorem finA_fits {free : List Int} {l : List PForm} {i : Int} {f : List Int} {r : List PForm} (h : (f, r, true) = finA free l i) : SumFits f ∧ SumFits free ∧ SumFits (heldAt l i) := by
  have hs := finA_spec h
  unfold finA at h
  rw [if_pos (by rw [hs.1, hs.2.1]; rfl)] at h
  obtain rfl := (Prod.mk.inj h).1
  obtain ⟨a1, a2, a3, x, a4, a5⟩ := askB_spec hs.1
  obtain ⟨b1, b2, b3, b4⟩ := formB_spec a5
  have f0 := formsB_spec a1
  rw [heldAt_some a4]
  refine ⟨sum_small (B := 2000) (allB_plus f0.2.2.1 b3 (by omega)) (by rw [plusL_len]; omega) (by omega) (by omega), sum_small (B := 1000) f0.2.2.1 (by omega) (by omega) (by omega), sum_small (B := 1000) b3 (by omega) (by omega) (by omega)⟩
noncomputable abbrev midSafeOrders (more : List Int) : List (Nat × PV) := [(1, .isl 1 (rows cU8 more))]

section
variable {κ : Ctx} {X Y : Req → (PV → Prop) → Prop} {L : Code → (Ex → St → Prop) → St → Prop} {Q : PV → Prop}

theorem safeOrders_part1 (m : Mach Try.prog G κ X Y L) (hQ : ∀ r, r = PV.bool true → Q r) (code more : List Int) (hf : ∀ x ∈ code, 0 ≤ x ∧ x ≤ 255) (E0 : St → Prop)
    (hE0 : ∀ (s' : St) (a : Unit), headOk s' [] = true → Ai.norm [1] [] s' = St.at 329 (midSafeOrders more) [] → (more.length : Int) ≤ 9223372036854775807 → E0 s') :
    Ai.code X L G (front 9 (Try.f3.body.getD .skip)) (fun e s' => match e with | .normal => E0 s' | .exit i => EndsIn (post G Try.f3.results.toList Q) (.exit i) s' | .ret => EndsIn (post G Try.f3.results.toList Q) .ret s') (start 329 [.isl 1 (rows cU8 code), .isl 1 (rows cU8 more)] []) := by
  conv => cbv
  refine r_callB m.sX (big_ok code more) (fun h1 => ?_) (fun h1 => ?_) <;> conv => cbv
  · exact hQ _ (congrArg PV.bool (by first | rfl | omega | (simp [*]; done) | (subst_vars; simp [*]; done)))   -- leaf 1
  · rw [Bool.or_eq_false_iff, decide_eq_false_iff_not, decide_eq_false_iff_not] at h1
    have h : CurIn code := ⟨by omega, hf⟩
    have hmr : (more.length : Int) ≤ 9223372036854775807 := by omega
    refine r_callE m.sX ((drawSafeOrder_ok code h).iceE) ?_
    rintro _ ⟨_, ⟨free, l, rfl⟩, rfl⟩
    conv => cbv
    refine r_callF (lbI 1 cInt) m.sX ((SafeOrder_ok free l).ice) fun v ho => ?_
    obtain ⟨o, ok⟩ := v
    conv => cbv
    have O1 := safeOA_ok ho
    refine r_callF (lbI 1 cInt) m.sX ((specSafeOrder_ok free l).ice) fun y1 hy1 => ?_
    obtain rfl := ho.trans hy1.symm
    clear hy1
    conv => cbv
    refine r_callF (lbI 1 cInt) m.sX ((StuckForms_ok free l).ice) fun v hs_ => ?_
    obtain ⟨s_, one⟩ := v
    conv => cbv
    have O2 := stuckA_ok hs_
    refine r_callF (lbI 1 cInt) m.sX ((specStuckForms_ok free l).ice) fun y2 hy2 => ?_
    obtain rfl := hs_.trans hy2.symm
    clear hy2
    conv => cbv
    rcases Bool.eq_false_or_eq_true ok with rfl | rfl <;> conv => cbv
    · obtain ⟨S1, S2, S3, S4⟩ := safeOA_spec ho
      have fs0 := formsB_spec S2
      have fl0 := forms_len S2
      refine r_callBT m.sX (sameInts_ok o o) (by first | rfl | omega | assumption | exact decide_eq_true rfl | (subst_vars; omega)) ?_   -- h2
      conv => cbv
      obtain rfl : one = true := by exact O2.trans S2
      conv => cbv
      have F1 : formsB free l = true := O2.symm
      refine r_callBT m.sX (sameInts_ok s_ s_) (by first | rfl | omega | assumption | exact decide_eq_true rfl | (subst_vars; omega)) ?_   -- h3
      conv => cbv
      refine r_callBT m.sX (AreForms_ok free l) (by first | rfl | omega | assumption | exact decide_eq_true rfl | (subst_vars; omega)) ?_   -- h4
      conv => cbv
      refine r_lenR m.sX fun n1 hn1 mn1 => ?_
      conv => cbv
      refine r_eqlT m.sX ((by have ST := (stuck_two S2 hs_).2; rw [S3] at ST; have e := of_decide_eq_true ST.symm; omega)) ?_
      conv => cbv
      refine r_append0R m.sX (by first | omega | (dsimp only; omega)) (by first | omega | (dsimp only; omega)) fun now hnow => ?_
      conv => cbv
      have lnow : (now.length : Int) = free.length := by rw [hnow]; first | done | (simp; done) | (simp; omega)
      refine r_lenR m.sX fun n2 hn2 mn2 => ?_
      conv => cbv
      refine r_loopF (α := List Int × Int) m 329 [1, 6, 9, 120, 121, 122] [⟨15, 121, 3, 1, 0⟩] (fun σ => [(1, .isl 1 (rows cU8 more)), (6, .isl 2 (rows cForm l)), (9, .isl 1 (rows cInt o)), (15, .osl 121 0), (120, .isl 1 (rows cInt o)), (121, .int .i64 n2), (122, .int .i64 σ.2)]) (fun σ => [(121, 0, .row 3 1 (rows cInt σ.1))])
        (fun σ => (0 ≤ σ.2) ∧ (σ.2 ≤ n2) ∧ (StepsF l σ.1 (o.drop σ.2.toNat)) ∧ (σ.1.length = free.length) ∧ (allB σ.1 0 (1000 + 1000 * σ.2) = true)) (fun σ => (n2 - σ.2).toNat) (now, 0) ?_ ?_ ?_ ?_
      · cbv
      · cbv
      · exact ⟨(by (try dsimp only); first | omega | (simp only [List.length_nil]; omega) | (simp only [List.length_cons, List.length_nil]; omega)), (by (try dsimp only); first | omega | (simp only [List.length_nil]; omega) | (simp only [List.length_cons, List.length_nil]; omega)), (by (try dsimp only) <;> (rw [hnow]; show StepsF l free (o.drop 0); rw [List.drop_zero, S1]; exact order_steps free l)), (by (try dsimp only) <;> (rw [hnow])), (by (try dsimp only) <;> (rw [hnow]; simpa using fs0.2.2.1))⟩
      rintro ⟨now_2, i1⟩ ⟨lo1, hi1, sp, nl, nb⟩ E hE F hF
      dsimp only at lo1 hi1 sp nl nb
      conv => cbv
      refine r_lss m.sX (fun h6 => ?_) (fun h6 => ?_) <;> conv => cbv
      · refine r_index m.sX (by omega) (by omega) fun i hi => ?_
        conv => cbv
        have mi := get_mem hi
        have di := drop_cons hi
        have ki := take_snoc hi
        have ji : (i1 + 1).toNat = Int.toNat i1 + 1 := by omega
        have vi := nth_some hi
        have sp2 := sp
        rw [di] at sp2
        obtain ⟨⟨xA, xB⟩, i0, hx0, cf, sn⟩ := sp2.head
        have li := (List.getElem?_eq_some_iff.1 hx0).1
        have fa := forms_at S2 hx0
        dsimp only at fa sn
        refine r_index m.sX (by omega) (by omega) fun v hx1A => ?_
        obtain ⟨x1A, x1B⟩ := v
        conv => cbv
        have hx1 := hx1A
        have mx1 := get_mem hx1
        obtain ⟨rfl, rfl⟩ : x1A = xA ∧ x1B = xB := by have z := Option.some.inj (hx1.symm.trans hx0); exact ⟨congrArg Prod.fst z, congrArg Prod.snd z⟩
        refine r_lenR m.sX fun n3 hn3 mn3 => ?_
        conv => cbv
        refine r_loopF (α := Int) m 329 [1, 6, 9, 17, 120, 121, 122, 130, 131, 132] [⟨15, 121, 3, 1, 0⟩] (fun σ => [(1, .isl 1 (rows cU8 more)), (6, .isl 2 (rows cForm l)), (9, .isl 1 (rows cInt o)), (15, .osl 121 0), (17, .int .i64 i), (120, .isl 1 (rows cInt o)), (121, .int .i64 n2), (122, .int .i64 i1), (130, .isl 1 (rows cInt x1B)), (131, .int .i64 n3), (132, .int .i64 σ)]) (fun σ => [(121, 0, .row 3 1 (rows cInt now_2))])
          (fun σ => (0 ≤ σ) ∧ (σ ≤ n3)) (fun σ => (n3 - σ).toNat) 0 ?_ ?_ ?_ ?_
        · cbv
        · cbv
        · exact ⟨(by (try dsimp only); first | omega | (simp only [List.length_nil]; omega) | (simp only [List.length_cons, List.length_nil]; omega)), (by (try dsimp only); first | omega | (simp only [List.length_nil]; omega) | (simp only [List.length_cons, List.length_nil]; omega))⟩
        rintro i2 ⟨lo2, hi2⟩ E2 hE2 F2 hF2
        conv => cbv
        refine r_lss m.sX (fun h7 => ?_) (fun h7 => ?_) <;> conv => cbv
        · refine r_index m.sX (by omega) (by omega) fun n hn => ?_
          conv => cbv
          have mn := get_mem hn
          have dn := drop_cons hn
          have kn := take_snoc hn
          have jn : (i2 + 1).toNat = Int.toNat i2 + 1 := by omega
          have vn := nth_some hn
          refine r_oindex m.sX (by omega) (by omega) ?_
          conv => cbv
          obtain ⟨x2, hx2⟩ := get_ex (xs := now_2) (i := Int.toNat i2) (by omega)
          have mx2 := get_mem hx2
          have dx2 := drop_cons hx2
          have kx2 := take_snoc hx2
          have jx2 : (i2 + 1).toNat = Int.toNat i2 + 1 := by omega
          have vx2 := nth_some hx2
          refine r_oload m.sX hx2 (Nat.le_of_ble_eq_true rfl) ?_
          conv => cbv
          refine r_gtrF m.sX ((by have z := canF_at cf (k := i2.toNat) (by dsimp only; omega); rw [nth_some hx2] at z; dsimp only at z; rw [nth_some hn] at z; omega)) ?_
          conv => cbv
          refine r_addf m.sX (by omega) (by omega) fun r1 hr1 => ?_
          conv => cbv
          try have tr1 : Int.toNat r1 = Int.toNat i2 + 1 := by omega
          refine hE2 _ r1 ?_ ?_ ⟨(by (try dsimp only); first | omega | (simp only [List.length_nil]; omega) | (simp only [List.length_cons, List.length_nil]; omega)), (by (try dsimp only); first | omega | (simp only [List.length_nil]; omega) | (simp only [List.length_cons, List.length_nil]; omega))⟩ (by first | omega | (dsimp only; omega))
          · cbv
          · cbv
        · have dz_i2 := drop_end (xs := x1B) (i := Int.toNat i2) (by omega)
          have tz_i2 := take_end (xs := x1B) (i := Int.toNat i2) (by omega)
          refine hF2 _ _ ?_
          conv => cbv
          refine r_index m.sX (by omega) (by omega) fun v hx3A => ?_
          obtain ⟨x3A, x3B⟩ := v
          conv => cbv
          have hx3 := hx3A
          have mx3 := get_mem hx3
          obtain ⟨rfl, rfl⟩ : x1A = x3A ∧ x1B = x3B := by have := Option.some.inj (hx1.symm.trans hx3); simpa using this
          refine r_lenR m.sX fun n4 hn4 mn4 => ?_
          conv => cbv
          refine r_loopF (α := List Int × Int) m 329 [1, 6, 9, 120, 121, 122, 148, 149, 150] [⟨15, 121, 3, 1, 0⟩] (fun σ => [(1, .isl 1 (rows cU8 more)), (6, .isl 2 (rows cForm l)), (9, .isl 1 (rows cInt o)), (15, .osl 121 0), (120, .isl 1 (rows cInt o)), (121, .int .i64 n2), (122, .int .i64 i1), (148, .isl 1 (rows cInt x1A)), (149, .int .i64 n4), (150, .int .i64 σ.2)]) (fun σ => [(121, 0, .row 3 1 (rows cInt σ.1))])
            (fun σ => (0 ≤ σ.2) ∧ (σ.2 ≤ n4) ∧ (σ.1 = mixT now_2 x1A 1 σ.2.toNat) ∧ (σ.1.length = free.length)) (fun σ => (n4 - σ.2).toNat) (now_2, 0) ?_ ?_ ?_ ?_
          · cbv
          · cbv
          · exact ⟨(by (try dsimp only); first | omega | (simp only [List.length_nil]; omega) | (simp only [List.length_cons, List.length_nil]; omega)), (by (try dsimp only); first | omega | (simp only [List.length_nil]; omega) | (simp only [List.length_cons, List.length_nil]; omega)), (by (try dsimp only) <;> (exact (mixT_zero _ _ _).symm)), (by (try dsimp only) <;> (exact nl))⟩
          rintro ⟨now_3, i3⟩ ⟨lo3, hi3, q, nl3⟩ E2 hE2 F2 hF2
          dsimp only at lo3 hi3 q nl3
          conv => cbv
          refine r_lss m.sX (fun h9 => ?_) (fun h9 => ?_) <;> conv => cbv
          · refine r_index m.sX (by omega) (by omega) fun n_2 hn_2 => ?_
            conv => cbv
            have mn_2 := get_mem hn_2
            have dn_2 := drop_cons hn_2
            have kn_2 := take_snoc hn_2
            have jn_2 : (i3 + 1).toNat = Int.toNat i3 + 1 := by omega
            have vn_2 := nth_some hn_2
            have nb2 := nth_in fa.2.2.1 hn_2
            try dsimp only at nb2
            have ma := mixT_at (a := now_2) (b := x1A) (f := 1) (n := i3.toNat) (by omega)
            try dsimp only at ma
            rw [← q] at ma
            have an := allB_nth nb (k := i3.toNat) (by omega)
            try dsimp only at an
            refine r_oindex m.sX (by omega) (by omega) ?_
            conv => cbv
            obtain ⟨x4, hx4⟩ := get_ex (xs := now_3) (i := Int.toNat i3) (by omega)
            have mx4 := get_mem hx4
            have dx4 := drop_cons hx4
            have kx4 := take_snoc hx4
            have jx4 : (i3 + 1).toNat = Int.toNat i3 + 1 := by omega
            have vx4 := nth_some hx4
            have ex : x4 = nth now_2 i3.toNat := Option.some.inj (hx4.symm.trans ma)
            refine r_oload m.sX hx4 (Nat.le_of_ble_eq_true rfl) ?_
            conv => cbv
            refine r_addf m.sX (by omega) (by omega) fun r2 hr2 => ?_
            conv => cbv
            refine r_oindex m.sX (by omega) (by omega) ?_
            conv => cbv
            obtain ⟨y3, hy3⟩ := get_ex (xs := now_3) (i := Int.toNat i3) (by omega)
            refine r_ostore (l := Int.toNat i3) r2 m.sX hy3 (Nat.le_of_ble_eq_true rfl) rfl fun now_4 hnow_4 => ?_   -- now_4 = now_3.set i3 r2
            have lnow_4 : (now_4.length : Int) = now_3.length := by rw [hnow_4]; first | done | (simp; done) | (simp; omega)
            conv => cbv
            refine r_addf m.sX (by omega) (by omega) fun r3 hr3 => ?_
            conv => cbv
            try have tr3 : Int.toNat r3 = Int.toNat i3 + 1 := by omega
            refine hE2 _ (now_4, r3) ?_ ?_ ⟨(by (try dsimp only); first | omega | (simp only [List.length_nil]; omega) | (simp only [List.length_cons, List.length_nil]; omega)), (by (try dsimp only); first | omega | (simp only [List.length_nil]; omega) | (simp only [List.length_cons, List.length_nil]; omega)), (by (try dsimp only) <;> (rw [tr3, ← mixT_step (by omega), ← q, hnow_4, hr2, ex, nth_some hn_2, Int.one_mul])), (by (try dsimp only) <;> (rw [hnow_4, List.length_set]; exact nl3))⟩ (by first | omega | (dsimp only; omega))
            · cbv
            · cbv
          · have dz_i3 := drop_end (xs := x1A) (i := Int.toNat i3) (by omega)
            have tz_i3 := take_end (xs := x1A) (i := Int.toNat i3) (by omega)
            refine hF2 _ _ ?_
            conv => cbv
            refine r_addf m.sX (by omega) (by omega) fun r4 hr4 => ?_
            conv => cbv
            try have tr4 : Int.toNat r4 = Int.toNat i1 + 1 := by omega
            refine hE _ (now_3, r4) ?_ ?_ ⟨(by (try dsimp only); first | omega | (simp only [List.length_nil]; omega) | (simp only [List.length_cons, List.length_nil]; omega)), (by (try dsimp only); first | omega | (simp only [List.length_nil]; omega) | (simp only [List.length_cons, List.length_nil]; omega)), (by (try dsimp only) <;> (rw [tr4, show now_3 = plusL now_2 x1A 1 from by rw [q, mixT_end (by omega)]]; exact sn)), (by (try dsimp only) <;> (exact nl3)), (by (try dsimp only) <;> (rw [show now_3 = plusL now_2 x1A 1 from by rw [q, mixT_end (by omega)], hr4, show 1000 + 1000 * (i1 + 1) = 1000 + 1000 * i1 + 1000 by omega]; exact allB_plus nb fa.2.2.1 (by omega)))⟩ (by first | omega | (dsimp only; omega))
            · cbv
            · cbv
      · have dz_i1 := drop_end (xs := o) (i := Int.toNat i1) (by omega)
        have tz_i1 := take_end (xs := o) (i := Int.toNat i1) (by omega)
        refine hF _ _ ?_
        conv => cbv
        refine r_lenR m.sX fun n5 hn5 mn5 => ?_
        conv => cbv
        refine r_lenR m.sX fun n6 hn6 mn6 => ?_
        conv => cbv
        refine r_neqF m.sX ((by first | rfl | omega | assumption | exact decide_eq_true rfl | (subst_vars; omega))) ?_
        conv => cbv
        exact hE0 _ () (by cbv) (by cbv) hmr
    · refine r_callBT m.sX (sameInts_ok o o) (by first | rfl | omega | assumption | exact decide_eq_true rfl | (subst_vars; omega)) ?_   -- h11
      conv => cbv
      rcases Bool.eq_false_or_eq_true one with rfl | rfl <;> conv => cbv
      · have F1 : formsB free l = true := O2.symm
        refine r_callBT m.sX (sameInts_ok s_ s_) (by first | rfl | omega | assumption | exact decide_eq_true rfl | (subst_vars; omega)) ?_   -- h12
        conv => cbv
        refine r_callBT m.sX (AreForms_ok free l) (by first | rfl | omega | assumption | exact decide_eq_true rfl | (subst_vars; omega)) ?_   -- h13
        conv => cbv
        refine r_lenR m.sX fun n7 hn7 mn7 => ?_
        conv => cbv
        refine r_eqlF m.sX ((by have ST := (stuck_two F1 hs_).2; rw [F1, ST] at O1; have e := of_decide_eq_false (by simpa using O1.symm : decide (s_.length = 0) = false); omega)) ?_
        conv => cbv
        exact hE0 _ () (by cbv) (by cbv) hmr
      · have F1 : formsB free l = false := O2.symm
        refine r_callBT m.sX (sameInts_ok s_ s_) (by first | rfl | omega | assumption | exact decide_eq_true rfl | (subst_vars; omega)) ?_   -- h15
        conv => cbv
        refine r_callBF m.sX (AreForms_ok free l) (by first | rfl | omega | assumption | exact decide_eq_true rfl | (subst_vars; omega)) ?_   -- h16
        conv => cbv
        exact hE0 _ () (by cbv) (by cbv) hmr

theorem safeOrders_part2 (m : Mach Try.prog G κ X Y L) (hQ : ∀ r, r = PV.bool true → Q r) (more : List Int) (h : CurIn more) (E0 : St → Prop)
    (hE0 : ∀ (s' : St) (a : Unit), headOk s' [] = true → Ai.norm [1] [] s' = St.at 329 (midSafeOrders more) [] → True → E0 s') :
    Ai.code X L G (front 5 (rest 9 (Try.f3.body.getD .skip))) (fun e s' => match e with | .normal => E0 s' | .exit i => EndsIn (post G Try.f3.results.toList Q) (.exit i) s' | .ret => EndsIn (post G Try.f3.results.toList Q) .ret s') (St.at 329 (midSafeOrders more) []) := by
  conv => cbv
  refine r_callE m.sX ((drawLeastCast_ok more h).iceE) ?_
  rintro _ ⟨_, ⟨u, v, sort, rfl⟩, rfl⟩
  conv => cbv
  refine r_callF ib m.sX (LeastCast_ok u v sort) fun v hc => ?_
  obtain ⟨c, three⟩ := v
  conv => cbv
  refine r_callF ib m.sX (specLeastCast_ok u v sort) fun y1 hy1 => ?_
  obtain rfl := hc.trans hy1.symm
  clear hy1
  conv => cbv
  rcases Bool.eq_false_or_eq_true three with rfl | rfl <;> conv => cbv
  · have LF := leastA_spec hc
    have fs0 := formsB_spec LF.forms
    have fl0 := forms_len LF.forms
    have lk := LF.k0
    have lk1 := LF.k1
    have lc0 := LF.c0
    have lc1 := LF.c1
    have bu := allB_nth fs0.2.2.1 (k := sort.toNat) (by omega)
    refine r_neqF m.sX ((by first | rfl | omega | assumption | exact decide_eq_true rfl | (subst_vars; omega))) ?_
    conv => cbv
    refine r_append0R m.sX (by first | omega | (dsimp only; omega)) (by first | omega | (dsimp only; omega)) fun next hnext => ?_
    conv => cbv
    have lnext : (next.length : Int) = u.length := by rw [hnext]; first | done | (simp; done) | (simp; omega)
    refine r_oindex m.sX (by omega) (by omega) ?_
    conv => cbv
    obtain ⟨x1, hx1⟩ := get_ex (xs := next) (i := Int.toNat sort) (by omega)
    have mx1 := get_mem hx1
    have vx1 := nth_some hx1
    have ex1 : x1 = nth u sort.toNat := by rw [← nth_some hx1, hnext]
    refine r_oload m.sX hx1 (Nat.le_of_ble_eq_true rfl) ?_
    conv => cbv
    refine r_addf m.sX (by omega) (by omega) fun r1 hr1 => ?_
    conv => cbv
    refine r_oindex m.sX (by omega) (by omega) ?_
    conv => cbv
    obtain ⟨y2, hy2⟩ := get_ex (xs := next) (i := Int.toNat sort) (by omega)
    refine r_ostore (l := Int.toNat sort) r1 m.sX hy2 (Nat.le_of_ble_eq_true rfl) rfl fun zs1 hzs1 => ?_   -- zs1 = next.set sort r1
    have lzs1 : (zs1.length : Int) = next.length := by rw [hzs1]; first | done | (simp; done) | (simp; omega)
    have ez : zs1 = castF u sort.toNat c := by rw [hzs1, hr1, ex1, hnext]; rfl
    conv => cbv
    refine .inl (r_callFO (lbI 1 cInt) m.sX ((((SafeOrder_ok zs1 v)).ok (flat_lb flat_cInt)).ice) fun v hv1 => ?_)
    obtain ⟨v1, five⟩ := v
    conv => cbv
    have O1 := safeOA_ok hv1
    rw [ez, LF.safe, castF_forms LF.forms (by omega) LF.c0, Bool.and_true] at O1
    refine r_oindex m.sX (by omega) (by omega) ?_
    conv => cbv
    obtain ⟨x2, hx2⟩ := get_ex (xs := zs1) (i := Int.toNat sort) (by omega)
    have mx2 := get_mem hx2
    have vx2 := nth_some hx2
    have ex2 : nth (castF u sort.toNat c) sort.toNat = x2 := by rw [← ez]; exact nth_some hx2
    have ex3 : nth (castF u sort.toNat c) sort.toNat = nth u sort.toNat + c := castF_at (by omega)
    refine r_oload m.sX hx2 (Nat.le_of_ble_eq_true rfl) ?_
    conv => cbv
    refine r_leq m.sX (fun h2 => ?_) (fun h2 => ?_) <;> conv => cbv
    · obtain rfl : five = true := by first | (rw [O1, ex2]; exact decide_eq_true h2) | (rw [O1, ex2]; exact decide_eq_false (by omega))
      conv => cbv
      refine r_gtr m.sX (fun h3 => ?_) (fun h3 => ?_) <;> conv => cbv
      · refine r_oindex m.sX (by omega) (by omega) ?_
        conv => cbv
        obtain ⟨x3, hx3⟩ := get_ex (xs := zs1) (i := Int.toNat sort) (by omega)
        have mx3 := get_mem hx3
        have vx3 := nth_some hx3
        have ey3 : x3 = nth u sort.toNat + c := by rw [← ex3, ← ez]; exact (nth_some hx3).symm
        refine r_oload m.sX hx3 (Nat.le_of_ble_eq_true rfl) ?_
        conv => cbv
        refine r_subf m.sX (by omega) (by omega) fun r2 hr2 => ?_
        conv => cbv
        refine r_oindex m.sX (by omega) (by omega) ?_
        conv => cbv
        obtain ⟨y3, hy3⟩ := get_ex (xs := zs1) (i := Int.toNat sort) (by omega)
        refine r_ostore (l := Int.toNat sort) r2 m.sX hy3 (Nat.le_of_ble_eq_true rfl) rfl fun zs2 hzs2 => ?_   -- zs2 = zs1.set sort r2
        have lzs2 : (zs2.length : Int) = zs1.length := by rw [hzs2]; first | done | (simp; done) | (simp; omega)
        have ez2 : zs2 = castF u sort.toNat (c - 1) := by rw [hzs2, ez, show r2 = nth u sort.toNat + (c - 1) by omega, castF_set (by omega)]
        conv => cbv
        refine .inl (r_callFO (lbI 1 cInt) m.sX ((((SafeOrder_ok zs2 v)).ok (flat_lb flat_cInt)).ice) fun v hv2 => ?_)
        obtain ⟨v2, five_2⟩ := v
        conv => cbv
        have O2 := safeOA_ok hv2
        rw [ez2, LF.before (by omega), Bool.and_false] at O2
        obtain rfl : five_2 = false := by exact O2
        conv => cbv
        exact hE0 _ () (by cbv) (by cbv) trivial
      · exact hE0 _ () (by cbv) (by cbv) trivial
    · obtain rfl : five = false := by first | (rw [O1, ex2]; exact decide_eq_true h2) | (rw [O1, ex2]; exact decide_eq_false (by omega))
      conv => cbv
      refine r_gtr m.sX (fun h4 => ?_) (fun h4 => ?_) <;> conv => cbv
      · refine r_oindex m.sX (by omega) (by omega) ?_
        conv => cbv
        obtain ⟨x4, hx4⟩ := get_ex (xs := zs1) (i := Int.toNat sort) (by omega)
        have mx4 := get_mem hx4
        have vx4 := nth_some hx4
        have ey4 : x4 = nth u sort.toNat + c := by rw [← ex3, ← ez]; exact (nth_some hx4).symm
        refine r_oload m.sX hx4 (Nat.le_of_ble_eq_true rfl) ?_
        conv => cbv
        refine r_subf m.sX (by omega) (by omega) fun r3 hr3 => ?_
        conv => cbv
        refine r_oindex m.sX (by omega) (by omega) ?_
        conv => cbv
        obtain ⟨y4, hy4⟩ := get_ex (xs := zs1) (i := Int.toNat sort) (by omega)
        refine r_ostore (l := Int.toNat sort) r3 m.sX hy4 (Nat.le_of_ble_eq_true rfl) rfl fun zs3 hzs3 => ?_   -- zs3 = zs1.set sort r3
        have lzs3 : (zs3.length : Int) = zs1.length := by rw [hzs3]; first | done | (simp; done) | (simp; omega)
        have ez3 : zs3 = castF u sort.toNat (c - 1) := by rw [hzs3, ez, show r3 = nth u sort.toNat + (c - 1) by omega, castF_set (by omega)]
        conv => cbv
        refine .inl (r_callFO (lbI 1 cInt) m.sX ((((SafeOrder_ok zs3 v)).ok (flat_lb flat_cInt)).ice) fun v hv3 => ?_)
        obtain ⟨v3, five_3⟩ := v
        conv => cbv
        have O3 := safeOA_ok hv3
        rw [ez3, LF.before (by omega), Bool.and_false] at O3
        obtain rfl : five_3 = false := by exact O3
        conv => cbv
        exact hE0 _ () (by cbv) (by cbv) trivial
      · exact hE0 _ () (by cbv) (by cbv) trivial
  · refine r_neqF m.sX ((by first | rfl | omega | assumption | exact decide_eq_true rfl | (subst_vars; omega))) ?_
    conv => cbv
    exact hE0 _ () (by cbv) (by cbv) trivial

theorem safeOrders_part3 (m : Mach Try.prog G κ X Y L) (hQ : ∀ r, r = PV.bool true → Q r) (more : List Int) (h : CurIn more) :
    Ai.code X L G (rest 5 (rest 9 (Try.f3.body.getD .skip))) (EndsIn (post G Try.f3.results.toList Q)) (St.at 329 (midSafeOrders more) []) := by
  conv => cbv
  refine r_callE m.sX ((drawFinishForm_ok more h).iceE) ?_
  rintro _ ⟨_, ⟨w, x, i, rfl⟩, rfl⟩
  conv => cbv
  refine r_callF giveI m.sX (FinishForm_ok w x i) fun v hf => ?_
  obtain ⟨f, r, five⟩ := v
  conv => cbv
  have O1 := finA_ok hf
  refine r_callF giveI m.sX (specFinishForm_ok w x i) fun y1 hy1 => ?_
  obtain rfl := hf.trans hy1.symm
  clear hy1
  conv => cbv
  refine r_callF bb m.sX (CanFinish_ok w x i) fun v ha => ?_
  obtain ⟨a, seven⟩ := v
  conv => cbv
  have O2 := canA_ok ha
  refine r_callF bb m.sX (specCanFinish_ok w x i) fun y2 hy2 => ?_
  obtain rfl := ha.trans hy2.symm
  clear hy2
  conv => cbv
  refine r_draw m (by kernel_rfl) ?_
  conv => cbv
  rcases Bool.eq_false_or_eq_true five with rfl | rfl <;> conv => cbv
  · obtain ⟨D1, D2, D3, D4⟩ := finA_spec hf
    obtain ⟨as1, as2, as3, x0, as4, as5⟩ := askB_spec D1
    have fb := formB_spec as5
    have fs0 := formsB_spec as1
    have fl0 := forms_len as1
    obtain ⟨SF1, SF2, SF3⟩ := finA_fits hf
    refine r_callBTS m.sY (sameInts_ok f f) (by first | rfl | omega | assumption | exact decide_eq_true rfl | (subst_vars; omega)) ?_   -- h1
    conv => cbv
    refine r_callBTS m.sY (pSameForms_ok r r) (by first | rfl | omega | assumption | exact decide_eq_true rfl | (subst_vars; omega)) ?_   -- h2
    conv => cbv
    obtain rfl : seven = true := by exact O2.trans D1
    conv => cbv
    obtain rfl : a = true := by first | (rw [canA, if_pos D1, D2] at ha; exact (Prod.mk.inj ha).1) | (rw [canA, if_pos O2.symm] at ha; rw [← O2, ← (Prod.mk.inj ha).1] at O1; simpa using O1.symm)
    conv => cbv
    refine r_lenRS m.sY (by omega) fun n1 hn1 => ?_
    conv => cbv
    refine r_lenRS m.sY (by omega) fun n2 hn2 => ?_
    conv => cbv
    refine r_subf m.sY (by omega) (by omega) fun r1 hr1 => ?_
    conv => cbv
    refine r_eqlT m.sY ((by first | rfl | omega | assumption | exact decide_eq_true rfl | (subst_vars; omega))) ?_
    conv => cbv
    refine r_callFS (PV.int .i64) m.sY (pSum_ok f (by first | rfl | assumption | omega | (simp only [List.length_append, List.length_cons, List.length_nil] at *; omega))) trivial fun r2 hr2 => ?_
    conv => cbv
    refine r_callFS (PV.int .i64) m.sY (pSum_ok w (by first | rfl | assumption | omega | (simp only [List.length_append, List.length_cons, List.length_nil] at *; omega))) trivial fun r3 hr3 => ?_
    conv => cbv
    refine r_index m.sY (by omega) (by omega) fun v hx1A => ?_
    obtain ⟨x1A, x1B⟩ := v
    conv => cbv
    have hx1 := hx1A
    have mx1 := get_mem hx1
    rw [heldAt_some hx1] at SF3 D4
    have c1 := SF1 f.length
    try dsimp only at c1
    rw [List.take_of_length_le (Nat.le_refl _)] at c1
    dsimp only at SF3 D4
    refine r_callFS (PV.int .i64) m.sY (pSum_ok x1A (by first | rfl | assumption | omega | (simp only [List.length_append, List.length_cons, List.length_nil] at *; omega))) trivial fun r4 hr4 => ?_
    conv => cbv
    try dsimp only at hr4
    refine r_addf m.sY (by omega) (by omega) fun r5 hr5 => ?_
    conv => cbv
    refine r_eqlT m.sY ((by first | rfl | omega | assumption | exact decide_eq_true rfl | (subst_vars; omega))) ?_
    conv => cbv
    exact hQ _ (congrArg PV.bool (by first | rfl | omega | (simp [*]; done) | (subst_vars; simp [*]; done)))   -- leaf 2
  · refine r_callBTS m.sY (sameInts_ok f f) (by first | rfl | omega | assumption | exact decide_eq_true rfl | (subst_vars; omega)) ?_   -- h5
    conv => cbv
    refine r_callBTS m.sY (pSameForms_ok r r) (by first | rfl | omega | assumption | exact decide_eq_true rfl | (subst_vars; omega)) ?_   -- h6
    conv => cbv
    rcases Bool.eq_false_or_eq_true seven with rfl | rfl <;> conv => cbv
    · obtain rfl : a = false := by first | (rw [canA, if_pos D1, D2] at ha; exact (Prod.mk.inj ha).1) | (rw [canA, if_pos O2.symm] at ha; rw [← O2, ← (Prod.mk.inj ha).1] at O1; simpa using O1.symm)
      conv => cbv
      exact hQ _ (congrArg PV.bool (by first | rfl | omega | (simp [*]; done) | (subst_vars; simp [*]; done)))   -- leaf 3
    · rcases Bool.eq_false_or_eq_true a with rfl | rfl <;> conv => cbv
      · exact hQ _ (congrArg PV.bool (by first | rfl | omega | (simp [*]; done) | (subst_vars; simp [*]; done)))   -- leaf 4
      · exact hQ _ (congrArg PV.bool (by first | rfl | omega | (simp [*]; done) | (subst_vars; simp [*]; done)))   -- leaf 5

end

theorem lawSafeOrders_ok (code more : List Int) (hf : ∀ x ∈ code, 0 ≤ x ∧ x ≤ 255) (hg : ∀ x ∈ more, 0 ≤ x ∧ x ≤ 255) : OkA Try.prog 3 [.isl 1 (rows cU8 code), .isl 1 (rows cU8 more)] (· = .bool true) :=
  fn_introW envOk fieldsOk mixed Try.func3 rfl (c := Try.f3.body.getD .skip) rfl fun κ X Y L Q m hQ =>
    W_cut m 9 329 [1] [] (fun _ : Unit => midSafeOrders more) (fun _ => []) (fun _ => (more.length : Int) ≤ 9223372036854775807) (safeOrders_part1 m hQ code more hf) fun _ hl =>
    W_cut m 5 329 [1] [] (fun _ : Unit => midSafeOrders more) (fun _ => []) (fun _ => True) (safeOrders_part2 m hQ more ⟨hl, hg⟩) fun _ _ =>
    W_last m (safeOrders_part3 m hQ more ⟨hl, hg⟩)

end Go.Proofs.Ytbamclepgabciaa.Ai
