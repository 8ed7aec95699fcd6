/- The law FnGifts: its body returns true. -/
import Derived.Test.YtmlojdpfpccgoaaFormDraw
import Derived.Test.YtmlojdpfpccgoaaAiCut
namespace Go.Proofs.Ytmlojdpfpccgoaa.Ai
open Go Go.Proofs
set_option linter.unusedSimpArgs false
set_option maxRecDepth 10000
set_option maxHeartbeats 4000000
set_option linter.unusedVariables false
theorem giveA_ok {free : List Int} {l : List PForm} {i : Int} {c f : List Int} {g : List PForm} {ok : Bool} (h : (f, g, ok) = giveA free l i c) : ok = giveOk free l i c := by
  unfold giveA at h
  split at h
  · rename_i hc; rw [hc]; exact (Prod.mk.inj (Prod.mk.inj h).2).2
  · rename_i hc; rw [(Prod.mk.inj (Prod.mk.inj h).2).2]; simpa using hc
theorem safeGA_ok {free : List Int} {l : List PForm} {i : Int} {c : List Int} {s ok : Bool} (h : (s, ok) = safeGA free l i c) : ok = giveOk free l i c := by
  unfold safeGA at h
  split at h
  · rename_i hc; rw [hc]; exact (Prod.mk.inj h).2
  · rename_i hc; rw [(Prod.mk.inj h).2]; simpa using hc
theorem lackA_ok {free : List Int} {l : List PForm} {i : Int} {a : List Int} {ok : Bool} (h : (a, ok) = lackA free l i) : ok = askB free l i := by
  unfold lackA at h
  split at h
  · rename_i hc; rw [hc]; exact (Prod.mk.inj h).2
  · rename_i hc; rw [(Prod.mk.inj h).2]; simpa using hc
theorem canA_ok {free : List Int} {l : List PForm} {i : Int} {a ok : Bool} (h : (a, ok) = canA free l i) : ok = askB free l i := by
  unfold canA at h
  split at h
  · rename_i hc; rw [hc]; exact (Prod.mk.inj h).2
  · rename_i hc; rw [(Prod.mk.inj h).2]; simpa using hc
theorem lack_can {free : List Int} {l : List PForm} {i : Int} {a : List Int} {can : Bool} (h : (a, true) = lackA free l i) (h2 : (can, true) = canA free l i) : can = decide (a.sum = 0) ∧ a.length ≤ 6 ∧ allB a 0 1000 = true := by
  have hk := lackA_ok h
  rw [lackA, if_pos hk.symm] at h
  rw [canA, if_pos hk.symm] at h2
  obtain rfl := (Prod.mk.inj h).1
  obtain rfl := (Prod.mk.inj h2).1
  obtain ⟨a1, a2, a3, x, a4, a5⟩ := askB_spec hk.symm
  obtain ⟨b1, b2, b3, b4⟩ := formB_spec a5
  have f0 := forms_len a1
  have f1 := formsB_spec a1
  have wl : (wantAt l i).length = free.length := by rw [wantAt_some a4]; exact b2
  refine ⟨can_lack _ _, by rw [lackL, lackT_len]; omega, allB_iff.2 fun k hk => ?_⟩
  rw [lackL, lackT_len] at hk
  rw [nth_lack hk]
  have g1 := allB_nth f1.2.2.1 (k := k) (by omega)
  have g2 := allB_nth b4 (k := k) (by rw [← wantAt_some a4]; exact hk)
  rw [← wantAt_some a4] at g2
  omega
theorem waitsFA_spec {free : List Int} {l : List PForm} {i k : Int} (h : (true, true) = waitsFA free l i k) : (false, true) = canA free l i := by
  unfold waitsFA at h
  split at h
  · rename_i hc
    simp only [Bool.and_eq_true] at hc
    rw [canA, if_pos hc.1.1, ← wait_can (held := heldAt l k) (Prod.mk.inj h).1.symm]
  · cases (Prod.mk.inj h).2
theorem allA_same {free f : List Int} {l g : List PForm} {i : Int} {c : List Int} (h : GiveF free l i c f g) {k : Int} (h0 : 0 ≤ k) (h1 : k < free.length) : allA f g k = allA free l k ∧ (allA free l k).2 = true := by
  have e := h.all k h0 h1
  have i1 : inB k 0 ((free.length : Int) - 1) = true := inB_yes h0 (by omega)
  rw [allA, allA, h.flen, h.forms, h.forms', i1, e]
  exact ⟨rfl, rfl⟩
theorem stuck_two {f : List Int} {g : List PForm} (h : formsB f g = true) {stuck : List Int} {three : Bool} (hs : (stuck, three) = stuckA f g) : three = true ∧ isSafeB f g = decide (stuck.length = 0) := by
  rw [stuckA, if_pos h] at hs
  obtain ⟨e1, e2⟩ := Prod.mk.inj hs
  exact ⟨e2, by rw [stuck_safe, e1]⟩
theorem lack_fits {a : List Int} (h1 : a.length ≤ 6) (h2 : allB a 0 1000 = true) : SumFits a :=
  sumfits_of 1000 (fun n hn => by have := allB_mem h2 n hn; omega) (by omega)
theorem pSameForms_ok (a : List PForm) (b : List PForm)  : OkA Try.prog 23 [.isl 2 (rows cForm a), .isl 2 (rows cForm b)] (· = .bool (decide (a = b))) :=
  fn_intro envOk fieldsOk mixed Try.func23 rfl fun κ X Y L Q m hQ => by
    conv => cbv
    refine r_lenR m.sX fun n1 hn1 mn1 => ?_
    conv => cbv
    refine r_lenR m.sX fun n2 hn2 mn2 => ?_
    conv => cbv
    refine r_neq m.sX (fun h1 => ?_) (fun h1 => ?_) <;> conv => cbv
    · exact hQ _ (congrArg PV.bool (by exact (decide_eq_false fun e => by rw [e] at hn1; omega).symm))   -- leaf 1
    · refine r_lenR m.sX fun n3 hn3 mn3 => ?_
      conv => cbv
      refine r_loopF (α := Int) m 40 [1, 12, 13, 14] [] (fun σ => [(1, .isl 2 (rows cForm b)), (12, .isl 2 (rows cForm a)), (13, .int .i64 n3), (14, .int .i64 σ)]) (fun σ => [])
        (fun σ => (0 ≤ σ) ∧ (σ ≤ n3) ∧ (a.take σ.toNat = b.take σ.toNat)) (fun σ => (n3 - σ).toNat) 0 ?_ ?_ ?_ ?_
      · cbv
      · cbv
      · exact ⟨(by (try dsimp only); first | omega | (simp only [List.length_nil]; omega) | (simp only [List.length_cons, List.length_nil]; omega)), (by (try dsimp only); first | omega | (simp only [List.length_nil]; omega) | (simp only [List.length_cons, List.length_nil]; omega)), (by (try dsimp only) <;> first | omega | rfl | (simp [*]; done))⟩
      rintro i1 ⟨lo1, hi1, q⟩ E hE F hF
      conv => cbv
      refine r_lss m.sX (fun h2 => ?_) (fun h2 => ?_) <;> conv => cbv
      · refine r_index m.sX (by omega) (by omega) fun v hxA => ?_
        obtain ⟨xA, xB⟩ := v
        conv => cbv
        have hx := hxA
        have mx := get_mem hx
        have dx := drop_cons hx
        have kx := take_snoc hx
        have jx : (i1 + 1).toNat = Int.toNat i1 + 1 := by omega
        refine r_draw m (by kernel_rfl) ?_
        conv => cbv
        refine r_index m.sY (by omega) (by omega) fun v hx1A => ?_
        obtain ⟨x1A, x1B⟩ := v
        conv => cbv
        have hx1 := hx1A
        have mx1 := get_mem hx1
        have dx1 := drop_cons hx1
        have kx1 := take_snoc hx1
        have jx1 : (i1 + 1).toNat = Int.toNat i1 + 1 := by omega
        refine r_callBS m.sY (sameInts_ok xA x1A) (fun h3 => ?_) (fun h3 => ?_) <;> conv => cbv
        · have E3 := of_decide_eq_true h3
          try dsimp only at E3
          refine r_index m.sY (by omega) (by omega) fun v hx2A => ?_
          obtain ⟨x2A, x2B⟩ := v
          conv => cbv
          have hx2 := hx2A
          have mx2 := get_mem hx2
          have dx2 := drop_cons hx2
          have kx2 := take_snoc hx2
          have jx2 : (i1 + 1).toNat = Int.toNat i1 + 1 := by omega
          obtain ⟨rfl, rfl⟩ : x1A = x2A ∧ x1B = x2B := by have := Option.some.inj (hx1.symm.trans hx2); simpa using this
          refine r_callBS m.sY (sameInts_ok xB x1B) (fun h4 => ?_) (fun h4 => ?_) <;> conv => cbv
          · have E4 := of_decide_eq_true h4
            try dsimp only at E4
            refine r_addf m.sX (by omega) (by omega) fun r1 hr1 => ?_
            conv => cbv
            try have tr1 : Int.toNat r1 = Int.toNat i1 + 1 := by omega
            refine hE _ r1 ?_ ?_ ⟨(by (try dsimp only); first | omega | (simp only [List.length_nil]; omega) | (simp only [List.length_cons, List.length_nil]; omega)), (by (try dsimp only); first | omega | (simp only [List.length_nil]; omega) | (simp only [List.length_cons, List.length_nil]; omega)), (by (try dsimp only) <;> (rw [tr1, kx, kx1, q, E3, E4]))⟩ (by first | omega | (dsimp only; omega))
            · cbv
            · cbv
          · have E4 := of_decide_eq_false h4
            try dsimp only at E4
            refine hF _ _ ?_
            conv => cbv
            exact hQ _ (congrArg PV.bool (by exact (decide_eq_false fun e => by rw [e] at hx; exact E4 (Prod.mk.inj (Option.some.inj (hx.symm.trans hx1))).2).symm))   -- leaf 2
        · have E3 := of_decide_eq_false h3
          try dsimp only at E3
          refine hF _ _ ?_
          conv => cbv
          exact hQ _ (congrArg PV.bool (by exact (decide_eq_false fun e => by rw [e] at hx; exact E3 (Prod.mk.inj (Option.some.inj (hx.symm.trans hx1))).1).symm))   -- leaf 3
      · have dz_i1 := drop_end (xs := a) (i := Int.toNat i1) (by omega)
        have tz_i1 := take_end (xs := a) (i := Int.toNat i1) (by omega)
        refine hF _ _ ?_
        conv => cbv
        exact hQ _ (congrArg PV.bool (by exact (decide_eq_true (eq_of_takes (by omega) q (by omega))).symm))   -- leaf 4

noncomputable abbrev midGifts (more : List Int) : List (Nat × PV) := [(1, .isl 1 (rows cU8 more))]

section
variable {κ : Ctx} {X Y : Req → (PV → Prop) → Prop} {L : Code → (Ex → St → Prop) → St → Prop} {Q : PV → Prop}

theorem gifts_part1 (m : Mach Try.prog G κ X Y L) (hQ : ∀ r, r = PV.bool true → Q r) (code more : List Int) (hf : ∀ x ∈ code, 0 ≤ x ∧ x ≤ 255) (E0 : St → Prop)
    (hE0 : ∀ (s' : St) (a : Unit), headOk s' [] = true → Ai.norm [1] [] s' = St.at 320 (midGifts more) [] → (more.length : Int) ≤ 9223372036854775807 → E0 s') :
    Ai.code X L G (front 9 (Try.f4.body.getD .skip)) (fun e s' => match e with | .normal => E0 s' | .exit i => EndsIn (post G Try.f4.results.toList Q) (.exit i) s' | .ret => EndsIn (post G Try.f4.results.toList Q) .ret s') (start 320 [.isl 1 (rows cU8 code), .isl 1 (rows cU8 more)] []) := by
  conv => cbv
  refine r_callB m.sX (big_ok code more) (fun h1 => ?_) (fun h1 => ?_) <;> conv => cbv
  · exact hQ _ (congrArg PV.bool (by first | rfl | omega | (simp [*]; done) | (subst_vars; simp [*]; done)))   -- leaf 1
  · rw [Bool.or_eq_false_iff, decide_eq_false_iff_not, decide_eq_false_iff_not] at h1
    have h : CurIn code := ⟨by omega, hf⟩
    have hmr : (more.length : Int) ≤ 9223372036854775807 := by omega
    refine r_callE m.sX ((drawGiveSorts_ok code h).iceE) ?_
    rintro _ ⟨_, ⟨free, l, i, counts, rfl⟩, rfl⟩
    conv => cbv
    refine r_callF giveI m.sX (GiveSorts_ok free l i counts) fun v hf => ?_
    obtain ⟨f, g, ok⟩ := v
    conv => cbv
    have O1 := giveA_ok hf
    refine r_callF giveI m.sX (specGiveSorts_ok free l i counts) fun y1 hy1 => ?_
    obtain rfl := hf.trans hy1.symm
    clear hy1
    conv => cbv
    refine r_callF bb m.sX (IsSafeGift_ok free l i counts) fun v hs_ => ?_
    obtain ⟨s_, one⟩ := v
    conv => cbv
    have O2 := safeGA_ok hs_
    refine r_callF bb m.sX (specIsSafeGift_ok free l i counts) fun y2 hy2 => ?_
    obtain rfl := hs_.trans hy2.symm
    clear hy2
    conv => cbv
    rcases Bool.eq_false_or_eq_true ok with rfl | rfl <;> conv => cbv
    · obtain ⟨GF, GS⟩ := give_facts hf
      refine r_callBT m.sX (sameInts_ok f f) (by first | rfl | omega | assumption | exact decide_eq_true rfl | (subst_vars; omega)) ?_   -- h2
      conv => cbv
      refine r_callBT m.sX (pSameForms_ok g g) (by first | rfl | omega | assumption | exact decide_eq_true rfl | (subst_vars; omega)) ?_   -- h3
      conv => cbv
      obtain rfl : one = true := by exact O2.trans O1.symm
      conv => cbv
      rcases Bool.eq_false_or_eq_true s_ with rfl | rfl <;> conv => cbv
      · refine r_callF (lbI 1 cInt) m.sX ((StuckForms_ok f g).ice) fun v hstuck => ?_
        obtain ⟨stuck, three⟩ := v
        conv => cbv
        have ST := stuck_two GF.forms' hstuck
        obtain rfl : three = true := by exact ST.1
        conv => cbv
        refine r_lenR m.sX fun n1 hn1 mn1 => ?_
        conv => cbv
        refine r_eqlT m.sX ((by have e := (Prod.mk.inj (hs_.trans GS)).1; rw [ST.2] at e; have e2 := of_decide_eq_true e.symm; omega)) ?_
        conv => cbv
        refine r_lenR m.sX fun n2 hn2 mn2 => ?_
        conv => cbv
        refine r_loopF (α := Int) m 320 [1, 5, 6, 9, 10, 145, 146] [] (fun σ => [(1, .isl 1 (rows cU8 more)), (5, .isl 1 (rows cInt free)), (6, .isl 2 (rows cForm l)), (9, .isl 1 (rows cInt f)), (10, .isl 2 (rows cForm g)), (145, .int .i64 n2), (146, .int .i64 σ)]) (fun σ => [])
          (fun σ => (0 ≤ σ) ∧ (σ ≤ n2)) (fun σ => (n2 - σ).toNat) 0 ?_ ?_ ?_ ?_
        · cbv
        · cbv
        · exact ⟨(by (try dsimp only); first | omega | (simp only [List.length_nil]; omega) | (simp only [List.length_cons, List.length_nil]; omega)), (by (try dsimp only); first | omega | (simp only [List.length_nil]; omega) | (simp only [List.length_cons, List.length_nil]; omega))⟩
        rintro i1 ⟨lo1, hi1⟩ E hE F hF
        conv => cbv
        refine r_lss m.sX (fun h5 => ?_) (fun h5 => ?_) <;> conv => cbv
        · refine r_callF ib m.sX (AllOfSort_ok free l i1) fun v hbefore => ?_
          obtain ⟨before, four⟩ := v
          conv => cbv
          have AS := allA_same GF lo1 (by omega)
          refine r_callF ib m.sX (AllOfSort_ok f g i1) fun v hafter => ?_
          obtain ⟨after, five⟩ := v
          conv => cbv
          obtain rfl : four = true := by exact (congrArg Prod.snd hbefore).trans AS.2
          conv => cbv
          obtain rfl : five = true := by exact (congrArg Prod.snd hafter).trans (by rw [AS.1]; exact AS.2)
          conv => cbv
          refine r_neqF m.sX ((by exact (Prod.mk.inj (hbefore.trans (AS.1.symm.trans hafter.symm))).1)) ?_
          conv => cbv
          refine r_addf m.sX (by omega) (by omega) fun r1 hr1 => ?_
          conv => cbv
          try have tr1 : Int.toNat r1 = Int.toNat i1 + 1 := by omega
          refine hE _ r1 ?_ ?_ ⟨(by (try dsimp only); first | omega | (simp only [List.length_nil]; omega) | (simp only [List.length_cons, List.length_nil]; omega)), (by (try dsimp only); first | omega | (simp only [List.length_nil]; omega) | (simp only [List.length_cons, List.length_nil]; omega))⟩ (by first | omega | (dsimp only; omega))
          · cbv
          · cbv
        · have dz_i1 := drop_end (xs := free) (i := Int.toNat i1) (by omega)
          have tz_i1 := take_end (xs := free) (i := Int.toNat i1) (by omega)
          refine hF _ _ ?_
          conv => cbv
          exact hE0 _ () (by cbv) (by cbv) hmr
      · refine r_callF (lbI 1 cInt) m.sX ((StuckForms_ok f g).ice) fun v hstuck_2 => ?_
        obtain ⟨stuck_2, three_2⟩ := v
        conv => cbv
        have ST := stuck_two GF.forms' hstuck_2
        obtain rfl : three_2 = true := by exact ST.1
        conv => cbv
        refine r_lenR m.sX fun n3 hn3 mn3 => ?_
        conv => cbv
        refine r_eqlF m.sX ((by have e := (Prod.mk.inj (hs_.trans GS)).1; rw [ST.2] at e; have e2 := of_decide_eq_false e.symm; omega)) ?_
        conv => cbv
        refine r_lenR m.sX fun n4 hn4 mn4 => ?_
        conv => cbv
        refine r_loopF (α := Int) m 320 [1, 5, 6, 9, 10, 145, 146] [] (fun σ => [(1, .isl 1 (rows cU8 more)), (5, .isl 1 (rows cInt free)), (6, .isl 2 (rows cForm l)), (9, .isl 1 (rows cInt f)), (10, .isl 2 (rows cForm g)), (145, .int .i64 n4), (146, .int .i64 σ)]) (fun σ => [])
          (fun σ => (0 ≤ σ) ∧ (σ ≤ n4)) (fun σ => (n4 - σ).toNat) 0 ?_ ?_ ?_ ?_
        · cbv
        · cbv
        · exact ⟨(by (try dsimp only); first | omega | (simp only [List.length_nil]; omega) | (simp only [List.length_cons, List.length_nil]; omega)), (by (try dsimp only); first | omega | (simp only [List.length_nil]; omega) | (simp only [List.length_cons, List.length_nil]; omega))⟩
        rintro i2 ⟨lo2, hi2⟩ E hE F hF
        conv => cbv
        refine r_lss m.sX (fun h8 => ?_) (fun h8 => ?_) <;> conv => cbv
        · refine r_callF ib m.sX (AllOfSort_ok free l i2) fun v hbefore_2 => ?_
          obtain ⟨before_2, four_2⟩ := v
          conv => cbv
          have AS := allA_same GF lo2 (by omega)
          refine r_callF ib m.sX (AllOfSort_ok f g i2) fun v hafter_2 => ?_
          obtain ⟨after_2, five_2⟩ := v
          conv => cbv
          obtain rfl : four_2 = true := by exact (congrArg Prod.snd hbefore_2).trans AS.2
          conv => cbv
          obtain rfl : five_2 = true := by exact (congrArg Prod.snd hafter_2).trans (by rw [AS.1]; exact AS.2)
          conv => cbv
          refine r_neqF m.sX ((by exact (Prod.mk.inj (hbefore_2.trans (AS.1.symm.trans hafter_2.symm))).1)) ?_
          conv => cbv
          refine r_addf m.sX (by omega) (by omega) fun r2 hr2 => ?_
          conv => cbv
          try have tr2 : Int.toNat r2 = Int.toNat i2 + 1 := by omega
          refine hE _ r2 ?_ ?_ ⟨(by (try dsimp only); first | omega | (simp only [List.length_nil]; omega) | (simp only [List.length_cons, List.length_nil]; omega)), (by (try dsimp only); first | omega | (simp only [List.length_nil]; omega) | (simp only [List.length_cons, List.length_nil]; omega))⟩ (by first | omega | (dsimp only; omega))
          · cbv
          · cbv
        · have dz_i2 := drop_end (xs := free) (i := Int.toNat i2) (by omega)
          have tz_i2 := take_end (xs := free) (i := Int.toNat i2) (by omega)
          refine hF _ _ ?_
          conv => cbv
          exact hE0 _ () (by cbv) (by cbv) hmr
    · refine r_callBT m.sX (sameInts_ok f f) (by first | rfl | omega | assumption | exact decide_eq_true rfl | (subst_vars; omega)) ?_   -- h10
      conv => cbv
      refine r_callBT m.sX (pSameForms_ok g g) (by first | rfl | omega | assumption | exact decide_eq_true rfl | (subst_vars; omega)) ?_   -- h11
      conv => cbv
      obtain rfl : one = false := by exact O2.trans O1.symm
      conv => cbv
      rcases Bool.eq_false_or_eq_true s_ with rfl | rfl <;> conv => cbv
      · exact hE0 _ () (by cbv) (by cbv) hmr
      · exact hE0 _ () (by cbv) (by cbv) hmr

theorem gifts_part2 (m : Mach Try.prog G κ X Y L) (hQ : ∀ r, r = PV.bool true → Q r) (more : List Int) (h : CurIn more) (E0 : St → Prop)
    (hE0 : ∀ (s' : St) (a : Unit), headOk s' [] = true → Ai.norm [1] [] s' = St.at 320 (midGifts more) [] → True → E0 s') :
    Ai.code X L G (front 6 (rest 9 (Try.f4.body.getD .skip))) (fun e s' => match e with | .normal => E0 s' | .exit i => EndsIn (post G Try.f4.results.toList Q) (.exit i) s' | .ret => EndsIn (post G Try.f4.results.toList Q) .ret s') (St.at 320 (midGifts more) []) := by
  conv => cbv
  refine r_callE m.sX ((drawLackingFor_ok more h).iceE) ?_
  rintro _ ⟨_, ⟨u, v, n, rfl⟩, rfl⟩
  conv => cbv
  refine r_callF (lbI 1 cInt) m.sX ((LackingFor_ok u v n).ice) fun v ha => ?_
  obtain ⟨a, three⟩ := v
  conv => cbv
  have O1 := lackA_ok ha
  refine r_callF (lbI 1 cInt) m.sX ((specLackingFor_ok u v n).ice) fun y1 hy1 => ?_
  obtain rfl := ha.trans hy1.symm
  clear hy1
  conv => cbv
  refine r_callF bb m.sX (CanFinish_ok u v n) fun v hcan => ?_
  obtain ⟨can, five⟩ := v
  conv => cbv
  have O2 := canA_ok hcan
  refine r_callF bb m.sX (specCanFinish_ok u v n) fun y2 hy2 => ?_
  obtain rfl := hcan.trans hy2.symm
  clear hy2
  conv => cbv
  rcases Bool.eq_false_or_eq_true three with rfl | rfl <;> conv => cbv
  · refine r_callBT m.sX (sameInts_ok a a) (by first | rfl | omega | assumption | exact decide_eq_true rfl | (subst_vars; omega)) ?_   -- h1
    conv => cbv
    obtain rfl : five = true := by exact O2.trans O1.symm
    conv => cbv
    rcases Bool.eq_false_or_eq_true can with rfl | rfl <;> conv => cbv
    · try obtain ⟨LC1, LC2, LC3⟩ := lack_can ha hcan
      try have SF := lack_fits LC2 LC3
      refine r_callF (PV.int .i64) m.sX (pSum_ok a (by first | rfl | assumption | omega | (simp only [List.length_append, List.length_cons, List.length_nil] at *; omega))) fun r1 hr1 => ?_
      conv => cbv
      refine r_eqlT m.sX ((by have e := of_decide_eq_true LC1.symm; omega)) ?_
      conv => cbv
      exact hE0 _ () (by cbv) (by cbv) trivial
    · try obtain ⟨LC1, LC2, LC3⟩ := lack_can ha hcan
      try have SF := lack_fits LC2 LC3
      refine r_callF (PV.int .i64) m.sX (pSum_ok a (by first | rfl | assumption | omega | (simp only [List.length_append, List.length_cons, List.length_nil] at *; omega))) fun r2 hr2 => ?_
      conv => cbv
      refine r_eqlF m.sX ((by have e := of_decide_eq_false LC1.symm; omega)) ?_
      conv => cbv
      exact hE0 _ () (by cbv) (by cbv) trivial
  · refine r_callBT m.sX (sameInts_ok a a) (by first | rfl | omega | assumption | exact decide_eq_true rfl | (subst_vars; omega)) ?_   -- h4
    conv => cbv
    obtain rfl : five = false := by exact O2.trans O1.symm
    conv => cbv
    rcases Bool.eq_false_or_eq_true can with rfl | rfl <;> conv => cbv
    · try obtain ⟨LC1, LC2, LC3⟩ := lack_can ha hcan
      try have SF := lack_fits LC2 LC3
      exact hE0 _ () (by cbv) (by cbv) trivial
    · try obtain ⟨LC1, LC2, LC3⟩ := lack_can ha hcan
      try have SF := lack_fits LC2 LC3
      exact hE0 _ () (by cbv) (by cbv) trivial

theorem gifts_part3 (m : Mach Try.prog G κ X Y L) (hQ : ∀ r, r = PV.bool true → Q r) (more : List Int) (h : CurIn more) :
    Ai.code X L G (rest 6 (rest 9 (Try.f4.body.getD .skip))) (EndsIn (post G Try.f4.results.toList Q)) (St.at 320 (midGifts more) []) := by
  conv => cbv
  refine r_callE m.sX ((drawWaitsFor_ok more h).iceE) ?_
  rintro _ ⟨_, ⟨x, y, j, k, rfl⟩, rfl⟩
  conv => cbv
  refine r_callF bb m.sX (WaitsFor_ok x y j k) fun v hw => ?_
  obtain ⟨w, seven⟩ := v
  conv => cbv
  refine r_callF bb m.sX (specWaitsFor_ok x y j k) fun y1 hy1 => ?_
  obtain rfl := hw.trans hy1.symm
  clear hy1
  conv => cbv
  refine r_callE m.sX ((drawAllOfSort_ok more h).iceE) ?_
  rintro _ ⟨_, ⟨z, t, sort, rfl⟩, rfl⟩
  conv => cbv
  refine r_callF ib m.sX (AllOfSort_ok z t sort) fun v hc => ?_
  obtain ⟨c, nine⟩ := v
  conv => cbv
  refine r_callF ib m.sX (specAllOfSort_ok z t sort) fun y2 hy2 => ?_
  obtain rfl := hc.trans hy2.symm
  clear hy2
  conv => cbv
  rcases Bool.eq_false_or_eq_true seven with rfl | rfl <;> conv => cbv
  · rcases Bool.eq_false_or_eq_true w with rfl | rfl <;> conv => cbv
    · rcases Bool.eq_false_or_eq_true nine with rfl | rfl <;> conv => cbv
      · refine r_neqF m.sX ((by first | rfl | omega | assumption | exact decide_eq_true rfl | (subst_vars; omega))) ?_
        conv => cbv
        refine r_callF bb m.sX (CanFinish_ok x y j) fun v hdone => ?_
        obtain ⟨done, eleven⟩ := v
        conv => cbv
        have WS := waitsFA_spec hw
        obtain rfl : eleven = true := by exact (Prod.mk.inj (hdone.trans WS.symm)).2
        conv => cbv
        obtain rfl : done = false := by exact (Prod.mk.inj (hdone.trans WS.symm)).1
        conv => cbv
        exact hQ _ (congrArg PV.bool (by first | rfl | omega | (simp [*]; done) | (subst_vars; simp [*]; done)))   -- leaf 2
      · refine r_neqF m.sX ((by first | rfl | omega | assumption | exact decide_eq_true rfl | (subst_vars; omega))) ?_
        conv => cbv
        refine r_callF bb m.sX (CanFinish_ok x y j) fun v hdone_2 => ?_
        obtain ⟨done_2, eleven_2⟩ := v
        conv => cbv
        have WS := waitsFA_spec hw
        obtain rfl : eleven_2 = true := by exact (Prod.mk.inj (hdone_2.trans WS.symm)).2
        conv => cbv
        obtain rfl : done_2 = false := by exact (Prod.mk.inj (hdone_2.trans WS.symm)).1
        conv => cbv
        exact hQ _ (congrArg PV.bool (by first | rfl | omega | (simp [*]; done) | (subst_vars; simp [*]; done)))   -- leaf 3
    · rcases Bool.eq_false_or_eq_true nine with rfl | rfl <;> conv => cbv
      · refine r_neqF m.sX ((by first | rfl | omega | assumption | exact decide_eq_true rfl | (subst_vars; omega))) ?_
        conv => cbv
        exact hQ _ (congrArg PV.bool (by first | rfl | omega | (simp [*]; done) | (subst_vars; simp [*]; done)))   -- leaf 4
      · refine r_neqF m.sX ((by first | rfl | omega | assumption | exact decide_eq_true rfl | (subst_vars; omega))) ?_
        conv => cbv
        exact hQ _ (congrArg PV.bool (by first | rfl | omega | (simp [*]; done) | (subst_vars; simp [*]; done)))   -- leaf 5
  · rcases Bool.eq_false_or_eq_true w with rfl | rfl <;> conv => cbv
    · rcases Bool.eq_false_or_eq_true nine with rfl | rfl <;> conv => cbv
      · refine r_neqF m.sX ((by first | rfl | omega | assumption | exact decide_eq_true rfl | (subst_vars; omega))) ?_
        conv => cbv
        exact hQ _ (congrArg PV.bool (by first | rfl | omega | (simp [*]; done) | (subst_vars; simp [*]; done)))   -- leaf 6
      · refine r_neqF m.sX ((by first | rfl | omega | assumption | exact decide_eq_true rfl | (subst_vars; omega))) ?_
        conv => cbv
        exact hQ _ (congrArg PV.bool (by first | rfl | omega | (simp [*]; done) | (subst_vars; simp [*]; done)))   -- leaf 7
    · rcases Bool.eq_false_or_eq_true nine with rfl | rfl <;> conv => cbv
      · refine r_neqF m.sX ((by first | rfl | omega | assumption | exact decide_eq_true rfl | (subst_vars; omega))) ?_
        conv => cbv
        exact hQ _ (congrArg PV.bool (by first | rfl | omega | (simp [*]; done) | (subst_vars; simp [*]; done)))   -- leaf 8
      · refine r_neqF m.sX ((by first | rfl | omega | assumption | exact decide_eq_true rfl | (subst_vars; omega))) ?_
        conv => cbv
        exact hQ _ (congrArg PV.bool (by first | rfl | omega | (simp [*]; done) | (subst_vars; simp [*]; done)))   -- leaf 9

end

theorem lawGifts_ok (code more : List Int) (hf : ∀ x ∈ code, 0 ≤ x ∧ x ≤ 255) (hg : ∀ x ∈ more, 0 ≤ x ∧ x ≤ 255) : OkA Try.prog 4 [.isl 1 (rows cU8 code), .isl 1 (rows cU8 more)] (· = .bool true) :=
  fn_introW envOk fieldsOk mixed Try.func4 rfl (c := Try.f4.body.getD .skip) rfl fun κ X Y L Q m hQ =>
    W_cut m 9 320 [1] [] (fun _ : Unit => midGifts more) (fun _ => []) (fun _ => (more.length : Int) ≤ 9223372036854775807) (gifts_part1 m hQ code more hf) fun _ hl =>
    W_cut m 6 320 [1] [] (fun _ : Unit => midGifts more) (fun _ => []) (fun _ => True) (gifts_part2 m hQ more ⟨hl, hg⟩) fun _ _ =>
    W_last m (gifts_part3 m hQ more ⟨hl, hg⟩)

end Go.Proofs.Ytmlojdpfpccgoaa.Ai
