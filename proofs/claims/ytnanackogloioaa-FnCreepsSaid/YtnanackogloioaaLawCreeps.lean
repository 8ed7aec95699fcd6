/- The law FnCreeps: its body returns true. -/
import Derived.Test.YtnanackogloioaaCreepDraw
import Derived.Test.YtnanackogloioaaAiCut
namespace Go.Proofs.Ytnanackogloioaa.Ai
open Go Go.Proofs
set_option maxRecDepth 10000
set_option maxHeartbeats 4000000
set_option linter.unusedVariables false

theorem back_val {fs : List Fold} {m : Margins} {t : Int} {b : List Int} (h : (b, true) = backAns fs m t) : thickB fs t = true ∧ okMarg m = true ∧ mostF (pgs fs) t ≤ m.2.1 ∧ b = backL m.2.1 (pgs fs) t := by
  unfold backAns at h
  split at h
  case isFalse => simp at h
  rename_i ho
  simp only [Bool.and_eq_true, decide_eq_true_eq] at ho
  exact ⟨ho.1, ho.2.1, ho.2.2, (Prod.mk.inj h).1⟩
theorem fore_val {fs : List Fold} {m : Margins} {t n : Int} (h : (n, true) = foreAns fs m t) : thickB fs t = true ∧ okMarg m = true ∧ n = m.2.2.1 - mostF (pgs fs) t := by
  unfold foreAns at h
  split at h
  case isFalse => simp at h
  rename_i ho
  simp only [Bool.and_eq_true, decide_eq_true_eq] at ho
  exact ⟨ho.1, ho.2.1, (Prod.mk.inj h).1⟩
theorem crp_at {fs : List Fold} {t k : Int} (h : thickB fs t = true) (h1 : 1 ≤ k) (h2 : k ≤ pgs fs) : crpAns fs t k = (crp (pgs fs) t k, true) := by
  rw [crpAns, h]
  have : inB k 1 (pgs fs) = true := by rw [inB]; simp; omega
  rw [this]; rfl
theorem crp_val {fs : List Fold} {t k r : Int} (h : (r, true) = crpAns fs t k) : thickB fs t = true ∧ 1 ≤ k ∧ k ≤ pgs fs ∧ r = crp (pgs fs) t k := by
  unfold crpAns at h
  split at h
  case isFalse => simp at h
  rename_i ho
  simp only [Bool.and_eq_true] at ho
  have b := inB_spec ho.2
  exact ⟨ho.1, b.1, b.2, (Prod.mk.inj h).1⟩
theorem maxL_snoc : ∀ (a : Int) (l : List Int) (x : Int), maxL a (l ++ [x]) = max (maxL a l) x
  | a, [], x => rfl
  | a, y :: r, x => by rw [List.cons_append, maxL, maxL, maxL_snoc]
theorem back_at {b p t x : Int} {i : Nat} (h : (backL b p t)[i]? = some x) : (i : Int) < p ∧ x = b - crp p t ((i : Int) + 1) := by
  simp only [backL, List.getElem?_map, Option.map_eq_some_iff] at h
  obtain ⟨j, hj, e⟩ := h
  rw [List.getElem?_eq_some_iff] at hj
  obtain ⟨hl, e'⟩ := hj
  simp only [List.length_range] at hl
  simp only [List.getElem_range] at e'
  subst e'
  exact ⟨by omega, e.symm⟩
theorem crp_take {p t : Int} {i : Nat} (h : (i : Int) < p) : (crpL p t).take (i + 1) = (crpL p t).take i ++ [crp p t ((i : Int) + 1)] := by
  have e : (crpL p t)[i]? = some (crp p t ((i : Int) + 1)) := by rw [crpL, List.getElem?_map, List.getElem?_range (by omega)]; rfl
  rw [List.take_add_one, e]; rfl
theorem crpL_len {p t : Int} (h : 0 ≤ p) : ((crpL p t).length : Int) = p := by simp [crpL]; omega
theorem sh_pos {fs : List Fold} {w h tr a b : Int} (e : (a, b, true) = shAns fs w h tr) : 1 ≤ a ∧ 1 ≤ b := by
  have o := sh_ok e
  rw [shAns, if_pos o] at e
  simp only [pageB, Bool.and_eq_true] at o
  obtain ⟨o1, ⟨o2, o3⟩, o4⟩ := o
  have s := size_bound o1
  have b2 := inB_spec o2
  have b3 := inB_spec o3
  have b4 := inB_spec o4
  simp only [Prod.mk.injEq, and_true] at e
  rw [e.1, e.2]
  have m1 := Int.mul_le_mul s.1.1 (show 1 ≤ w + tr by omega) (by omega) (by omega)
  have m2 := Int.mul_le_mul s.2.1 (show 1 ≤ h + tr by omega) (by omega) (by omega)
  omega
theorem fit_in {fs : List Fold} {w h tr a b sw sh : Int} (e : (a, b, true) = shAns fs w h tr) (h1 : 1 ≤ sw) (h2 : sw ≤ 20000) (h3 : 1 ≤ sh) (h4 : sh ≤ 20000) : fitAns fs w h tr sw sh = ((decide (a ≤ sw) && decide (b ≤ sh)) || (decide (a ≤ sh) && decide (b ≤ sw)), true) := by
  rw [fit_eq e]
  have e1 : inB sw 1 20000 = true := by rw [inB]; simp; omega
  have e2 : inB sh 1 20000 = true := by rw [inB]; simp; omega
  rw [e1, e2]; rfl

noncomputable abbrev midCreeps (more : List Int) : List (Nat × PV) := [(1, .isl 1 (rows cU8 more))]

section
variable {κ : Ctx} {X Y : Req → (PV → Prop) → Prop} {L : Code → (Ex → St → Prop) → St → Prop} {Q : PV → Prop}

theorem creeps_part1 (m : Mach Try.prog G κ X Y L) (hQ : ∀ r, r = PV.bool true → Q r) (code more : List Int) (hf : ∀ x ∈ code, 0 ≤ x ∧ x ≤ 255) (E0 : St → Prop)
    (hE0 : ∀ (s' : St) (a : Unit), headOk s' [] = true → Ai.norm [1] [] s' = St.at 346 (midCreeps more) [] → (more.length : Int) ≤ 9223372036854775807 → E0 s') :
    Ai.code X L G (front 11 (Try.f5.body.getD .skip)) (fun e s' => match e with | .normal => E0 s' | .exit i => EndsIn (post G Try.f5.results.toList Q) (.exit i) s' | .ret => EndsIn (post G Try.f5.results.toList Q) .ret s') (start 346 [.isl 1 (rows cU8 code), .isl 1 (rows cU8 more)] []) := by
  conv => cbv
  refine r_callB m.sX (big_ok code more) (fun h1 => ?_) (fun h1 => ?_) <;> conv => cbv
  · exact hQ _ (congrArg PV.bool (by first | rfl | omega | (simp [*]; done) | (subst_vars; simp [*]; done)))   -- leaf 1
  · rw [Bool.or_eq_false_iff, decide_eq_false_iff_not, decide_eq_false_iff_not] at h1
    have h : CurIn code := ⟨by omega, hf⟩
    have hmr : (more.length : Int) ≤ 9223372036854775807 := by omega
    refine r_callE m.sX ((drawBacksOf_ok code h).iceE) ?_
    rintro _ ⟨_, ⟨f, ⟨m_A, m_B, m_C, m_D⟩, thick, rfl⟩, rfl⟩
    conv => cbv
    refine r_callF (lbI 1 cInt) m.sX ((BacksOf_ok f (m_A, m_B, m_C, m_D) thick).ice) fun v hb => ?_
    obtain ⟨b, ok⟩ := v
    conv => cbv
    try dsimp only at hb
    refine r_callF (lbI 1 cInt) m.sX ((specBacksOf_ok f (m_A, m_B, m_C, m_D) thick).ice) fun y1 hy1 => ?_
    obtain rfl := hb.trans hy1.symm
    clear hy1
    conv => cbv
    refine r_callF ib m.sX (GreatestCreep_ok f thick) fun v hg => ?_
    obtain ⟨g, one⟩ := v
    conv => cbv
    try dsimp only at hg
    refine r_callF ib m.sX (specGreatestCreep_ok f thick) fun y2 hy2 => ?_
    obtain rfl := hg.trans hy2.symm
    clear hy2
    conv => cbv
    refine r_callF ib m.sX (NarrowestFore_ok f (m_A, m_B, m_C, m_D) thick) fun v hn => ?_
    obtain ⟨n, three⟩ := v
    conv => cbv
    try dsimp only at hn
    refine r_callF ib m.sX (specNarrowestFore_ok f (m_A, m_B, m_C, m_D) thick) fun y3 hy3 => ?_
    obtain rfl := hn.trans hy3.symm
    clear hy3
    conv => cbv
    rcases Bool.eq_false_or_eq_true ok with rfl | rfl <;> conv => cbv
    · obtain ⟨o1, o2, o3, o4⟩ := back_val hb
      dsimp only at o3 o4
      have mn := marg_spec o2
      try dsimp only at mn
      have lb : (b.length : Int) = pgs f := by rw [o4, backL_eq, List.length_map]; exact crpL_len (by have := pgs_bound (thick_spec o1).1; omega)
      refine r_callBT m.sX (sameInts_ok b b) (by first | assumption | exact decide_eq_true rfl | (simp [*]; done) | omega) ?_   -- h2
      conv => cbv
      obtain rfl : one = true := by first | exact (most_ok hg).symm.trans o1 | exact (most_ok hg).symm.trans f1
      conv => cbv
      have gv := most_val hg
      try dsimp only at gv
      have tk := most_ok hg
      try dsimp only at tk
      obtain ⟨t1, t2⟩ := thick_spec tk
      have pb := pgs_bound t1
      try dsimp only at pb
      have mo := most_bound pb.1 pb.2 t2.1 t2.2 (pgs_even f)
      try dsimp only at mo
      refine r_neqF m.sX (by omega) ?_
      conv => cbv
      rcases Bool.eq_false_or_eq_true three with rfl | rfl <;> conv => cbv
      · obtain ⟨f1, f2, f3⟩ := fore_val hn
        dsimp only at f3
        have mm := marg_spec f2
        try dsimp only at mm
        refine r_neqF m.sX (by omega) ?_
        conv => cbv
        refine r_subf m.sX (by omega) (by omega) fun r1 hr1 => ?_
        conv => cbv
        refine r_neqF m.sX (by omega) ?_
        conv => cbv
        refine r_lenR m.sX fun n1 hn1 mn1 => ?_
        conv => cbv
        refine r_loopF (α := Int × Int) m 346 [1, 5, 7, 14, 20, 157, 158, 159] [⟨6, 49, 0, 0, 0⟩] (fun σ => [(1, .isl 1 (rows cU8 more)), (5, .isl 2 (rows cFold f)), (6, .optr 49 0 4 0 0), (7, .int .i64 thick), (14, .int .i64 g), (20, .int .i64 σ.1), (157, .isl 1 (rows cInt b)), (158, .int .i64 n1), (159, .int .i64 σ.2)]) (fun σ => [(49, 0, .box [.int .i64 m_A, .int .i64 m_B, .int .i64 m_C, .int .i64 m_D])])
          (fun σ => (0 ≤ σ.2) ∧ (σ.2 ≤ n1) ∧ (σ.1 = maxL 0 ((crpL (pgs f) thick).take σ.2.toNat))) (fun σ => (n1 - σ.2).toNat) (0, 0) ?_ ?_ ?_ ?_
        · cbv
        · cbv
        · exact ⟨(by (try dsimp only); first | omega | (simp only [List.length_nil]; omega)), (by (try dsimp only); first | omega | (simp only [List.length_nil]; omega)), (by (try dsimp only) <;> (rfl))⟩
        rintro ⟨most, i1⟩ ⟨lo1, hi1, q⟩ E hE F hF
        dsimp only at lo1 hi1 q
        conv => cbv
        refine r_lss m.sX (fun h6 => ?_) (fun h6 => ?_) <;> conv => cbv
        · refine r_index m.sX (by omega) (by omega) fun back hback => ?_
          conv => cbv
          have mback := get_mem hback
          have dback := drop_cons hback
          have kback := take_snoc hback
          have jback : (i1 + 1).toNat = Int.toNat i1 + 1 := by omega
          have vback := nth_some hback
          obtain ⟨k1, k2⟩ := back_at (b := m_B) (p := pgs f) (t := thick) (i := i1.toNat) (by rw [← o4]; exact hback)
          refine r_addf m.sX (by omega) (by omega) fun r2 hr2 => ?_
          conv => cbv
          refine r_callF ib m.sX (CreepOf_ok f thick r2) fun v hcreep => ?_
          obtain ⟨creep, five⟩ := v
          conv => cbv
          try dsimp only at hcreep
          obtain rfl : five = true := by exact (Prod.mk.inj (hcreep.trans (crp_at tk (by omega) (by omega)))).2
          conv => cbv
          obtain ⟨c1, c2, c3, c4⟩ := crp_val hcreep
          have cb := crp_bound c2 c3 pb.2 t2.1 t2.2 (pgs_even f)
          try dsimp only at cb
          have k3 : back = m_B - creep := by rw [k2, c4, show ((Int.toNat i1 : Int) + 1) = r2 by omega]
          refine r_subf m.sX (by omega) (by omega) fun r3 hr3 => ?_
          conv => cbv
          refine r_neqF m.sX (by omega) ?_
          conv => cbv
          refine r_gtr m.sX (fun h8 => ?_) (fun h8 => ?_) <;> conv => cbv
          · refine r_addf m.sX (by omega) (by omega) fun r4 hr4 => ?_
            conv => cbv
            have tr4 : Int.toNat r4 = Int.toNat i1 + 1 := by omega
            refine hE _ (creep, r4) ?_ ?_ ⟨(by (try dsimp only); first | omega | (simp only [List.length_nil]; omega)), (by (try dsimp only); first | omega | (simp only [List.length_nil]; omega)), (by (try dsimp only) <;> (rw [tr4, crp_take k1, maxL_snoc, ← q, show ((Int.toNat i1 : Int) + 1) = r2 by omega, ← c4]; omega))⟩ (by first | omega | (dsimp only; omega))
            · cbv
            · cbv
          · refine r_addf m.sX (by omega) (by omega) fun r5 hr5 => ?_
            conv => cbv
            have tr5 : Int.toNat r5 = Int.toNat i1 + 1 := by omega
            refine hE _ (most, r5) ?_ ?_ ⟨(by (try dsimp only); first | omega | (simp only [List.length_nil]; omega)), (by (try dsimp only); first | omega | (simp only [List.length_nil]; omega)), (by (try dsimp only) <;> (rw [tr5, crp_take k1, maxL_snoc, ← q, show ((Int.toNat i1 : Int) + 1) = r2 by omega, ← c4]; omega))⟩ (by first | omega | (dsimp only; omega))
            · cbv
            · cbv
        · have dz_i1 := drop_end (xs := b) (i := Int.toNat i1) (by omega)
          have tz_i1 := take_end (xs := b) (i := Int.toNat i1) (by omega)
          refine hF _ _ ?_
          conv => cbv
          refine r_neqF m.sX ((by rw [q, List.take_of_length_le (by have := crpL_len (p := pgs f) (t := thick) (by omega); omega), gv]; exact maxL_crp pb.1 pb.2 t2.1 t2.2 (pgs_even f))) ?_
          conv => cbv
          exact hE0 _ () (by cbv) (by cbv) hmr
      · refine r_neqF m.sX (by omega) ?_
        conv => cbv
        refine r_lenR m.sX fun n2 hn2 mn2 => ?_
        conv => cbv
        refine r_loopF (α := Int × Int) m 346 [1, 5, 7, 14, 20, 157, 158, 159] [⟨6, 49, 0, 0, 0⟩] (fun σ => [(1, .isl 1 (rows cU8 more)), (5, .isl 2 (rows cFold f)), (6, .optr 49 0 4 0 0), (7, .int .i64 thick), (14, .int .i64 g), (20, .int .i64 σ.1), (157, .isl 1 (rows cInt b)), (158, .int .i64 n2), (159, .int .i64 σ.2)]) (fun σ => [(49, 0, .box [.int .i64 m_A, .int .i64 m_B, .int .i64 m_C, .int .i64 m_D])])
          (fun σ => (0 ≤ σ.2) ∧ (σ.2 ≤ n2) ∧ (σ.1 = maxL 0 ((crpL (pgs f) thick).take σ.2.toNat))) (fun σ => (n2 - σ.2).toNat) (0, 0) ?_ ?_ ?_ ?_
        · cbv
        · cbv
        · exact ⟨(by (try dsimp only); first | omega | (simp only [List.length_nil]; omega)), (by (try dsimp only); first | omega | (simp only [List.length_nil]; omega)), (by (try dsimp only) <;> (rfl))⟩
        rintro ⟨most_2, i2⟩ ⟨lo2, hi2, q⟩ E hE F hF
        dsimp only at lo2 hi2 q
        conv => cbv
        refine r_lss m.sX (fun h11 => ?_) (fun h11 => ?_) <;> conv => cbv
        · refine r_index m.sX (by omega) (by omega) fun back_2 hback_2 => ?_
          conv => cbv
          have mback_2 := get_mem hback_2
          have dback_2 := drop_cons hback_2
          have kback_2 := take_snoc hback_2
          have jback_2 : (i2 + 1).toNat = Int.toNat i2 + 1 := by omega
          have vback_2 := nth_some hback_2
          obtain ⟨k1, k2⟩ := back_at (b := m_B) (p := pgs f) (t := thick) (i := i2.toNat) (by rw [← o4]; exact hback_2)
          refine r_addf m.sX (by omega) (by omega) fun r6 hr6 => ?_
          conv => cbv
          refine r_callF ib m.sX (CreepOf_ok f thick r6) fun v hcreep_2 => ?_
          obtain ⟨creep_2, five_2⟩ := v
          conv => cbv
          try dsimp only at hcreep_2
          obtain rfl : five_2 = true := by exact (Prod.mk.inj (hcreep_2.trans (crp_at tk (by omega) (by omega)))).2
          conv => cbv
          obtain ⟨c1, c2, c3, c4⟩ := crp_val hcreep_2
          have cb := crp_bound c2 c3 pb.2 t2.1 t2.2 (pgs_even f)
          try dsimp only at cb
          have k3 : back_2 = m_B - creep_2 := by rw [k2, c4, show ((Int.toNat i2 : Int) + 1) = r6 by omega]
          refine r_subf m.sX (by omega) (by omega) fun r7 hr7 => ?_
          conv => cbv
          refine r_neqF m.sX (by omega) ?_
          conv => cbv
          refine r_gtr m.sX (fun h13 => ?_) (fun h13 => ?_) <;> conv => cbv
          · refine r_addf m.sX (by omega) (by omega) fun r8 hr8 => ?_
            conv => cbv
            have tr8 : Int.toNat r8 = Int.toNat i2 + 1 := by omega
            refine hE _ (creep_2, r8) ?_ ?_ ⟨(by (try dsimp only); first | omega | (simp only [List.length_nil]; omega)), (by (try dsimp only); first | omega | (simp only [List.length_nil]; omega)), (by (try dsimp only) <;> (rw [tr8, crp_take k1, maxL_snoc, ← q, show ((Int.toNat i2 : Int) + 1) = r6 by omega, ← c4]; omega))⟩ (by first | omega | (dsimp only; omega))
            · cbv
            · cbv
          · refine r_addf m.sX (by omega) (by omega) fun r9 hr9 => ?_
            conv => cbv
            have tr9 : Int.toNat r9 = Int.toNat i2 + 1 := by omega
            refine hE _ (most_2, r9) ?_ ?_ ⟨(by (try dsimp only); first | omega | (simp only [List.length_nil]; omega)), (by (try dsimp only); first | omega | (simp only [List.length_nil]; omega)), (by (try dsimp only) <;> (rw [tr9, crp_take k1, maxL_snoc, ← q, show ((Int.toNat i2 : Int) + 1) = r6 by omega, ← c4]; omega))⟩ (by first | omega | (dsimp only; omega))
            · cbv
            · cbv
        · have dz_i2 := drop_end (xs := b) (i := Int.toNat i2) (by omega)
          have tz_i2 := take_end (xs := b) (i := Int.toNat i2) (by omega)
          refine hF _ _ ?_
          conv => cbv
          refine r_neqF m.sX ((by rw [q, List.take_of_length_le (by have := crpL_len (p := pgs f) (t := thick) (by omega); omega), gv]; exact maxL_crp pb.1 pb.2 t2.1 t2.2 (pgs_even f))) ?_
          conv => cbv
          exact hE0 _ () (by cbv) (by cbv) hmr
    · refine r_callBT m.sX (sameInts_ok b b) (by first | assumption | exact decide_eq_true rfl | (simp [*]; done) | omega) ?_   -- h15
      conv => cbv
      rcases Bool.eq_false_or_eq_true one with rfl | rfl <;> conv => cbv
      · have gv := most_val hg
        try dsimp only at gv
        have tk := most_ok hg
        try dsimp only at tk
        obtain ⟨t1, t2⟩ := thick_spec tk
        have pb := pgs_bound t1
        try dsimp only at pb
        have mo := most_bound pb.1 pb.2 t2.1 t2.2 (pgs_even f)
        try dsimp only at mo
        refine r_neqF m.sX (by omega) ?_
        conv => cbv
        rcases Bool.eq_false_or_eq_true three with rfl | rfl <;> conv => cbv
        · obtain ⟨f1, f2, f3⟩ := fore_val hn
          dsimp only at f3
          have mm := marg_spec f2
          try dsimp only at mm
          refine r_neqF m.sX (by omega) ?_
          conv => cbv
          refine r_subf m.sX (by omega) (by omega) fun r10 hr10 => ?_
          conv => cbv
          refine r_neqF m.sX (by omega) ?_
          conv => cbv
          exact hE0 _ () (by cbv) (by cbv) hmr
        · refine r_neqF m.sX (by omega) ?_
          conv => cbv
          exact hE0 _ () (by cbv) (by cbv) hmr
      · refine r_neqF m.sX (by omega) ?_
        conv => cbv
        obtain rfl : three = false := by rcases Bool.eq_false_or_eq_true three with e | e; rw [e] at hn; exact absurd ((fore_val hn).1.symm.trans (most_ok hg)) (by simp); exact e
        conv => cbv
        refine r_neqF m.sX (by omega) ?_
        conv => cbv
        exact hE0 _ () (by cbv) (by cbv) hmr

theorem creeps_part2 (m : Mach Try.prog G κ X Y L) (hQ : ∀ r, r = PV.bool true → Q r) (more : List Int) (h : CurIn more) (E0 : St → Prop)
    (hE0 : ∀ (s' : St) (a : Unit), headOk s' [] = true → Ai.norm [1] [] s' = St.at 346 (midCreeps more) [] → True → E0 s') :
    Ai.code X L G (front 5 (rest 11 (Try.f5.body.getD .skip))) (fun e s' => match e with | .normal => E0 s' | .exit i => EndsIn (post G Try.f5.results.toList Q) (.exit i) s' | .ret => EndsIn (post G Try.f5.results.toList Q) .ret s') (St.at 346 (midCreeps more) []) := by
  conv => cbv
  refine r_callE m.sX ((drawSheetFor_ok more h).iceE) ?_
  rintro _ ⟨_, ⟨u, w, h_, trim, rfl⟩, rfl⟩
  conv => cbv
  refine r_callF iib m.sX (SheetFor_ok u w h_ trim) fun v hx => ?_
  obtain ⟨x, y, five⟩ := v
  conv => cbv
  refine r_callF iib m.sX (specSheetFor_ok u w h_ trim) fun y1 hy1 => ?_
  obtain rfl := hx.trans hy1.symm
  clear hy1
  conv => cbv
  rcases Bool.eq_false_or_eq_true five with rfl | rfl <;> conv => cbv
  · have sp := sh_pos hx
    refine r_neqF m.sX (by omega) ?_
    conv => cbv
    refine r_neqF m.sX (by omega) ?_
    conv => cbv
    refine r_leq m.sX (fun h3 => ?_) (fun h3 => ?_) <;> conv => cbv
    · refine r_leq m.sX (fun h4 => ?_) (fun h4 => ?_) <;> conv => cbv
      · refine r_callF bb m.sX (DoesFitSheet_ok u w h_ trim x y) fun v hown => ?_
        obtain ⟨own, seven⟩ := v
        conv => cbv
        refine r_callF bb m.sX (DoesFitSheet_ok u w h_ trim y x) fun v hturned => ?_
        obtain ⟨turned, eight⟩ := v
        conv => cbv
        obtain rfl : seven = true := by exact (Prod.mk.inj (hown.trans (fit_in hx (by omega) (by omega) (by omega) (by omega)))).2
        conv => cbv
        obtain rfl : own = true := by exact (Prod.mk.inj (hown.trans (fit_in hx (by omega) (by omega) (by omega) (by omega)))).1.trans (by simp)
        conv => cbv
        obtain rfl : eight = true := by exact (Prod.mk.inj (hturned.trans (fit_in hx (by omega) (by omega) (by omega) (by omega)))).2
        conv => cbv
        obtain rfl : turned = true := by exact (Prod.mk.inj (hturned.trans (fit_in hx (by omega) (by omega) (by omega) (by omega)))).1.trans (by simp)
        conv => cbv
        exact hE0 _ () (by cbv) (by cbv) trivial
      · exact hE0 _ () (by cbv) (by cbv) trivial
    · exact hE0 _ () (by cbv) (by cbv) trivial
  · refine r_neqF m.sX (by omega) ?_
    conv => cbv
    refine r_neqF m.sX (by omega) ?_
    conv => cbv
    exact hE0 _ () (by cbv) (by cbv) trivial

theorem creeps_part3 (m : Mach Try.prog G κ X Y L) (hQ : ∀ r, r = PV.bool true → Q r) (more : List Int) (h : CurIn more) :
    Ai.code X L G (rest 5 (rest 11 (Try.f5.body.getD .skip))) (EndsIn (post G Try.f5.results.toList Q)) (St.at 346 (midCreeps more) []) := by
  conv => cbv
  refine r_callE m.sX ((drawDoesFitSheet_ok more h).iceE) ?_
  rintro _ ⟨_, ⟨v, a, c, d, sw, sh, rfl⟩, rfl⟩
  conv => cbv
  refine r_callF bb m.sX (DoesFitSheet_ok v a c d sw sh) fun v hk => ?_
  obtain ⟨k, seven⟩ := v
  conv => cbv
  refine r_callF bb m.sX (specDoesFitSheet_ok v a c d sw sh) fun y1 hy1 => ?_
  obtain rfl := hk.trans hy1.symm
  clear hy1
  conv => cbv
  refine r_callE m.sX ((drawCreepOf_ok more h).iceE) ?_
  rintro _ ⟨_, ⟨p, q, page, rfl⟩, rfl⟩
  conv => cbv
  refine r_callF ib m.sX (CreepOf_ok p q page) fun v hr => ?_
  obtain ⟨r, nine⟩ := v
  conv => cbv
  refine r_callF ib m.sX (specCreepOf_ok p q page) fun y2 hy2 => ?_
  obtain rfl := hr.trans hy2.symm
  clear hy2
  conv => cbv
  rcases Bool.eq_false_or_eq_true seven with rfl | rfl <;> conv => cbv
  · rcases Bool.eq_false_or_eq_true k with rfl | rfl <;> conv => cbv
    · rcases Bool.eq_false_or_eq_true nine with rfl | rfl <;> conv => cbv
      · obtain ⟨c1, c2, c3, c4⟩ := crp_val hr
        obtain ⟨t1, t2⟩ := thick_spec c1
        have pb := pgs_bound t1
        have cb := crp_bound c2 c3 pb.2 t2.1 t2.2 (pgs_even _)
        refine r_eqlT m.sX (by omega) ?_
        conv => cbv
        refine r_geqT m.sX (by omega) ?_
        conv => cbv
        exact hQ _ (congrArg PV.bool (by first | rfl | omega | (simp [*]; done) | (subst_vars; simp [*]; done)))   -- leaf 2
      · refine r_eqlT m.sX (by omega) ?_
        conv => cbv
        exact hQ _ (congrArg PV.bool (by first | rfl | omega | (simp [*]; done) | (subst_vars; simp [*]; done)))   -- leaf 3
    · rcases Bool.eq_false_or_eq_true nine with rfl | rfl <;> conv => cbv
      · obtain ⟨c1, c2, c3, c4⟩ := crp_val hr
        obtain ⟨t1, t2⟩ := thick_spec c1
        have pb := pgs_bound t1
        have cb := crp_bound c2 c3 pb.2 t2.1 t2.2 (pgs_even _)
        refine r_eqlT m.sX (by omega) ?_
        conv => cbv
        refine r_geqT m.sX (by omega) ?_
        conv => cbv
        exact hQ _ (congrArg PV.bool (by first | rfl | omega | (simp [*]; done) | (subst_vars; simp [*]; done)))   -- leaf 4
      · refine r_eqlT m.sX (by omega) ?_
        conv => cbv
        exact hQ _ (congrArg PV.bool (by first | rfl | omega | (simp [*]; done) | (subst_vars; simp [*]; done)))   -- leaf 5
  · rcases Bool.eq_false_or_eq_true k with rfl | rfl <;> conv => cbv
    · rcases Bool.eq_false_or_eq_true nine with rfl | rfl <;> conv => cbv
      · obtain ⟨c1, c2, c3, c4⟩ := crp_val hr
        obtain ⟨t1, t2⟩ := thick_spec c1
        have pb := pgs_bound t1
        have cb := crp_bound c2 c3 pb.2 t2.1 t2.2 (pgs_even _)
        refine r_eqlT m.sX (by omega) ?_
        conv => cbv
        refine r_geqT m.sX (by omega) ?_
        conv => cbv
        exact hQ _ (congrArg PV.bool (by first | rfl | omega | (simp [*]; done) | (subst_vars; simp [*]; done)))   -- leaf 6
      · refine r_eqlT m.sX (by omega) ?_
        conv => cbv
        exact hQ _ (congrArg PV.bool (by first | rfl | omega | (simp [*]; done) | (subst_vars; simp [*]; done)))   -- leaf 7
    · rcases Bool.eq_false_or_eq_true nine with rfl | rfl <;> conv => cbv
      · obtain ⟨c1, c2, c3, c4⟩ := crp_val hr
        obtain ⟨t1, t2⟩ := thick_spec c1
        have pb := pgs_bound t1
        have cb := crp_bound c2 c3 pb.2 t2.1 t2.2 (pgs_even _)
        refine r_eqlT m.sX (by omega) ?_
        conv => cbv
        refine r_geqT m.sX (by omega) ?_
        conv => cbv
        exact hQ _ (congrArg PV.bool (by first | rfl | omega | (simp [*]; done) | (subst_vars; simp [*]; done)))   -- leaf 8
      · refine r_eqlT m.sX (by omega) ?_
        conv => cbv
        exact hQ _ (congrArg PV.bool (by first | rfl | omega | (simp [*]; done) | (subst_vars; simp [*]; done)))   -- leaf 9

end

theorem lawCreeps_ok (code more : List Int) (hf : ∀ x ∈ code, 0 ≤ x ∧ x ≤ 255) (hg : ∀ x ∈ more, 0 ≤ x ∧ x ≤ 255) : OkA Try.prog 5 [.isl 1 (rows cU8 code), .isl 1 (rows cU8 more)] (· = .bool true) :=
  fn_introW envOk fieldsOk mixed Try.func5 rfl (c := Try.f5.body.getD .skip) rfl fun κ X Y L Q m hQ =>
    W_cut m 11 346 [1] [] (fun _ : Unit => midCreeps more) (fun _ => []) (fun _ => (more.length : Int) ≤ 9223372036854775807) (creeps_part1 m hQ code more hf) fun _ hl =>
    W_cut m 5 346 [1] [] (fun _ : Unit => midCreeps more) (fun _ => []) (fun _ => True) (creeps_part2 m hQ more ⟨hl, hg⟩) fun _ _ =>
    W_last m (creeps_part3 m hQ more ⟨hl, hg⟩)

end Go.Proofs.Ytnanackogloioaa.Ai
