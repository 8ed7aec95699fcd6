/- The law FnRegister: its body returns true. -/
import Derived.Test.YtkcbhjnkpbeigaaRegDraw
import Derived.Test.YtkcbhjnkpbeigaaAiCut
namespace Go.Proofs.Ytkcbhjnkpbeigaa.Ai
open Go Go.Proofs
set_option maxRecDepth 10000
set_option maxHeartbeats 4000000
set_option linter.unusedVariables false

theorem runs_few {r : List Int} {n : Nat} (h : r = [] ∨ (r.sum = n ∧ ∀ y ∈ r, 1 ≤ y)) : r.length ≤ n := by
  rcases h with rfl | ⟨h1, h2⟩
  · simp
  · have go : ∀ l : List Int, (∀ y ∈ l, 1 ≤ y) → (l.length : Int) ≤ l.sum := by
      intro l
      induction l with
      | nil => intro _; simp
      | cons a t ih =>
        intro hl
        have := ih (fun y hy => hl y (by simp [hy]))
        have := hl a (by simp)
        rw [List.sum_cons, List.length_cons]; omega
    have := go r h2
    omega

noncomputable abbrev midRegister (more : List Int) : List (Nat × PV) := [(1, .isl 1 (rows cU8 more))]

section
variable {κ : Ctx} {X Y : Req → (PV → Prop) → Prop} {L : Code → (Ex → St → Prop) → St → Prop} {Q : PV → Prop}

theorem register_part1 (m : Mach Try.prog G κ X Y L) (hQ : ∀ r, r = PV.bool true → Q r) (code more : List Int) (hf : ∀ x ∈ code, 0 ≤ x ∧ x ≤ 255) (E0 : St → Prop)
    (hE0 : ∀ (s' : St) (a : Unit), headOk s' [] = true → Ai.norm [1] [] s' = St.at 254 (midRegister more) [] → (more.length : Int) ≤ 9223372036854775807 → E0 s') :
    Ai.code X L G (front 7 (Try.f5.body.getD .skip)) (fun e s' => match e with | .normal => E0 s' | .exit i => EndsIn (post G Try.f5.results.toList Q) (.exit i) s' | .ret => EndsIn (post G Try.f5.results.toList Q) .ret s') (start 254 [.isl 1 (rows cU8 code), .isl 1 (rows cU8 more)] []) := by
  conv => cbv
  refine r_lenR m.sX fun n1 hn1 mn1 => ?_
  conv => cbv
  refine r_lenR m.sX fun n2 hn2 mn2 => ?_
  conv => cbv
  refine r_add m.sX fun r1 hr1 => ?_
  conv => cbv
  refine r_gtr m.sX (fun h1 => ?_) (fun h1 => ?_) <;> conv => cbv
  · exact hQ _ (congrArg PV.bool (by first | rfl | omega | (simp [*]; done) | (subst_vars; simp [*]; done)))   -- leaf 1
  · have h : CurIn code := ⟨by omega, hf⟩
    have hmr : (more.length : Int) ≤ 9223372036854775807 := by omega
    refine r_callE m.sX ((drawRegisterShift_ok code h).iceE) ?_
    rintro _ ⟨_, ⟨black, red, most, rfl, bblack_1, bblack_2⟩, rfl⟩
    conv => cbv
    refine r_callF ib m.sX (RegisterShift_ok black red most) fun v hs_ => ?_
    obtain ⟨s_, ok⟩ := v
    conv => cbv
    refine r_callF ib m.sX (specRegisterShift_ok black red most) fun y1 hy1 => ?_
    obtain rfl := hs_.trans hy1.symm
    clear hy1
    conv => cbv
    rcases Bool.eq_false_or_eq_true ok with rfl | rfl <;> conv => cbv
    · have rk := okReg_spec (reg_ok hs_)
      have rl := rk.len
      have rf := rk.few
      have rm := rk.most
      have rv := reg_val hs_
      refine r_neqF m.sX ((by first | omega | assumption | exact decide_eq_true rfl | exact runs_ok hr | (subst_vars; omega))) ?_
      conv => cbv
      refine r_lenR m.sX fun n3 hn3 mn3 => ?_
      conv => cbv
      refine r_loopF (α := Int × Int) m 254 [1, 5, 6, 7, 10, 12, 74, 75, 76] [] (fun σ => [(1, .isl 1 (rows cU8 more)), (5, .isl 1 (rows cInt black)), (6, .isl 1 (rows cInt red)), (7, .int .i64 most), (10, .int .i64 s_), (12, .int .i64 σ.1), (74, .isl 1 (rows cInt black)), (75, .int .i64 n3), (76, .int .i64 σ.2)]) (fun σ => [])
        (fun σ => (0 ≤ σ.2) ∧ (σ.2 ≤ n3) ∧ (apartL black red s_ = σ.1 + apartL (black.drop σ.2.toNat) (red.drop σ.2.toNat) s_) ∧ (0 ≤ σ.1 ∧ σ.1 ≤ 3000 * σ.2)) (fun σ => (n3 - σ.2).toNat) (0, 0) ?_ ?_ ?_ ?_
      · cbv
      · cbv
      · exact ⟨(by (try dsimp only); first | omega | (simp only [List.length_nil]; omega)), (by (try dsimp only); first | omega | (simp only [List.length_nil]; omega)), (by (try dsimp only) <;> (simp)), (by (try dsimp only) <;> first | omega | rfl | (simp [*]; done))⟩
      rintro ⟨own, i1⟩ ⟨lo1, hi1, q, bn⟩ E hE F hF
      dsimp only at lo1 hi1 q bn
      conv => cbv
      refine r_lss m.sX (fun h3 => ?_) (fun h3 => ?_) <;> conv => cbv
      · refine r_index m.sX (by omega) (by omega) fun n hn => ?_
        conv => cbv
        have mn := get_mem hn
        have dn := drop_cons hn
        have kn := take_snoc hn
        have jn : (i1 + 1).toNat = Int.toNat i1 + 1 := by omega
        have vn := nth_some hn
        have ba := rk.xb _ mn
        refine r_index m.sX (by omega) (by omega) fun x1 hx1 => ?_
        conv => cbv
        have mx1 := get_mem hx1
        have dx1 := drop_cons hx1
        have kx1 := take_snoc hx1
        have jx1 : (i1 + 1).toNat = Int.toNat i1 + 1 := by omega
        have vx1 := nth_some hx1
        have bx := rk.xr _ mx1
        refine r_subf m.sX (by omega) (by omega) fun r2 hr2 => ?_
        conv => cbv
        refine r_subf m.sX (by omega) (by omega) fun r3 hr3 => ?_
        conv => cbv
        refine r_callF (PV.int .i64) m.sX (qAway_ok r3 (by first | rfl | assumption | omega | (simp only [List.length_append, List.length_cons, List.length_nil] at *; omega))) fun r4 hr4 => ?_
        conv => cbv
        have b5 : 0 ≤ r4 ∧ r4 ≤ 3000 := by rw [hr4]; exact absI_bound (by omega)
        refine r_addf m.sX (by omega) (by omega) fun own_2 hown_2 => ?_
        conv => cbv
        refine r_addf m.sX (by omega) (by omega) fun r5 hr5 => ?_
        conv => cbv
        try have tr5 : Int.toNat r5 = Int.toNat i1 + 1 := by omega
        refine hE _ (own_2, r5) ?_ ?_ ⟨(by (try dsimp only); first | omega | (simp only [List.length_nil]; omega)), (by (try dsimp only); first | omega | (simp only [List.length_nil]; omega)), (by (try dsimp only) <;> (rw [q, apartL_drop s_ hn hx1, tr5, ← hr2, ← hr3, ← hr4]; omega)), (by (try dsimp only) <;> (omega))⟩ (by first | omega | (dsimp only; omega))
        · cbv
        · cbv
      · have nA : apartL black red s_ = own := by rw [q, apartL_end s_ (.inl (by omega))]; omega
        have dz_i1 := drop_end (xs := black) (i := Int.toNat i1) (by omega)
        have tz_i1 := take_end (xs := black) (i := Int.toNat i1) (by omega)
        refine hF _ _ ?_
        conv => cbv
        refine r_neg m.sX fun r6 hr6 => ?_   -- r6 = wrap (-most)
        have e6 : r6 = -most := by rw [hr6]; exact wrap64 (by omega) (by omega)
        conv => cbv
        refine r_loopF (α := Int) m 254 [1, 5, 6, 7, 10, 12, 15] [] (fun σ => [(1, .isl 1 (rows cU8 more)), (5, .isl 1 (rows cInt black)), (6, .isl 1 (rows cInt red)), (7, .int .i64 most), (10, .int .i64 s_), (12, .int .i64 own), (15, .int .i64 σ)]) (fun σ => [])
          (fun σ => -most ≤ σ ∧ σ ≤ most + 1) (fun σ => (most + 1 - σ).toNat) r6 ?_ ?_ ?_ ?_
        · cbv
        · cbv
        · exact (by (try dsimp only) <;> (omega))
        rintro k kb E hE F hF
        conv => cbv
        refine r_leq m.sX (fun h4 => ?_) (fun h4 => ?_) <;> conv => cbv
        · refine r_lenR m.sX fun n4 hn4 mn4 => ?_
          conv => cbv
          refine r_loopF (α := Int × Int) m 254 [1, 5, 6, 7, 10, 12, 15, 16, 100, 101, 102] [] (fun σ => [(1, .isl 1 (rows cU8 more)), (5, .isl 1 (rows cInt black)), (6, .isl 1 (rows cInt red)), (7, .int .i64 most), (10, .int .i64 s_), (12, .int .i64 own), (15, .int .i64 k), (16, .int .i64 σ.1), (100, .isl 1 (rows cInt black)), (101, .int .i64 n4), (102, .int .i64 σ.2)]) (fun σ => [])
            (fun σ => (0 ≤ σ.2) ∧ (σ.2 ≤ n4) ∧ (apartL black red k = σ.1 + apartL (black.drop σ.2.toNat) (red.drop σ.2.toNat) k) ∧ (0 ≤ σ.1 ∧ σ.1 ≤ 3000 * σ.2)) (fun σ => (n4 - σ.2).toNat) (0, 0) ?_ ?_ ?_ ?_
          · cbv
          · cbv
          · exact ⟨(by (try dsimp only); first | omega | (simp only [List.length_nil]; omega)), (by (try dsimp only); first | omega | (simp only [List.length_nil]; omega)), (by (try dsimp only) <;> (simp)), (by (try dsimp only) <;> first | omega | rfl | (simp [*]; done))⟩
          rintro ⟨other, i2⟩ ⟨lo3, hi3, q3, b3⟩ E2 hE2 F2 hF2
          dsimp only at lo3 hi3 q3 b3
          conv => cbv
          refine r_lss m.sX (fun h5 => ?_) (fun h5 => ?_) <;> conv => cbv
          · refine r_index m.sX (by omega) (by omega) fun n_2 hn_2 => ?_
            conv => cbv
            have mn_2 := get_mem hn_2
            have dn_2 := drop_cons hn_2
            have kn_2 := take_snoc hn_2
            have jn_2 : (i2 + 1).toNat = Int.toNat i2 + 1 := by omega
            have vn_2 := nth_some hn_2
            have ba2 := rk.xb _ mn_2
            refine r_index m.sX (by omega) (by omega) fun x2 hx2 => ?_
            conv => cbv
            have mx2 := get_mem hx2
            have dx2 := drop_cons hx2
            have kx2 := take_snoc hx2
            have jx2 : (i2 + 1).toNat = Int.toNat i2 + 1 := by omega
            have vx2 := nth_some hx2
            have bx2 := rk.xr _ mx2
            refine r_subf m.sX (by omega) (by omega) fun r7 hr7 => ?_
            conv => cbv
            refine r_subf m.sX (by omega) (by omega) fun r8 hr8 => ?_
            conv => cbv
            refine r_callF (PV.int .i64) m.sX (qAway_ok r8 (by first | rfl | assumption | omega | (simp only [List.length_append, List.length_cons, List.length_nil] at *; omega))) fun r9 hr9 => ?_
            conv => cbv
            have b6 : 0 ≤ r9 ∧ r9 ≤ 3000 := by rw [hr9]; exact absI_bound (by omega)
            refine r_addf m.sX (by omega) (by omega) fun other_2 hother_2 => ?_
            conv => cbv
            refine r_addf m.sX (by omega) (by omega) fun r10 hr10 => ?_
            conv => cbv
            try have tr10 : Int.toNat r10 = Int.toNat i2 + 1 := by omega
            refine hE2 _ (other_2, r10) ?_ ?_ ⟨(by (try dsimp only); first | omega | (simp only [List.length_nil]; omega)), (by (try dsimp only); first | omega | (simp only [List.length_nil]; omega)), (by (try dsimp only) <;> (rw [q3, apartL_drop k hn_2 hx2, tr10, ← hr7, ← hr8, ← hr9]; omega)), (by (try dsimp only) <;> (omega))⟩ (by first | omega | (dsimp only; omega))
            · cbv
            · cbv
          · have nB : apartL black red k = other := by rw [q3, apartL_end k (.inl (by omega))]; omega
            have mk_ := rv.2 k (by omega) (by omega)
            have dz_i2 := drop_end (xs := black) (i := Int.toNat i2) (by omega)
            have tz_i2 := take_end (xs := black) (i := Int.toNat i2) (by omega)
            refine hF2 _ _ ?_
            conv => cbv
            refine r_lssF m.sX ((by first | omega | assumption | exact decide_eq_true rfl | exact runs_ok hr | (subst_vars; omega))) ?_
            conv => cbv
            refine r_addf m.sX (by omega) (by omega) fun k_2 hk_2 => ?_
            conv => cbv
            refine hE _ k_2 ?_ ?_ (by (try dsimp only) <;> first | omega | rfl | (simp [*]; done) | (rw [kb]; simp [*]; done)) (by first | omega | (dsimp only; omega))
            · cbv
            · cbv
        · refine hF _ _ ?_
          conv => cbv
          refine r_gtrF m.sX ((by first | omega | assumption | exact decide_eq_true rfl | exact runs_ok hr | (subst_vars; omega))) ?_
          conv => cbv
          refine r_neg m.sX fun r11 hr11 => ?_   -- r11 = wrap (-most)
          have e11 : r11 = -most := by rw [hr11]; exact wrap64 (by omega) (by omega)
          conv => cbv
          refine r_lssF m.sX ((by first | omega | assumption | exact decide_eq_true rfl | exact runs_ok hr | (subst_vars; omega))) ?_
          conv => cbv
          exact hE0 _ () (by cbv) (by cbv) hmr
    · refine r_neqF m.sX ((by first | omega | assumption | exact decide_eq_true rfl | exact runs_ok hr | (subst_vars; omega))) ?_
      conv => cbv
      exact hE0 _ () (by cbv) (by cbv) hmr

theorem register_part2 (m : Mach Try.prog G κ X Y L) (hQ : ∀ r, r = PV.bool true → Q r) (more : List Int) (h : CurIn more) (E0 : St → Prop)
    (hE0 : ∀ (s' : St) (a : Unit), headOk s' [] = true → Ai.norm [1] [] s' = St.at 254 (midRegister more) [] → True → E0 s') :
    Ai.code X L G (front 5 (rest 7 (Try.f5.body.getD .skip))) (fun e s' => match e with | .normal => E0 s' | .exit i => EndsIn (post G Try.f5.results.toList Q) (.exit i) s' | .ret => EndsIn (post G Try.f5.results.toList Q) .ret s') (St.at 254 (midRegister more) []) := by
  conv => cbv
  refine r_callE m.sX ((drawBlankUnits_ok more h).iceE) ?_
  rintro _ ⟨_, ⟨f, ⟨xA, xB⟩, ink, rfl, bf_1⟩, rfl⟩
  conv => cbv
  refine r_callF ib m.sX (BlankUnits_ok f (xA, xB) ink) fun v hb => ?_
  obtain ⟨b, one⟩ := v
  conv => cbv
  try dsimp only at hb
  refine r_callF ib m.sX (specBlankUnits_ok f (xA, xB) ink) fun y1 hy1 => ?_
  obtain rfl := hb.trans hy1.symm
  clear hy1
  conv => cbv
  rcases Bool.eq_false_or_eq_true one with rfl | rfl <;> conv => cbv
  · have bo := blank_ok hb
    try dsimp only at bo
    have xo := okInked_spec bo.2.1
    try dsimp only at xo
    have fo := okFont_sets bo.1
    try dsimp only at fo
    have sb := sumS_bound fo.1 xA
    try dsimp only at sb
    have fe := xo.few
    try dsimp only at fe
    obtain ⟨n0, m0, e1, e2, e3⟩ := blank_two bo.1 bo.2.1 bo.2.2.2
    dsimp only at e3
    refine r_neqF m.sX ((by first | omega | assumption | exact decide_eq_true rfl | exact runs_ok hr | (subst_vars; omega))) ?_
    conv => cbv
    refine r_callF ib m.sX (BlankUnits_ok f (xA, xB) ([98] : List UInt8)) fun v hfirst => ?_
    obtain ⟨first, three⟩ := v
    conv => cbv
    try dsimp only at hfirst
    have f1 := (Prod.mk.inj (hfirst.trans e1)).1
    try dsimp only at f1
    refine r_callF ib m.sX (BlankUnits_ok f (xA, xB) ([114] : List UInt8)) fun v hsecond => ?_
    obtain ⟨second, four⟩ := v
    conv => cbv
    try dsimp only at hsecond
    have f2 := (Prod.mk.inj (hsecond.trans e2)).1
    try dsimp only at f2
    refine r_loopF (α := Int × Nat) m 254 [1, 19, 26, 27, 28, 29, 30] [⟨20, 161, 0, 0, 0⟩, ⟨174, 1393, 0, 0, 0⟩] (fun σ => [(1, .isl 1 (rows cU8 more)), (19, .isl 2 (rows cSort f)), (20, .optr 161 0 2 0 0), (26, .int .i64 first), (27, .bool three), (28, .int .i64 second), (29, .bool four), (30, .int .i64 σ.1), (174, .optr 1393 0 0 0 0)]) (fun σ => [(161, 0, .box [.str xA, .str xB]), (1393, 0, .iter xA σ.2)])
      (fun σ => (σ.2 ≤ xA.length) ∧ (σ.1 = sumS f (xA.take σ.2)) ∧ (0 ≤ σ.1 ∧ σ.1 ≤ 54 * (σ.2 : Int))) (fun σ => xA.length - σ.2) (0, 0) ?_ ?_ ?_ ?_
    · cbv
    · cbv
    · exact ⟨(by (try dsimp only); first | omega | (simp only [List.length_nil]; omega)), (by (try dsimp only) <;> (simp [sumS])), (by (try dsimp only) <;> (omega))⟩
    rintro ⟨sum, p1⟩ ⟨lp4, q, bs⟩ E hE F hF
    dsimp only at lp4 q bs
    conv => cbv
    refine r_snext (u := xA) (p := p1) m.sX (fun hp1 => ?_) (fun x1 hx1 => ⟨by exact plain_low xo.plain hx1, fun i1 c1 hi1 hc1 => ?_⟩) <;> conv => cbv
    · have dz_p1 := drop_end (xs := xA) (i := p1) (by omega)
      have tz_p1 := take_end (xs := xA) (i := p1) (by omega)
      rw [tz_p1] at q
      refine hF _ _ ?_
      conv => cbv
      obtain rfl : three = true := by exact (Prod.mk.inj (hfirst.trans e1)).2
      conv => cbv
      obtain rfl : four = true := by exact (Prod.mk.inj (hsecond.trans e2)).2
      conv => cbv
      refine r_addf m.sX (by omega) (by omega) fun r1 hr1 => ?_
      conv => cbv
      refine r_neqF m.sX ((by first | omega | assumption | exact decide_eq_true rfl | exact runs_ok hr | (subst_vars; omega))) ?_
      conv => cbv
      exact hE0 _ () (by cbv) (by cbv) trivial
    · have ltx1 := (List.getElem?_eq_some_iff.1 hx1).1
      have ti1 : Int.toNat i1 = p1 := by omega
      have gx1 : xA[Int.toNat i1]? = some x1 := by rw [ti1]; exact hx1
      have dx1 := drop_cons hx1
      have kx1 := take_snoc hx1
      have mx1 := get_mem hx1
      have bc1 : 0 ≤ c1 ∧ c1 ≤ 255 := by have := x1.toNat_lt; omega
      have hx1_g := gx1
      refine r_sidx (u := xA) (i := i1) m.sX (by omega) (by first | omega | (simp only [List.length_cons, List.length_nil]; omega) | (simp; omega)) fun x2 hx2 c2 hc2 bc2 => ?_   -- x2 = xA[i1]
      obtain rfl := Option.some.inj (hx1_g.symm.trans hx2)
      obtain rfl := hc1.trans hc2.symm
      conv => cbv
      refine r_eql m.sX (fun h3 => ?_) (fun h3 => ?_) <;> conv => cbv
      · refine hE _ (sum, p1 + 1) ?_ ?_ ⟨(by (try dsimp only); first | omega | (simp only [List.length_nil]; omega)), (by (try dsimp only) <;> (first | (rw [sumS_take hx1, if_pos (by omega)]; omega) | (rw [sumS_take hx1, if_neg (by omega)]; omega))), (by (try dsimp only) <;> (omega))⟩ (by first | omega | (dsimp only; omega))
        · cbv
        · cbv
      · refine r_addf m.sX (by omega) (by omega) fun r2 hr2 => ?_
        conv => cbv
        refine r_sslice (u := xA) (i := i1) (j := r2) m.sX (by omega) (by omega) (by first | omega | (simp only [List.length_cons, List.length_nil]; omega) | (simp; omega)) fun s1 hs1 => ?_   -- s1 = xA[i1:r2]
        have ls1 : (s1.length : Int) = r2 - i1 := by rw [hs1]; first | done | (simp; done) | (simp; omega)
        try have ws1 := slice_one hx1_g (by omega) (by omega) hs1
        conv => cbv
        refine r_callF ib m.sX (SetOfCode_ok f s1) fun v hn => ?_
        obtain ⟨n, five⟩ := v
        conv => cbv
        try dsimp only at hn
        have sa := setA_at bo.1 bo.2.2.2 (List.mem_of_getElem? hx1) (by omega) ws1
        try dsimp only at sa
        have nv := (Prod.mk.inj (hn.trans sa)).1
        try dsimp only at nv
        have nb := setAt_bound fo.1 (idxF [x1] f 0)
        try dsimp only at nb
        obtain rfl : five = true := by exact (Prod.mk.inj (hn.trans sa)).2
        conv => cbv
        refine r_addf m.sX (by omega) (by omega) fun sum_2 hsum_2 => ?_
        conv => cbv
        refine hE _ (sum_2, p1 + 1) ?_ ?_ ⟨(by (try dsimp only); first | omega | (simp only [List.length_nil]; omega)), (by (try dsimp only) <;> (first | (rw [sumS_take hx1, if_pos (by omega)]; omega) | (rw [sumS_take hx1, if_neg (by omega)]; omega))), (by (try dsimp only) <;> (omega))⟩ (by first | omega | (dsimp only; omega))
        · cbv
        · cbv
  · refine r_neqF m.sX ((by first | omega | assumption | exact decide_eq_true rfl | exact runs_ok hr | (subst_vars; omega))) ?_
    conv => cbv
    exact hE0 _ () (by cbv) (by cbv) trivial

theorem register_part3 (m : Mach Try.prog G κ X Y L) (hQ : ∀ r, r = PV.bool true → Q r) (more : List Int) (h : CurIn more) :
    Ai.code X L G (rest 5 (rest 7 (Try.f5.body.getD .skip))) (EndsIn (post G Try.f5.results.toList Q)) (St.at 254 (midRegister more) []) := by
  conv => cbv
  refine r_callE m.sX (drawInkRuns_ok more h) ?_
  rintro _ ⟨⟨yA, yB⟩, rfl, by_1⟩
  conv => cbv
  refine r_callF (lbI 1 cInt) m.sX ((InkRuns_ok (yA, yB)).ice) fun v hr => ?_
  obtain ⟨r, three⟩ := v
  conv => cbv
  try dsimp only at hr
  refine r_callF (lbI 1 cInt) m.sX ((specInkRuns_ok (yA, yB)).ice) fun y1 hy1 => ?_
  obtain rfl := hr.trans hy1.symm
  clear hy1
  conv => cbv
  rcases Bool.eq_false_or_eq_true three with rfl | rfl <;> conv => cbv
  · have ro := runs_val hr
    try dsimp only at ro
    have rl := runs_few ro.2
    try dsimp only at rl
    dsimp only at by_1
    refine r_callBT m.sX (qInts_ok r r) (by first | omega | assumption | exact decide_eq_true rfl | exact runs_ok hr | (subst_vars; omega)) ?_   -- h1
    conv => cbv
    refine r_callBT m.sX (IsInked_ok (yA, yB)) (by first | omega | assumption | exact decide_eq_true rfl | exact runs_ok hr | (subst_vars; omega)) ?_   -- h2
    conv => cbv
    refine r_draw m (by kernel_rfl) ?_
    conv => cbv
    refine r_lenRS m.sY (by omega) fun n1 hn1 => ?_
    conv => cbv
    refine r_eql m.sY (fun h3 => ?_) (fun h3 => ?_) <;> conv => cbv
    · exact hQ _ (congrArg PV.bool (by first | rfl | omega | (simp [*]; done) | (subst_vars; simp [*]; done)))   -- leaf 2
    · have sf : SumFits r := runs_fits ro.2 (by omega)
      refine r_callFS (PV.int .i64) m.sY (qSum_ok r (by first | rfl | assumption | omega | (simp only [List.length_append, List.length_cons, List.length_nil] at *; omega))) trivial fun r1 hr1 => ?_
      conv => cbv
      try dsimp only at hr1
      refine r_slenS (u := yA) m.sY (by omega) fun n2 hn2 => ?_   -- n2 = length of yA
      conv => cbv
      refine r_eqlT m.sY ((by rcases ro.2 with e | e; (exfalso; rw [e] at hn1; simp at hn1; omega); (have := e.1; omega))) ?_
      conv => cbv
      exact hQ _ (congrArg PV.bool (by first | rfl | omega | (simp [*]; done) | (subst_vars; simp [*]; done)))   -- leaf 3
  · refine r_callBT m.sX (qInts_ok r r) (by first | omega | assumption | exact decide_eq_true rfl | exact runs_ok hr | (subst_vars; omega)) ?_   -- h5
    conv => cbv
    refine r_callBF m.sX (IsInked_ok (yA, yB)) (by first | omega | assumption | exact decide_eq_true rfl | exact runs_ok hr | (subst_vars; omega)) ?_   -- h6
    conv => cbv
    refine r_draw m (by kernel_rfl) ?_
    conv => cbv
    exact hQ _ (congrArg PV.bool (by first | rfl | omega | (simp [*]; done) | (subst_vars; simp [*]; done)))   -- leaf 4

end

theorem lawRegister_ok (code more : List Int) (hf : ∀ x ∈ code, 0 ≤ x ∧ x ≤ 255) (hg : ∀ x ∈ more, 0 ≤ x ∧ x ≤ 255) : OkA Try.prog 5 [.isl 1 (rows cU8 code), .isl 1 (rows cU8 more)] (· = .bool true) :=
  fn_introW envOk fieldsOk mixed Try.func5 rfl (c := Try.f5.body.getD .skip) rfl fun κ X Y L Q m hQ =>
    W_cut m 7 254 [1] [] (fun _ : Unit => midRegister more) (fun _ => []) (fun _ => (more.length : Int) ≤ 9223372036854775807) (register_part1 m hQ code more hf) fun _ hl =>
    W_cut m 5 254 [1] [] (fun _ : Unit => midRegister more) (fun _ => []) (fun _ => True) (register_part2 m hQ more ⟨hl, hg⟩) fun _ _ =>
    W_last m (register_part3 m hQ more ⟨hl, hg⟩)

end Go.Proofs.Ytkcbhjnkpbeigaa.Ai
