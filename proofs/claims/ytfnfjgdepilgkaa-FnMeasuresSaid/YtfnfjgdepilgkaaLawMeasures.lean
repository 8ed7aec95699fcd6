/- The law FnMeasures: its body returns true. -/
import Derived.Test.YtfnfjgdepilgkaaMeasDraw
import Derived.Test.YtfnfjgdepilgkaaAiCut
namespace Go.Proofs.Ytfnfjgdepilgkaa.Ai
open Go Go.Proofs
set_option maxRecDepth 10000
set_option maxHeartbeats 4000000
set_option linter.unusedVariables false

theorem SpacesForA_ok (f : List FSort) (words : List (List UInt8)) (r : JRule) (measure : Int) (hq : words.length ≤ 1000) : OkA Try.prog 58 [.isl 2 (rows cSort f), .isl 1 (rows cStr words), .agg (cRule r), .int .i64 measure] (· = (lb 3 1 cInt) (spA f words r measure)) := by
  rw [← sp_eq]; exact SpacesFor_ok f words r measure hq
theorem slice_take {α : Type} {s zs : List α} {j : Nat} (hz : zs = (s.take j).drop (Int.toNat 0)) : zs = s.take j := hz

noncomputable abbrev midMeasures (more : List Int) : List (Nat × PV) := [(1, .isl 1 (rows cU8 more))]

section
variable {κ : Ctx} {X Y : Req → (PV → Prop) → Prop} {L : Code → (Ex → St → Prop) → St → Prop} {Q : PV → Prop}

theorem measures_part1 (m : Mach Try.prog G κ X Y L) (hQ : ∀ r, r = PV.bool true → Q r) (code more : List Int) (hf : ∀ x ∈ code, 0 ≤ x ∧ x ≤ 255) (E0 : St → Prop)
    (hE0 : ∀ (s' : St) (σ : List Int × Int × Int × Int × Int × Bool × Int), headOk s' [⟨6, 49, 0, 0, 0⟩] = true → Ai.norm [1, 5, 7, 9, 10] [⟨6, 49, 0, 0, 0⟩] s' = St.at 271 [(1, .isl 1 (rows cU8 more)), (5, .isl 1 (rows cInt σ.1)), (6, .optr 49 0 3 0 0), (7, .int .i64 σ.2.2.2.2.1), (9, .bool σ.2.2.2.2.2.1), (10, .int .i64 σ.2.2.2.2.2.2)] [(49, 0, .box [.int .i64 σ.2.1, .int .i64 σ.2.2.1, .int .i64 σ.2.2.2.1])] → ((more.length : Int) ≤ 9223372036854775807 ∧ (((σ.2.2.2.2.2.2, σ.2.2.2.2.2.1) = fitA σ.1 (σ.2.1, σ.2.2.1, σ.2.2.2.1) σ.2.2.2.2.1) ∧ ((σ.1.length : Int) ≤ 61))) → E0 s') :
    Ai.code X L G (front 6 (Try.f6.body.getD .skip)) (fun e s' => match e with | .normal => E0 s' | .exit i => EndsIn (post G Try.f6.results.toList Q) (.exit i) s' | .ret => EndsIn (post G Try.f6.results.toList Q) .ret s') (start 271 [.isl 1 (rows cU8 code), .isl 1 (rows cU8 more)] []) := by
  conv => cbv
  refine r_lenR m.sX fun n1 hn1 mn1 => ?_
  conv => cbv
  refine r_lenR m.sX fun n2 hn2 mn2 => ?_
  conv => cbv
  refine r_add m.sX fun r1 hr1 => ?_
  conv => cbv
  refine r_gtr m.sX (fun h1 => ?_) (fun h1 => ?_) <;> conv => cbv
  · exact hQ _ (congrArg PV.bool (by first | rfl | omega | (simp [*]; done) | (subst_vars; simp [*]; done)))   -- leaf 1
  · have h : CurIn code := ⟨by omega, hf⟩
    have hmr : (more.length : Int) ≤ 9223372036854775807 := by omega
    refine r_callE m.sX ((drawWordsThatFit_ok code h).iceE) ?_
    rintro _ ⟨_, ⟨words, ⟨rA, rB, rC⟩, measure, rfl, bwords_1⟩, rfl⟩
    conv => cbv
    refine r_callF ib m.sX (WordsThatFit_ok words (rA, rB, rC) measure) fun v hn => ?_
    obtain ⟨n, ok⟩ := v
    conv => cbv
    try dsimp only at hn
    refine r_callF ib m.sX (specWordsThatFit_ok words (rA, rB, rC) measure) fun y1 hy1 => ?_
    obtain rfl := hn.trans hy1.symm
    clear hy1
    conv => cbv
    rcases Bool.eq_false_or_eq_true ok with rfl | rfl <;> conv => cbv
    · refine r_neqF m.sX ((by first | omega | assumption | exact decide_eq_true rfl | (subst_vars; omega))) ?_
      conv => cbv
      exact hE0 _ (words, rA, rB, rC, measure, true, n) (by cbv) (by cbv) ⟨hmr, ⟨(by (try dsimp only) <;> (first | assumption | omega | (simp [*]; done))), (by (try dsimp only) <;> (first | assumption | omega | (simp [*]; done)))⟩⟩
    · refine r_neqF m.sX ((by first | omega | assumption | exact decide_eq_true rfl | (subst_vars; omega))) ?_
      conv => cbv
      exact hE0 _ (words, rA, rB, rC, measure, false, n) (by cbv) (by cbv) ⟨hmr, ⟨(by (try dsimp only) <;> (first | assumption | omega | (simp [*]; done))), (by (try dsimp only) <;> (first | assumption | omega | (simp [*]; done)))⟩⟩

theorem measures_part2 (m : Mach Try.prog G κ X Y L) (hQ : ∀ r, r = PV.bool true → Q r) (more : List Int) (h : CurIn more) (words : List Int) (rA : Int) (rB : Int) (rC : Int) (measure : Int) (ok : Bool) (fit : Int) (cf : (fit, ok) = fitA words (rA, rB, rC) measure) (bw : (words.length : Int) ≤ 61) (E0 : St → Prop)
    (hE0 : ∀ (s' : St) (σ : Unit), headOk s' [] = true → Ai.norm [1] [] s' = St.at 271 [(1, .isl 1 (rows cU8 more))] [] → (True ∧ ((True))) → E0 s') :
    Ai.code X L G (front 1 (rest 6 (Try.f6.body.getD .skip))) (fun e s' => match e with | .normal => E0 s' | .exit i => EndsIn (post G Try.f6.results.toList Q) (.exit i) s' | .ret => EndsIn (post G Try.f6.results.toList Q) .ret s') (St.at 271 [(1, .isl 1 (rows cU8 more)), (5, .isl 1 (rows cInt words)), (6, .optr 49 0 3 0 0), (7, .int .i64 measure), (9, .bool ok), (10, .int .i64 fit)] [(49, 0, .box [.int .i64 rA, .int .i64 rB, .int .i64 rC])]) := by
  conv => cbv
  rcases Bool.eq_false_or_eq_true ok with rfl | rfl <;> conv => cbv
  · obtain ⟨ff, ef, fl, fj, flo, fhi⟩ := fit_facts cf
    refine r_gtr m.sX (fun h1 => ?_) (fun h1 => ?_) <;> conv => cbv
    · obtain ⟨lo1, hi1, e1, e2⟩ := flo (by omega)
      refine r_draw m (by kernel_rfl) ?_
      conv => cbv
      refine r_islice (i := 0) (j := fit) m.sY (by omega) (by omega) (by omega) fun zs1 hzs1 => ?_   -- zs1 = words[None:fit]
      have lzs1 : (zs1.length : Int) = fit - 0 := by rw [hzs1]; first | done | (simp; done) | (simp; omega)
      have z1 : zs1 = words.take ff := (by rw [slice_take hzs1, ef]; rfl)
      have q1 : boundAns zs1 (rA, rB, rC) = (lo1, hi1, true) := (by rw [z1]; exact e1)
      conv => cbv
      refine r_callFS iib m.sY (WidthBounds_ok zs1 (rA, rB, rC)) (by first | trivial | exact noFr_tup2 trivial trivial | exact noFr_tup3 trivial trivial trivial) fun v hlow => ?_
      obtain ⟨low, v1, one⟩ := v
      conv => cbv
      try dsimp only at hlow
      obtain rfl : one = true := by exact (congrArg (fun z => z.2.2) (hlow.trans q1))
      conv => cbv
      refine r_gtrF m.sX ((by have z := congrArg (fun z => z.1) (hlow.trans q1); dsimp only at z; omega)) ?_
      conv => cbv
      refine r_lenR m.sX fun n1 hn1 mn1 => ?_
      conv => cbv
      refine r_lss m.sX (fun h3 => ?_) (fun h3 => ?_) <;> conv => cbv
      · obtain ⟨lo2, hi2, e3, e4⟩ := fhi (by omega)
        refine r_draw m (by kernel_rfl) ?_
        conv => cbv
        refine r_addf m.sY (by omega) (by omega) fun r1 hr1 => ?_
        conv => cbv
        refine r_islice (i := 0) (j := r1) m.sY (by omega) (by omega) (by omega) fun zs2 hzs2 => ?_   -- zs2 = words[None:r1]
        have lzs2 : (zs2.length : Int) = r1 - 0 := by rw [hzs2]; first | done | (simp; done) | (simp; omega)
        have z2 : zs2 = words.take (ff + 1) := (by rw [slice_take hzs2, show r1.toNat = ff + 1 by omega])
        have q2 : boundAns zs2 (rA, rB, rC) = (lo2, hi2, true) := (by rw [z2]; exact e3)
        conv => cbv
        refine r_callFS iib m.sY (WidthBounds_ok zs2 (rA, rB, rC)) (by first | trivial | exact noFr_tup2 trivial trivial | exact noFr_tup3 trivial trivial trivial) fun v hlow_2 => ?_
        obtain ⟨low_2, v2, one_2⟩ := v
        conv => cbv
        try dsimp only at hlow_2
        obtain rfl : one_2 = true := by exact (congrArg (fun z => z.2.2) (hlow_2.trans q2))
        conv => cbv
        refine r_leqF m.sX ((by have z := congrArg (fun z => z.1) (hlow_2.trans q2); dsimp only at z; omega)) ?_
        conv => cbv
        exact hE0 _ () (by cbv) (by cbv) ⟨trivial, (by (try dsimp only) <;> (first | assumption | omega | (simp [*]; done)))⟩
      · exact hE0 _ () (by cbv) (by cbv) ⟨trivial, (by (try dsimp only) <;> (first | assumption | omega | (simp [*]; done)))⟩
    · refine r_lenR m.sX fun n2 hn2 mn2 => ?_
      conv => cbv
      refine r_lss m.sX (fun h5 => ?_) (fun h5 => ?_) <;> conv => cbv
      · obtain ⟨lo2, hi2, e3, e4⟩ := fhi (by omega)
        refine r_draw m (by kernel_rfl) ?_
        conv => cbv
        refine r_addf m.sY (by omega) (by omega) fun r2 hr2 => ?_
        conv => cbv
        refine r_islice (i := 0) (j := r2) m.sY (by omega) (by omega) (by omega) fun zs3 hzs3 => ?_   -- zs3 = words[None:r2]
        have lzs3 : (zs3.length : Int) = r2 - 0 := by rw [hzs3]; first | done | (simp; done) | (simp; omega)
        have z2 : zs3 = words.take (ff + 1) := (by rw [slice_take hzs3, show r2.toNat = ff + 1 by omega])
        have q2 : boundAns zs3 (rA, rB, rC) = (lo2, hi2, true) := (by rw [z2]; exact e3)
        conv => cbv
        refine r_callFS iib m.sY (WidthBounds_ok zs3 (rA, rB, rC)) (by first | trivial | exact noFr_tup2 trivial trivial | exact noFr_tup3 trivial trivial trivial) fun v hlow_3 => ?_
        obtain ⟨low_3, v3, one_3⟩ := v
        conv => cbv
        try dsimp only at hlow_3
        obtain rfl : one_3 = true := by exact (congrArg (fun z => z.2.2) (hlow_3.trans q2))
        conv => cbv
        refine r_leqF m.sX ((by have z := congrArg (fun z => z.1) (hlow_3.trans q2); dsimp only at z; omega)) ?_
        conv => cbv
        exact hE0 _ () (by cbv) (by cbv) ⟨trivial, (by (try dsimp only) <;> (first | assumption | omega | (simp [*]; done)))⟩
      · exact hE0 _ () (by cbv) (by cbv) ⟨trivial, (by (try dsimp only) <;> (first | assumption | omega | (simp [*]; done)))⟩
  · exact hE0 _ () (by cbv) (by cbv) ⟨trivial, (by (try dsimp only) <;> (first | assumption | omega | (simp [*]; done)))⟩

theorem measures_part3 (m : Mach Try.prog G κ X Y L) (hQ : ∀ r, r = PV.bool true → Q r) (more : List Int) (h : CurIn more) (x1 : True) (E0 : St → Prop)
    (hE0 : ∀ (s' : St) (σ : List Int × Int × Int × Int × Int × Int × Bool × Int), headOk s' [⟨19, 153, 0, 0, 0⟩] = true → Ai.norm [1, 18, 20, 21, 23, 24] [⟨19, 153, 0, 0, 0⟩] s' = St.at 271 [(1, .isl 1 (rows cU8 more)), (18, .isl 1 (rows cInt σ.1)), (19, .optr 153 0 3 0 0), (20, .int .i64 σ.2.2.2.2.1), (21, .int .i64 σ.2.2.2.2.2.1), (23, .bool σ.2.2.2.2.2.2.1), (24, .int .i64 σ.2.2.2.2.2.2.2)] [(153, 0, .box [.int .i64 σ.2.1, .int .i64 σ.2.2.1, .int .i64 σ.2.2.2.1])] → (True ∧ (((σ.2.2.2.2.2.2.2, σ.2.2.2.2.2.2.1) = bmA σ.1 (σ.2.1, σ.2.2.1, σ.2.2.2.1) σ.2.2.2.2.1 σ.2.2.2.2.2.1))) → E0 s') :
    Ai.code X L G (front 4 (rest 1 (rest 6 (Try.f6.body.getD .skip)))) (fun e s' => match e with | .normal => E0 s' | .exit i => EndsIn (post G Try.f6.results.toList Q) (.exit i) s' | .ret => EndsIn (post G Try.f6.results.toList Q) .ret s') (St.at 271 [(1, .isl 1 (rows cU8 more))] []) := by
  conv => cbv
  refine r_callE m.sX ((drawBestMeasure_ok more h).iceE) ?_
  rintro _ ⟨_, ⟨l, ⟨uA, uB, uC⟩, from_, to_, rfl, bl_1⟩, rfl⟩
  conv => cbv
  refine r_callF ib m.sX (BestMeasure_ok l (uA, uB, uC) from_ to_) fun v hb => ?_
  obtain ⟨b, one⟩ := v
  conv => cbv
  try dsimp only at hb
  refine r_callF ib m.sX (specBestMeasure_ok l (uA, uB, uC) from_ to_) fun y1 hy1 => ?_
  obtain rfl := hb.trans hy1.symm
  clear hy1
  conv => cbv
  rcases Bool.eq_false_or_eq_true one with rfl | rfl <;> conv => cbv
  · refine r_neqF m.sX ((by first | omega | assumption | exact decide_eq_true rfl | (subst_vars; omega))) ?_
    conv => cbv
    exact hE0 _ (l, uA, uB, uC, from_, to_, true, b) (by cbv) (by cbv) ⟨trivial, (by (try dsimp only) <;> (first | assumption | omega | (simp [*]; done)))⟩
  · refine r_neqF m.sX ((by first | omega | assumption | exact decide_eq_true rfl | (subst_vars; omega))) ?_
    conv => cbv
    exact hE0 _ (l, uA, uB, uC, from_, to_, false, b) (by cbv) (by cbv) ⟨trivial, (by (try dsimp only) <;> (first | assumption | omega | (simp [*]; done)))⟩

theorem measures_part4 (m : Mach Try.prog G κ X Y L) (hQ : ∀ r, r = PV.bool true → Q r) (more : List Int) (h : CurIn more) (l : List Int) (uA : Int) (uB : Int) (uC : Int) (from_ : Int) (to_ : Int) (one : Bool) (best : Int) (cb : (best, one) = bmA l (uA, uB, uC) from_ to_) (E0 : St → Prop)
    (hE0 : ∀ (s' : St) (σ : Unit), headOk s' [] = true → Ai.norm [1] [] s' = St.at 271 [(1, .isl 1 (rows cU8 more))] [] → (True ∧ ((True))) → E0 s') :
    Ai.code X L G (front 1 (rest 4 (rest 1 (rest 6 (Try.f6.body.getD .skip))))) (fun e s' => match e with | .normal => E0 s' | .exit i => EndsIn (post G Try.f6.results.toList Q) (.exit i) s' | .ret => EndsIn (post G Try.f6.results.toList Q) .ret s') (St.at 271 [(1, .isl 1 (rows cU8 more)), (18, .isl 1 (rows cInt l)), (19, .optr 153 0 3 0 0), (20, .int .i64 from_), (21, .int .i64 to_), (23, .bool one), (24, .int .i64 best)] [(153, 0, .box [.int .i64 uA, .int .i64 uB, .int .i64 uC])]) := by
  conv => cbv
  rcases Bool.eq_false_or_eq_true one with rfl | rfl <;> conv => cbv
  · obtain ⟨bj, b2, b3, b4, b5, b6⟩ := bm_facts cb
    have bj1 := inB_spec bj.meas
    try dsimp only at bj1
    refine r_callF ib m.sX (CostOfLine_ok l (uA, uB, uC) best) fun v hcost => ?_
    obtain ⟨cost, three⟩ := v
    conv => cbv
    try dsimp only at hcost
    have ce := (Prod.mk.inj (hcost.trans b5)).1
    try dsimp only at ce
    obtain rfl : three = true := by exact (Prod.mk.inj (hcost.trans b5)).2
    conv => cbv
    refine r_lssF m.sX ((by first | omega | assumption | exact decide_eq_true rfl | (subst_vars; omega))) ?_
    conv => cbv
    refine r_gtrF m.sX ((by first | omega | assumption | exact decide_eq_true rfl | (subst_vars; omega))) ?_
    conv => cbv
    refine r_loopF (α := Int) m 271 [1, 18, 20, 21, 24, 26, 28] [⟨19, 153, 0, 0, 0⟩] (fun σ => [(1, .isl 1 (rows cU8 more)), (18, .isl 1 (rows cInt l)), (19, .optr 153 0 3 0 0), (20, .int .i64 from_), (21, .int .i64 to_), (24, .int .i64 best), (26, .int .i64 cost), (28, .int .i64 σ)]) (fun σ => [(153, 0, .box [.int .i64 uA, .int .i64 uB, .int .i64 uC])])
      (fun σ => from_ ≤ σ ∧ σ ≤ to_ + 1) (fun σ => (to_ + 1 - σ).toNat) from_ ?_ ?_ ?_ ?_
    · cbv
    · cbv
    · exact (by (try dsimp only) <;> (omega))
    rintro m_ mb E hE F hF
    conv => cbv
    refine r_leq m.sX (fun h3 => ?_) (fun h3 => ?_) <;> conv => cbv
    · refine r_addf m.sX (by omega) (by omega) fun r1 hr1 => ?_
      conv => cbv
      refine r_lss m.sX (fun h4 => ?_) (fun h4 => ?_) <;> conv => cbv
      · refine r_callF ib m.sX (CostOfLine_ok l (uA, uB, uC) m_) fun v hother => ?_
        obtain ⟨other, four⟩ := v
        conv => cbv
        try dsimp only at hother
        rcases Bool.eq_false_or_eq_true four with rfl | rfl <;> conv => cbv
        · have bo := b6 m_ other (by omega) (by omega) hother
          try dsimp only at bo
          refine r_lssF m.sX ((by omega)) ?_
          conv => cbv
          refine r_eql m.sX (fun h6 => ?_) (fun h6 => ?_) <;> conv => cbv
          · refine r_lssF m.sX ((by omega)) ?_
            conv => cbv
            refine r_addf m.sX (by omega) (by omega) fun m__2 hm__2 => ?_
            conv => cbv
            refine hE _ m__2 ?_ ?_ (by (try dsimp only) <;> (omega)) (by first | omega | (dsimp only; omega))
            · cbv
            · cbv
          · refine r_addf m.sX (by omega) (by omega) fun m__3 hm__3 => ?_
            conv => cbv
            refine hE _ m__3 ?_ ?_ (by (try dsimp only) <;> (omega)) (by first | omega | (dsimp only; omega))
            · cbv
            · cbv
        · refine r_addf m.sX (by omega) (by omega) fun m__4 hm__4 => ?_
          conv => cbv
          refine hE _ m__4 ?_ ?_ (by (try dsimp only) <;> (omega)) (by first | omega | (dsimp only; omega))
          · cbv
          · cbv
      · refine hF _ _ ?_
        conv => cbv
        exact hE0 _ () (by cbv) (by cbv) ⟨trivial, (by (try dsimp only) <;> (first | assumption | omega | (simp [*]; done)))⟩
    · refine hF _ _ ?_
      conv => cbv
      exact hE0 _ () (by cbv) (by cbv) ⟨trivial, (by (try dsimp only) <;> (first | assumption | omega | (simp [*]; done)))⟩
  · exact hE0 _ () (by cbv) (by cbv) ⟨trivial, (by (try dsimp only) <;> (first | assumption | omega | (simp [*]; done)))⟩

theorem measures_part5 (m : Mach Try.prog G κ X Y L) (hQ : ∀ r, r = PV.bool true → Q r) (more : List Int) (h : CurIn more) (x1 : True) :
    Ai.code X L G (rest 1 (rest 4 (rest 1 (rest 6 (Try.f6.body.getD .skip))))) (EndsIn (post G Try.f6.results.toList Q)) (St.at 271 [(1, .isl 1 (rows cU8 more))] []) := by
  conv => cbv
  refine r_callE m.sX ((drawSpacesFor_ok more h).iceE) ?_
  rintro _ ⟨_, ⟨f, text, ⟨vA, vB, vC⟩, m_, rfl, bf_1, bf_2⟩, rfl⟩
  conv => cbv
  refine r_callF (lbI 1 cInt) m.sX ((SpacesForA_ok f text (vA, vB, vC) m_ (by omega)).ice) fun v hs_ => ?_
  obtain ⟨s_, three⟩ := v
  conv => cbv
  try dsimp only at hs_
  refine r_callF (lbI 1 cInt) m.sX ((specSpacesFor_ok f text (vA, vB, vC) m_).ice) fun y1 hy1 => ?_
  obtain rfl := hs_.trans hy1.symm
  clear hy1
  conv => cbv
  rcases Bool.eq_false_or_eq_true three with rfl | rfl <;> conv => cbv
  · obtain ⟨sf1, sf2, sf3, sf4⟩ := sp_facts hs_
    refine r_callBT m.sX (qInts_ok s_ s_) (by first | omega | assumption | exact decide_eq_true rfl | (subst_vars; omega)) ?_   -- h1
    conv => cbv
    refine r_lenR m.sX fun n1 hn1 mn1 => ?_
    conv => cbv
    refine r_loopF (α := List Int × Int) m 271 [31, 34, 37, 239, 240, 241] [⟨33, 265, 0, 0, 0⟩, ⟨39, 313, 3, 1, 0⟩] (fun σ => [(31, .isl 2 (rows cSort f)), (33, .optr 265 0 3 0 0), (34, .int .i64 m_), (37, .isl 1 (rows cInt s_)), (39, .osl 313 0), (239, .isl 1 (rows cStr text)), (240, .int .i64 n1), (241, .int .i64 σ.2)]) (fun σ => [(265, 0, .box [.int .i64 vA, .int .i64 vB, .int .i64 vC]), (313, 0, .row 3 1 (rows cInt σ.1))])
      (fun σ => (0 ≤ σ.2) ∧ (σ.2 ≤ n1) ∧ (wiG f text [] = wiG f (text.drop σ.2.toNat) σ.1) ∧ ((σ.1.length : Int) = σ.2)) (fun σ => (n1 - σ.2).toNat) ([], 0) ?_ ?_ ?_ ?_
    · cbv
    · (try dsimp only); simp only [rows_cons, rows_nil]; cbv
    · exact ⟨(by (try dsimp only); first | omega | (simp only [List.length_nil]; omega)), (by (try dsimp only); first | omega | (simp only [List.length_nil]; omega)), (by (try dsimp only) <;> (rfl)), (by (try dsimp only) <;> first | omega | rfl | (simp [*]; done))⟩
    rintro ⟨widths, i1⟩ ⟨lo2, hi2, q, ln⟩ E hE F hF
    dsimp only at lo2 hi2 q ln
    conv => cbv
    refine r_lss m.sX (fun h2 => ?_) (fun h2 => ?_) <;> conv => cbv
    · refine r_index m.sX (by omega) (by omega) fun w hw => ?_
      conv => cbv
      have mw := get_mem hw
      have dw := drop_cons hw
      have kw := take_snoc hw
      have jw : (i1 + 1).toNat = Int.toNat i1 + 1 := by omega
      refine r_callF ib m.sX (WidthOfWord_ok f w) fun v hk => ?_
      obtain ⟨k, five⟩ := v
      conv => cbv
      try dsimp only at hk
      obtain rfl : five = true := by have z := wiG_at hw (by rw [← q]; exact sf2); rw [← hk] at z; exact z
      conv => cbv
      refine r_append1 (k) m.sX rfl (by first | omega | (dsimp only; omega)) (by first | omega | (dsimp only; omega)) fun widths_2 hwidths_2 => ?_
      conv => cbv
      have lwidths_2 : (widths_2.length : Int) = widths.length + 1 := by rw [hwidths_2]; first | done | (simp; done) | (simp; omega)
      refine r_addf m.sX (by omega) (by omega) fun r1 hr1 => ?_
      conv => cbv
      try have tr1 : Int.toNat r1 = Int.toNat i1 + 1 := by omega
      refine hE _ (widths_2, r1) ?_ ?_ ⟨(by (try dsimp only); first | omega | (simp only [List.length_nil]; omega)), (by (try dsimp only); first | omega | (simp only [List.length_nil]; omega)), (by (try dsimp only) <;> (rw [q, wiG_ok _ hw hk, hwidths_2, tr1])), (by (try dsimp only) <;> (omega))⟩ (by first | omega | (dsimp only; omega))
      · cbv
      · cbv
    · have dz_i1 := drop_end (xs := text) (i := Int.toNat i1) (by omega)
      have tz_i1 := take_end (xs := text) (i := Int.toNat i1) (by omega)
      refine hF _ _ ?_
      conv => cbv
      refine .inl (r_callFO (lbI 1 cInt) m.sX ((((JustifyLine_ok widths (vA, vB, vC) m_)).ok (flat_lb flat_cInt)).ice) fun v hown => ?_)
      obtain ⟨own, five_2⟩ := v
      conv => cbv
      try dsimp only at hown
      have qe : wiG f text [] = (widths, true) := (by rw [q, wiG_end _ (by omega)])
      have je : justAns widths (vA, vB, vC) m_ = (s_, true) := (by rw [qe] at sf3; exact sf3)
      obtain rfl : five_2 = true := by exact (Prod.mk.inj (hown.trans je)).2
      conv => cbv
      refine r_callBT m.sX (qInts_ok own s_) (by exact decide_eq_true (Prod.mk.inj (hown.trans je)).1) ?_   -- h3
      conv => cbv
      exact hQ _ (congrArg PV.bool (by first | rfl | omega | (simp [*]; done) | (subst_vars; simp [*]; done) | (rw [q]; simp [*]; done) | (rw [ln]; simp [*]; done)))   -- leaf 2
  · refine r_callBT m.sX (qInts_ok s_ s_) (by first | omega | assumption | exact decide_eq_true rfl | (subst_vars; omega)) ?_   -- h4
    conv => cbv
    exact hQ _ (congrArg PV.bool (by first | rfl | omega | (simp [*]; done) | (subst_vars; simp [*]; done)))   -- leaf 3

end

theorem lawMeasures_ok (code more : List Int) (hf : ∀ x ∈ code, 0 ≤ x ∧ x ≤ 255) (hg : ∀ x ∈ more, 0 ≤ x ∧ x ≤ 255) : OkA Try.prog 6 [.isl 1 (rows cU8 code), .isl 1 (rows cU8 more)] (· = .bool true) :=
  fn_introW envOk fieldsOk mixed Try.func6 rfl (c := Try.f6.body.getD .skip) rfl fun κ X Y L Q m hQ =>
    W_cut m 6 271 [1, 5, 7, 9, 10] [⟨6, 49, 0, 0, 0⟩] (fun σ : List Int × Int × Int × Int × Int × Bool × Int => [(1, .isl 1 (rows cU8 more)), (5, .isl 1 (rows cInt σ.1)), (6, .optr 49 0 3 0 0), (7, .int .i64 σ.2.2.2.2.1), (9, .bool σ.2.2.2.2.2.1), (10, .int .i64 σ.2.2.2.2.2.2)]) (fun σ => [(49, 0, .box [.int .i64 σ.2.1, .int .i64 σ.2.2.1, .int .i64 σ.2.2.2.1])]) (fun σ => (more.length : Int) ≤ 9223372036854775807 ∧ (((σ.2.2.2.2.2.2, σ.2.2.2.2.2.1) = fitA σ.1 (σ.2.1, σ.2.2.1, σ.2.2.2.1) σ.2.2.2.2.1) ∧ ((σ.1.length : Int) ≤ 61))) (measures_part1 m hQ code more hf) fun ⟨words, rA, rB, rC, measure, ok, fit⟩ ⟨hl, ⟨cf, bw⟩⟩ =>
    W_cut m 1 271 [1] [] (fun σ : Unit => [(1, .isl 1 (rows cU8 more))]) (fun σ => []) (fun σ => True ∧ ((True))) (measures_part2 m hQ more ⟨hl, hg⟩ words rA rB rC measure ok fit cf bw) fun _ ⟨_, x1⟩ =>
    W_cut m 4 271 [1, 18, 20, 21, 23, 24] [⟨19, 153, 0, 0, 0⟩] (fun σ : List Int × Int × Int × Int × Int × Int × Bool × Int => [(1, .isl 1 (rows cU8 more)), (18, .isl 1 (rows cInt σ.1)), (19, .optr 153 0 3 0 0), (20, .int .i64 σ.2.2.2.2.1), (21, .int .i64 σ.2.2.2.2.2.1), (23, .bool σ.2.2.2.2.2.2.1), (24, .int .i64 σ.2.2.2.2.2.2.2)]) (fun σ => [(153, 0, .box [.int .i64 σ.2.1, .int .i64 σ.2.2.1, .int .i64 σ.2.2.2.1])]) (fun σ => True ∧ (((σ.2.2.2.2.2.2.2, σ.2.2.2.2.2.2.1) = bmA σ.1 (σ.2.1, σ.2.2.1, σ.2.2.2.1) σ.2.2.2.2.1 σ.2.2.2.2.2.1))) (measures_part3 m hQ more ⟨hl, hg⟩ x1) fun ⟨l, uA, uB, uC, from_, to_, one, best⟩ ⟨_, cb⟩ =>
    W_cut m 1 271 [1] [] (fun σ : Unit => [(1, .isl 1 (rows cU8 more))]) (fun σ => []) (fun σ => True ∧ ((True))) (measures_part4 m hQ more ⟨hl, hg⟩ l uA uB uC from_ to_ one best cb) fun _ ⟨_, x1⟩ =>
    W_last m (measures_part5 m hQ more ⟨hl, hg⟩ x1)

end Go.Proofs.Ytfnfjgdepilgkaa.Ai
