/- The law FnTariffs: its body returns true. -/
import Derived.Test.YtbamclepgabciaaDoorTar
import Derived.Test.YtbamclepgabciaaDoorAiCut
namespace Go.Proofs.YtbamclepgabciaaDoor.Ai
open Go Go.Proofs
set_option linter.unusedSimpArgs false
set_option maxRecDepth 10000
set_option maxHeartbeats 4000000
set_option linter.unusedVariables false
theorem pagesB_spec {n d b l k : Int} (h : (k, true) = pagesB n d b l) :
    ((0 ≤ n ∧ n ≤ 1000000) ∧ (40 ≤ d ∧ d ≤ 2000) ∧ (4 ≤ b ∧ b ≤ 72) ∧ (0 ≤ l ∧ l ≤ 20)) ∧ (1 ≤ (d + l) / (b + l) ∧ (d + l) / (b + l) ≤ d + l) ∧ n ≤ k * ((d + l) / (b + l)) ∧ (k - 1) * ((d + l) / (b + l)) < n ∧ k * ((d + l) / (b + l)) ≤ n + (d + l) / (b + l) - 1 ∧ (0 ≤ k ∧ k ≤ n + (d + l) / (b + l) - 1) := by
  unfold pagesB at h
  split at h
  case isFalse => simp at h
  rename_i hc
  simp only [Bool.and_eq_true, decide_eq_true_eq] at hc
  obtain ⟨c1, c2, c3, c4, c5⟩ := hc
  have c1 := inB_spec c1
  have c2 := inB_spec c2
  have c3 := inB_spec c3
  have c4 := inB_spec c4
  have fg := fit_ge (depth := d) (body := b) (lead := l) c5 (by omega) (by omega)
  have um := upF_mul (n := n) (d := (d + l) / (b + l)) (by omega)
  obtain rfl := (Prod.mk.inj h).1
  exact ⟨⟨c1, c2, c3, c4⟩, fg, um.1, um.2.1, um.2.2, upF_bound (by omega) (by omega)⟩
noncomputable abbrev midTariffs (more : List Int) : List (Nat × PV) := [(1, .isl 1 (rows cU8 more))]

section
variable {κ : Ctx} {X Y : Req → (PV → Prop) → Prop} {L : Code → (Ex → St → Prop) → St → Prop} {Q : PV → Prop}

theorem tariffs_part1 (m : Mach Tryd.prog G κ X Y L) (hQ : ∀ r, r = PV.bool true → Q r) (code more : List Int) (hf : ∀ x ∈ code, 0 ≤ x ∧ x ≤ 255) (E0 : St → Prop)
    (hE0 : ∀ (s' : St) (a : Unit), headOk s' [] = true → Ai.norm [1] [] s' = St.at 242 (midTariffs more) [] → (more.length : Int) ≤ 9223372036854775807 → E0 s') :
    Ai.code X L G (front 7 (Tryd.f5.body.getD .skip)) (fun e s' => match e with | .normal => E0 s' | .exit i => EndsIn (post G Tryd.f5.results.toList Q) (.exit i) s' | .ret => EndsIn (post G Tryd.f5.results.toList Q) .ret s') (start 242 [.isl 1 (rows cU8 code), .isl 1 (rows cU8 more)] []) := by
  conv => cbv
  refine r_lenR m.sX fun n1 hn1 mn1 => ?_
  conv => cbv
  refine r_lenR m.sX fun n2 hn2 mn2 => ?_
  conv => cbv
  refine r_add m.sX fun r1 hr1 => ?_
  conv => cbv
  refine r_gtr m.sX (fun h1 => ?_) (fun h1 => ?_) <;> conv => cbv
  · exact hQ _ (congrArg PV.bool (by first | rfl | omega | (simp [*]; done) | (subst_vars; simp [*]; done)))   -- leaf 1
  · have h : CurIn code := ⟨by omega, hf⟩
    have hmr : (more.length : Int) ≤ 9223372036854775807 := by omega
    refine r_callE m.sX ((drawCheapestTariff_ok code h).iceE) ?_
    rintro _ ⟨_, ⟨l, ens, pages, minutes, rfl, bl_1⟩, rfl⟩
    conv => cbv
    refine r_callF iib m.sX (CheapestTariff_ok l ens pages minutes) fun v hi => ?_
    obtain ⟨i, p, ok⟩ := v
    conv => cbv
    refine r_callF iib m.sX (specCheapestTariff_ok l ens pages minutes) fun y1 hy1 => ?_
    obtain rfl := hi.trans hy1.symm
    clear hy1
    conv => cbv
    rcases Bool.eq_false_or_eq_true ok with rfl | rfl <;> conv => cbv
    · have CS := cheapest_spec hi
      refine r_neqF m.sX (by first | omega | rfl) ?_
      conv => cbv
      refine r_neqF m.sX (by first | omega | rfl) ?_
      conv => cbv
      refine r_lenR m.sX fun n3 hn3 mn3 => ?_
      conv => cbv
      refine r_loopF (α := Int) m 242 [1, 6, 7, 8, 12, 13, 85, 86, 87] [] (fun σ => [(1, .isl 1 (rows cU8 more)), (6, .int .i64 ens), (7, .int .i64 pages), (8, .int .i64 minutes), (12, .int .i64 i), (13, .int .i64 p), (85, .isl 4 (rows cTariff l)), (86, .int .i64 n3), (87, .int .i64 σ)]) (fun σ => [])
        (fun σ => (0 ≤ σ) ∧ (σ ≤ n3)) (fun σ => (n3 - σ).toNat) 0 ?_ ?_ ?_ ?_
      · cbv
      · cbv
      · exact ⟨(by (try dsimp only); first | omega | (simp only [List.length_nil]; omega) | (simp only [List.length_cons, List.length_nil]; omega)), (by (try dsimp only); first | omega | (simp only [List.length_nil]; omega) | (simp only [List.length_cons, List.length_nil]; omega))⟩
      rintro i1 ⟨lo1, hi1⟩ E hE F hF
      conv => cbv
      refine r_lss m.sX (fun h4 => ?_) (fun h4 => ?_) <;> conv => cbv
      · refine r_index m.sX (by omega) (by omega) fun v htA => ?_
        obtain ⟨tA, tB, tC, tD⟩ := v
        conv => cbv
        have ht := htA
        have mt := get_mem ht
        have dt := drop_cons ht
        have kt := take_snoc ht
        have jt : (i1 + 1).toNat = Int.toNat i1 + 1 := by omega
        have cs := CS i1.toNat _ ht
        try dsimp only at cs
        refine r_callF ib m.sX (PriceOfJobT_ok (tA, tB, tC, tD) ens pages minutes) fun v hother => ?_
        obtain ⟨other, one⟩ := v
        conv => cbv
        try dsimp only at hother
        have eo := (Prod.mk.inj (hother.trans cs.1)).1
        try dsimp only at eo
        have c2 : p ≤ other := by rw [eo]; exact cs.2.1
        have c3 : i1 < i → p < other := fun hh => by rw [eo]; exact cs.2.2.1 (by omega)
        have c4 : i1 = i → other = p := fun hh => by rw [eo]; exact cs.2.2.2 (by omega)
        obtain rfl : one = true := by exact (Prod.mk.inj (hother.trans cs.1)).2
        conv => cbv
        refine r_lssF m.sX (by first | omega | rfl) ?_
        conv => cbv
        refine r_eql m.sX (fun h6 => ?_) (fun h6 => ?_) <;> conv => cbv
        · refine r_neqF m.sX (by first | omega | rfl) ?_
          conv => cbv
          refine r_lss m.sX (fun h8 => ?_) (fun h8 => ?_) <;> conv => cbv
          · refine r_eqlF m.sX (by first | omega | rfl) ?_
            conv => cbv
            refine r_addf m.sX (by omega) (by omega) fun r2 hr2 => ?_
            conv => cbv
            try have tr2 : Int.toNat r2 = Int.toNat i1 + 1 := by omega
            refine hE _ r2 ?_ ?_ ⟨(by (try dsimp only); first | omega | (simp only [List.length_nil]; omega) | (simp only [List.length_cons, List.length_nil]; omega)), (by (try dsimp only); first | omega | (simp only [List.length_nil]; omega) | (simp only [List.length_cons, List.length_nil]; omega))⟩ (by first | omega | (dsimp only; omega))
            · cbv
            · cbv
          · refine r_addf m.sX (by omega) (by omega) fun r3 hr3 => ?_
            conv => cbv
            try have tr3 : Int.toNat r3 = Int.toNat i1 + 1 := by omega
            refine hE _ r3 ?_ ?_ ⟨(by (try dsimp only); first | omega | (simp only [List.length_nil]; omega) | (simp only [List.length_cons, List.length_nil]; omega)), (by (try dsimp only); first | omega | (simp only [List.length_nil]; omega) | (simp only [List.length_cons, List.length_nil]; omega))⟩ (by first | omega | (dsimp only; omega))
            · cbv
            · cbv
        · refine r_lss m.sX (fun h10 => ?_) (fun h10 => ?_) <;> conv => cbv
          · refine r_eqlF m.sX (by first | omega | rfl) ?_
            conv => cbv
            refine r_addf m.sX (by omega) (by omega) fun r4 hr4 => ?_
            conv => cbv
            try have tr4 : Int.toNat r4 = Int.toNat i1 + 1 := by omega
            refine hE _ r4 ?_ ?_ ⟨(by (try dsimp only); first | omega | (simp only [List.length_nil]; omega) | (simp only [List.length_cons, List.length_nil]; omega)), (by (try dsimp only); first | omega | (simp only [List.length_nil]; omega) | (simp only [List.length_cons, List.length_nil]; omega))⟩ (by first | omega | (dsimp only; omega))
            · cbv
            · cbv
          · refine r_addf m.sX (by omega) (by omega) fun r5 hr5 => ?_
            conv => cbv
            try have tr5 : Int.toNat r5 = Int.toNat i1 + 1 := by omega
            refine hE _ r5 ?_ ?_ ⟨(by (try dsimp only); first | omega | (simp only [List.length_nil]; omega) | (simp only [List.length_cons, List.length_nil]; omega)), (by (try dsimp only); first | omega | (simp only [List.length_nil]; omega) | (simp only [List.length_cons, List.length_nil]; omega))⟩ (by first | omega | (dsimp only; omega))
            · cbv
            · cbv
      · have dz_i1 := drop_end (xs := l) (i := Int.toNat i1) (by omega)
        have tz_i1 := take_end (xs := l) (i := Int.toNat i1) (by omega)
        refine hF _ _ ?_
        conv => cbv
        exact hE0 _ () (by cbv) (by cbv) hmr
    · refine r_neqF m.sX (by first | omega | rfl) ?_
      conv => cbv
      refine r_neqF m.sX (by first | omega | rfl) ?_
      conv => cbv
      exact hE0 _ () (by cbv) (by cbv) hmr

theorem tariffs_part2 (m : Mach Tryd.prog G κ X Y L) (hQ : ∀ r, r = PV.bool true → Q r) (more : List Int) (h : CurIn more) (E0 : St → Prop)
    (hE0 : ∀ (s' : St) (σ : Int × Int × Int × Int × Bool × Int), headOk s' [] = true → Ai.norm [1, 25, 26, 27, 28, 30, 31] [] s' = St.at 242 [(1, .isl 1 (rows cU8 more)), (25, .int .i64 σ.1), (26, .int .i64 σ.2.1), (27, .int .i64 σ.2.2.1), (28, .int .i64 σ.2.2.2.1), (30, .bool σ.2.2.2.2.1), (31, .int .i64 σ.2.2.2.2.2)] [] → (True ∧ (((σ.2.2.2.2.2, σ.2.2.2.2.1) = pagesB σ.1 σ.2.1 σ.2.2.1 σ.2.2.2.1))) → E0 s') :
    Ai.code X L G (front 11 (rest 7 (Tryd.f5.body.getD .skip))) (fun e s' => match e with | .normal => E0 s' | .exit i => EndsIn (post G Tryd.f5.results.toList Q) (.exit i) s' | .ret => EndsIn (post G Tryd.f5.results.toList Q) .ret s') (St.at 242 (midTariffs more) []) := by
  conv => cbv
  refine r_callE m.sX ((drawPriceOfCorrections_ok more h).iceE) ?_
  rintro _ ⟨_, ⟨⟨tA, tB, tC, tD⟩, marks, rfl, bt_1⟩, rfl⟩
  conv => cbv
  refine r_callF ib m.sX (PriceOfCorrections_ok (tA, tB, tC, tD) marks) fun v hc => ?_
  obtain ⟨c, one⟩ := v
  conv => cbv
  try dsimp only at hc
  refine r_callF ib m.sX (specPriceOfCorrections_ok (tA, tB, tC, tD) marks) fun y1 hy1 => ?_
  obtain rfl := hc.trans hy1.symm
  clear hy1
  conv => cbv
  refine r_callE m.sX (drawPagesForLines_ok more h) ?_
  rintro _ ⟨n, depth, body, lead, rfl⟩
  conv => cbv
  refine r_callF ib m.sX (PagesForLines_ok n depth body lead) fun v hk => ?_
  obtain ⟨k, three⟩ := v
  conv => cbv
  try dsimp only at hk
  refine r_callF ib m.sX (specPagesForLines_ok n depth body lead) fun y2 hy2 => ?_
  obtain rfl := hk.trans hy2.symm
  clear hy2
  conv => cbv
  refine r_callE m.sX (drawPoundsText_ok more h) ?_
  rintro _ ⟨pence, rfl⟩
  conv => cbv
  refine r_callF sb m.sX (PoundsText_ok pence) fun v hs_ => ?_
  obtain ⟨s_, five⟩ := v
  conv => cbv
  try dsimp only at hs_
  refine r_callF sb m.sX (specPoundsText_ok pence) fun y3 hy3 => ?_
  obtain rfl := hs_.trans hy3.symm
  clear hy3
  conv => cbv
  refine r_callE m.sX (drawIsTariff_ok more h) ?_
  rintro _ ⟨⟨uA, uB, uC, uD⟩, rfl⟩
  conv => cbv
  refine r_draw m (by kernel_rfl) ?_
  conv => cbv
  rcases Bool.eq_false_or_eq_true one with rfl | rfl <;> conv => cbv
  · refine r_neqF m.sY (by first | omega | rfl) ?_
    conv => cbv
    rcases Bool.eq_false_or_eq_true three with rfl | rfl <;> conv => cbv
    · refine r_neqF m.sY (by first | omega | rfl) ?_
      conv => cbv
      rcases Bool.eq_false_or_eq_true five with rfl | rfl <;> conv => cbv
      · refine r_sneqF m.sY (by first | omega | rfl) ?_
        conv => cbv
        refine r_callBS m.sY (IsTariffT_ok (uA, uB, uC, uD)) (fun h4 => ?_) (fun h4 => ?_) <;> conv => cbv
        · refine r_callBTS m.sY (specIsTariff_ok (uA, uB, uC, uD)) (by first | assumption | exact decide_eq_true rfl | (simp [*]; done) | omega) ?_   -- h5
          conv => cbv
          exact hE0 _ (n, depth, body, lead, true, k) (by cbv) (by cbv) ⟨trivial, (by (try dsimp only) <;> (exact hk))⟩
        · refine r_callBFS m.sY (specIsTariff_ok (uA, uB, uC, uD)) (by first | assumption | exact decide_eq_true rfl | (simp [*]; done) | omega) ?_   -- h6
          conv => cbv
          exact hE0 _ (n, depth, body, lead, true, k) (by cbv) (by cbv) ⟨trivial, (by (try dsimp only) <;> (exact hk))⟩
      · refine r_sneqF m.sY (by first | omega | rfl) ?_
        conv => cbv
        refine r_callBS m.sY (IsTariffT_ok (uA, uB, uC, uD)) (fun h8 => ?_) (fun h8 => ?_) <;> conv => cbv
        · refine r_callBTS m.sY (specIsTariff_ok (uA, uB, uC, uD)) (by first | assumption | exact decide_eq_true rfl | (simp [*]; done) | omega) ?_   -- h9
          conv => cbv
          exact hE0 _ (n, depth, body, lead, true, k) (by cbv) (by cbv) ⟨trivial, (by (try dsimp only) <;> (exact hk))⟩
        · refine r_callBFS m.sY (specIsTariff_ok (uA, uB, uC, uD)) (by first | assumption | exact decide_eq_true rfl | (simp [*]; done) | omega) ?_   -- h10
          conv => cbv
          exact hE0 _ (n, depth, body, lead, true, k) (by cbv) (by cbv) ⟨trivial, (by (try dsimp only) <;> (exact hk))⟩
    · refine r_neqF m.sY (by first | omega | rfl) ?_
      conv => cbv
      rcases Bool.eq_false_or_eq_true five with rfl | rfl <;> conv => cbv
      · refine r_sneqF m.sY (by first | omega | rfl) ?_
        conv => cbv
        refine r_callBS m.sY (IsTariffT_ok (uA, uB, uC, uD)) (fun h13 => ?_) (fun h13 => ?_) <;> conv => cbv
        · refine r_callBTS m.sY (specIsTariff_ok (uA, uB, uC, uD)) (by first | assumption | exact decide_eq_true rfl | (simp [*]; done) | omega) ?_   -- h14
          conv => cbv
          exact hE0 _ (n, depth, body, lead, false, k) (by cbv) (by cbv) ⟨trivial, (by (try dsimp only) <;> (exact hk))⟩
        · refine r_callBFS m.sY (specIsTariff_ok (uA, uB, uC, uD)) (by first | assumption | exact decide_eq_true rfl | (simp [*]; done) | omega) ?_   -- h15
          conv => cbv
          exact hE0 _ (n, depth, body, lead, false, k) (by cbv) (by cbv) ⟨trivial, (by (try dsimp only) <;> (exact hk))⟩
      · refine r_sneqF m.sY (by first | omega | rfl) ?_
        conv => cbv
        refine r_callBS m.sY (IsTariffT_ok (uA, uB, uC, uD)) (fun h17 => ?_) (fun h17 => ?_) <;> conv => cbv
        · refine r_callBTS m.sY (specIsTariff_ok (uA, uB, uC, uD)) (by first | assumption | exact decide_eq_true rfl | (simp [*]; done) | omega) ?_   -- h18
          conv => cbv
          exact hE0 _ (n, depth, body, lead, false, k) (by cbv) (by cbv) ⟨trivial, (by (try dsimp only) <;> (exact hk))⟩
        · refine r_callBFS m.sY (specIsTariff_ok (uA, uB, uC, uD)) (by first | assumption | exact decide_eq_true rfl | (simp [*]; done) | omega) ?_   -- h19
          conv => cbv
          exact hE0 _ (n, depth, body, lead, false, k) (by cbv) (by cbv) ⟨trivial, (by (try dsimp only) <;> (exact hk))⟩
  · refine r_neqF m.sY (by first | omega | rfl) ?_
    conv => cbv
    rcases Bool.eq_false_or_eq_true three with rfl | rfl <;> conv => cbv
    · refine r_neqF m.sY (by first | omega | rfl) ?_
      conv => cbv
      rcases Bool.eq_false_or_eq_true five with rfl | rfl <;> conv => cbv
      · refine r_sneqF m.sY (by first | omega | rfl) ?_
        conv => cbv
        refine r_callBS m.sY (IsTariffT_ok (uA, uB, uC, uD)) (fun h23 => ?_) (fun h23 => ?_) <;> conv => cbv
        · refine r_callBTS m.sY (specIsTariff_ok (uA, uB, uC, uD)) (by first | assumption | exact decide_eq_true rfl | (simp [*]; done) | omega) ?_   -- h24
          conv => cbv
          exact hE0 _ (n, depth, body, lead, true, k) (by cbv) (by cbv) ⟨trivial, (by (try dsimp only) <;> (exact hk))⟩
        · refine r_callBFS m.sY (specIsTariff_ok (uA, uB, uC, uD)) (by first | assumption | exact decide_eq_true rfl | (simp [*]; done) | omega) ?_   -- h25
          conv => cbv
          exact hE0 _ (n, depth, body, lead, true, k) (by cbv) (by cbv) ⟨trivial, (by (try dsimp only) <;> (exact hk))⟩
      · refine r_sneqF m.sY (by first | omega | rfl) ?_
        conv => cbv
        refine r_callBS m.sY (IsTariffT_ok (uA, uB, uC, uD)) (fun h27 => ?_) (fun h27 => ?_) <;> conv => cbv
        · refine r_callBTS m.sY (specIsTariff_ok (uA, uB, uC, uD)) (by first | assumption | exact decide_eq_true rfl | (simp [*]; done) | omega) ?_   -- h28
          conv => cbv
          exact hE0 _ (n, depth, body, lead, true, k) (by cbv) (by cbv) ⟨trivial, (by (try dsimp only) <;> (exact hk))⟩
        · refine r_callBFS m.sY (specIsTariff_ok (uA, uB, uC, uD)) (by first | assumption | exact decide_eq_true rfl | (simp [*]; done) | omega) ?_   -- h29
          conv => cbv
          exact hE0 _ (n, depth, body, lead, true, k) (by cbv) (by cbv) ⟨trivial, (by (try dsimp only) <;> (exact hk))⟩
    · refine r_neqF m.sY (by first | omega | rfl) ?_
      conv => cbv
      rcases Bool.eq_false_or_eq_true five with rfl | rfl <;> conv => cbv
      · refine r_sneqF m.sY (by first | omega | rfl) ?_
        conv => cbv
        refine r_callBS m.sY (IsTariffT_ok (uA, uB, uC, uD)) (fun h32 => ?_) (fun h32 => ?_) <;> conv => cbv
        · refine r_callBTS m.sY (specIsTariff_ok (uA, uB, uC, uD)) (by first | assumption | exact decide_eq_true rfl | (simp [*]; done) | omega) ?_   -- h33
          conv => cbv
          exact hE0 _ (n, depth, body, lead, false, k) (by cbv) (by cbv) ⟨trivial, (by (try dsimp only) <;> (exact hk))⟩
        · refine r_callBFS m.sY (specIsTariff_ok (uA, uB, uC, uD)) (by first | assumption | exact decide_eq_true rfl | (simp [*]; done) | omega) ?_   -- h34
          conv => cbv
          exact hE0 _ (n, depth, body, lead, false, k) (by cbv) (by cbv) ⟨trivial, (by (try dsimp only) <;> (exact hk))⟩
      · refine r_sneqF m.sY (by first | omega | rfl) ?_
        conv => cbv
        refine r_callBS m.sY (IsTariffT_ok (uA, uB, uC, uD)) (fun h36 => ?_) (fun h36 => ?_) <;> conv => cbv
        · refine r_callBTS m.sY (specIsTariff_ok (uA, uB, uC, uD)) (by first | assumption | exact decide_eq_true rfl | (simp [*]; done) | omega) ?_   -- h37
          conv => cbv
          exact hE0 _ (n, depth, body, lead, false, k) (by cbv) (by cbv) ⟨trivial, (by (try dsimp only) <;> (exact hk))⟩
        · refine r_callBFS m.sY (specIsTariff_ok (uA, uB, uC, uD)) (by first | assumption | exact decide_eq_true rfl | (simp [*]; done) | omega) ?_   -- h38
          conv => cbv
          exact hE0 _ (n, depth, body, lead, false, k) (by cbv) (by cbv) ⟨trivial, (by (try dsimp only) <;> (exact hk))⟩

theorem tariffs_part3 (m : Mach Tryd.prog G κ X Y L) (hQ : ∀ r, r = PV.bool true → Q r) (more : List Int) (h : CurIn more) (n : Int) (depth : Int) (body : Int) (lead : Int) (three : Bool) (count : Int) (pk : (count, three) = pagesB n depth body lead) :
    Ai.code X L G (rest 11 (rest 7 (Tryd.f5.body.getD .skip))) (EndsIn (post G Tryd.f5.results.toList Q)) (St.at 242 [(1, .isl 1 (rows cU8 more)), (25, .int .i64 n), (26, .int .i64 depth), (27, .int .i64 body), (28, .int .i64 lead), (30, .bool three), (31, .int .i64 count)] []) := by
  conv => cbv
  rcases Bool.eq_false_or_eq_true three with rfl | rfl <;> conv => cbv
  · have P0 := pagesB_spec pk
    refine r_addf m.sX (by omega) (by omega) fun r1 hr1 => ?_
    conv => cbv
    refine r_addf m.sX (by omega) (by omega) fun r2 hr2 => ?_
    conv => cbv
    first | refine r_divf m.sX (by omega) (by omega) fun fit hfit bfit => ?_ | refine r_tdivf m.sX (by omega) (by omega) fun fit hfit bfit => ?_
    conv => cbv
    have PS := pagesB_spec pk
    rw [← hr1, ← hr2, ← hfit] at PS
    refine r_mulf m.sX (by first | omega | (subst_vars; omega)) (by first | omega | (subst_vars; omega)) fun r3 hr3 => ?_
    conv => cbv
    refine r_geqT m.sX (by first | omega | rfl) ?_
    conv => cbv
    refine r_eql m.sX (fun h2 => ?_) (fun h2 => ?_) <;> conv => cbv
    · exact hQ _ (congrArg PV.bool (by first | rfl | omega | (simp [*]; done) | (subst_vars; simp [*]; done)))   -- leaf 2
    · refine r_subf m.sX (by omega) (by omega) fun r4 hr4 => ?_
      conv => cbv
      have e4 : r4 * fit = count * fit - fit := by rw [hr4, Int.sub_mul, Int.one_mul]
      refine r_mulf m.sX (by first | omega | (subst_vars; omega)) (by first | omega | (subst_vars; omega)) fun r5 hr5 => ?_
      conv => cbv
      refine r_lssT m.sX (by first | omega | rfl) ?_
      conv => cbv
      exact hQ _ (congrArg PV.bool (by first | rfl | omega | (simp [*]; done) | (subst_vars; simp [*]; done)))   -- leaf 3
  · exact hQ _ (congrArg PV.bool (by first | rfl | omega | (simp [*]; done) | (subst_vars; simp [*]; done)))   -- leaf 4

end

theorem lawTariffs_ok (code more : List Int) (hf : ∀ x ∈ code, 0 ≤ x ∧ x ≤ 255) (hg : ∀ x ∈ more, 0 ≤ x ∧ x ≤ 255) : OkA Tryd.prog 5 [.isl 1 (rows cU8 code), .isl 1 (rows cU8 more)] (· = .bool true) :=
  fn_introW envOk fieldsOk mixed Tryd.func5 rfl (c := Tryd.f5.body.getD .skip) rfl fun κ X Y L Q m hQ =>
    W_cut m 7 242 [1] [] (fun _ : Unit => midTariffs more) (fun _ => []) (fun _ => (more.length : Int) ≤ 9223372036854775807) (tariffs_part1 m hQ code more hf) fun _ hl =>
    W_cut m 11 242 [1, 25, 26, 27, 28, 30, 31] [] (fun σ : Int × Int × Int × Int × Bool × Int => [(1, .isl 1 (rows cU8 more)), (25, .int .i64 σ.1), (26, .int .i64 σ.2.1), (27, .int .i64 σ.2.2.1), (28, .int .i64 σ.2.2.2.1), (30, .bool σ.2.2.2.2.1), (31, .int .i64 σ.2.2.2.2.2)]) (fun σ => []) (fun σ => True ∧ (((σ.2.2.2.2.2, σ.2.2.2.2.1) = pagesB σ.1 σ.2.1 σ.2.2.1 σ.2.2.2.1))) (tariffs_part2 m hQ more ⟨hl, hg⟩) fun ⟨n, depth, body, lead, three, count⟩ ⟨_, pk⟩ =>
    W_last m (tariffs_part3 m hQ more ⟨hl, hg⟩ n depth body lead three count pk)

