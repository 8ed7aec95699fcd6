/- The law FnBills: its body returns true. -/
import Derived.Test.YtkcbhjnkpbeigaaBillDraw
import Derived.Test.YtkcbhjnkpbeigaaAiCut
namespace Go.Proofs.Ytkcbhjnkpbeigaa.Ai
open Go Go.Proofs
set_option maxRecDepth 10000
set_option maxHeartbeats 4000000
set_option linter.unusedVariables false

noncomputable abbrev midBills (more : List Int) : List (Nat × PV) := [(1, .isl 1 (rows cU8 more))]

section
variable {κ : Ctx} {X Y : Req → (PV → Prop) → Prop} {L : Code → (Ex → St → Prop) → St → Prop} {Q : PV → Prop}

theorem bills_part1 (m : Mach Try.prog G κ X Y L) (hQ : ∀ r, r = PV.bool true → Q r) (code more : List Int) (hf : ∀ x ∈ code, 0 ≤ x ∧ x ≤ 255) (E0 : St → Prop)
    (hE0 : ∀ (s' : St) (σ : List FSort × List Int × List (List UInt8) × Bool × List Int × Bool × Bool × Int), headOk s' [] = true → Ai.norm [1, 5, 6, 7, 9, 10, 14, 23, 24] [] s' = St.at 277 [(1, .isl 1 (rows cU8 more)), (5, .isl 2 (rows cSort σ.1)), (6, .isl 1 (rows cInt σ.2.1)), (7, .isl 1 (rows cStr σ.2.2.1)), (9, .bool σ.2.2.2.1), (10, .isl 1 (rows cInt σ.2.2.2.2.1)), (14, .bool σ.2.2.2.2.2.1), (23, .bool σ.2.2.2.2.2.2.1), (24, .int .i64 σ.2.2.2.2.2.2.2)] [] → ((more.length : Int) ≤ 9223372036854775807 ∧ (((σ.2.2.2.2.1, σ.2.2.2.1) = countsA σ.1 σ.2.2.1) ∧ ((σ.2.2.2.2.2.2.2, σ.2.2.2.2.2.2.1) = timesA σ.1 σ.2.1 σ.2.2.1) ∧ (σ.2.2.2.2.2.2.1 = true → σ.2.2.2.2.2.1 = (enoughA σ.1 σ.2.1 σ.2.2.1).1))) → E0 s') :
    Ai.code X L G (front 12 (Try.f6.body.getD .skip)) (fun e s' => match e with | .normal => E0 s' | .exit i => EndsIn (post G Try.f6.results.toList Q) (.exit i) s' | .ret => EndsIn (post G Try.f6.results.toList Q) .ret s') (start 277 [.isl 1 (rows cU8 code), .isl 1 (rows cU8 more)] []) := by
  conv => cbv
  refine r_lenR m.sX fun n1 hn1 mn1 => ?_
  conv => cbv
  refine r_lenR m.sX fun n2 hn2 mn2 => ?_
  conv => cbv
  refine r_add m.sX fun r1 hr1 => ?_
  conv => cbv
  refine r_gtr m.sX (fun h1 => ?_) (fun h1 => ?_) <;> conv => cbv
  · exact hQ _ (congrArg PV.bool (by first | rfl | omega | (simp [*]; done) | (subst_vars; simp [*]; done)))   -- leaf 1
  · have h : CurIn code := ⟨by omega, hf⟩
    have hmr : (more.length : Int) ≤ 9223372036854775807 := by omega
    refine r_callE m.sX ((drawTimesToSet_ok code h).iceE) ?_
    rintro _ ⟨_, ⟨f, stock, words, rfl, bf_1, bf_2, bf_3⟩, rfl⟩
    conv => cbv
    refine r_callF (lbI 1 cInt) m.sX ((CountSorts_ok f words).ice) fun v hn => ?_
    obtain ⟨n, ok⟩ := v
    conv => cbv
    refine r_callF (lbI 1 cInt) m.sX ((specCountSorts_ok f words).ice) fun y1 hy1 => ?_
    obtain rfl := hn.trans hy1.symm
    clear hy1
    conv => cbv
    refine r_callF bb m.sX (IsEnough_ok f stock words) fun v he => ?_
    obtain ⟨e, one⟩ := v
    conv => cbv
    refine r_callF bb m.sX (specIsEnough_ok f stock words) fun y2 hy2 => ?_
    obtain rfl := he.trans hy2.symm
    clear hy2
    conv => cbv
    refine r_callF iib m.sX (FirstRunOut_ok f stock words) fun v hk => ?_
    obtain ⟨k, i, three⟩ := v
    conv => cbv
    refine r_callF iib m.sX (specFirstRunOut_ok f stock words) fun y3 hy3 => ?_
    obtain rfl := hk.trans hy3.symm
    clear hy3
    conv => cbv
    refine r_callF ib m.sX (TimesToSet_ok f stock words) fun v ht => ?_
    obtain ⟨t, five⟩ := v
    conv => cbv
    have F1 := enough_one hn he
    have F2 := out_three hk he
    have F3 := times_one ht he
    refine r_callF ib m.sX (specTimesToSet_ok f stock words) fun y4 hy4 => ?_
    obtain rfl := ht.trans hy4.symm
    clear hy4
    conv => cbv
    rcases Bool.eq_false_or_eq_true ok with rfl | rfl <;> conv => cbv
    · refine r_callBT m.sX (qInts_ok n n) (by first | omega | assumption | exact decide_eq_true rfl | (subst_vars; omega)) ?_   -- h2
      conv => cbv
      rcases Bool.eq_false_or_eq_true one with rfl | rfl <;> conv => cbv
      · rcases Bool.eq_false_or_eq_true e with rfl | rfl <;> conv => cbv
        · obtain rfl : three = false := by exact F2
          conv => cbv
          refine r_neqF m.sX ((by first | omega | assumption | exact decide_eq_true rfl | (subst_vars; omega))) ?_
          conv => cbv
          refine r_neqF m.sX ((by first | omega | assumption | exact decide_eq_true rfl | (subst_vars; omega))) ?_
          conv => cbv
          rcases Bool.eq_false_or_eq_true five with rfl | rfl <;> conv => cbv
          · refine r_neqF m.sX ((by first | omega | assumption | exact decide_eq_true rfl | (subst_vars; omega))) ?_
            conv => cbv
            exact hE0 _ (f, stock, words, true, n, true, true, t) (by cbv) (by cbv) ⟨hmr, ⟨(by (try dsimp only) <;> (first | assumption | omega | (simp [*]; done))), (by (try dsimp only) <;> (first | assumption | omega | (simp [*]; done))), (by (try dsimp only) <;> (intro _; exact congrArg Prod.fst he))⟩⟩
          · refine r_neqF m.sX ((by first | omega | assumption | exact decide_eq_true rfl | (subst_vars; omega))) ?_
            conv => cbv
            exact hE0 _ (f, stock, words, true, n, true, false, t) (by cbv) (by cbv) ⟨hmr, ⟨(by (try dsimp only) <;> (first | assumption | omega | (simp [*]; done))), (by (try dsimp only) <;> (first | assumption | omega | (simp [*]; done))), (by (try dsimp only) <;> (intro _; exact congrArg Prod.fst he))⟩⟩
        · obtain rfl : three = true := by exact F2
          conv => cbv
          refine r_neqF m.sX ((by first | omega | assumption | exact decide_eq_true rfl | (subst_vars; omega))) ?_
          conv => cbv
          refine r_neqF m.sX ((by first | omega | assumption | exact decide_eq_true rfl | (subst_vars; omega))) ?_
          conv => cbv
          rcases Bool.eq_false_or_eq_true five with rfl | rfl <;> conv => cbv
          · refine r_neqF m.sX ((by first | omega | assumption | exact decide_eq_true rfl | (subst_vars; omega))) ?_
            conv => cbv
            exact hE0 _ (f, stock, words, true, n, false, true, t) (by cbv) (by cbv) ⟨hmr, ⟨(by (try dsimp only) <;> (first | assumption | omega | (simp [*]; done))), (by (try dsimp only) <;> (first | assumption | omega | (simp [*]; done))), (by (try dsimp only) <;> (intro _; exact congrArg Prod.fst he))⟩⟩
          · refine r_neqF m.sX ((by first | omega | assumption | exact decide_eq_true rfl | (subst_vars; omega))) ?_
            conv => cbv
            exact hE0 _ (f, stock, words, true, n, false, false, t) (by cbv) (by cbv) ⟨hmr, ⟨(by (try dsimp only) <;> (first | assumption | omega | (simp [*]; done))), (by (try dsimp only) <;> (first | assumption | omega | (simp [*]; done))), (by (try dsimp only) <;> (intro _; exact congrArg Prod.fst he))⟩⟩
      · rcases Bool.eq_false_or_eq_true e with rfl | rfl <;> conv => cbv
        · obtain rfl : three = false := by exact F2
          conv => cbv
          refine r_neqF m.sX ((by first | omega | assumption | exact decide_eq_true rfl | (subst_vars; omega))) ?_
          conv => cbv
          refine r_neqF m.sX ((by first | omega | assumption | exact decide_eq_true rfl | (subst_vars; omega))) ?_
          conv => cbv
          obtain rfl : five = false := by rcases Bool.eq_false_or_eq_true five with z | z; (cases F3 z); exact z
          conv => cbv
          refine r_neqF m.sX ((by first | omega | assumption | exact decide_eq_true rfl | (subst_vars; omega))) ?_
          conv => cbv
          exact hE0 _ (f, stock, words, true, n, true, false, t) (by cbv) (by cbv) ⟨hmr, ⟨(by (try dsimp only) <;> (first | assumption | omega | (simp [*]; done))), (by (try dsimp only) <;> (first | assumption | omega | (simp [*]; done))), (by (try dsimp only) <;> (intro _; exact congrArg Prod.fst he))⟩⟩
        · obtain rfl : three = false := by exact F2
          conv => cbv
          refine r_neqF m.sX ((by first | omega | assumption | exact decide_eq_true rfl | (subst_vars; omega))) ?_
          conv => cbv
          refine r_neqF m.sX ((by first | omega | assumption | exact decide_eq_true rfl | (subst_vars; omega))) ?_
          conv => cbv
          obtain rfl : five = false := by rcases Bool.eq_false_or_eq_true five with z | z; (cases F3 z); exact z
          conv => cbv
          refine r_neqF m.sX ((by first | omega | assumption | exact decide_eq_true rfl | (subst_vars; omega))) ?_
          conv => cbv
          exact hE0 _ (f, stock, words, true, n, false, false, t) (by cbv) (by cbv) ⟨hmr, ⟨(by (try dsimp only) <;> (first | assumption | omega | (simp [*]; done))), (by (try dsimp only) <;> (first | assumption | omega | (simp [*]; done))), (by (try dsimp only) <;> (intro _; exact congrArg Prod.fst he))⟩⟩
    · refine r_callBT m.sX (qInts_ok n n) (by first | omega | assumption | exact decide_eq_true rfl | (subst_vars; omega)) ?_   -- h17
      conv => cbv
      obtain rfl : one = false := by rcases Bool.eq_false_or_eq_true one with z | z; (cases F1 z); exact z
      conv => cbv
      rcases Bool.eq_false_or_eq_true e with rfl | rfl <;> conv => cbv
      · obtain rfl : three = false := by exact F2
        conv => cbv
        refine r_neqF m.sX ((by first | omega | assumption | exact decide_eq_true rfl | (subst_vars; omega))) ?_
        conv => cbv
        refine r_neqF m.sX ((by first | omega | assumption | exact decide_eq_true rfl | (subst_vars; omega))) ?_
        conv => cbv
        obtain rfl : five = false := by rcases Bool.eq_false_or_eq_true five with z | z; (cases F3 z); exact z
        conv => cbv
        refine r_neqF m.sX ((by first | omega | assumption | exact decide_eq_true rfl | (subst_vars; omega))) ?_
        conv => cbv
        exact hE0 _ (f, stock, words, false, n, true, false, t) (by cbv) (by cbv) ⟨hmr, ⟨(by (try dsimp only) <;> (first | assumption | omega | (simp [*]; done))), (by (try dsimp only) <;> (first | assumption | omega | (simp [*]; done))), (by (try dsimp only) <;> (intro _; exact congrArg Prod.fst he))⟩⟩
      · obtain rfl : three = false := by exact F2
        conv => cbv
        refine r_neqF m.sX ((by first | omega | assumption | exact decide_eq_true rfl | (subst_vars; omega))) ?_
        conv => cbv
        refine r_neqF m.sX ((by first | omega | assumption | exact decide_eq_true rfl | (subst_vars; omega))) ?_
        conv => cbv
        obtain rfl : five = false := by rcases Bool.eq_false_or_eq_true five with z | z; (cases F3 z); exact z
        conv => cbv
        refine r_neqF m.sX ((by first | omega | assumption | exact decide_eq_true rfl | (subst_vars; omega))) ?_
        conv => cbv
        exact hE0 _ (f, stock, words, false, n, false, false, t) (by cbv) (by cbv) ⟨hmr, ⟨(by (try dsimp only) <;> (first | assumption | omega | (simp [*]; done))), (by (try dsimp only) <;> (first | assumption | omega | (simp [*]; done))), (by (try dsimp only) <;> (intro _; exact congrArg Prod.fst he))⟩⟩

theorem bills_part2 (m : Mach Try.prog G κ X Y L) (hQ : ∀ r, r = PV.bool true → Q r) (more : List Int) (h : CurIn more) (f : List FSort) (stock : List Int) (words : List (List UInt8)) (ok : Bool) (need : List Int) (enough : Bool) (five : Bool) (times : Int) (cn : (need, ok) = countsA f words) (ct : (times, five) = timesA f stock words) (ce : five = true → enough = (enoughA f stock words).1) (E0 : St → Prop)
    (hE0 : ∀ (s' : St) (σ : List FSort × List Int × List (List UInt8) × Bool × Bool × Int), headOk s' [] = true → Ai.norm [1, 5, 6, 7, 14, 23, 24] [] s' = St.at 277 [(1, .isl 1 (rows cU8 more)), (5, .isl 2 (rows cSort σ.1)), (6, .isl 1 (rows cInt σ.2.1)), (7, .isl 1 (rows cStr σ.2.2.1)), (14, .bool σ.2.2.2.1), (23, .bool σ.2.2.2.2.1), (24, .int .i64 σ.2.2.2.2.2)] [] → (True ∧ (((σ.2.2.2.2.2, σ.2.2.2.2.1) = timesA σ.1 σ.2.1 σ.2.2.1) ∧ (σ.2.2.2.2.1 = true → σ.2.2.2.1 = (enoughA σ.1 σ.2.1 σ.2.2.1).1))) → E0 s') :
    Ai.code X L G (front 1 (rest 12 (Try.f6.body.getD .skip))) (fun e s' => match e with | .normal => E0 s' | .exit i => EndsIn (post G Try.f6.results.toList Q) (.exit i) s' | .ret => EndsIn (post G Try.f6.results.toList Q) .ret s') (St.at 277 [(1, .isl 1 (rows cU8 more)), (5, .isl 2 (rows cSort f)), (6, .isl 1 (rows cInt stock)), (7, .isl 1 (rows cStr words)), (9, .bool ok), (10, .isl 1 (rows cInt need)), (14, .bool enough), (23, .bool five), (24, .int .i64 times)] []) := by
  conv => cbv
  rcases Bool.eq_false_or_eq_true ok with rfl | rfl <;> conv => cbv
  · have cs := countsA_spec cn
    have sf := cs.fits
    have wl := (okWords_spec cs.words).2
    refine r_lenR m.sX fun n1 hn1 mn1 => ?_
    conv => cbv
    refine r_loopF (α := Int × Int) m 277 [1, 5, 6, 7, 10, 14, 23, 24, 26, 179, 180, 181] [] (fun σ => [(1, .isl 1 (rows cU8 more)), (5, .isl 2 (rows cSort f)), (6, .isl 1 (rows cInt stock)), (7, .isl 1 (rows cStr words)), (10, .isl 1 (rows cInt need)), (14, .bool enough), (23, .bool five), (24, .int .i64 times), (26, .int .i64 σ.1), (179, .isl 1 (rows cStr words)), (180, .int .i64 n1), (181, .int .i64 σ.2)]) (fun σ => [])
      (fun σ => (0 ≤ σ.2) ∧ (σ.2 ≤ n1) ∧ (σ.1 = (flatI f (words.take σ.2.toNat)).length) ∧ (0 ≤ σ.1 ∧ σ.1 ≤ 16 * σ.2)) (fun σ => (n1 - σ.2).toNat) (0, 0) ?_ ?_ ?_ ?_
    · cbv
    · cbv
    · exact ⟨(by (try dsimp only); first | omega | (simp only [List.length_nil]; omega)), (by (try dsimp only); first | omega | (simp only [List.length_nil]; omega)), (by (try dsimp only) <;> (rfl)), (by (try dsimp only) <;> first | omega | rfl | (simp [*]; done))⟩
    rintro ⟨sum, i1⟩ ⟨lo1, hi1, q, bs⟩ E hE F hF
    dsimp only at lo1 hi1 q bs
    conv => cbv
    refine r_lss m.sX (fun h1 => ?_) (fun h1 => ?_) <;> conv => cbv
    · refine r_index m.sX (by omega) (by omega) fun w hw => ?_
      conv => cbv
      have mw := get_mem hw
      have dw := drop_cons hw
      have kw := take_snoc hw
      have jw : (i1 + 1).toNat = Int.toNat i1 + 1 := by omega
      refine r_callF (lbI 1 cInt) m.sX ((SortsOfWord_ok f w).ice) fun v hsorts => ?_
      obtain ⟨sorts, is⟩ := v
      conv => cbv
      have cw := cs.word mw
      have se := (Prod.mk.inj (hsorts.trans cw.1)).1
      have sl := cw.2
      rw [← se] at sl
      obtain rfl : is = true := by exact (Prod.mk.inj (hsorts.trans cw.1)).2
      conv => cbv
      refine r_lenR m.sX fun n2 hn2 mn2 => ?_
      conv => cbv
      refine r_addf m.sX (by omega) (by omega) fun sum_2 hsum_2 => ?_
      conv => cbv
      refine r_addf m.sX (by omega) (by omega) fun r1 hr1 => ?_
      conv => cbv
      try have tr1 : Int.toNat r1 = Int.toNat i1 + 1 := by omega
      refine hE _ (sum_2, r1) ?_ ?_ ⟨(by (try dsimp only); first | omega | (simp only [List.length_nil]; omega)), (by (try dsimp only); first | omega | (simp only [List.length_nil]; omega)), (by (try dsimp only) <;> (rw [tr1, flatI_take hw, ← se]; omega)), (by (try dsimp only) <;> (omega))⟩ (by first | omega | (dsimp only; omega))
      · cbv
      · cbv
    · have dz_i1 := drop_end (xs := words) (i := Int.toNat i1) (by omega)
      have tz_i1 := take_end (xs := words) (i := Int.toNat i1) (by omega)
      refine hF _ _ ?_
      conv => cbv
      refine r_callF (PV.int .i64) m.sX (qSum_ok need (by first | rfl | assumption | omega | (simp only [List.length_append, List.length_cons, List.length_nil] at *; omega))) fun r2 hr2 => ?_
      conv => cbv
      refine r_neqF m.sX ((by rw [hr2, cs.sum, q, List.take_of_length_le (by omega)])) ?_
      conv => cbv
      exact hE0 _ (f, stock, words, enough, five, times) (by cbv) (by cbv) ⟨trivial, ⟨(by (try dsimp only) <;> (first | assumption | omega | (simp [*]; done))), (by (try dsimp only) <;> (first | assumption | omega | (simp [*]; done)))⟩⟩
  · exact hE0 _ (f, stock, words, enough, five, times) (by cbv) (by cbv) ⟨trivial, ⟨(by (try dsimp only) <;> (first | assumption | omega | (simp [*]; done))), (by (try dsimp only) <;> (first | assumption | omega | (simp [*]; done)))⟩⟩

theorem bills_part3 (m : Mach Try.prog G κ X Y L) (hQ : ∀ r, r = PV.bool true → Q r) (more : List Int) (h : CurIn more) (f : List FSort) (stock : List Int) (words : List (List UInt8)) (enough : Bool) (five : Bool) (times : Int) (ct : (times, five) = timesA f stock words) (ce : five = true → enough = (enoughA f stock words).1) (E0 : St → Prop)
    (hE0 : ∀ (s' : St) (σ : Unit), headOk s' [] = true → Ai.norm [1] [] s' = St.at 277 [(1, .isl 1 (rows cU8 more))] [] → (True ∧ ((True))) → E0 s') :
    Ai.code X L G (front 2 (rest 1 (rest 12 (Try.f6.body.getD .skip)))) (fun e s' => match e with | .normal => E0 s' | .exit i => EndsIn (post G Try.f6.results.toList Q) (.exit i) s' | .ret => EndsIn (post G Try.f6.results.toList Q) .ret s') (St.at 277 [(1, .isl 1 (rows cU8 more)), (5, .isl 2 (rows cSort f)), (6, .isl 1 (rows cInt stock)), (7, .isl 1 (rows cStr words)), (14, .bool enough), (23, .bool five), (24, .int .i64 times)] []) := by
  conv => cbv
  rcases Bool.eq_false_or_eq_true five with rfl | rfl <;> conv => cbv
  · have te := times_enough ct
    have ee := ce rfl
    have tp := times_pos ct
    refine r_gtr m.sX (fun h1 => ?_) (fun h1 => ?_) <;> conv => cbv
    · obtain rfl : enough = true := by first | (rw [ee, te]; exact decide_eq_true h1) | (rw [ee, te]; exact decide_eq_false (by omega))
      conv => cbv
      refine r_lss m.sX (fun h2 => ?_) (fun h2 => ?_) <;> conv => cbv
      · obtain ⟨z0, z1, z2, z3⟩ := recast_zero ct h2
        refine r_callF (lbI 1 cInt) m.sX ((LeastRecast_ok f stock words times).ice) fun v hnone_ => ?_
        obtain ⟨none_, is⟩ := v
        conv => cbv
        have nz : none_ = z0 := (Prod.mk.inj (hnone_.trans z1)).1
        have sf0 : SumFits none_ := by rw [nz]; exact sumfits_of 0 (fun z hz => by have := z3 z hz; omega) (by omega)
        refine r_addf m.sX (by omega) (by omega) fun r1 hr1 => ?_
        conv => cbv
        refine r_callF (lbI 1 cInt) m.sX ((LeastRecast_ok f stock words r1).ice) fun v hsome_ => ?_
        obtain ⟨some_, was⟩ := v
        conv => cbv
        obtain rfl : is = true := by first | exact (Prod.mk.inj (hnone_.trans z1)).2 | exact (Prod.mk.inj (hnone__2.trans z1)).2
        conv => cbv
        refine r_callF (PV.int .i64) m.sX (qSum_ok none_ (by first | rfl | assumption | omega | (simp only [List.length_append, List.length_cons, List.length_nil] at *; omega))) fun r2 hr2 => ?_
        conv => cbv
        refine r_neqF m.sX ((by rw [hr2, nz, z2])) ?_
        conv => cbv
        rcases Bool.eq_false_or_eq_true was with rfl | rfl <;> conv => cbv
        · have rm := recast_more ct (by assumption) (by first | (rw [← hr1]; exact hsome_) | (rw [← hr4]; exact hsome__2))
          have sf1 := rm.2
          refine r_callF (PV.int .i64) m.sX (qSum_ok some_ (by first | rfl | assumption | omega | (simp only [List.length_append, List.length_cons, List.length_nil] at *; omega))) fun r3 hr3 => ?_
          conv => cbv
          refine r_eqlF m.sX ((by rw [hr3]; exact rm.1)) ?_
          conv => cbv
          exact hE0 _ () (by cbv) (by cbv) ⟨trivial, (by (try dsimp only) <;> (first | assumption | omega | (simp [*]; done)))⟩
        · exact hE0 _ () (by cbv) (by cbv) ⟨trivial, (by (try dsimp only) <;> (first | assumption | omega | (simp [*]; done)))⟩
      · exact hE0 _ () (by cbv) (by cbv) ⟨trivial, (by (try dsimp only) <;> (first | assumption | omega | (simp [*]; done)))⟩
    · obtain rfl : enough = false := by first | (rw [ee, te]; exact decide_eq_true h1) | (rw [ee, te]; exact decide_eq_false (by omega))
      conv => cbv
      refine r_lss m.sX (fun h5 => ?_) (fun h5 => ?_) <;> conv => cbv
      · obtain ⟨z0, z1, z2, z3⟩ := recast_zero ct h5
        refine r_callF (lbI 1 cInt) m.sX ((LeastRecast_ok f stock words times).ice) fun v hnone__2 => ?_
        obtain ⟨none__2, is_2⟩ := v
        conv => cbv
        have nz : none__2 = z0 := (Prod.mk.inj (hnone__2.trans z1)).1
        have sf0 : SumFits none__2 := by rw [nz]; exact sumfits_of 0 (fun z hz => by have := z3 z hz; omega) (by omega)
        refine r_addf m.sX (by omega) (by omega) fun r4 hr4 => ?_
        conv => cbv
        refine r_callF (lbI 1 cInt) m.sX ((LeastRecast_ok f stock words r4).ice) fun v hsome__2 => ?_
        obtain ⟨some__2, was_2⟩ := v
        conv => cbv
        obtain rfl : is_2 = true := by first | exact (Prod.mk.inj (hnone_.trans z1)).2 | exact (Prod.mk.inj (hnone__2.trans z1)).2
        conv => cbv
        refine r_callF (PV.int .i64) m.sX (qSum_ok none__2 (by first | rfl | assumption | omega | (simp only [List.length_append, List.length_cons, List.length_nil] at *; omega))) fun r5 hr5 => ?_
        conv => cbv
        refine r_neqF m.sX ((by rw [hr5, nz, z2])) ?_
        conv => cbv
        rcases Bool.eq_false_or_eq_true was_2 with rfl | rfl <;> conv => cbv
        · have rm := recast_more ct (by assumption) (by first | (rw [← hr1]; exact hsome_) | (rw [← hr4]; exact hsome__2))
          have sf1 := rm.2
          refine r_callF (PV.int .i64) m.sX (qSum_ok some__2 (by first | rfl | assumption | omega | (simp only [List.length_append, List.length_cons, List.length_nil] at *; omega))) fun r6 hr6 => ?_
          conv => cbv
          refine r_eqlF m.sX ((by rw [hr6]; exact rm.1)) ?_
          conv => cbv
          exact hE0 _ () (by cbv) (by cbv) ⟨trivial, (by (try dsimp only) <;> (first | assumption | omega | (simp [*]; done)))⟩
        · exact hE0 _ () (by cbv) (by cbv) ⟨trivial, (by (try dsimp only) <;> (first | assumption | omega | (simp [*]; done)))⟩
      · exact hE0 _ () (by cbv) (by cbv) ⟨trivial, (by (try dsimp only) <;> (first | assumption | omega | (simp [*]; done)))⟩
  · exact hE0 _ () (by cbv) (by cbv) ⟨trivial, (by (try dsimp only) <;> (first | assumption | omega | (simp [*]; done)))⟩

theorem bills_part4 (m : Mach Try.prog G κ X Y L) (hQ : ∀ r, r = PV.bool true → Q r) (more : List Int) (h : CurIn more) (x1 : True) :
    Ai.code X L G (rest 2 (rest 1 (rest 12 (Try.f6.body.getD .skip)))) (EndsIn (post G Try.f6.results.toList Q)) (St.at 277 [(1, .isl 1 (rows cU8 more))] []) := by
  conv => cbv
  refine r_callE m.sX ((drawLeastRecast_ok more h).iceE) ?_
  rintro _ ⟨_, ⟨a, b, c, d, rfl, ba_1, ba_2, ba_3⟩, rfl⟩
  conv => cbv
  refine r_callF (lbI 1 cInt) m.sX ((LeastRecast_ok a b c d).ice) fun v hr => ?_
  obtain ⟨r, seven⟩ := v
  conv => cbv
  refine r_callF (lbI 1 cInt) m.sX ((specLeastRecast_ok a b c d).ice) fun y1 hy1 => ?_
  obtain rfl := hr.trans hy1.symm
  clear hy1
  conv => cbv
  rcases Bool.eq_false_or_eq_true seven with rfl | rfl <;> conv => cbv
  · refine r_callBT m.sX (qInts_ok r r) (by first | omega | assumption | exact decide_eq_true rfl | (subst_vars; omega)) ?_   -- h1
    conv => cbv
    exact hQ _ (congrArg PV.bool (by first | rfl | omega | (simp [*]; done) | (subst_vars; simp [*]; done)))   -- leaf 2
  · refine r_callBT m.sX (qInts_ok r r) (by first | omega | assumption | exact decide_eq_true rfl | (subst_vars; omega)) ?_   -- h2
    conv => cbv
    exact hQ _ (congrArg PV.bool (by first | rfl | omega | (simp [*]; done) | (subst_vars; simp [*]; done)))   -- leaf 3

end

theorem lawBills_ok (code more : List Int) (hf : ∀ x ∈ code, 0 ≤ x ∧ x ≤ 255) (hg : ∀ x ∈ more, 0 ≤ x ∧ x ≤ 255) : OkA Try.prog 6 [.isl 1 (rows cU8 code), .isl 1 (rows cU8 more)] (· = .bool true) :=
  fn_introW envOk fieldsOk mixed Try.func6 rfl (c := Try.f6.body.getD .skip) rfl fun κ X Y L Q m hQ =>
    W_cut m 12 277 [1, 5, 6, 7, 9, 10, 14, 23, 24] [] (fun σ : List FSort × List Int × List (List UInt8) × Bool × List Int × Bool × Bool × Int => [(1, .isl 1 (rows cU8 more)), (5, .isl 2 (rows cSort σ.1)), (6, .isl 1 (rows cInt σ.2.1)), (7, .isl 1 (rows cStr σ.2.2.1)), (9, .bool σ.2.2.2.1), (10, .isl 1 (rows cInt σ.2.2.2.2.1)), (14, .bool σ.2.2.2.2.2.1), (23, .bool σ.2.2.2.2.2.2.1), (24, .int .i64 σ.2.2.2.2.2.2.2)]) (fun σ => []) (fun σ => (more.length : Int) ≤ 9223372036854775807 ∧ (((σ.2.2.2.2.1, σ.2.2.2.1) = countsA σ.1 σ.2.2.1) ∧ ((σ.2.2.2.2.2.2.2, σ.2.2.2.2.2.2.1) = timesA σ.1 σ.2.1 σ.2.2.1) ∧ (σ.2.2.2.2.2.2.1 = true → σ.2.2.2.2.2.1 = (enoughA σ.1 σ.2.1 σ.2.2.1).1))) (bills_part1 m hQ code more hf) fun ⟨f, stock, words, ok, need, enough, five, times⟩ ⟨hl, ⟨cn, ct, ce⟩⟩ =>
    W_cut m 1 277 [1, 5, 6, 7, 14, 23, 24] [] (fun σ : List FSort × List Int × List (List UInt8) × Bool × Bool × Int => [(1, .isl 1 (rows cU8 more)), (5, .isl 2 (rows cSort σ.1)), (6, .isl 1 (rows cInt σ.2.1)), (7, .isl 1 (rows cStr σ.2.2.1)), (14, .bool σ.2.2.2.1), (23, .bool σ.2.2.2.2.1), (24, .int .i64 σ.2.2.2.2.2)]) (fun σ => []) (fun σ => True ∧ (((σ.2.2.2.2.2, σ.2.2.2.2.1) = timesA σ.1 σ.2.1 σ.2.2.1) ∧ (σ.2.2.2.2.1 = true → σ.2.2.2.1 = (enoughA σ.1 σ.2.1 σ.2.2.1).1))) (bills_part2 m hQ more ⟨hl, hg⟩ f stock words ok need enough five times cn ct ce) fun ⟨f, stock, words, enough, five, times⟩ ⟨_, ⟨ct, ce⟩⟩ =>
    W_cut m 2 277 [1] [] (fun σ : Unit => [(1, .isl 1 (rows cU8 more))]) (fun σ => []) (fun σ => True ∧ ((True))) (bills_part3 m hQ more ⟨hl, hg⟩ f stock words enough five times ct ce) fun _ ⟨_, x1⟩ =>
    W_last m (bills_part4 m hQ more ⟨hl, hg⟩ x1)

end Go.Proofs.Ytkcbhjnkpbeigaa.Ai
