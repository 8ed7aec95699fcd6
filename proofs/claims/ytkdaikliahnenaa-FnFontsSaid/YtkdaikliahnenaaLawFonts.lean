/- The law FnFonts: its body returns true. -/
import Derived.Test.YtkdaikliahnenaaFont3
import Derived.Test.YtkdaikliahnenaaWordDraw
import Derived.Test.YtkdaikliahnenaaAiCut
namespace Go.Proofs.Ytkdaikliahnenaa.Ai
open Go Go.Proofs
set_option maxRecDepth 10000
set_option maxHeartbeats 4000000
set_option linter.unusedVariables false

theorem qTexts_ok (a : List (List UInt8)) (b : List (List UInt8))  : OkA Try.prog 17 [.isl 1 (rows cStr a), .isl 1 (rows cStr b)] (· = .bool (decide (a = b))) :=
  fn_intro envOk fieldsOk mixed Try.func17 rfl fun κ X Y L Q m hQ => by
    conv => cbv
    refine r_lenR m.sX fun n1 hn1 mn1 => ?_
    conv => cbv
    refine r_lenR m.sX fun n2 hn2 mn2 => ?_
    conv => cbv
    refine r_neq m.sX (fun h1 => ?_) (fun h1 => ?_) <;> conv => cbv
    · exact hQ _ (congrArg PV.bool (by exact (decide_eq_false fun e => by rw [e] at hn1; omega).symm))   -- leaf 1
    · refine r_lenR m.sX fun n3 hn3 mn3 => ?_
      conv => cbv
      refine r_loopF (α := Int) m 26 [0, 1, 12, 13] [] (fun σ => [(0, .isl 1 (rows cStr a)), (1, .isl 1 (rows cStr b)), (12, .int .i64 n3), (13, .int .i64 σ)]) (fun σ => [])
        (fun σ => (0 ≤ σ) ∧ (σ ≤ n3) ∧ (a.take σ.toNat = b.take σ.toNat)) (fun σ => (n3 - σ).toNat) 0 ?_ ?_ ?_ ?_
      · cbv
      · cbv
      · exact ⟨(by (try dsimp only); first | omega | (simp only [List.length_nil]; omega)), (by (try dsimp only); first | omega | (simp only [List.length_nil]; omega)), (by (try dsimp only) <;> first | omega | rfl | (simp [*]; done))⟩
      rintro i1 ⟨lo1, hi1, q⟩ E hE F hF
      conv => cbv
      refine r_lss m.sX (fun h2 => ?_) (fun h2 => ?_) <;> conv => cbv
      · refine r_draw m (by kernel_rfl) ?_
        conv => cbv
        refine r_index m.sY (by omega) (by omega) fun x1 hx1 => ?_
        conv => cbv
        have mx1 := get_mem hx1
        have dx1 := drop_cons hx1
        have kx1 := take_snoc hx1
        have jx1 : (i1 + 1).toNat = Int.toNat i1 + 1 := by omega
        refine r_index m.sY (by omega) (by omega) fun x2 hx2 => ?_
        conv => cbv
        have mx2 := get_mem hx2
        have dx2 := drop_cons hx2
        have kx2 := take_snoc hx2
        have jx2 : (i1 + 1).toNat = Int.toNat i1 + 1 := by omega
        refine r_sneq m.sY (fun h3 => ?_) (fun h3 => ?_) <;> conv => cbv
        · refine hF _ _ ?_
          conv => cbv
          exact hQ _ (congrArg PV.bool (by exact (decide_eq_false fun e => by rw [e] at hx1; exact h3 (Option.some.inj (hx1.symm.trans hx2))).symm))   -- leaf 2
        · refine r_addf m.sX (by omega) (by omega) fun r1 hr1 => ?_
          conv => cbv
          try have tr1 : Int.toNat r1 = Int.toNat i1 + 1 := by omega
          refine hE _ r1 ?_ ?_ ⟨(by (try dsimp only); first | omega | (simp only [List.length_nil]; omega)), (by (try dsimp only); first | omega | (simp only [List.length_nil]; omega)), (by (try dsimp only) <;> (rw [tr1, kx1, kx2, q, show x1 = x2 from by assumption]))⟩ (by first | omega | (dsimp only; omega))
          · cbv
          · cbv
      · have dz_i1 := drop_end (xs := a) (i := Int.toNat i1) (by omega)
        have tz_i1 := take_end (xs := a) (i := Int.toNat i1) (by omega)
        refine hF _ _ ?_
        conv => cbv
        exact hQ _ (congrArg PV.bool (by exact (decide_eq_true (eq_of_takes (by omega) q (by omega))).symm))   -- leaf 3

noncomputable abbrev midFonts (more : List Int) : List (Nat × PV) := [(1, .isl 1 (rows cU8 more))]

section
variable {κ : Ctx} {X Y : Req → (PV → Prop) → Prop} {L : Code → (Ex → St → Prop) → St → Prop} {Q : PV → Prop}

theorem fonts_part1 (m : Mach Try.prog G κ X Y L) (hQ : ∀ r, r = PV.bool true → Q r) (code more : List Int) (hf : ∀ x ∈ code, 0 ≤ x ∧ x ≤ 255) (E0 : St → Prop)
    (hE0 : ∀ (s' : St) (σ : List FSort × List UInt8 × Bool × List Int × Int × List (List UInt8) × Bool × List Int × Int), headOk s' [] = true → Ai.norm [1, 5, 6, 8, 9, 13, 17, 21, 22, 23] [] s' = St.at 235 [(1, .isl 1 (rows cU8 more)), (5, .isl 2 (rows cSort σ.1)), (6, .str σ.2.1), (8, .bool σ.2.2.1), (9, .isl 1 (rows cInt σ.2.2.2.1)), (13, .int .i64 σ.2.2.2.2.1), (17, .isl 1 (rows cStr σ.2.2.2.2.2.1)), (21, .bool σ.2.2.2.2.2.2.1), (22, .isl 1 (rows cInt σ.2.2.2.2.2.2.2.1)), (23, .int .i64 σ.2.2.2.2.2.2.2.2)] [] → ((more.length : Int) ≤ 9223372036854775807 ∧ ((σ.2.2.1 = true → σ.2.2.2.2.2.2.1 = true ∧ SortsLaw σ.1 σ.2.1 σ.2.2.2.1 σ.2.2.2.2.1 σ.2.2.2.2.2.1 σ.2.2.2.2.2.2.2.2) ∧ (σ.2.2.2.2.2.2.1 = true → WayLaw σ.1 σ.2.1 σ.2.2.2.2.2.2.2.1))) → E0 s') :
    Ai.code X L G (front 12 (Try.f3.body.getD .skip)) (fun e s' => match e with | .normal => E0 s' | .exit i => EndsIn (post G Try.f3.results.toList Q) (.exit i) s' | .ret => EndsIn (post G Try.f3.results.toList Q) .ret s') (start 235 [.isl 1 (rows cU8 code), .isl 1 (rows cU8 more)] []) := by
  conv => cbv
  refine r_lenR m.sX fun n1 hn1 mn1 => ?_
  conv => cbv
  refine r_lenR m.sX fun n2 hn2 mn2 => ?_
  conv => cbv
  refine r_add m.sX fun r1 hr1 => ?_
  conv => cbv
  refine r_gtr m.sX (fun h1 => ?_) (fun h1 => ?_) <;> conv => cbv
  · exact hQ _ (congrArg PV.bool (by first | rfl | omega | (simp [*]; done) | (subst_vars; simp [*]; done)))   -- leaf 1
  · have h : CurIn code := ⟨by omega, hf⟩
    have hmr : (more.length : Int) ≤ 9223372036854775807 := by omega
    refine r_callE m.sX ((drawSortsOfWord_ok code h).iceE) ?_
    rintro _ ⟨_, ⟨f, word, rfl, bf_1, bf_2⟩, rfl⟩
    conv => cbv
    refine r_callF (lbI 1 cInt) m.sX ((SortsOfWord_ok f word).ice) fun v hs_ => ?_
    obtain ⟨s_, ok⟩ := v
    conv => cbv
    refine r_callF (lbI 1 cInt) m.sX ((specSortsOfWord_ok f word).ice) fun y1 hy1 => ?_
    obtain rfl := hs_.trans hy1.symm
    clear hy1
    conv => cbv
    refine r_callF ib m.sX (WidthOfWord_ok f word) fun v hw => ?_
    obtain ⟨w, one⟩ := v
    conv => cbv
    refine r_callF ib m.sX (specWidthOfWord_ok f word) fun y2 hy2 => ?_
    obtain rfl := hw.trans hy2.symm
    clear hy2
    conv => cbv
    refine r_callF (lbI 1 cStr) m.sX ((LigaturesIn_ok f word).ice) fun v hl => ?_
    obtain ⟨l, three⟩ := v
    conv => cbv
    refine r_callF (lbI 1 cStr) m.sX ((specLigaturesIn_ok f word).ice) fun y3 hy3 => ?_
    obtain rfl := hl.trans hy3.symm
    clear hy3
    conv => cbv
    refine r_callF (lic 3 1 cInt) m.sX (NarrowestWay_ok f word) fun v hn => ?_
    obtain ⟨n, least, five⟩ := v
    conv => cbv
    obtain ⟨z1, z2, z3, z4⟩ := fonts_law hs_ hw hl hn
    refine r_callF (licI 1 cInt) m.sX (specNarrowestWay_ok f word) fun y4 hy4 => ?_
    obtain rfl := hn.trans hy4.symm
    clear hy4
    conv => cbv
    rcases Bool.eq_false_or_eq_true ok with rfl | rfl <;> conv => cbv
    · refine r_callBT m.sX (qInts_ok s_ s_) (by first | omega | assumption | exact decide_eq_true rfl | (subst_vars; omega)) ?_   -- h2
      conv => cbv
      obtain rfl : one = true := by exact z1
      conv => cbv
      refine r_neqF m.sX ((by first | omega | assumption | exact decide_eq_true rfl | (subst_vars; omega))) ?_
      conv => cbv
      obtain rfl : three = true := by exact z2
      conv => cbv
      refine r_callBT m.sX (qTexts_ok l l) (by first | omega | assumption | exact decide_eq_true rfl | (subst_vars; omega)) ?_   -- h4
      conv => cbv
      obtain rfl : five = true := by exact (z3 rfl).1
      conv => cbv
      refine .inl (r_callBTO m.sX ((qInts_ok n n).ok flat_bool) (by first | omega | assumption | exact decide_eq_true rfl | (subst_vars; omega)) ?_)   -- h5
      conv => cbv
      refine r_neqF m.sX ((by first | omega | assumption | exact decide_eq_true rfl | (subst_vars; omega))) ?_
      conv => cbv
      exact hE0 _ (f, word, true, s_, w, l, true, n, least) (by cbv) (by cbv) ⟨hmr, ⟨(by (try dsimp only) <;> (exact z3)), (by (try dsimp only) <;> (exact z4))⟩⟩
    · refine r_callBT m.sX (qInts_ok s_ s_) (by first | omega | assumption | exact decide_eq_true rfl | (subst_vars; omega)) ?_   -- h7
      conv => cbv
      obtain rfl : one = false := by exact z1
      conv => cbv
      refine r_neqF m.sX ((by first | omega | assumption | exact decide_eq_true rfl | (subst_vars; omega))) ?_
      conv => cbv
      obtain rfl : three = false := by exact z2
      conv => cbv
      refine r_callBT m.sX (qTexts_ok l l) (by first | omega | assumption | exact decide_eq_true rfl | (subst_vars; omega)) ?_   -- h9
      conv => cbv
      rcases Bool.eq_false_or_eq_true five with rfl | rfl <;> conv => cbv
      · refine .inl (r_callBTO m.sX ((qInts_ok n n).ok flat_bool) (by first | omega | assumption | exact decide_eq_true rfl | (subst_vars; omega)) ?_)   -- h10
        conv => cbv
        refine r_neqF m.sX ((by first | omega | assumption | exact decide_eq_true rfl | (subst_vars; omega))) ?_
        conv => cbv
        exact hE0 _ (f, word, false, s_, w, l, true, n, least) (by cbv) (by cbv) ⟨hmr, ⟨(by (try dsimp only) <;> (exact z3)), (by (try dsimp only) <;> (exact z4))⟩⟩
      · refine .inl (r_callBTO m.sX ((qInts_ok n n).ok flat_bool) (by first | omega | assumption | exact decide_eq_true rfl | (subst_vars; omega)) ?_)   -- h12
        conv => cbv
        refine r_neqF m.sX ((by first | omega | assumption | exact decide_eq_true rfl | (subst_vars; omega))) ?_
        conv => cbv
        exact hE0 _ (f, word, false, s_, w, l, false, n, least) (by cbv) (by cbv) ⟨hmr, ⟨(by (try dsimp only) <;> (exact z3)), (by (try dsimp only) <;> (exact z4))⟩⟩

theorem fonts_part2 (m : Mach Try.prog G κ X Y L) (hQ : ∀ r, r = PV.bool true → Q r) (more : List Int) (h : CurIn more) (f : List FSort) (word : List UInt8) (ok : Bool) (sorts : List Int) (width : Int) (ligatures : List (List UInt8)) (five : Bool) (narrow : List Int) (known : Int) (ca : ok = true → five = true ∧ SortsLaw f word sorts width ligatures known) (cb : five = true → WayLaw f word narrow) :
    Ai.code X L G (rest 12 (Try.f3.body.getD .skip)) (EndsIn (post G Try.f3.results.toList Q)) (St.at 235 [(1, .isl 1 (rows cU8 more)), (5, .isl 2 (rows cSort f)), (6, .str word), (8, .bool ok), (9, .isl 1 (rows cInt sorts)), (13, .int .i64 width), (17, .isl 1 (rows cStr ligatures)), (21, .bool five), (22, .isl 1 (rows cInt narrow)), (23, .int .i64 known)] []) := by
  conv => cbv
  rcases Bool.eq_false_or_eq_true ok with rfl | rfl <;> conv => cbv
  · obtain ⟨g1, g2, g3, g4, g5, g6, g7, g8⟩ := (ca rfl).2
    refine r_lenR m.sX fun n1 hn1 mn1 => ?_
    conv => cbv
    refine r_loopF (α := List UInt8 × Int × Int × Int) m 235 [5, 6, 13, 17, 21, 22, 23, 25, 26, 27, 160, 161, 162] [] (fun σ => [(5, .isl 2 (rows cSort f)), (6, .str word), (13, .int .i64 width), (17, .isl 1 (rows cStr ligatures)), (21, .bool five), (22, .isl 1 (rows cInt narrow)), (23, .int .i64 known), (25, .str σ.1), (26, .int .i64 σ.2.1), (27, .int .i64 σ.2.2.1), (160, .isl 1 (rows cInt sorts)), (161, .int .i64 n1), (162, .int .i64 σ.2.2.2)]) (fun σ => [])
      (fun σ => (0 ≤ σ.2.2.2) ∧ (σ.2.2.2 ≤ n1) ∧ (σ.1 = catF f (sorts.take σ.2.2.2.toNat)) ∧ (σ.2.1 = wideI f (sorts.take σ.2.2.2.toNat)) ∧ ((σ.2.2.1 : Int) = (ligF f (sorts.take σ.2.2.2.toNat)).length) ∧ (σ.1.length ≤ word.length) ∧ (0 ≤ σ.2.1 ∧ σ.2.1 ≤ 54 * σ.2.2.2) ∧ (0 ≤ σ.2.2.1 ∧ σ.2.2.1 ≤ σ.2.2.2)) (fun σ => (n1 - σ.2.2.2).toNat) (([] : List UInt8), 0, 0, 0) ?_ ?_ ?_ ?_
    · cbv
    · cbv
    · exact ⟨(by (try dsimp only); first | omega | (simp only [List.length_nil]; omega)), (by (try dsimp only); first | omega | (simp only [List.length_nil]; omega)), (by (try dsimp only) <;> (rfl)), (by (try dsimp only) <;> (rfl)), (by (try dsimp only) <;> (rfl)), (by (try dsimp only) <;> (simp)), (by (try dsimp only) <;> first | omega | rfl | (simp [*]; done)), (by (try dsimp only) <;> first | omega | rfl | (simp [*]; done))⟩
    rintro ⟨text, sum, pairs, i1⟩ ⟨lo1, hi1, q1, q2, q3, bt, bs, bp⟩ E hE F hF
    dsimp only at lo1 hi1 q1 q2 q3 bt bs bp
    conv => cbv
    refine r_lss m.sX (fun h1 => ?_) (fun h1 => ?_) <;> conv => cbv
    · refine r_index m.sX (by omega) (by omega) fun i hi => ?_
      conv => cbv
      have mi := get_mem hi
      have di := drop_cons hi
      have ki := take_snoc hi
      have ji : (i1 + 1).toNat = Int.toNat i1 + 1 := by omega
      have vi := nth_some hi
      have bi := g6 _ mi
      refine r_index m.sX (by omega) (by omega) fun v hx1A => ?_
      obtain ⟨x1A, x1B⟩ := v
      conv => cbv
      have hx1 := hx1A
      have mx1 := get_mem hx1
      have cl := okFont_codes g1 _ mx1
      try dsimp only at cl
      have sv : setAt f i = x1B := setAt_some hx1
      have sb := setAt_nn g1 i
      try dsimp only at sb
      refine r_callF ib m.sX (SetOfCode_ok f x1A) fun v hk => ?_
      obtain ⟨k, is⟩ := v
      conv => cbv
      try dsimp only at hk
      have ks := setA_self g1 bi.1 hx1
      try dsimp only at ks
      have ke : k = x1B := (Prod.mk.inj (hk.trans ks)).1
      obtain rfl : is = true := by exact (Prod.mk.inj (hk.trans ks)).2
      conv => cbv
      refine r_index m.sX (by omega) (by omega) fun v hx2A => ?_
      obtain ⟨x2A, x2B⟩ := v
      conv => cbv
      have hx2 := hx2A
      have mx2 := get_mem hx2
      obtain ⟨rfl, rfl⟩ : x1A = x2A ∧ x1B = x2B := by have := Option.some.inj (hx1.symm.trans hx2); simpa using this
      refine r_scat (u := text) (v := x1A) m.sX (by first | omega | (simp only [List.length_cons, List.length_nil]; omega) | (simp; omega)) fun text_2 htext_2 => ?_   -- text_2 = text ++ x1A
      have tq : text_2 = catF f (sorts.take (i1.toNat + 1)) := (by rw [htext_2, catF_take hi hx1, q1])
      have tl := catF_take_len (f := f) sorts (i1.toNat + 1)
      try dsimp only at tl
      rw [← tq, g5] at tl
      have ltext_2 : (text_2.length : Int) = text.length + x1A.length := by rw [htext_2, List.length_append, Int.natCast_add]
      try simp only [List.length_cons, List.length_nil] at ltext_2
      conv => cbv
      refine r_addf m.sX (by omega) (by omega) fun sum_2 hsum_2 => ?_
      conv => cbv
      have ke : k = x1B := (Prod.mk.inj (hk.trans ks)).1
      refine r_index m.sX (by omega) (by omega) fun v hx3A => ?_
      obtain ⟨x3A, x3B⟩ := v
      conv => cbv
      have hx3 := hx3A
      have mx3 := get_mem hx3
      obtain ⟨rfl, rfl⟩ : x1A = x3A ∧ x1B = x3B := by have := Option.some.inj (hx1.symm.trans hx3); simpa using this
      refine r_slen (u := x1A) m.sX fun n2 hn2 mn2 => ?_   -- n2 = length of x1A
      conv => cbv
      refine r_gtr m.sX (fun h2 => ?_) (fun h2 => ?_) <;> conv => cbv
      · refine r_addf m.sX (by omega) (by omega) fun pairs_2 hpairs_2 => ?_
        conv => cbv
        refine r_addf m.sX (by omega) (by omega) fun r1 hr1 => ?_
        conv => cbv
        try have tr1 : Int.toNat r1 = Int.toNat i1 + 1 := by omega
        refine hE _ (text_2, sum_2, pairs_2, r1) ?_ ?_ ⟨(by (try dsimp only); first | omega | (simp only [List.length_nil]; omega)), (by (try dsimp only); first | omega | (simp only [List.length_nil]; omega)), (by (try dsimp only) <;> (rw [tr1]; exact tq)), (by (try dsimp only) <;> (rw [tr1, wideI_take hi, sv, ← q2]; omega)), (by (try dsimp only) <;> (rw [tr1, ligF_take hi hx1]; dsimp only; first | (rw [if_pos (show 1 < x1A.length by omega), List.length_append]; simp; omega) | (rw [if_neg (show ¬ 1 < x1A.length by omega)]; omega))), (by (try dsimp only) <;> (exact tl)), (by (try dsimp only) <;> (omega)), (by (try dsimp only) <;> (omega))⟩ (by first | omega | (dsimp only; omega))
        · cbv
        · cbv
      · refine r_addf m.sX (by omega) (by omega) fun r2 hr2 => ?_
        conv => cbv
        try have tr2 : Int.toNat r2 = Int.toNat i1 + 1 := by omega
        refine hE _ (text_2, sum_2, pairs, r2) ?_ ?_ ⟨(by (try dsimp only); first | omega | (simp only [List.length_nil]; omega)), (by (try dsimp only); first | omega | (simp only [List.length_nil]; omega)), (by (try dsimp only) <;> (rw [tr2]; exact tq)), (by (try dsimp only) <;> (rw [tr2, wideI_take hi, sv, ← q2]; omega)), (by (try dsimp only) <;> (rw [tr2, ligF_take hi hx1]; dsimp only; first | (rw [if_pos (show 1 < x1A.length by omega), List.length_append]; simp; omega) | (rw [if_neg (show ¬ 1 < x1A.length by omega)]; omega))), (by (try dsimp only) <;> (exact tl)), (by (try dsimp only) <;> (omega)), (by (try dsimp only) <;> (omega))⟩ (by first | omega | (dsimp only; omega))
        · cbv
        · cbv
    · have dz_i1 := drop_end (xs := sorts) (i := Int.toNat i1) (by omega)
      have tz_i1 := take_end (xs := sorts) (i := Int.toNat i1) (by omega)
      refine hF _ _ ?_
      conv => cbv
      refine r_sneqF m.sX ((by rw [q1, tz_i1, g5])) ?_
      conv => cbv
      refine r_neqF m.sX ((by rw [q2, tz_i1, g2])) ?_
      conv => cbv
      refine r_lenR m.sX fun n3 hn3 mn3 => ?_
      conv => cbv
      refine r_neqF m.sX ((by rw [q3, tz_i1, ← g3]; omega)) ?_
      conv => cbv
      refine r_gtrF m.sX ((by omega)) ?_
      conv => cbv
      rcases Bool.eq_false_or_eq_true five with rfl | rfl <;> conv => cbv
      · refine r_lenR m.sX fun n4 hn4 mn4 => ?_
        conv => cbv
        obtain ⟨w0, w1, w2, w3, w4⟩ := cb rfl
        refine r_loopF (α := List UInt8 × Int) m 235 [5, 6, 32, 218, 219, 220] [] (fun σ => [(5, .isl 2 (rows cSort f)), (6, .str word), (32, .str σ.1), (218, .isl 1 (rows cInt narrow)), (219, .int .i64 n4), (220, .int .i64 σ.2)]) (fun σ => [])
          (fun σ => (0 ≤ σ.2) ∧ (σ.2 ≤ n4) ∧ (σ.1 = catF f (narrow.take σ.2.toNat)) ∧ (σ.1.length ≤ word.length)) (fun σ => (n4 - σ.2).toNat) (([] : List UInt8), 0) ?_ ?_ ?_ ?_
        · cbv
        · cbv
        · exact ⟨(by (try dsimp only); first | omega | (simp only [List.length_nil]; omega)), (by (try dsimp only); first | omega | (simp only [List.length_nil]; omega)), (by (try dsimp only) <;> (rfl)), (by (try dsimp only) <;> (simp))⟩
        rintro ⟨text_3, i2⟩ ⟨lo2, hi2, q4, bt2⟩ E hE F hF
        dsimp only at lo2 hi2 q4 bt2
        conv => cbv
        refine r_lss m.sX (fun h7 => ?_) (fun h7 => ?_) <;> conv => cbv
        · refine r_index m.sX (by omega) (by omega) fun i_2 hi_2 => ?_
          conv => cbv
          have mi_2 := get_mem hi_2
          have di_2 := drop_cons hi_2
          have ki_2 := take_snoc hi_2
          have ji_2 : (i2 + 1).toNat = Int.toNat i2 + 1 := by omega
          have vi_2 := nth_some hi_2
          have bi := w2 _ mi_2
          try dsimp only at bi
          refine r_index m.sX (by omega) (by omega) fun v hx4A => ?_
          obtain ⟨x4A, x4B⟩ := v
          conv => cbv
          have hx4 := hx4A
          have mx4 := get_mem hx4
          have cl := okFont_codes w0 _ mx4
          try dsimp only at cl
          refine r_scat (u := text_3) (v := x4A) m.sX (by first | omega | (simp only [List.length_cons, List.length_nil]; omega) | (simp; omega)) fun text_4 htext_4 => ?_   -- text_4 = text_3 ++ x4A
          have tq : text_4 = catF f (narrow.take (i2.toNat + 1)) := (by rw [htext_4, catF_take hi_2 hx4, q4])
          have tl := catF_take_len (f := f) narrow (i2.toNat + 1)
          try dsimp only at tl
          rw [← tq, w1] at tl
          have ltext_4 : (text_4.length : Int) = text_3.length + x4A.length := by rw [htext_4, List.length_append, Int.natCast_add]
          try simp only [List.length_cons, List.length_nil] at ltext_4
          conv => cbv
          refine r_addf m.sX (by omega) (by omega) fun r3 hr3 => ?_
          conv => cbv
          try have tr3 : Int.toNat r3 = Int.toNat i2 + 1 := by omega
          refine hE _ (text_4, r3) ?_ ?_ ⟨(by (try dsimp only); first | omega | (simp only [List.length_nil]; omega)), (by (try dsimp only); first | omega | (simp only [List.length_nil]; omega)), (by (try dsimp only) <;> (rw [tr3]; exact tq)), (by (try dsimp only) <;> (exact tl))⟩ (by first | omega | (dsimp only; omega))
          · cbv
          · cbv
        · have dz_i2 := drop_end (xs := narrow) (i := Int.toNat i2) (by omega)
          have tz_i2 := take_end (xs := narrow) (i := Int.toNat i2) (by omega)
          refine hF _ _ ?_
          conv => cbv
          refine r_seqlT m.sX ((by rw [q4, tz_i2, w1])) ?_
          conv => cbv
          exact hQ _ (congrArg PV.bool (by first | rfl | omega | (simp [*]; done) | (subst_vars; simp [*]; done) | (rw [q1]; simp [*]; done) | (rw [q2]; simp [*]; done) | (rw [q3]; simp [*]; done) | (rw [bt]; simp [*]; done) | (rw [bs]; simp [*]; done) | (rw [bp]; simp [*]; done) | (rw [q4]; simp [*]; done) | (rw [bt2]; simp [*]; done)))   -- leaf 2
      · exact hQ _ (congrArg PV.bool (by first | rfl | omega | (simp [*]; done) | (subst_vars; simp [*]; done) | (rw [q1]; simp [*]; done) | (rw [q2]; simp [*]; done) | (rw [q3]; simp [*]; done) | (rw [bt]; simp [*]; done) | (rw [bs]; simp [*]; done) | (rw [bp]; simp [*]; done)))   -- leaf 3
  · rcases Bool.eq_false_or_eq_true five with rfl | rfl <;> conv => cbv
    · refine r_lenR m.sX fun n5 hn5 mn5 => ?_
      conv => cbv
      obtain ⟨w0, w1, w2, w3, w4⟩ := cb rfl
      refine r_loopF (α := List UInt8 × Int) m 235 [5, 6, 32, 218, 219, 220] [] (fun σ => [(5, .isl 2 (rows cSort f)), (6, .str word), (32, .str σ.1), (218, .isl 1 (rows cInt narrow)), (219, .int .i64 n5), (220, .int .i64 σ.2)]) (fun σ => [])
        (fun σ => (0 ≤ σ.2) ∧ (σ.2 ≤ n5) ∧ (σ.1 = catF f (narrow.take σ.2.toNat)) ∧ (σ.1.length ≤ word.length)) (fun σ => (n5 - σ.2).toNat) (([] : List UInt8), 0) ?_ ?_ ?_ ?_
      · cbv
      · cbv
      · exact ⟨(by (try dsimp only); first | omega | (simp only [List.length_nil]; omega)), (by (try dsimp only); first | omega | (simp only [List.length_nil]; omega)), (by (try dsimp only) <;> (rfl)), (by (try dsimp only) <;> (simp))⟩
      rintro ⟨text_5, i3⟩ ⟨lo3, hi3, q4, bt2⟩ E hE F hF
      dsimp only at lo3 hi3 q4 bt2
      conv => cbv
      refine r_lss m.sX (fun h9 => ?_) (fun h9 => ?_) <;> conv => cbv
      · refine r_index m.sX (by omega) (by omega) fun i_3 hi_3 => ?_
        conv => cbv
        have mi_3 := get_mem hi_3
        have di_3 := drop_cons hi_3
        have ki_3 := take_snoc hi_3
        have ji_3 : (i3 + 1).toNat = Int.toNat i3 + 1 := by omega
        have vi_3 := nth_some hi_3
        have bi := w2 _ mi_3
        try dsimp only at bi
        refine r_index m.sX (by omega) (by omega) fun v hx5A => ?_
        obtain ⟨x5A, x5B⟩ := v
        conv => cbv
        have hx5 := hx5A
        have mx5 := get_mem hx5
        have cl := okFont_codes w0 _ mx5
        try dsimp only at cl
        refine r_scat (u := text_5) (v := x5A) m.sX (by first | omega | (simp only [List.length_cons, List.length_nil]; omega) | (simp; omega)) fun text_6 htext_6 => ?_   -- text_6 = text_5 ++ x5A
        have tq : text_6 = catF f (narrow.take (i3.toNat + 1)) := (by rw [htext_6, catF_take hi_3 hx5, q4])
        have tl := catF_take_len (f := f) narrow (i3.toNat + 1)
        try dsimp only at tl
        rw [← tq, w1] at tl
        have ltext_6 : (text_6.length : Int) = text_5.length + x5A.length := by rw [htext_6, List.length_append, Int.natCast_add]
        try simp only [List.length_cons, List.length_nil] at ltext_6
        conv => cbv
        refine r_addf m.sX (by omega) (by omega) fun r4 hr4 => ?_
        conv => cbv
        try have tr4 : Int.toNat r4 = Int.toNat i3 + 1 := by omega
        refine hE _ (text_6, r4) ?_ ?_ ⟨(by (try dsimp only); first | omega | (simp only [List.length_nil]; omega)), (by (try dsimp only); first | omega | (simp only [List.length_nil]; omega)), (by (try dsimp only) <;> (rw [tr4]; exact tq)), (by (try dsimp only) <;> (exact tl))⟩ (by first | omega | (dsimp only; omega))
        · cbv
        · cbv
      · have dz_i3 := drop_end (xs := narrow) (i := Int.toNat i3) (by omega)
        have tz_i3 := take_end (xs := narrow) (i := Int.toNat i3) (by omega)
        refine hF _ _ ?_
        conv => cbv
        refine r_seqlT m.sX ((by rw [q4, tz_i3, w1])) ?_
        conv => cbv
        exact hQ _ (congrArg PV.bool (by first | rfl | omega | (simp [*]; done) | (subst_vars; simp [*]; done) | (rw [q4]; simp [*]; done) | (rw [bt2]; simp [*]; done)))   -- leaf 4
    · exact hQ _ (congrArg PV.bool (by first | rfl | omega | (simp [*]; done) | (subst_vars; simp [*]; done)))   -- leaf 5

end

theorem lawFonts_ok (code more : List Int) (hf : ∀ x ∈ code, 0 ≤ x ∧ x ≤ 255) (hg : ∀ x ∈ more, 0 ≤ x ∧ x ≤ 255) : OkA Try.prog 3 [.isl 1 (rows cU8 code), .isl 1 (rows cU8 more)] (· = .bool true) :=
  fn_introW envOk fieldsOk mixed Try.func3 rfl (c := Try.f3.body.getD .skip) rfl fun κ X Y L Q m hQ =>
    W_cut m 12 235 [1, 5, 6, 8, 9, 13, 17, 21, 22, 23] [] (fun σ : List FSort × List UInt8 × Bool × List Int × Int × List (List UInt8) × Bool × List Int × Int => [(1, .isl 1 (rows cU8 more)), (5, .isl 2 (rows cSort σ.1)), (6, .str σ.2.1), (8, .bool σ.2.2.1), (9, .isl 1 (rows cInt σ.2.2.2.1)), (13, .int .i64 σ.2.2.2.2.1), (17, .isl 1 (rows cStr σ.2.2.2.2.2.1)), (21, .bool σ.2.2.2.2.2.2.1), (22, .isl 1 (rows cInt σ.2.2.2.2.2.2.2.1)), (23, .int .i64 σ.2.2.2.2.2.2.2.2)]) (fun σ => []) (fun σ => (more.length : Int) ≤ 9223372036854775807 ∧ ((σ.2.2.1 = true → σ.2.2.2.2.2.2.1 = true ∧ SortsLaw σ.1 σ.2.1 σ.2.2.2.1 σ.2.2.2.2.1 σ.2.2.2.2.2.1 σ.2.2.2.2.2.2.2.2) ∧ (σ.2.2.2.2.2.2.1 = true → WayLaw σ.1 σ.2.1 σ.2.2.2.2.2.2.2.1))) (fonts_part1 m hQ code more hf) fun ⟨f, word, ok, sorts, width, ligatures, five, narrow, known⟩ ⟨hl, ⟨ca, cb⟩⟩ =>
    W_last m (fonts_part2 m hQ more ⟨hl, hg⟩ f word ok sorts width ligatures five narrow known ca cb)

end Go.Proofs.Ytkdaikliahnenaa.Ai
