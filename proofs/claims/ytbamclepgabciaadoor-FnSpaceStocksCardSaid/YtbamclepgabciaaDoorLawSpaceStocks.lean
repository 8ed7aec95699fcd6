/- The law FnSpaceStocks: its body returns true. -/
import Derived.Test.YtbamclepgabciaaDoorStkDraw
import Derived.Test.YtbamclepgabciaaDoorAiCut
namespace Go.Proofs.YtbamclepgabciaaDoor.Ai
open Go Go.Proofs
set_option linter.unusedSimpArgs false
set_option maxRecDepth 10000
set_option maxHeartbeats 4000000
set_option linter.unusedVariables false
theorem can_both {ks : List Int} {n : Int} {c b : Bool} (h : (c, b) = canF ks n) : b = okF ks n ∧ c = (okF ks n && decide (0 ≤ fewP ks n)) := by
  unfold canF at h
  split at h
  · rename_i ho
    obtain ⟨b1, b2, b3⟩ := okF_spec ho
    rw [fewC_prF (fun k hk => (b2 k hk).1) b3.2] at h
    rw [ho]
    exact ⟨(Prod.mk.inj h).2, (Prod.mk.inj h).1⟩
  · rename_i ho
    rw [Bool.not_eq_true] at ho
    rw [ho]
    exact ⟨(Prod.mk.inj h).2, (Prod.mk.inj h).1⟩
theorem thin_both {ks : List Int} {n t : Int} {b : Bool} (h : (t, b) = thinF ks n) : b = (okF ks n && decide (0 ≤ fewP ks n)) ∧ (b = true → t = minOf (Thin ks n) ∧ 0 ≤ t) := by
  unfold thinF at h
  cases ho : okF ks n with
  | false => rw [ho] at h; simp at h; simp [h.2]
  | true =>
    obtain ⟨b1, b2, b3⟩ := okF_spec ho
    cases ks with
    | nil => simp at b1
    | cons k r =>
      have hi := thin_iff (k := k) (r := r) (n := n) fun x hx => (b2 x hx).1
      rw [ho] at h
      by_cases hp : 0 ≤ minOf (Thin (k :: r) n)
      · rw [decide_eq_true hp] at h
        rw [decide_eq_true (hi.1 hp)]
        have e := Prod.mk.inj (show (t, b) = (minOf (Thin (k :: r) n), true) from h)
        exact ⟨e.2, fun _ => ⟨e.1, by rw [e.1]; exact hp⟩⟩
      · rw [decide_eq_false hp] at h
        rw [decide_eq_false (fun hq => hp (hi.2 hq))]
        have e := Prod.mk.inj (show (t, b) = (0, false) from h)
        exact ⟨e.2, fun hb => by rw [e.2] at hb; cases hb⟩
theorem stk_both {ks ss : List Int} {n : Int} {f : List Int} {b : Bool} (h : (f, b) = stkF ks ss n) : (b = true → okF ks n = true ∧ okCn ks ss = true ∧ 0 ≤ fewC (pre ks ss ks.length) n ∧ f = (topC (pre ks ss ks.length) n).reverse) := by
  unfold stkF at h
  split at h
  · rename_i hc
    simp only [Bool.and_eq_true, decide_eq_true_eq] at hc
    exact fun _ => ⟨hc.1.1, hc.1.2, hc.2, (Prod.mk.inj h).1⟩
  · intro hb; rw [hb] at h; simp at h
theorem pre_full {ks ss : List Int} (hl : ss.length = ks.length) : (pre ks ss ks.length).map Prod.fst = ks.reverse ∧ (pre ks ss ks.length).length = ks.length := by
  rw [pre, List.map_reverse, List.map_take]
  constructor
  · rw [show (ks.zip ss).map Prod.fst = ks from List.map_fst_zip (by omega), List.take_of_length_le (Nat.le_refl _)]
  · simp; omega
/-- What is known of a filling. -/
theorem stk_facts {ks ss : List Int} {n : Int} {f : List Int} (h : (f, true) = stkF ks ss n) :
    f.length = ks.length ∧ (∀ (i : Nat) (x s : Int), f[i]? = some x → ss[i]? = some s → 0 ≤ x ∧ x ≤ s) ∧ dot f ks = n ∧ okCn ks f = true ∧ 0 ≤ fewP ks n := by
  obtain ⟨h1, h2, h3, h4⟩ := stk_both h rfl
  obtain ⟨b1, b2, b3⟩ := okF_spec h1
  obtain ⟨c1, c2⟩ := okCn_spec h2
  obtain ⟨p1, p2⟩ := pre_full c2
  have hw : ∀ p ∈ pre ks ss ks.length, 1 ≤ p.1 := fun p hp => (b2 p.1 (pre_mem hp).1).1
  obtain ⟨d1, d2⟩ := topC_spec hw h3
  have hl : f.length = ks.length := by rw [h4, List.length_reverse, topC_length, p2]
  have hin : ∀ (i : Nat) (x s : Int), f[i]? = some x → ss[i]? = some s → 0 ≤ x ∧ x ≤ s := by
    intro i x s hx hs
    have hi := (List.getElem?_eq_some_iff.1 hx).1
    have hi' : i < (topC (pre ks ss ks.length) n).length := by rw [h4, List.length_reverse] at hi; exact hi
    rw [h4, List.getElem?_reverse hi'] at hx
    have hk : ∃ k, ks[i]? = some k := ⟨ks[i]'(by omega), List.getElem?_eq_getElem (by omega)⟩
    obtain ⟨k, hk⟩ := hk
    have hz : (ks.zip ss)[i]? = some (k, s) := by rw [List.getElem?_zip_eq_some]; exact ⟨hk, hs⟩
    refine d2 _ x (k, s) hx ?_
    have hlen : (ks.zip ss).length = ks.length := by rw [List.length_zip]; omega
    rw [topC_length, p2, pre, List.take_of_length_le (by omega)]
    rw [List.getElem?_reverse (by omega), hlen, show ks.length - 1 - (ks.length - 1 - i) = i by omega]
    exact hz
  have hdot : dot f ks = n := by
    have := dot_reverse (a := topC (pre ks ss ks.length) n) (b := ks.reverse) (by rw [topC_length, p2, List.length_reverse])
    rw [List.reverse_reverse] at this
    rw [h4, this, ← p1, d1]
  have hmem : ∀ c ∈ f, 0 ≤ c ∧ c ≤ 400 := by
    intro c hc
    obtain ⟨i, hi⟩ := List.getElem?_of_mem hc
    have hlt := (List.getElem?_eq_some_iff.1 hi).1
    have hs : ss[i]? = some (ss[i]'(by omega)) := List.getElem?_eq_getElem (by omega)
    have a1 := hin i c _ hi hs
    have a2 := c1 _ (List.mem_of_getElem? hs)
    omega
  refine ⟨hl, hin, hdot, ?_, ?_⟩
  · rw [okCn_of h1, decide_eq_true hl]
    rw [show allB f 0 400 = true from List.all_eq_true.2 fun c hc => by have := hmem c hc; simp [inB]; omega]; rfl
  · obtain ⟨x, hx⟩ := pay_dot hl fun c hc => (hmem c hc).1
    rw [hdot] at hx
    have := hx.pos fun k hk => (b2 k hk).1
    exact (fewP_spec ks n).pos.2 ⟨x, by omega, hx⟩
/-- No filling has fewer of the thinnest kind than are needed. -/
theorem stk_thin {ks ss : List Int} {n t : Int} {f : List Int} (h : (f, true) = stkF ks ss n) (ht : t = minOf (Thin ks n)) : t ≤ nth f 0 := by
  obtain ⟨hl, hin, hdot, hok, -⟩ := stk_facts h
  obtain ⟨h1, h2, -, -⟩ := stk_both h rfl
  obtain ⟨b1, b2, b3⟩ := okF_spec h1
  obtain ⟨c1, -⟩ := okCn_spec hok
  cases ks with
  | nil => simp at b1
  | cons k r =>
    cases f with
    | nil => simp at hl
    | cons c q =>
      have h0 := (c1 c (by simp)).1
      obtain ⟨x, hx⟩ := pay_dot (ks := r) (cs := q) (by simpa using hl) fun y hy => (c1 y (List.mem_cons_of_mem _ hy)).1
      have e : dot q r = n - c * k := by rw [dot] at hdot; omega
      rw [e] at hx
      have hp := hx.pos fun y hy => (b2 y (List.mem_cons_of_mem _ hy)).1
      have hth : Thin (k :: r) n c := (fewP_spec r (n - c * k)).pos.2 ⟨x, by omega, hx⟩
      have := (minOf_spec (Thin (k :: r) n)).le h0 hth
      show t ≤ c
      omega
theorem dot_take : ∀ {a b : List Int} {i : Nat} {x y : Int}, a[i]? = some x → b[i]? = some y → dot (a.take (i + 1)) (b.take (i + 1)) = dot (a.take i) (b.take i) + x * y
  | a :: a2, b :: bs, 0, x, y, h, h' => by simp at h h'; subst h h'; simp [dot]
  | a :: a2, b :: bs, i + 1, x, y, h, h' => by
    have := dot_take (a := a2) (b := bs) (i := i) (by simpa using h) (by simpa using h')
    simp only [List.take_succ_cons, dot] at this ⊢
    omega
  | [], _, _, _, _, h, _ => by simp at h
  | _ :: _, [], _, _, _, _, h => by simp at h
theorem dot_bound : ∀ {a b : List Int} {i : Nat}, (∀ x ∈ a, 0 ≤ x ∧ x ≤ 400) → (∀ y ∈ b, 1 ≤ y ∧ y ≤ 54) → 0 ≤ dot (a.take i) (b.take i) ∧ dot (a.take i) (b.take i) ≤ 21600 * i
  | _, _, 0, _, _ => by simp [dot]
  | [], b, i + 1, _, _ => by cases b <;> simp [dot] <;> omega
  | a :: a2, [], i + 1, _, _ => by simp [dot]; omega
  | a :: a2, b :: bs, i + 1, h, h' => by
    have := dot_bound (a := a2) (b := bs) (i := i) (fun x hx => h x (List.mem_cons_of_mem _ hx)) fun y hy => h' y (List.mem_cons_of_mem _ hy)
    have h1 := h a (by simp)
    have h2 := h' b (by simp)
    have := mul_bound h1.1 h1.2 (show 0 ≤ b by omega) h2.2
    simp only [List.take_succ_cons, dot, Int.natCast_add] at *
    omega
theorem stx_ok {ks cs : List Int} {t : List UInt8} {b : Bool} (h : (t, b) = stxF ks cs) : b = okCn ks cs := by
  unfold stxF at h
  split at h
  · rename_i ho; rw [ho]; exact (Prod.mk.inj h).2
  · rename_i ho; rw [Bool.not_eq_true] at ho; rw [ho]; exact (Prod.mk.inj h).2
theorem thin_can {F D one three c : Bool} (h2 : one = (F && D)) (h3 : three = F) (hc : c = (F && D)) (e : one = true) : three = true ∧ c = true := by cases F <;> cases D <;> simp_all
noncomputable abbrev midSpaceStocks (more : List Int) : List (Nat × PV) := [(1, .isl 1 (rows cU8 more))]

section
variable {κ : Ctx} {X Y : Req → (PV → Prop) → Prop} {L : Code → (Ex → St → Prop) → St → Prop} {Q : PV → Prop}

theorem spaceStocks_part1 (m : Mach Tryd.prog G κ X Y L) (hQ : ∀ r, r = PV.bool true → Q r) (code more : List Int) (hf : ∀ x ∈ code, 0 ≤ x ∧ x ≤ 255) (E0 : St → Prop)
    (hE0 : ∀ (s' : St) (a : Unit), headOk s' [] = true → Ai.norm [1] [] s' = St.at 245 (midSpaceStocks more) [] → (more.length : Int) ≤ 9223372036854775807 → E0 s') :
    Ai.code X L G (front 11 (Tryd.f6.body.getD .skip)) (fun e s' => match e with | .normal => E0 s' | .exit i => EndsIn (post G Tryd.f6.results.toList Q) (.exit i) s' | .ret => EndsIn (post G Tryd.f6.results.toList Q) .ret s') (start 245 [.isl 1 (rows cU8 code), .isl 1 (rows cU8 more)] []) := by
  conv => cbv
  refine r_lenR m.sX fun n1 hn1 mn1 => ?_
  conv => cbv
  refine r_lenR m.sX fun n2 hn2 mn2 => ?_
  conv => cbv
  refine r_add m.sX fun r1 hr1 => ?_
  conv => cbv
  refine r_gtr m.sX (fun h1 => ?_) (fun h1 => ?_) <;> conv => cbv
  · exact hQ _ (congrArg PV.bool (by first | rfl | omega | (simp [*]; done) | (subst_vars; simp [*]; done)))   -- leaf 1
  · have h : CurIn code := ⟨by omega, hf⟩
    have hmr : (more.length : Int) ≤ 9223372036854775807 := by omega
    refine r_callE m.sX ((drawFillFromStock_ok code h).iceE) ?_
    rintro _ ⟨_, ⟨kinds, stock, n, rfl, bkinds_1, bkinds_2⟩, rfl⟩
    conv => cbv
    refine r_callF (lbI 1 cInt) m.sX ((FillFromStock_ok kinds stock n).ice) fun v hf => ?_
    obtain ⟨f, ok⟩ := v
    conv => cbv
    have o1 := stk_both hf
    refine r_callF (lbI 1 cInt) m.sX ((specFillFromStock_ok kinds stock n).ice) fun y1 hy1 => ?_
    obtain rfl := hf.trans hy1.symm
    clear hy1
    conv => cbv
    refine r_callF ib m.sX (ThinnestNeeded_ok kinds n) fun v ht => ?_
    obtain ⟨t, one⟩ := v
    conv => cbv
    have o2 := thin_both ht
    refine r_callF ib m.sX (specThinnestNeeded_ok kinds n) fun y2 hy2 => ?_
    obtain rfl := ht.trans hy2.symm
    clear hy2
    conv => cbv
    refine r_callF bb m.sX (CanFill_ok kinds n) fun v hc => ?_
    obtain ⟨c, three⟩ := v
    conv => cbv
    have o3 := can_both hc
    have o4 : one = true → three = true ∧ c = true := fun e => thin_can o2.1 o3.1 o3.2 e
    have o5 : one = false → three = true → c = false := fun e e' => by rw [o3.2, ← o2.1, e]
    refine r_callF bb m.sX (specCanFill_ok kinds n) fun y3 hy3 => ?_
    obtain rfl := hc.trans hy3.symm
    clear hy3
    conv => cbv
    rcases Bool.eq_false_or_eq_true ok with rfl | rfl <;> conv => cbv
    · obtain ⟨fl, fin, fd, fk, fp⟩ := stk_facts hf
      have oF := (o1 rfl).1
      obtain ⟨b1, b2, b3⟩ := okF_spec oF
      obtain ⟨c1, c2⟩ := okCn_spec (o1 rfl).2.1
      obtain ⟨d1, d2⟩ := okCn_spec fk
      refine r_callBT m.sX (qInts_ok f f) (by first | assumption | exact decide_eq_true rfl | (simp [*]; done) | omega) ?_   -- h2
      conv => cbv
      obtain rfl : one = true := by rw [o2.1, oF, decide_eq_true fp]; rfl
      conv => cbv
      refine r_neqF m.sX (by first | omega | rfl) ?_
      conv => cbv
      obtain rfl : three = true := by exact (o4 rfl).1
      conv => cbv
      obtain rfl : c = true := by first | exact (o4 rfl).2 | exact o5 rfl rfl
      conv => cbv
      refine r_lenR m.sX fun n3 hn3 mn3 => ?_
      conv => cbv
      refine r_loopF (α := Int × Int) m 245 [1, 5, 6, 7, 8, 10, 14, 20, 134, 135, 136] [] (fun σ => [(1, .isl 1 (rows cU8 more)), (5, .isl 1 (rows cInt kinds)), (6, .isl 1 (rows cInt stock)), (7, .int .i64 n), (8, .isl 1 (rows cInt f)), (10, .isl 1 (rows cInt f)), (14, .int .i64 t), (20, .int .i64 σ.1), (134, .isl 1 (rows cInt f)), (135, .int .i64 n3), (136, .int .i64 σ.2)]) (fun σ => [])
        (fun σ => (0 ≤ σ.2) ∧ (σ.2 ≤ n3) ∧ (σ.1 = dot (f.take σ.2.toNat) (kinds.take σ.2.toNat))) (fun σ => (n3 - σ.2).toNat) (0, 0) ?_ ?_ ?_ ?_
      · cbv
      · cbv
      · exact ⟨(by (try dsimp only); first | omega | (simp only [List.length_nil]; omega) | (simp only [List.length_cons, List.length_nil]; omega)), (by (try dsimp only); first | omega | (simp only [List.length_nil]; omega) | (simp only [List.length_cons, List.length_nil]; omega)), (by (try dsimp only) <;> first | omega | rfl | (simp [*]; done))⟩
      rintro ⟨sum, i1⟩ ⟨lo1, hi1, q⟩ E hE F hF
      dsimp only at lo1 hi1 q
      have db := dot_bound (i := Int.toNat i1) d1 b2
      rw [← q] at db
      conv => cbv
      refine r_lss m.sX (fun h4 => ?_) (fun h4 => ?_) <;> conv => cbv
      · refine r_index m.sX (by omega) (by omega) fun x hx => ?_
        conv => cbv
        have mx := get_mem hx
        have dx := drop_cons hx
        have kx := take_snoc hx
        have jx : (i1 + 1).toNat = Int.toNat i1 + 1 := by omega
        have vx := nth_some hx
        obtain ⟨sx, hsx⟩ := get_ex (xs := stock) (i := Int.toNat i1) (by omega)
        have fx := fin _ _ _ hx hsx
        have dx_ := d1 _ mx
        refine r_lssF m.sX (by first | omega | rfl) ?_
        conv => cbv
        refine r_index m.sX (by omega) (by omega) fun x1 hx1 => ?_
        conv => cbv
        have mx1 := get_mem hx1
        have dx1 := drop_cons hx1
        have kx1 := take_snoc hx1
        have jx1 : (i1 + 1).toNat = Int.toNat i1 + 1 := by omega
        have vx1 := nth_some hx1
        have e1 := Option.some.inj (hsx.symm.trans hx1)
        refine r_gtrF m.sX (by first | omega | rfl) ?_
        conv => cbv
        refine r_index m.sX (by omega) (by omega) fun x2 hx2 => ?_
        conv => cbv
        have mx2 := get_mem hx2
        have dx2 := drop_cons hx2
        have kx2 := take_snoc hx2
        have jx2 : (i1 + 1).toNat = Int.toNat i1 + 1 := by omega
        have vx2 := nth_some hx2
        have bx := b2 _ mx2
        have g1 := mul_bound fx.1 dx_.2 (show 0 ≤ x2 by omega) bx.2
        refine r_mulf m.sX (by first | omega | (subst_vars; omega)) (by first | omega | (subst_vars; omega)) fun r2 hr2 => ?_
        conv => cbv
        refine r_addf m.sX (by omega) (by omega) fun sum_2 hsum_2 => ?_
        conv => cbv
        refine r_addf m.sX (by omega) (by omega) fun r3 hr3 => ?_
        conv => cbv
        try have tr3 : Int.toNat r3 = Int.toNat i1 + 1 := by omega
        refine hE _ (sum_2, r3) ?_ ?_ ⟨(by (try dsimp only); first | omega | (simp only [List.length_nil]; omega) | (simp only [List.length_cons, List.length_nil]; omega)), (by (try dsimp only); first | omega | (simp only [List.length_nil]; omega) | (simp only [List.length_cons, List.length_nil]; omega)), (by (try dsimp only) <;> (rw [hsum_2, q, tr3, dot_take hx hx2, hr2]))⟩ (by first | omega | (dsimp only; omega))
        · cbv
        · cbv
      · have dz_i1 := drop_end (xs := f) (i := Int.toNat i1) (by omega)
        have tz_i1 := take_end (xs := f) (i := Int.toNat i1) (by omega)
        refine hF _ _ ?_
        conv => cbv
        refine r_neqF m.sX ((by rw [q, tz_i1, show kinds.take (Int.toNat i1) = kinds from List.take_of_length_le (by omega)]; exact fd)) ?_
        conv => cbv
        refine r_index m.sX (by omega) (by omega) fun x3 hx3 => ?_
        conv => cbv
        have mx3 := get_mem hx3
        have vx3 := nth_some hx3
        have tt : t ≤ x3 := by rw [← vx3]; exact stk_thin hf (o2.2 rfl).1
        refine r_lssF m.sX (by first | omega | rfl) ?_
        conv => cbv
        refine r_callF sb m.sX (SpacesText_ok kinds f) fun v hs_ => ?_
        obtain ⟨s_, five⟩ := v
        conv => cbv
        refine r_callF sb m.sX (specSpacesText_ok kinds f) fun y4 hy4 => ?_
        obtain rfl := hs_.trans hy4.symm
        clear hy4
        conv => cbv
        obtain rfl : five = true := by exact (stx_ok hs_).trans fk
        conv => cbv
        refine r_sneqF m.sX (by first | omega | rfl) ?_
        conv => cbv
        exact hE0 _ () (by cbv) (by cbv) hmr
    · refine r_callBT m.sX (qInts_ok f f) (by first | assumption | exact decide_eq_true rfl | (simp [*]; done) | omega) ?_   -- h10
      conv => cbv
      rcases Bool.eq_false_or_eq_true one with rfl | rfl <;> conv => cbv
      · refine r_neqF m.sX (by first | omega | rfl) ?_
        conv => cbv
        obtain rfl : three = true := by exact (o4 rfl).1
        conv => cbv
        obtain rfl : c = true := by first | exact (o4 rfl).2 | exact o5 rfl rfl
        conv => cbv
        exact hE0 _ () (by cbv) (by cbv) hmr
      · refine r_neqF m.sX (by first | omega | rfl) ?_
        conv => cbv
        rcases Bool.eq_false_or_eq_true three with rfl | rfl <;> conv => cbv
        · obtain rfl : c = false := by first | exact (o4 rfl).2 | exact o5 rfl rfl
          conv => cbv
          exact hE0 _ () (by cbv) (by cbv) hmr
        · rcases Bool.eq_false_or_eq_true c with rfl | rfl <;> conv => cbv
          · exact hE0 _ () (by cbv) (by cbv) hmr
          · exact hE0 _ () (by cbv) (by cbv) hmr

theorem spaceStocks_part2 (m : Mach Tryd.prog G κ X Y L) (hQ : ∀ r, r = PV.bool true → Q r) (more : List Int) (h : CurIn more) :
    Ai.code X L G (rest 11 (Tryd.f6.body.getD .skip)) (EndsIn (post G Tryd.f6.results.toList Q)) (St.at 245 (midSpaceStocks more) []) := by
  conv => cbv
  refine r_callE m.sX ((drawSpacesText_ok more h).iceE) ?_
  rintro _ ⟨_, ⟨u, counts, rfl, bu_1, bu_2⟩, rfl⟩
  conv => cbv
  refine r_callF sb m.sX (SpacesText_ok u counts) fun v hs_ => ?_
  obtain ⟨s_, five⟩ := v
  conv => cbv
  refine r_callF sb m.sX (specSpacesText_ok u counts) fun y1 hy1 => ?_
  obtain rfl := hs_.trans hy1.symm
  clear hy1
  conv => cbv
  refine r_callE m.sX ((drawThinnestNeeded_ok more h).iceE) ?_
  rintro _ ⟨_, ⟨v, m_, rfl, bv_1⟩, rfl⟩
  conv => cbv
  refine r_callF ib m.sX (ThinnestNeeded_ok v m_) fun v hx => ?_
  obtain ⟨x, seven⟩ := v
  conv => cbv
  refine r_callF ib m.sX (specThinnestNeeded_ok v m_) fun y2 hy2 => ?_
  obtain rfl := hx.trans hy2.symm
  clear hy2
  conv => cbv
  rcases Bool.eq_false_or_eq_true five with rfl | rfl <;> conv => cbv
  · refine r_seqlT m.sX (by first | omega | rfl) ?_
    conv => cbv
    rcases Bool.eq_false_or_eq_true seven with rfl | rfl <;> conv => cbv
    · refine r_eqlT m.sX (by first | omega | rfl) ?_
      conv => cbv
      exact hQ _ (congrArg PV.bool (by first | rfl | omega | (simp [*]; done) | (subst_vars; simp [*]; done)))   -- leaf 2
    · refine r_eqlT m.sX (by first | omega | rfl) ?_
      conv => cbv
      exact hQ _ (congrArg PV.bool (by first | rfl | omega | (simp [*]; done) | (subst_vars; simp [*]; done)))   -- leaf 3
  · refine r_seqlT m.sX (by first | omega | rfl) ?_
    conv => cbv
    rcases Bool.eq_false_or_eq_true seven with rfl | rfl <;> conv => cbv
    · refine r_eqlT m.sX (by first | omega | rfl) ?_
      conv => cbv
      exact hQ _ (congrArg PV.bool (by first | rfl | omega | (simp [*]; done) | (subst_vars; simp [*]; done)))   -- leaf 4
    · refine r_eqlT m.sX (by first | omega | rfl) ?_
      conv => cbv
      exact hQ _ (congrArg PV.bool (by first | rfl | omega | (simp [*]; done) | (subst_vars; simp [*]; done)))   -- leaf 5

end

theorem lawSpaceStocks_ok (code more : List Int) (hf : ∀ x ∈ code, 0 ≤ x ∧ x ≤ 255) (hg : ∀ x ∈ more, 0 ≤ x ∧ x ≤ 255) : OkA Tryd.prog 6 [.isl 1 (rows cU8 code), .isl 1 (rows cU8 more)] (· = .bool true) :=
  fn_introW envOk fieldsOk mixed Tryd.func6 rfl (c := Tryd.f6.body.getD .skip) rfl fun κ X Y L Q m hQ =>
    W_cut m 11 245 [1] [] (fun _ : Unit => midSpaceStocks more) (fun _ => []) (fun _ => (more.length : Int) ≤ 9223372036854775807) (spaceStocks_part1 m hQ code more hf) fun _ hl =>
    W_last m (spaceStocks_part2 m hQ more ⟨hl, hg⟩)

end Go.Proofs.YtbamclepgabciaaDoor.Ai
