/- The law FnSpaces: its body returns true. -/
import Derived.Test.YtpjmpgbgglhoeaaSpaceDraw
import Derived.Test.YtpjmpgbgglhoeaaAiCut
namespace Go.Proofs.Ytpjmpgbgglhoeaa.Ai
open Go Go.Proofs
set_option maxRecDepth 10000
set_option maxHeartbeats 4000000
set_option linter.unusedVariables false

theorem fill_ok {ks f : List Int} {n : Int} {b : Bool} (h : (f, b) = fillF ks n) : (okF ks n && decide (0 ≤ fewC (prF ks) n)) = b := by
  unfold fillF at h
  split at h <;> simp_all
theorem fill_val {ks f : List Int} {n : Int} (h : (f, true) = fillF ks n) : f = (cntC (prF ks) n).reverse := by
  unfold fillF at h
  split at h <;> simp_all
theorem can_ok {ks : List Int} {n : Int} {c b : Bool} (h : (c, b) = canF ks n) : okF ks n = b ∧ c = (okF ks n && decide (0 ≤ fewC (prF ks) n)) := by
  unfold canF at h
  split at h <;> simp_all
theorem miss_ok {ks m : List Int} {n : Int} {b : Bool} (h : (m, b) = missF ks n) : okF ks n = b := by
  unfold missF at h
  split at h <;> simp_all
theorem miss_val {ks m : List Int} {n : Int} (h : (m, true) = missF ks n) : m = markL (fun x => decide (x < 0)) 0 (rowC (prF ks) n) := by
  have e := miss_ok h
  rw [missF, if_pos e] at h
  exact (Prod.mk.inj h).1
theorem ways_ok {ks : List Int} {n w : Int} {b : Bool} (h : (w, b) = waysF ks n) : okF ks n = b := by
  unfold waysF at h
  split at h <;> simp_all
theorem ways_val {ks : List Int} {n w : Int} (h : (w, true) = waysF ks n) : w = wayW ks.reverse n := by
  have e := ways_ok h
  rw [waysF, if_pos e] at h
  exact (Prod.mk.inj h).1
theorem near_ok {ks : List Int} {n w : Int} {b : Bool} (h : (w, b) = nearF ks n) : okF ks n = b := by
  unfold nearF at h
  split at h <;> simp_all
theorem near_val {ks : List Int} {n w : Int} (h : (w, true) = nearF ks n) : w = down (fun m => decide (0 ≤ fewC (prF ks) m)) n.toNat := by
  have e := near_ok h
  rw [nearF, if_pos e] at h
  exact (Prod.mk.inj h).1
theorem markL_in {p : Int → Bool} : ∀ {c : List Int} {k : Int} {i : Nat}, i < c.length → p (nth c i) = true → k + i ∈ markL p k c
  | [], k, i, h, _ => by simp at h
  | x :: r, k, 0, _, hp => by
    have : p x = true := by simpa [nth] using hp
    simp [markL, this]
  | x :: r, k, i + 1, h, hp => by
    have := markL_in (p := p) (c := r) (k := k + 1) (i := i) (by simpa using h) (by simpa [nth] using hp)
    rw [show k + 1 + (i : Int) = k + ((i + 1 : Nat) : Int) by omega] at this
    simp only [markL]
    split
    · exact List.mem_cons_of_mem _ this
    · exact this
/-- What the numbers are for kinds and a width that fit. -/
structure Fills (ks : List Int) (n : Int) : Prop where
  ok : okF ks n = true
  pos : ∀ k ∈ ks, 1 ≤ k
  ways : 0 < wayW ks.reverse n ↔ 0 ≤ fewC (prF ks) n
  miss : n ∈ markL (fun x => decide (x < 0)) 0 (rowC (prF ks) n) ↔ fewC (prF ks) n < 0
  near : 0 ≤ down (fun m => decide (0 ≤ fewC (prF ks) m)) n.toNat ∧ down (fun m => decide (0 ≤ fewC (prF ks) m)) n.toNat ≤ n
  can : 0 ≤ fewC (prF ks) (down (fun m => decide (0 ≤ fewC (prF ks) m)) n.toNat)
  same : down (fun m => decide (0 ≤ fewC (prF ks) m)) n.toNat = n ↔ 0 ≤ fewC (prF ks) n
theorem fills {ks : List Int} {n : Int} (h : okF ks n = true) : Fills ks n := by
  obtain ⟨b1, b2, b3⟩ := okF_spec h
  have bk : ∀ k ∈ ks, 1 ≤ k := fun k hk => (b2 k hk).1
  have z : 0 ≤ fewC (prF ks) 0 := by rw [fewC_prF bk (by omega), fewP_zero bk]; exact Int.le_refl _
  obtain ⟨d1, d2, d3⟩ := down_spec (p := fun m => decide (0 ≤ fewC (prF ks) m)) (hi := n.toNat) (Int.le_refl 0) (by omega) (decide_eq_true z)
  have d1' := of_decide_eq_true d1
  refine ⟨h, bk, ?_, ?_, by omega, d1', ?_⟩
  · rw [wayW_pos (fun k hk => bk k (List.mem_reverse.1 hk)) b3.1, fewC_prF bk b3.2, (fewP_spec ks n).pos]
    exact ⟨fun ⟨x, a, b⟩ => ⟨x, a, b.mono fun k hk => List.mem_reverse.1 hk⟩, fun ⟨x, a, b⟩ => ⟨x, a, b.mono fun k hk => List.mem_reverse.2 hk⟩⟩
  · constructor
    · intro hm
      have := of_decide_eq_true (markL_mem hm).2.2
      rwa [Int.sub_zero, rowC_nth (by omega), Int.toNat_of_nonneg b3.1] at this
    · intro hn
      have := markL_in (p := fun x => decide (x < 0)) (c := rowC (prF ks) n) (k := 0) (i := n.toNat) (by rw [rowC_length]; omega) (by rw [rowC_nth (by omega), Int.toNat_of_nonneg b3.1]; exact decide_eq_true hn)
      rwa [Int.zero_add, Int.toNat_of_nonneg b3.1] at this
  · constructor
    · intro e
      rw [e] at d1'; exact d1'
    · intro hn
      have := (down_spec (p := fun m => decide (0 ≤ fewC (prF ks) m)) (hi := n.toNat) b3.1 (by omega) (decide_eq_true hn)).2.1
      omega
theorem okF_le {ks : List Int} {n k : Int} (h : okF ks n = true) (h0 : 0 ≤ k) (h1 : k ≤ n) : okF ks k = true := by
  simp only [okF, Bool.and_eq_true] at h ⊢
  have := inB_spec h.2
  exact ⟨h.1, by simp [inB]; omega⟩
theorem okF_K {ks : List Int} {n : Int} (h : okF ks n = true) : okK ks = true := by
  simp only [okF, Bool.and_eq_true] at h; exact h.1
theorem cnt_len (ks : List Int) (n : Int) : (cntC (prF ks) n).length = ks.length := by
  rw [cntC_length, prF, pre, List.length_reverse, List.length_take, List.length_zip]; simp
theorem cnt_sum {ks : List Int} {n : Int} (bk : ∀ k ∈ ks, 1 ≤ k) (h : 0 ≤ fewC (prF ks) n) : dot (cntC (prF ks) n).reverse ks = n := by
  have e := cntC_dot (l := prF ks) (fun p hp => (pre_rep_mem bk p hp).1) h
  rw [show (prF ks).map Prod.fst = ks.reverse by rw [prF, pre_rep, List.take_length]] at e
  have := dot_reverse (a := cntC (prF ks) n) (b := ks.reverse) (by rw [cnt_len]; simp)
  rw [List.reverse_reverse] at this
  exact this.trans e
theorem dot_take {a b : List Int} {i : Nat} {x y : Int} (ha : a[i]? = some x) (hb : b[i]? = some y) : dot (a.take (i + 1)) (b.take (i + 1)) = dot (a.take i) (b.take i) + x * y := by
  have h1 := (List.getElem?_eq_some_iff.1 ha).1
  have h2 := (List.getElem?_eq_some_iff.1 hb).1
  rw [List.take_add_one, List.take_add_one, ha, hb, dot_append (by simp; omega)]
  simp [dot]

noncomputable abbrev midSpaces (more : List Int) : List (Nat × PV) := [(1, .isl 1 (rows cU8 more))]

section
variable {κ : Ctx} {X Y : Req → (PV → Prop) → Prop} {L : Code → (Ex → St → Prop) → St → Prop} {Q : PV → Prop}

theorem spaces_part1 (m : Mach Try.prog G κ X Y L) (hQ : ∀ r, r = PV.bool true → Q r) (code more : List Int) (hf : ∀ x ∈ code, 0 ≤ x ∧ x ≤ 255) (E0 : St → Prop)
    (hE0 : ∀ (s' : St) (a : Unit), headOk s' [] = true → Ai.norm [1] [] s' = St.at 252 (midSpaces more) [] → (more.length : Int) ≤ 9223372036854775807 → E0 s') :
    Ai.code X L G (front 16 (Try.f4.body.getD .skip)) (fun e s' => match e with | .normal => E0 s' | .exit i => EndsIn (post G Try.f4.results.toList Q) (.exit i) s' | .ret => EndsIn (post G Try.f4.results.toList Q) .ret s') (start 252 [.isl 1 (rows cU8 code), .isl 1 (rows cU8 more)] []) := by
  conv => cbv
  refine r_lenR m.sX fun n1 hn1 mn1 => ?_
  conv => cbv
  refine r_lenR m.sX fun n2 hn2 mn2 => ?_
  conv => cbv
  refine r_add m.sX fun r1 hr1 => ?_
  conv => cbv
  refine r_gtr m.sX (fun h1 => ?_) (fun h1 => ?_) <;> conv => cbv
  · exact hQ _ (congrArg PV.bool (by first | rfl | omega | (simp [*]; done) | (subst_vars; simp [*]; done)))   -- leaf 1
  · have h : CurIn code := ⟨by omega, hf⟩
    have hd : (more.length : Int) ≤ 9223372036854775807 := by omega
    refine r_callE m.sX ((drawFewestSpaces_ok code h).iceE) ?_
    rintro _ ⟨_, ⟨kinds, n, rfl, bkinds_1⟩, rfl⟩
    conv => cbv
    refine r_callF (lbI 1 cInt) m.sX ((FewestSpaces_ok kinds n).ice) fun v hf => ?_
    obtain ⟨f, ok⟩ := v
    conv => cbv
    have o1 := fill_ok hf
    refine r_callF (lbI 1 cInt) m.sX ((specFewestSpaces_ok kinds n).ice) fun y1 hy1 => ?_
    obtain rfl := hf.trans hy1.symm
    clear hy1
    conv => cbv
    refine r_callF bb m.sX (CanFill_ok kinds n) fun v hc => ?_
    obtain ⟨c, one⟩ := v
    conv => cbv
    have o2 := can_ok hc
    refine r_callF bb m.sX (specCanFill_ok kinds n) fun y2 hy2 => ?_
    obtain rfl := hc.trans hy2.symm
    clear hy2
    conv => cbv
    refine r_callF (lbI 1 cInt) m.sX ((MissingSums_ok kinds n).ice) fun v hm_ => ?_
    obtain ⟨m_, three⟩ := v
    conv => cbv
    have o3 := miss_ok hm_
    refine r_callF (lbI 1 cInt) m.sX ((specMissingSums_ok kinds n).ice) fun y3 hy3 => ?_
    obtain rfl := hm_.trans hy3.symm
    clear hy3
    conv => cbv
    refine r_callF ib m.sX (WaysToFill_ok kinds n) fun v hw => ?_
    obtain ⟨w, five⟩ := v
    conv => cbv
    have o4 := ways_ok hw
    refine r_callF ib m.sX (specWaysToFill_ok kinds n) fun y4 hy4 => ?_
    obtain rfl := hw.trans hy4.symm
    clear hy4
    conv => cbv
    refine r_callF ib m.sX (NearestFill_ok kinds n) fun v hk => ?_
    obtain ⟨k, seven⟩ := v
    conv => cbv
    have o5 := near_ok hk
    refine r_callF ib m.sX (specNearestFill_ok kinds n) fun y5 hy5 => ?_
    obtain rfl := hk.trans hy5.symm
    clear hy5
    conv => cbv
    rcases Bool.eq_false_or_eq_true ok with rfl | rfl <;> conv => cbv
    · refine r_callBT m.sX (qInts_ok f f) (by first | assumption | exact decide_eq_true rfl | (simp [*]; done) | omega) ?_   -- h2
      conv => cbv
      obtain rfl : one = true := by rw [Bool.and_eq_true] at o1; exact o2.1.symm.trans o1.1
      conv => cbv
      have p1 : okF kinds n = true := o2.1
      have q2 := o1
      rw [p1, Bool.true_and] at q2
      have fl := fills p1
      obtain rfl : c = true := by rw [o2.2, p1, q2]; rfl
      conv => cbv
      obtain rfl : three = true := by exact o3.symm.trans o2.1
      conv => cbv
      refine r_callBT m.sX (qInts_ok m_ m_) (by first | assumption | exact decide_eq_true rfl | (simp [*]; done) | omega) ?_   -- h3
      conv => cbv
      obtain rfl : five = true := by exact o4.symm.trans o2.1
      conv => cbv
      refine r_neqF m.sX (by omega) ?_
      conv => cbv
      obtain rfl : seven = true := by exact o5.symm.trans o2.1
      conv => cbv
      refine r_neqF m.sX (by omega) ?_
      conv => cbv
      refine r_callBT m.sX (AreSpaces_ok kinds) (by exact okF_K p1) ?_   -- h6
      conv => cbv
      refine r_gtrT m.sX ((by rw [ways_val hw]; exact fl.ways.2 (of_decide_eq_true q2))) ?_
      conv => cbv
      refine r_callBF m.sX (qHas_ok m_ n) (by rw [miss_val hm_]; exact decide_eq_false fun e => absurd (fl.miss.1 e) (by have := of_decide_eq_true q2; omega)) ?_   -- h8
      conv => cbv
      refine r_eqlT m.sX ((by rw [near_val hk]; exact fl.same.2 (of_decide_eq_true q2))) ?_
      conv => cbv
      refine r_gtrF m.sX ((by rw [near_val hk]; exact fl.near.2)) ?_
      conv => cbv
      refine r_lssF m.sX ((by rw [near_val hk]; exact fl.near.1)) ?_
      conv => cbv
      refine r_callF bb m.sX (CanFill_ok kinds k) fun v hnear => ?_
      obtain ⟨near, is⟩ := v
      conv => cbv
      obtain rfl : is = true := by rw [← (can_ok hnear).1]; exact okF_le p1 (by rw [near_val hk]; exact fl.near.1) (by rw [near_val hk]; exact fl.near.2)
      conv => cbv
      obtain rfl : near = true := by rw [(can_ok hnear).2, (can_ok hnear).1, near_val hk, decide_eq_true fl.can]; rfl
      conv => cbv
      refine r_lenR m.sX fun n3 hn3 mn3 => ?_
      conv => cbv
      have p2 := of_decide_eq_true q2
      have fv := fill_val hf
      have lf : f.length = kinds.length := by rw [fv, List.length_reverse, cnt_len]
      have bs := okF_spec p1
      have fs := cntC_mem (l := prF kinds) (fun p hp => (pre_rep_mem fl.pos p hp).1) p2
      refine r_loopF (α := Int × Int) m 252 [1, 5, 6, 29, 226, 227, 228] [] (fun σ => [(1, .isl 1 (rows cU8 more)), (5, .isl 1 (rows cInt kinds)), (6, .int .i64 n), (29, .int .i64 σ.1), (226, .isl 1 (rows cInt f)), (227, .int .i64 n3), (228, .int .i64 σ.2)]) (fun σ => [])
        (fun σ => (0 ≤ σ.2) ∧ (σ.2 ≤ n3) ∧ (σ.1 = dot (f.take σ.2.toNat) (kinds.take σ.2.toNat)) ∧ (0 ≤ σ.1 ∧ σ.1 ≤ 21600 * σ.2)) (fun σ => (n3 - σ.2).toNat) (0, 0) ?_ ?_ ?_ ?_
      · cbv
      · cbv
      · exact ⟨(by (try dsimp only); first | omega | (simp only [List.length_nil]; omega)), (by (try dsimp only); first | omega | (simp only [List.length_nil]; omega)), (by (try dsimp only) <;> first | omega | rfl | (simp [*]; done)), (by (try dsimp only) <;> first | omega | rfl | (simp [*]; done))⟩
      rintro ⟨sum, i1⟩ ⟨lo1, hi1, q, sb⟩ E hE F hF
      dsimp only at lo1 hi1 q sb
      conv => cbv
      refine r_lss m.sX (fun h12 => ?_) (fun h12 => ?_) <;> conv => cbv
      · refine r_index m.sX (by omega) (by omega) fun x hx => ?_
        conv => cbv
        have mx := get_mem hx
        have dx := drop_cons hx
        have kx := take_snoc hx
        have jx : (i1 + 1).toNat = Int.toNat i1 + 1 := by omega
        have vx := nth_some hx
        have bx := fs x (by rw [fv] at mx; exact List.mem_reverse.1 mx)
        refine r_index m.sX (by omega) (by omega) fun x1 hx1 => ?_
        conv => cbv
        have mx1 := get_mem hx1
        have dx1 := drop_cons hx1
        have kx1 := take_snoc hx1
        have jx1 : (i1 + 1).toNat = Int.toNat i1 + 1 := by omega
        have vx1 := nth_some hx1
        have bx1 := bs.2.1 _ mx1
        have g1 := mul_bound bx.1 (show x ≤ 400 by omega) (show 0 ≤ x1 by omega) bx1.2
        refine r_mulf m.sX (by omega) (by omega) fun r2 hr2 => ?_
        conv => cbv
        refine r_addf m.sX (by omega) (by omega) fun sum_2 hsum_2 => ?_
        conv => cbv
        refine r_addf m.sX (by omega) (by omega) fun r3 hr3 => ?_
        conv => cbv
        have tr3 : Int.toNat r3 = Int.toNat i1 + 1 := by omega
        refine hE _ (sum_2, r3) ?_ ?_ ⟨(by (try dsimp only); first | omega | (simp only [List.length_nil]; omega)), (by (try dsimp only); first | omega | (simp only [List.length_nil]; omega)), (by (try dsimp only) <;> (rw [hsum_2, hr2, q, tr3, dot_take hx hx1])), (by (try dsimp only) <;> first | omega | rfl | (simp [*]; done) | (rw [sb]; simp [*]; done))⟩ (by first | omega | (dsimp only; omega))
        · cbv
        · cbv
      · have dz_i1 := drop_end (xs := f) (i := Int.toNat i1) (by omega)
        have tz_i1 := take_end (xs := f) (i := Int.toNat i1) (by omega)
        refine hF _ _ ?_
        conv => cbv
        refine r_neqF m.sX ((by rw [q, show Int.toNat i1 = kinds.length by omega, List.take_length, ← lf, List.take_length, fv]; exact cnt_sum fl.pos p2)) ?_
        conv => cbv
        exact hE0 _ () (by cbv) (by cbv) hd
    · refine r_callBT m.sX (qInts_ok f f) (by first | assumption | exact decide_eq_true rfl | (simp [*]; done) | omega) ?_   -- h14
      conv => cbv
      rcases Bool.eq_false_or_eq_true one with rfl | rfl <;> conv => cbv
      · have p1 : okF kinds n = true := o2.1
        have q2 := o1
        rw [p1, Bool.true_and] at q2
        have fl := fills p1
        obtain rfl : c = false := by rw [o2.2, p1, q2]; rfl
        conv => cbv
        obtain rfl : three = true := by exact o3.symm.trans o2.1
        conv => cbv
        refine r_callBT m.sX (qInts_ok m_ m_) (by first | assumption | exact decide_eq_true rfl | (simp [*]; done) | omega) ?_   -- h15
        conv => cbv
        obtain rfl : five = true := by exact o4.symm.trans o2.1
        conv => cbv
        refine r_neqF m.sX (by omega) ?_
        conv => cbv
        obtain rfl : seven = true := by exact o5.symm.trans o2.1
        conv => cbv
        refine r_neqF m.sX (by omega) ?_
        conv => cbv
        refine r_callBT m.sX (AreSpaces_ok kinds) (by exact okF_K p1) ?_   -- h18
        conv => cbv
        refine r_gtrF m.sX ((by rw [ways_val hw]; have a := fl.ways; have b := of_decide_eq_false q2; omega)) ?_
        conv => cbv
        refine r_callBT m.sX (qHas_ok m_ n) (by rw [miss_val hm_]; exact decide_eq_true (fl.miss.2 (by have b := of_decide_eq_false q2; omega))) ?_   -- h20
        conv => cbv
        refine r_eqlF m.sX ((by rw [near_val hk]; exact fun e => (of_decide_eq_false q2) (fl.same.1 e))) ?_
        conv => cbv
        refine r_gtrF m.sX ((by rw [near_val hk]; exact fl.near.2)) ?_
        conv => cbv
        refine r_lssF m.sX ((by rw [near_val hk]; exact fl.near.1)) ?_
        conv => cbv
        refine r_callF bb m.sX (CanFill_ok kinds k) fun v hnear_2 => ?_
        obtain ⟨near_2, is_2⟩ := v
        conv => cbv
        obtain rfl : is_2 = true := by rw [← (can_ok hnear_2).1]; exact okF_le p1 (by rw [near_val hk]; exact fl.near.1) (by rw [near_val hk]; exact fl.near.2)
        conv => cbv
        obtain rfl : near_2 = true := by rw [(can_ok hnear_2).2, (can_ok hnear_2).1, near_val hk, decide_eq_true fl.can]; rfl
        conv => cbv
        exact hE0 _ () (by cbv) (by cbv) hd
      · rcases Bool.eq_false_or_eq_true c with rfl | rfl <;> conv => cbv
        · obtain rfl : three = false := by exact o3.symm.trans o2.1
          conv => cbv
          refine r_callBT m.sX (qInts_ok m_ m_) (by first | assumption | exact decide_eq_true rfl | (simp [*]; done) | omega) ?_   -- h24
          conv => cbv
          obtain rfl : five = false := by exact o4.symm.trans o2.1
          conv => cbv
          refine r_neqF m.sX (by omega) ?_
          conv => cbv
          obtain rfl : seven = false := by exact o5.symm.trans o2.1
          conv => cbv
          refine r_neqF m.sX (by omega) ?_
          conv => cbv
          exact hE0 _ () (by cbv) (by cbv) hd
        · obtain rfl : three = false := by exact o3.symm.trans o2.1
          conv => cbv
          refine r_callBT m.sX (qInts_ok m_ m_) (by first | assumption | exact decide_eq_true rfl | (simp [*]; done) | omega) ?_   -- h27
          conv => cbv
          obtain rfl : five = false := by exact o4.symm.trans o2.1
          conv => cbv
          refine r_neqF m.sX (by omega) ?_
          conv => cbv
          obtain rfl : seven = false := by exact o5.symm.trans o2.1
          conv => cbv
          refine r_neqF m.sX (by omega) ?_
          conv => cbv
          exact hE0 _ () (by cbv) (by cbv) hd

theorem spaces_part2 (m : Mach Try.prog G κ X Y L) (hQ : ∀ r, r = PV.bool true → Q r) (more : List Int) (h : CurIn more) :
    Ai.code X L G (rest 16 (Try.f4.body.getD .skip)) (EndsIn (post G Try.f4.results.toList Q)) (St.at 252 (midSpaces more) []) := by
  conv => cbv
  refine r_callE m.sX ((drawAreSpaces_ok more h).iceE) ?_
  rintro _ ⟨_, ⟨u, rfl, bu_1⟩, rfl⟩
  conv => cbv
  refine r_callB m.sX (AreSpaces_ok u) (fun h1 => ?_) (fun h1 => ?_) <;> conv => cbv
  · refine r_callBT m.sX (specAreSpaces_ok u) h1 ?_
    conv => cbv
    exact hQ _ (congrArg PV.bool (by first | rfl | omega | (simp [*]; done) | (subst_vars; simp [*]; done)))   -- leaf 2
  · refine r_callBF m.sX (specAreSpaces_ok u) h1 ?_
    conv => cbv
    exact hQ _ (congrArg PV.bool (by first | rfl | omega | (simp [*]; done) | (subst_vars; simp [*]; done)))   -- leaf 3

end

theorem lawSpaces_ok (code more : List Int) (hf : ∀ x ∈ code, 0 ≤ x ∧ x ≤ 255) (hg : ∀ x ∈ more, 0 ≤ x ∧ x ≤ 255) : OkA Try.prog 4 [.isl 1 (rows cU8 code), .isl 1 (rows cU8 more)] (· = .bool true) :=
  fn_introW envOk fieldsOk mixed Try.func4 rfl (c := Try.f4.body.getD .skip) rfl fun κ X Y L Q m hQ =>
    W_cut m 16 252 [1] [] (fun _ : Unit => midSpaces more) (fun _ => []) (fun _ => (more.length : Int) ≤ 9223372036854775807) (spaces_part1 m hQ code more hf) fun _ hl =>
    W_last m (spaces_part2 m hQ more ⟨hl, hg⟩)

end Go.Proofs.Ytpjmpgbgglhoeaa.Ai
