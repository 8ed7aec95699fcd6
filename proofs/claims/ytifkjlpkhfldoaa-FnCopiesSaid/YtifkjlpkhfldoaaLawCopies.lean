/- The law FnCopies: its body returns true. -/
import Derived.Test.YtifkjlpkhfldoaaCopyClass
import Derived.Test.YtifkjlpkhfldoaaAiCut
namespace Go.Proofs.Ytifkjlpkhfldoaa.Ai
open Go Go.Proofs
set_option maxRecDepth 10000
set_option maxHeartbeats 4000000
set_option linter.unusedVariables false
structure CopyF (s e : Int) (ok one three mixed : Bool) (of : List Int) : Prop where
  a : ok = true → e ≤ s ∧ mixed = false
  d : three = true → one = !decide (-1 ∈ of)
  f : one = true → ∀ z ∈ of, 0 ≤ z ∧ z ≤ e
theorem countT_bd (l cs : List (List Tx)) : ∀ n : Nat, n ≤ cs.length → (∀ z ∈ countT l cs n, 0 ≤ z ∧ z ≤ (n : Int)) ∧ (countT l cs n).length = l.length
  | 0, _ => ⟨fun z hz => by
      have := List.eq_of_mem_replicate (show z ∈ List.replicate l.length 0 from hz)
      omega, by simp [countT]⟩
  | n + 1, h => by
    obtain ⟨h1, h2⟩ := countT_bd l cs n (by omega)
    have e : cs[n]? = some cs[n] := List.getElem?_eq_getElem h
    rw [countT_step e]
    refine ⟨?_, by rw [countS_len, h2]⟩
    have hi := stateF_in l cs[n]
    by_cases h0 : 0 ≤ stateF l cs[n]
    · obtain ⟨x, hx⟩ := get_ex (xs := countT l cs n) (i := (stateF l cs[n]).toNat) (by omega)
      rw [countS_pos rfl h0 hx]
      have := h1 x (get_mem hx)
      exact set_bd h1 (by omega)
    · rw [countS_neg rfl (by omega)]
      intro z hz
      have := h1 z hz
      omega
theorem counts_classes {l cs : List (List Tx)} {n : List Int} {c : List (List Int)} {nine : Bool} (h : (n, true) = countAns l cs) (k : (c, nine) = classAns cs) : nine = true ∧ n.sum ≤ cs.length ∧ SumFits n := by
  unfold countAns at h
  split at h
  case isFalse => simp at h
  rename_i hc
  rw [Bool.and_eq_true] at hc
  rw [classAns, if_pos hc.2] at k
  have hs := countF_sum l cs (List.replicate l.length 0) (by simp)
  have hn : n = countF l cs := (Prod.mk.inj h).1
  refine ⟨(Prod.mk.inj k).2, ?_, ?_⟩
  · rw [hn, countF]
    simp at hs
    omega
  · obtain ⟨b1, b2⟩ := countT_bd l cs cs.length (Nat.le_refl _)
    rw [countT_all (Nat.le_refl _), ← hn] at b1 b2
    have := (copiesB_len hc.2).2
    have := (statesB_spec hc.1).2
    exact sumfits_of 10 (fun z hz => by have := b1 z hz; omega) (by omega)
theorem class_facts {cs : List (List Tx)} {c : List (List Int)} (k : (c, true) = classAns cs) : ClassI cs cs.length c ∧ cs.length ≤ 10 := by
  unfold classAns at k
  split at k
  case isFalse => simp at k
  rename_i hc
  rw [(Prod.mk.inj k).1]
  exact ⟨classI cs _ (Nat.le_refl _), (copiesB_len hc).2⟩
def lenS (l : List (List Int)) : Int := ((l.map List.length).sum : Nat)
theorem lenS_take {l : List (List Int)} {i : Nat} {x : List Int} (h : l[i]? = some x) : lenS (l.take (i + 1)) = lenS (l.take i) + x.length := by
  unfold lenS
  rw [List.take_add_one, h, Option.toList_some, List.map_append, List.sum_append]; simp
theorem lenS_total {cs : List (List Tx)} {c : List (List Int)} (I : ClassI cs cs.length c) : lenS c = cs.length := by
  unfold lenS; rw [I.total]
theorem cls_same {cs : List (List Tx)} {i j : Nat} {x y : List Tx} (h1 : cs[i]? = some x) (h2 : cs[j]? = some y) (h : cs.getD i [] = cs.getD j []) : x = y := by
  rw [List.getD_eq_getElem?_getD, List.getD_eq_getElem?_getD, h1, h2] at h
  exact h
theorem headD_at {c : List Int} {x : Int} (h : c[(0 : Int).toNat]? = some x) : x = c.headD 0 := by
  cases c with
  | nil => simp at h
  | cons a t => simpa using h.symm
theorem sameLists_ok (l : List (List Int))  : OkA Try.prog 22 [.isl 1 (rows (cSl 1 cInt) l), .isl 1 (rows (cSl 1 cInt) l)] (· = .bool (true)) :=
  fn_intro envOk fieldsOk mixed Try.func22 rfl fun κ X Y L Q m hQ => by
    conv => cbv
    refine r_lenR m.sX fun n1 hn1 mn1 => ?_
    conv => cbv
    refine r_lenR m.sX fun n2 hn2 mn2 => ?_
    conv => cbv
    refine r_neqF m.sX (by first | omega | rfl) ?_
    conv => cbv
    refine r_lenR m.sX fun n3 hn3 mn3 => ?_
    conv => cbv
    refine r_loopF (α := Int) m 27 [0, 1, 12, 13] [] (fun σ => [(0, .isl 1 (rows (cSl 1 cInt) l)), (1, .isl 1 (rows (cSl 1 cInt) l)), (12, .int .i64 n3), (13, .int .i64 σ)]) (fun σ => [])
      (fun σ => (0 ≤ σ) ∧ (σ ≤ n3)) (fun σ => (n3 - σ).toNat) 0 ?_ ?_ ?_ ?_
    · cbv
    · cbv
    · exact ⟨(by (try dsimp only); first | omega | (simp only [List.length_nil]; omega) | (simp only [List.length_cons, List.length_nil]; omega)), (by (try dsimp only); first | omega | (simp only [List.length_nil]; omega) | (simp only [List.length_cons, List.length_nil]; omega))⟩
    rintro i1 ⟨lo1, hi1⟩ E hE F hF
    conv => cbv
    refine r_lss m.sX (fun h2 => ?_) (fun h2 => ?_) <;> conv => cbv
    · refine r_draw m (by kernel_rfl) ?_
      conv => cbv
      refine r_index m.sY (by omega) (by omega) fun x1 hx1 => ?_
      conv => cbv
      have mx1 := get_mem hx1
      have dx1 := drop_cons hx1
      have kx1 := take_snoc hx1
      have jx1 : (i1 + 1).toNat = Int.toNat i1 + 1 := by omega
      refine r_index m.sY (by omega) (by omega) fun x2 hx2 => ?_
      conv => cbv
      have mx2 := get_mem hx2
      have dx2 := drop_cons hx2
      have kx2 := take_snoc hx2
      have jx2 : (i1 + 1).toNat = Int.toNat i1 + 1 := by omega
      obtain rfl : x1 = x2 := Option.some.inj (hx1.symm.trans hx2)
      refine r_callBTS m.sY (sameInts_ok x1 x1) (by first | assumption | exact decide_eq_true rfl | (simp [*]; done) | omega) ?_   -- h3
      conv => cbv
      refine r_addf m.sX (by omega) (by omega) fun r1 hr1 => ?_
      conv => cbv
      try have tr1 : Int.toNat r1 = Int.toNat i1 + 1 := by omega
      refine hE _ r1 ?_ ?_ ⟨(by (try dsimp only); first | omega | (simp only [List.length_nil]; omega) | (simp only [List.length_cons, List.length_nil]; omega)), (by (try dsimp only); first | omega | (simp only [List.length_nil]; omega) | (simp only [List.length_cons, List.length_nil]; omega))⟩ (by first | omega | (dsimp only; omega))
      · cbv
      · cbv
    · have dz_i1 := drop_end (xs := l) (i := Int.toNat i1) (by omega)
      have tz_i1 := take_end (xs := l) (i := Int.toNat i1) (by omega)
      refine hF _ _ ?_
      conv => cbv
      exact hQ _ (congrArg PV.bool (by first | rfl | omega | (simp [*]; done) | (subst_vars; simp [*]; done)))   -- leaf 1

theorem pSameTexts_ok (l : List (List UInt8))  : OkA Try.prog 45 [.isl 1 (rows cStr l), .isl 1 (rows cStr l)] (· = .bool (true)) :=
  fn_intro envOk fieldsOk mixed Try.func45 rfl fun κ X Y L Q m hQ => by
    conv => cbv
    refine r_lenR m.sX fun n1 hn1 mn1 => ?_
    conv => cbv
    refine r_lenR m.sX fun n2 hn2 mn2 => ?_
    conv => cbv
    refine r_neqF m.sX (by first | omega | rfl) ?_
    conv => cbv
    refine r_lenR m.sX fun n3 hn3 mn3 => ?_
    conv => cbv
    refine r_loopF (α := Int) m 26 [0, 1, 12, 13] [] (fun σ => [(0, .isl 1 (rows cStr l)), (1, .isl 1 (rows cStr l)), (12, .int .i64 n3), (13, .int .i64 σ)]) (fun σ => [])
      (fun σ => (0 ≤ σ) ∧ (σ ≤ n3)) (fun σ => (n3 - σ).toNat) 0 ?_ ?_ ?_ ?_
    · cbv
    · cbv
    · exact ⟨(by (try dsimp only); first | omega | (simp only [List.length_nil]; omega) | (simp only [List.length_cons, List.length_nil]; omega)), (by (try dsimp only); first | omega | (simp only [List.length_nil]; omega) | (simp only [List.length_cons, List.length_nil]; omega))⟩
    rintro i1 ⟨lo1, hi1⟩ E hE F hF
    conv => cbv
    refine r_lss m.sX (fun h2 => ?_) (fun h2 => ?_) <;> conv => cbv
    · refine r_draw m (by kernel_rfl) ?_
      conv => cbv
      refine r_index m.sY (by omega) (by omega) fun x1 hx1 => ?_
      conv => cbv
      have mx1 := get_mem hx1
      have dx1 := drop_cons hx1
      have kx1 := take_snoc hx1
      have jx1 : (i1 + 1).toNat = Int.toNat i1 + 1 := by omega
      refine r_index m.sY (by omega) (by omega) fun x2 hx2 => ?_
      conv => cbv
      have mx2 := get_mem hx2
      have dx2 := drop_cons hx2
      have kx2 := take_snoc hx2
      have jx2 : (i1 + 1).toNat = Int.toNat i1 + 1 := by omega
      obtain rfl : x1 = x2 := Option.some.inj (hx1.symm.trans hx2)
      refine r_sneqF m.sY (by first | omega | rfl) ?_
      conv => cbv
      refine r_addf m.sX (by omega) (by omega) fun r1 hr1 => ?_
      conv => cbv
      try have tr1 : Int.toNat r1 = Int.toNat i1 + 1 := by omega
      refine hE _ r1 ?_ ?_ ⟨(by (try dsimp only); first | omega | (simp only [List.length_nil]; omega) | (simp only [List.length_cons, List.length_nil]; omega)), (by (try dsimp only); first | omega | (simp only [List.length_nil]; omega) | (simp only [List.length_cons, List.length_nil]; omega))⟩ (by first | omega | (dsimp only; omega))
      · cbv
      · cbv
    · have dz_i1 := drop_end (xs := l) (i := Int.toNat i1) (by omega)
      have tz_i1 := take_end (xs := l) (i := Int.toNat i1) (by omega)
      refine hF _ _ ?_
      conv => cbv
      exact hQ _ (congrArg PV.bool (by first | rfl | omega | (simp [*]; done) | (subst_vars; simp [*]; done)))   -- leaf 1

noncomputable abbrev midCopies (more : List Int) : List (Nat × PV) := [(1, .isl 1 (rows cU8 more))]

section
variable {κ : Ctx} {X Y : Req → (PV → Prop) → Prop} {L : Code → (Ex → St → Prop) → St → Prop} {Q : PV → Prop}

theorem copies_part1 (m : Mach Try.prog G κ X Y L) (hQ : ∀ r, r = PV.bool true → Q r) (code more : List Int) (hf : ∀ x ∈ code, 0 ≤ x ∧ x ≤ 255) (E0 : St → Prop)
    (hE0 : ∀ (s' : St) (σ : Bool × Int × Bool × Int × Bool × List Int × Bool), headOk s' [] = true → Ai.norm [1, 8, 9, 12, 13, 16, 17, 21] [] s' = St.at 295 [(1, .isl 1 (rows cU8 more)), (8, .bool σ.1), (9, .int .i64 σ.2.1), (12, .bool σ.2.2.1), (13, .int .i64 σ.2.2.2.1), (16, .bool σ.2.2.2.2.1), (17, .isl 1 (rows cInt σ.2.2.2.2.2.1)), (21, .bool σ.2.2.2.2.2.2)] [] → ((more.length : Int) ≤ 9223372036854775807 ∧ ((CopyF σ.2.1 σ.2.2.2.1 σ.1 σ.2.2.1 σ.2.2.2.2.1 σ.2.2.2.2.2.2 σ.2.2.2.2.2.1))) → E0 s') :
    Ai.code X L G (front 12 (Try.f4.body.getD .skip)) (fun e s' => match e with | .normal => E0 s' | .exit i => EndsIn (post G Try.f4.results.toList Q) (.exit i) s' | .ret => EndsIn (post G Try.f4.results.toList Q) .ret s') (start 295 [.isl 1 (rows cU8 code), .isl 1 (rows cU8 more)] []) := by
  conv => cbv
  refine r_callB m.sX (big_ok code more) (fun h1 => ?_) (fun h1 => ?_) <;> conv => cbv
  · exact hQ _ (congrArg PV.bool (by first | rfl | omega | (simp [*]; done) | (subst_vars; simp [*]; done)))   -- leaf 1
  · rw [Bool.or_eq_false_iff, decide_eq_false_iff_not, decide_eq_false_iff_not] at h1
    have h : CurIn code := ⟨by omega, hf⟩
    have hmr : (more.length : Int) ≤ 9223372036854775807 := by omega
    refine r_callE m.sX ((drawStateOfCopy_ok code h).iceE) ?_
    rintro _ ⟨_, ⟨l, lines, rfl, bl_1, bl_2⟩, rfl⟩
    conv => cbv
    refine r_callF ib m.sX (StateOfCopy_ok l lines) fun v hs_ => ?_
    obtain ⟨s_, ok⟩ := v
    conv => cbv
    refine r_callF ib m.sX (specStateOfCopy_ok l lines) fun y1 hy1 => ?_
    obtain rfl := hs_.trans hy1.symm
    clear hy1
    conv => cbv
    refine r_callF ib m.sX (EarliestFor_ok l lines) fun v he => ?_
    obtain ⟨e, one⟩ := v
    conv => cbv
    refine r_callF ib m.sX (specEarliestFor_ok l lines) fun y2 hy2 => ?_
    obtain rfl := he.trans hy2.symm
    clear hy2
    conv => cbv
    refine r_callF (lbI 1 cInt) m.sX ((StatesOfLines_ok l lines).ice) fun v ho => ?_
    obtain ⟨o, three⟩ := v
    conv => cbv
    refine r_callF (lbI 1 cInt) m.sX ((specStatesOfLines_ok l lines).ice) fun y3 hy3 => ?_
    obtain rfl := ho.trans hy3.symm
    clear hy3
    conv => cbv
    refine r_callF bb m.sX (IsMixedCopy_ok l lines) fun v hm_ => ?_
    obtain ⟨m_, five⟩ := v
    conv => cbv
    have CL := copy_law hs_ he ho hm_
    refine r_callF bb m.sX (specIsMixedCopy_ok l lines) fun y4 hy4 => ?_
    obtain rfl := hm_.trans hy4.symm
    clear hy4
    conv => cbv
    rcases Bool.eq_false_or_eq_true ok with rfl | rfl <;> conv => cbv
    · refine r_neqF m.sX ((by first | rfl | omega | assumption | exact decide_eq_true rfl | (subst_vars; omega))) ?_
      conv => cbv
      obtain rfl : one = true := by exact (CL.a rfl).1
      conv => cbv
      refine r_neqF m.sX ((by first | rfl | omega | assumption | exact decide_eq_true rfl | (subst_vars; omega))) ?_
      conv => cbv
      obtain rfl : three = true := by exact CL.b rfl
      conv => cbv
      refine r_callBT m.sX (sameInts_ok o o) (by first | rfl | omega | assumption | exact decide_eq_true rfl | (subst_vars; omega)) ?_   -- h4
      conv => cbv
      obtain rfl : five = true := by exact (CL.a rfl).2.1
      conv => cbv
      obtain rfl : m_ = false := by exact CL.c rfl
      conv => cbv
      exact hE0 _ (true, s_, true, e, true, o, false) (by cbv) (by cbv) ⟨hmr, (by (try dsimp only) <;> (exact ⟨fun h => ⟨(CL.a h).2.2.1, (CL.a h).2.2.2⟩, CL.d, CL.f⟩))⟩
    · refine r_neqF m.sX ((by first | rfl | omega | assumption | exact decide_eq_true rfl | (subst_vars; omega))) ?_
      conv => cbv
      rcases Bool.eq_false_or_eq_true one with rfl | rfl <;> conv => cbv
      · refine r_neqF m.sX ((by first | rfl | omega | assumption | exact decide_eq_true rfl | (subst_vars; omega))) ?_
        conv => cbv
        obtain rfl : three = true := by exact CL.b rfl
        conv => cbv
        refine r_callBT m.sX (sameInts_ok o o) (by first | rfl | omega | assumption | exact decide_eq_true rfl | (subst_vars; omega)) ?_   -- h7
        conv => cbv
        rcases Bool.eq_false_or_eq_true five with rfl | rfl <;> conv => cbv
        · obtain rfl : m_ = true := by exact CL.c rfl
          conv => cbv
          exact hE0 _ (false, s_, true, e, true, o, true) (by cbv) (by cbv) ⟨hmr, (by (try dsimp only) <;> (exact ⟨fun h => ⟨(CL.a h).2.2.1, (CL.a h).2.2.2⟩, CL.d, CL.f⟩))⟩
        · rcases Bool.eq_false_or_eq_true m_ with rfl | rfl <;> conv => cbv
          · exact hE0 _ (false, s_, true, e, true, o, true) (by cbv) (by cbv) ⟨hmr, (by (try dsimp only) <;> (exact ⟨fun h => ⟨(CL.a h).2.2.1, (CL.a h).2.2.2⟩, CL.d, CL.f⟩))⟩
          · exact hE0 _ (false, s_, true, e, true, o, false) (by cbv) (by cbv) ⟨hmr, (by (try dsimp only) <;> (exact ⟨fun h => ⟨(CL.a h).2.2.1, (CL.a h).2.2.2⟩, CL.d, CL.f⟩))⟩
      · refine r_neqF m.sX ((by first | rfl | omega | assumption | exact decide_eq_true rfl | (subst_vars; omega))) ?_
        conv => cbv
        rcases Bool.eq_false_or_eq_true three with rfl | rfl <;> conv => cbv
        · refine r_callBT m.sX (sameInts_ok o o) (by first | rfl | omega | assumption | exact decide_eq_true rfl | (subst_vars; omega)) ?_   -- h9
          conv => cbv
          rcases Bool.eq_false_or_eq_true five with rfl | rfl <;> conv => cbv
          · obtain rfl : m_ = false := by exact CL.c rfl
            conv => cbv
            exact hE0 _ (false, s_, false, e, true, o, false) (by cbv) (by cbv) ⟨hmr, (by (try dsimp only) <;> (exact ⟨fun h => ⟨(CL.a h).2.2.1, (CL.a h).2.2.2⟩, CL.d, CL.f⟩))⟩
          · rcases Bool.eq_false_or_eq_true m_ with rfl | rfl <;> conv => cbv
            · exact hE0 _ (false, s_, false, e, true, o, true) (by cbv) (by cbv) ⟨hmr, (by (try dsimp only) <;> (exact ⟨fun h => ⟨(CL.a h).2.2.1, (CL.a h).2.2.2⟩, CL.d, CL.f⟩))⟩
            · exact hE0 _ (false, s_, false, e, true, o, false) (by cbv) (by cbv) ⟨hmr, (by (try dsimp only) <;> (exact ⟨fun h => ⟨(CL.a h).2.2.1, (CL.a h).2.2.2⟩, CL.d, CL.f⟩))⟩
        · refine r_callBT m.sX (sameInts_ok o o) (by first | rfl | omega | assumption | exact decide_eq_true rfl | (subst_vars; omega)) ?_   -- h10
          conv => cbv
          rcases Bool.eq_false_or_eq_true five with rfl | rfl <;> conv => cbv
          · obtain rfl : m_ = false := by exact CL.c rfl
            conv => cbv
            exact hE0 _ (false, s_, false, e, false, o, false) (by cbv) (by cbv) ⟨hmr, (by (try dsimp only) <;> (exact ⟨fun h => ⟨(CL.a h).2.2.1, (CL.a h).2.2.2⟩, CL.d, CL.f⟩))⟩
          · rcases Bool.eq_false_or_eq_true m_ with rfl | rfl <;> conv => cbv
            · exact hE0 _ (false, s_, false, e, false, o, true) (by cbv) (by cbv) ⟨hmr, (by (try dsimp only) <;> (exact ⟨fun h => ⟨(CL.a h).2.2.1, (CL.a h).2.2.2⟩, CL.d, CL.f⟩))⟩
            · exact hE0 _ (false, s_, false, e, false, o, false) (by cbv) (by cbv) ⟨hmr, (by (try dsimp only) <;> (exact ⟨fun h => ⟨(CL.a h).2.2.1, (CL.a h).2.2.2⟩, CL.d, CL.f⟩))⟩

theorem copies_part2 (m : Mach Try.prog G κ X Y L) (hQ : ∀ r, r = PV.bool true → Q r) (more : List Int) (h : CurIn more) (ok : Bool) (state : Int) (one : Bool) (earliest : Int) (three : Bool) (of_ : List Int) (mixed : Bool) (CF : CopyF state earliest ok one three mixed of_) (E0 : St → Prop)
    (hE0 : ∀ (s' : St) (a : Unit), headOk s' [] = true → Ai.norm [1] [] s' = St.at 295 (midCopies more) [] → True → E0 s') :
    Ai.code X L G (front 2 (rest 12 (Try.f4.body.getD .skip))) (fun e s' => match e with | .normal => E0 s' | .exit i => EndsIn (post G Try.f4.results.toList Q) (.exit i) s' | .ret => EndsIn (post G Try.f4.results.toList Q) .ret s') (St.at 295 [(1, .isl 1 (rows cU8 more)), (8, .bool ok), (9, .int .i64 state), (12, .bool one), (13, .int .i64 earliest), (16, .bool three), (17, .isl 1 (rows cInt of_)), (21, .bool mixed)] []) := by
  conv => cbv
  rcases Bool.eq_false_or_eq_true ok with rfl | rfl <;> conv => cbv
  · refine r_gtrF m.sX ((by first | omega | assumption | (have z := CF.f rfl i mi; omega) | (have z := CF.f rfl i_2 mi_2; omega) | (have z := CF.a rfl; omega) | exact (CF.a rfl).2 | (have z := CF.d rfl; simp_all; done))) ?_
    conv => cbv
    obtain rfl : mixed = false := by first | omega | assumption | (have z := CF.f rfl i mi; omega) | (have z := CF.f rfl i_2 mi_2; omega) | (have z := CF.a rfl; omega) | exact (CF.a rfl).2 | (have z := CF.d rfl; simp_all; done)
    conv => cbv
    rcases Bool.eq_false_or_eq_true three with rfl | rfl <;> conv => cbv
    · refine r_lenR m.sX fun n1 hn1 mn1 => ?_
      conv => cbv
      refine r_loopF (α := Int) m 295 [1, 12, 13, 17, 175, 176, 177] [] (fun σ => [(1, .isl 1 (rows cU8 more)), (12, .bool one), (13, .int .i64 earliest), (17, .isl 1 (rows cInt of_)), (175, .isl 1 (rows cInt of_)), (176, .int .i64 n1), (177, .int .i64 σ)]) (fun σ => [])
        (fun σ => (0 ≤ σ) ∧ (σ ≤ n1)) (fun σ => (n1 - σ).toNat) 0 ?_ ?_ ?_ ?_
      · cbv
      · cbv
      · exact ⟨(by (try dsimp only); first | omega | (simp only [List.length_nil]; omega) | (simp only [List.length_cons, List.length_nil]; omega)), (by (try dsimp only); first | omega | (simp only [List.length_nil]; omega) | (simp only [List.length_cons, List.length_nil]; omega))⟩
      rintro i1 ⟨lo1, hi1⟩ E hE F hF
      conv => cbv
      refine r_lss m.sX (fun h2 => ?_) (fun h2 => ?_) <;> conv => cbv
      · refine r_index m.sX (by omega) (by omega) fun i hi => ?_
        conv => cbv
        have mi := get_mem hi
        have di := drop_cons hi
        have ki := take_snoc hi
        have ji : (i1 + 1).toNat = Int.toNat i1 + 1 := by omega
        have vi := nth_some hi
        rcases Bool.eq_false_or_eq_true one with rfl | rfl <;> conv => cbv
        · refine r_lssF m.sX ((by first | omega | assumption | (have z := CF.f rfl i mi; omega) | (have z := CF.f rfl i_2 mi_2; omega) | (have z := CF.a rfl; omega) | exact (CF.a rfl).2 | (have z := CF.d rfl; simp_all; done))) ?_
          conv => cbv
          refine r_gtrF m.sX ((by first | omega | assumption | (have z := CF.f rfl i mi; omega) | (have z := CF.f rfl i_2 mi_2; omega) | (have z := CF.a rfl; omega) | exact (CF.a rfl).2 | (have z := CF.d rfl; simp_all; done))) ?_
          conv => cbv
          refine r_addf m.sX (by omega) (by omega) fun r1 hr1 => ?_
          conv => cbv
          try have tr1 : Int.toNat r1 = Int.toNat i1 + 1 := by omega
          refine hE _ r1 ?_ ?_ ⟨(by (try dsimp only); first | omega | (simp only [List.length_nil]; omega) | (simp only [List.length_cons, List.length_nil]; omega)), (by (try dsimp only); first | omega | (simp only [List.length_nil]; omega) | (simp only [List.length_cons, List.length_nil]; omega))⟩ (by first | omega | (dsimp only; omega))
          · cbv
          · cbv
        · refine r_addf m.sX (by omega) (by omega) fun r2 hr2 => ?_
          conv => cbv
          try have tr2 : Int.toNat r2 = Int.toNat i1 + 1 := by omega
          refine hE _ r2 ?_ ?_ ⟨(by (try dsimp only); first | omega | (simp only [List.length_nil]; omega) | (simp only [List.length_cons, List.length_nil]; omega)), (by (try dsimp only); first | omega | (simp only [List.length_nil]; omega) | (simp only [List.length_cons, List.length_nil]; omega))⟩ (by first | omega | (dsimp only; omega))
          · cbv
          · cbv
      · have dz_i1 := drop_end (xs := of_) (i := Int.toNat i1) (by omega)
        have tz_i1 := take_end (xs := of_) (i := Int.toNat i1) (by omega)
        refine hF _ _ ?_
        conv => cbv
        refine r_callB m.sX (pIn_ok of_ (-1)) (fun h5 => ?_) (fun h5 => ?_) <;> conv => cbv
        · obtain rfl : one = false := by first | omega | assumption | (have z := CF.f rfl i mi; omega) | (have z := CF.f rfl i_2 mi_2; omega) | (have z := CF.a rfl; omega) | exact (CF.a rfl).2 | (have z := CF.d rfl; simp_all; done)
          conv => cbv
          exact hE0 _ () (by cbv) (by cbv) trivial
        · obtain rfl : one = true := by first | omega | assumption | (have z := CF.f rfl i mi; omega) | (have z := CF.f rfl i_2 mi_2; omega) | (have z := CF.a rfl; omega) | exact (CF.a rfl).2 | (have z := CF.d rfl; simp_all; done)
          conv => cbv
          exact hE0 _ () (by cbv) (by cbv) trivial
    · exact hE0 _ () (by cbv) (by cbv) trivial
  · rcases Bool.eq_false_or_eq_true three with rfl | rfl <;> conv => cbv
    · refine r_lenR m.sX fun n2 hn2 mn2 => ?_
      conv => cbv
      refine r_loopF (α := Int) m 295 [1, 12, 13, 17, 175, 176, 177] [] (fun σ => [(1, .isl 1 (rows cU8 more)), (12, .bool one), (13, .int .i64 earliest), (17, .isl 1 (rows cInt of_)), (175, .isl 1 (rows cInt of_)), (176, .int .i64 n2), (177, .int .i64 σ)]) (fun σ => [])
        (fun σ => (0 ≤ σ) ∧ (σ ≤ n2)) (fun σ => (n2 - σ).toNat) 0 ?_ ?_ ?_ ?_
      · cbv
      · cbv
      · exact ⟨(by (try dsimp only); first | omega | (simp only [List.length_nil]; omega) | (simp only [List.length_cons, List.length_nil]; omega)), (by (try dsimp only); first | omega | (simp only [List.length_nil]; omega) | (simp only [List.length_cons, List.length_nil]; omega))⟩
      rintro i2 ⟨lo2, hi2⟩ E hE F hF
      conv => cbv
      refine r_lss m.sX (fun h6 => ?_) (fun h6 => ?_) <;> conv => cbv
      · refine r_index m.sX (by omega) (by omega) fun i_2 hi_2 => ?_
        conv => cbv
        have mi_2 := get_mem hi_2
        have di_2 := drop_cons hi_2
        have ki_2 := take_snoc hi_2
        have ji_2 : (i2 + 1).toNat = Int.toNat i2 + 1 := by omega
        have vi_2 := nth_some hi_2
        rcases Bool.eq_false_or_eq_true one with rfl | rfl <;> conv => cbv
        · refine r_lssF m.sX ((by first | omega | assumption | (have z := CF.f rfl i mi; omega) | (have z := CF.f rfl i_2 mi_2; omega) | (have z := CF.a rfl; omega) | exact (CF.a rfl).2 | (have z := CF.d rfl; simp_all; done))) ?_
          conv => cbv
          refine r_gtrF m.sX ((by first | omega | assumption | (have z := CF.f rfl i mi; omega) | (have z := CF.f rfl i_2 mi_2; omega) | (have z := CF.a rfl; omega) | exact (CF.a rfl).2 | (have z := CF.d rfl; simp_all; done))) ?_
          conv => cbv
          refine r_addf m.sX (by omega) (by omega) fun r3 hr3 => ?_
          conv => cbv
          try have tr3 : Int.toNat r3 = Int.toNat i2 + 1 := by omega
          refine hE _ r3 ?_ ?_ ⟨(by (try dsimp only); first | omega | (simp only [List.length_nil]; omega) | (simp only [List.length_cons, List.length_nil]; omega)), (by (try dsimp only); first | omega | (simp only [List.length_nil]; omega) | (simp only [List.length_cons, List.length_nil]; omega))⟩ (by first | omega | (dsimp only; omega))
          · cbv
          · cbv
        · refine r_addf m.sX (by omega) (by omega) fun r4 hr4 => ?_
          conv => cbv
          try have tr4 : Int.toNat r4 = Int.toNat i2 + 1 := by omega
          refine hE _ r4 ?_ ?_ ⟨(by (try dsimp only); first | omega | (simp only [List.length_nil]; omega) | (simp only [List.length_cons, List.length_nil]; omega)), (by (try dsimp only); first | omega | (simp only [List.length_nil]; omega) | (simp only [List.length_cons, List.length_nil]; omega))⟩ (by first | omega | (dsimp only; omega))
          · cbv
          · cbv
      · have dz_i2 := drop_end (xs := of_) (i := Int.toNat i2) (by omega)
        have tz_i2 := take_end (xs := of_) (i := Int.toNat i2) (by omega)
        refine hF _ _ ?_
        conv => cbv
        refine r_callB m.sX (pIn_ok of_ (-1)) (fun h9 => ?_) (fun h9 => ?_) <;> conv => cbv
        · obtain rfl : one = false := by first | omega | assumption | (have z := CF.f rfl i mi; omega) | (have z := CF.f rfl i_2 mi_2; omega) | (have z := CF.a rfl; omega) | exact (CF.a rfl).2 | (have z := CF.d rfl; simp_all; done)
          conv => cbv
          exact hE0 _ () (by cbv) (by cbv) trivial
        · obtain rfl : one = true := by first | omega | assumption | (have z := CF.f rfl i mi; omega) | (have z := CF.f rfl i_2 mi_2; omega) | (have z := CF.a rfl; omega) | exact (CF.a rfl).2 | (have z := CF.d rfl; simp_all; done)
          conv => cbv
          exact hE0 _ () (by cbv) (by cbv) trivial
    · exact hE0 _ () (by cbv) (by cbv) trivial

theorem copies_part3 (m : Mach Try.prog G κ X Y L) (hQ : ∀ r, r = PV.bool true → Q r) (more : List Int) (h : CurIn more) :
    Ai.code X L G (rest 2 (rest 12 (Try.f4.body.getD .skip))) (EndsIn (post G Try.f4.results.toList Q)) (St.at 295 (midCopies more) []) := by
  conv => cbv
  refine r_callE m.sX ((drawCountInState_ok more h).iceE) ?_
  rintro _ ⟨_, ⟨u, copies, rfl, bu_1, bu_2⟩, rfl⟩
  conv => cbv
  refine r_callF (lbI 1 cInt) m.sX ((CountInState_ok u copies).ice) fun v hn => ?_
  obtain ⟨n, seven⟩ := v
  conv => cbv
  refine r_callF (lbI 1 cInt) m.sX ((specCountInState_ok u copies).ice) fun y1 hy1 => ?_
  obtain rfl := hn.trans hy1.symm
  clear hy1
  conv => cbv
  refine r_callF (lbI 1 (cSl 1 cInt)) m.sX (CopyClasses_ok copies) fun v hc => ?_
  obtain ⟨c, nine⟩ := v
  conv => cbv
  refine r_callF (lbI 1 (cSl 1 cInt)) m.sX (specCopyClasses_ok copies) fun y2 hy2 => ?_
  obtain rfl := hc.trans hy2.symm
  clear hy2
  conv => cbv
  rcases Bool.eq_false_or_eq_true seven with rfl | rfl <;> conv => cbv
  · obtain ⟨cc1, cc2, cc3⟩ := counts_classes hn hc
    refine r_callBT m.sX (sameInts_ok n n) (by first | rfl | omega | assumption | exact decide_eq_true rfl | (subst_vars; omega)) ?_   -- h1
    conv => cbv
    obtain rfl : nine = true := by exact cc1
    conv => cbv
    obtain ⟨I, cl⟩ := class_facts hc
    have ll := I.len
    refine r_callBT m.sX (sameLists_ok c) (by first | rfl | omega | assumption | exact decide_eq_true rfl | (subst_vars; omega)) ?_   -- h2
    conv => cbv
    refine r_lenR m.sX fun n1 hn1 mn1 => ?_
    conv => cbv
    refine r_loopF (α := Int × Int) m 295 [26, 28, 29, 35, 252, 253, 254] [] (fun σ => [(26, .isl 1 (rows (cSl 1 cStr) copies)), (28, .bool true), (29, .isl 1 (rows cInt n)), (35, .int .i64 σ.1), (252, .isl 1 (rows (cSl 1 cInt) c)), (253, .int .i64 n1), (254, .int .i64 σ.2)]) (fun σ => [])
      (fun σ => (0 ≤ σ.2) ∧ (σ.2 ≤ n1) ∧ (σ.1 = lenS (c.take σ.2.toNat)) ∧ (0 ≤ σ.1 ∧ σ.1 ≤ 10 * σ.2)) (fun σ => (n1 - σ.2).toNat) (0, 0) ?_ ?_ ?_ ?_
    · cbv
    · cbv
    · exact ⟨(by (try dsimp only); first | omega | (simp only [List.length_nil]; omega) | (simp only [List.length_cons, List.length_nil]; omega)), (by (try dsimp only); first | omega | (simp only [List.length_nil]; omega) | (simp only [List.length_cons, List.length_nil]; omega)), (by (try dsimp only) <;> (rfl)), (by (try dsimp only) <;> first | omega | rfl | (simp [*]; done))⟩
    rintro ⟨all, i1⟩ ⟨lo3, hi3, q, bd⟩ E hE F hF
    dsimp only at lo3 hi3 q bd
    conv => cbv
    refine r_lss m.sX (fun h3 => ?_) (fun h3 => ?_) <;> conv => cbv
    · refine r_index m.sX (by omega) (by omega) fun class_ hclass_ => ?_
      conv => cbv
      have mclass_ := get_mem hclass_
      have dclass_ := drop_cons hclass_
      have kclass_ := take_snoc hclass_
      have jclass_ : (i1 + 1).toNat = Int.toNat i1 + 1 := by omega
      have cm := I.mem class_ mclass_
      have cln := I.lens class_ mclass_
      obtain ⟨ca, ct, ce1, ce2, ce3, ce4⟩ := I.head class_ mclass_
      have cl1 : 1 ≤ class_.length := (by rw [ce1]; simp)
      refine r_lenR m.sX fun n2 hn2 mn2 => ?_
      conv => cbv
      refine r_addf m.sX (by omega) (by omega) fun all_2 hall_2 => ?_
      conv => cbv
      refine r_lenR m.sX fun n3 hn3 mn3 => ?_
      conv => cbv
      refine r_loopF (α := Int) m 295 [26, 28, 29, 35, 37, 252, 253, 254, 262, 263, 264] [] (fun σ => [(26, .isl 1 (rows (cSl 1 cStr) copies)), (28, .bool true), (29, .isl 1 (rows cInt n)), (35, .int .i64 all_2), (37, .isl 1 (rows cInt class_)), (252, .isl 1 (rows (cSl 1 cInt) c)), (253, .int .i64 n1), (254, .int .i64 i1), (262, .isl 1 (rows cInt class_)), (263, .int .i64 n3), (264, .int .i64 σ)]) (fun σ => [])
        (fun σ => (0 ≤ σ) ∧ (σ ≤ n3)) (fun σ => (n3 - σ).toNat) 0 ?_ ?_ ?_ ?_
      · cbv
      · cbv
      · exact ⟨(by (try dsimp only); first | omega | (simp only [List.length_nil]; omega) | (simp only [List.length_cons, List.length_nil]; omega)), (by (try dsimp only); first | omega | (simp only [List.length_nil]; omega) | (simp only [List.length_cons, List.length_nil]; omega))⟩
      rintro i2 ⟨lo4, hi4⟩ E2 hE2 F2 hF2
      conv => cbv
      refine r_lss m.sX (fun h4 => ?_) (fun h4 => ?_) <;> conv => cbv
      · refine r_index m.sX (by omega) (by omega) fun i hi => ?_
        conv => cbv
        have mi := get_mem hi
        have di := drop_cons hi
        have ki := take_snoc hi
        have ji : (i2 + 1).toNat = Int.toNat i2 + 1 := by omega
        have vi := nth_some hi
        have ib := cm i mi
        refine r_draw m (by kernel_rfl) ?_
        conv => cbv
        refine r_index m.sY (by omega) (by omega) fun x1 hx1 => ?_
        conv => cbv
        have mx1 := get_mem hx1
        refine r_index m.sY (by omega) (by omega) fun x2 hx2 => ?_
        conv => cbv
        have mx2 := get_mem hx2
        have vx2 := nth_some hx2
        have hd := headD_at hx2
        have hb := cm x2 mx2
        refine r_index m.sY (by omega) (by omega) fun x3 hx3 => ?_
        conv => cbv
        have mx3 := get_mem hx3
        obtain rfl : x1 = x3 := cls_same hx1 hx3 (by rw [hd]; exact ib.2.2)
        refine r_callBTS m.sY (pSameTexts_ok x1) (by first | rfl | omega | assumption | exact decide_eq_true rfl | (subst_vars; omega)) ?_   -- h5
        conv => cbv
        refine r_addf m.sX (by omega) (by omega) fun r1 hr1 => ?_
        conv => cbv
        try have tr1 : Int.toNat r1 = Int.toNat i2 + 1 := by omega
        refine hE2 _ r1 ?_ ?_ ⟨(by (try dsimp only); first | omega | (simp only [List.length_nil]; omega) | (simp only [List.length_cons, List.length_nil]; omega)), (by (try dsimp only); first | omega | (simp only [List.length_nil]; omega) | (simp only [List.length_cons, List.length_nil]; omega))⟩ (by first | omega | (dsimp only; omega))
        · cbv
        · cbv
      · have dz_i2 := drop_end (xs := class_) (i := Int.toNat i2) (by omega)
        have tz_i2 := take_end (xs := class_) (i := Int.toNat i2) (by omega)
        refine hF2 _ _ ?_
        conv => cbv
        refine r_addf m.sX (by omega) (by omega) fun r2 hr2 => ?_
        conv => cbv
        try have tr2 : Int.toNat r2 = Int.toNat i1 + 1 := by omega
        refine hE _ (all_2, r2) ?_ ?_ ⟨(by (try dsimp only); first | omega | (simp only [List.length_nil]; omega) | (simp only [List.length_cons, List.length_nil]; omega)), (by (try dsimp only); first | omega | (simp only [List.length_nil]; omega) | (simp only [List.length_cons, List.length_nil]; omega)), (by (try dsimp only) <;> (rw [tr2, lenS_take hclass_, ← q]; omega)), (by (try dsimp only) <;> first | omega | rfl | (simp [*]; done) | (rw [bd]; simp [*]; done))⟩ (by first | omega | (dsimp only; omega))
        · cbv
        · cbv
    · have dz_i1 := drop_end (xs := c) (i := Int.toNat i1) (by omega)
      have tz_i1 := take_end (xs := c) (i := Int.toNat i1) (by omega)
      refine hF _ _ ?_
      conv => cbv
      refine r_lenR m.sX fun n4 hn4 mn4 => ?_
      conv => cbv
      refine r_neqF m.sX ((by have z : all = copies.length := (by rw [q, List.take_of_length_le (by omega), lenS_total I]); omega)) ?_
      conv => cbv
      refine r_callF (PV.int .i64) m.sX (pSum_ok n (by first | rfl | assumption | omega | (simp only [List.length_append, List.length_cons, List.length_nil] at *; omega))) fun r3 hr3 => ?_
      conv => cbv
      refine r_gtrF m.sX ((by have z : all = copies.length := (by rw [q, List.take_of_length_le (by omega), lenS_total I]); omega)) ?_
      conv => cbv
      exact hQ _ (congrArg PV.bool (by first | rfl | omega | (simp [*]; done) | (subst_vars; simp [*]; done) | (rw [q]; simp [*]; done) | (rw [bd]; simp [*]; done)))   -- leaf 2
  · refine r_callBT m.sX (sameInts_ok n n) (by first | rfl | omega | assumption | exact decide_eq_true rfl | (subst_vars; omega)) ?_   -- h8
    conv => cbv
    rcases Bool.eq_false_or_eq_true nine with rfl | rfl <;> conv => cbv
    · obtain ⟨I, cl⟩ := class_facts hc
      have ll := I.len
      refine r_callBT m.sX (sameLists_ok c) (by first | rfl | omega | assumption | exact decide_eq_true rfl | (subst_vars; omega)) ?_   -- h9
      conv => cbv
      refine r_lenR m.sX fun n5 hn5 mn5 => ?_
      conv => cbv
      refine r_loopF (α := Int × Int) m 295 [26, 28, 29, 35, 252, 253, 254] [] (fun σ => [(26, .isl 1 (rows (cSl 1 cStr) copies)), (28, .bool false), (29, .isl 1 (rows cInt n)), (35, .int .i64 σ.1), (252, .isl 1 (rows (cSl 1 cInt) c)), (253, .int .i64 n5), (254, .int .i64 σ.2)]) (fun σ => [])
        (fun σ => (0 ≤ σ.2) ∧ (σ.2 ≤ n5) ∧ (σ.1 = lenS (c.take σ.2.toNat)) ∧ (0 ≤ σ.1 ∧ σ.1 ≤ 10 * σ.2)) (fun σ => (n5 - σ.2).toNat) (0, 0) ?_ ?_ ?_ ?_
      · cbv
      · cbv
      · exact ⟨(by (try dsimp only); first | omega | (simp only [List.length_nil]; omega) | (simp only [List.length_cons, List.length_nil]; omega)), (by (try dsimp only); first | omega | (simp only [List.length_nil]; omega) | (simp only [List.length_cons, List.length_nil]; omega)), (by (try dsimp only) <;> (rfl)), (by (try dsimp only) <;> first | omega | rfl | (simp [*]; done))⟩
      rintro ⟨all_3, i3⟩ ⟨lo5, hi5, q, bd⟩ E hE F hF
      dsimp only at lo5 hi5 q bd
      conv => cbv
      refine r_lss m.sX (fun h10 => ?_) (fun h10 => ?_) <;> conv => cbv
      · refine r_index m.sX (by omega) (by omega) fun class__2 hclass__2 => ?_
        conv => cbv
        have mclass__2 := get_mem hclass__2
        have dclass__2 := drop_cons hclass__2
        have kclass__2 := take_snoc hclass__2
        have jclass__2 : (i3 + 1).toNat = Int.toNat i3 + 1 := by omega
        have cm := I.mem class__2 mclass__2
        have cln := I.lens class__2 mclass__2
        obtain ⟨ca, ct, ce1, ce2, ce3, ce4⟩ := I.head class__2 mclass__2
        have cl1 : 1 ≤ class__2.length := (by rw [ce1]; simp)
        refine r_lenR m.sX fun n6 hn6 mn6 => ?_
        conv => cbv
        refine r_addf m.sX (by omega) (by omega) fun all_4 hall_4 => ?_
        conv => cbv
        refine r_lenR m.sX fun n7 hn7 mn7 => ?_
        conv => cbv
        refine r_loopF (α := Int) m 295 [26, 28, 29, 35, 37, 252, 253, 254, 262, 263, 264] [] (fun σ => [(26, .isl 1 (rows (cSl 1 cStr) copies)), (28, .bool false), (29, .isl 1 (rows cInt n)), (35, .int .i64 all_4), (37, .isl 1 (rows cInt class__2)), (252, .isl 1 (rows (cSl 1 cInt) c)), (253, .int .i64 n5), (254, .int .i64 i3), (262, .isl 1 (rows cInt class__2)), (263, .int .i64 n7), (264, .int .i64 σ)]) (fun σ => [])
          (fun σ => (0 ≤ σ) ∧ (σ ≤ n7)) (fun σ => (n7 - σ).toNat) 0 ?_ ?_ ?_ ?_
        · cbv
        · cbv
        · exact ⟨(by (try dsimp only); first | omega | (simp only [List.length_nil]; omega) | (simp only [List.length_cons, List.length_nil]; omega)), (by (try dsimp only); first | omega | (simp only [List.length_nil]; omega) | (simp only [List.length_cons, List.length_nil]; omega))⟩
        rintro i4 ⟨lo6, hi6⟩ E2 hE2 F2 hF2
        conv => cbv
        refine r_lss m.sX (fun h11 => ?_) (fun h11 => ?_) <;> conv => cbv
        · refine r_index m.sX (by omega) (by omega) fun i_2 hi_2 => ?_
          conv => cbv
          have mi_2 := get_mem hi_2
          have di_2 := drop_cons hi_2
          have ki_2 := take_snoc hi_2
          have ji_2 : (i4 + 1).toNat = Int.toNat i4 + 1 := by omega
          have vi_2 := nth_some hi_2
          have ib := cm i_2 mi_2
          refine r_draw m (by kernel_rfl) ?_
          conv => cbv
          refine r_index m.sY (by omega) (by omega) fun x4 hx4 => ?_
          conv => cbv
          have mx4 := get_mem hx4
          refine r_index m.sY (by omega) (by omega) fun x5 hx5 => ?_
          conv => cbv
          have mx5 := get_mem hx5
          have vx5 := nth_some hx5
          have hd := headD_at hx5
          have hb := cm x5 mx5
          refine r_index m.sY (by omega) (by omega) fun x6 hx6 => ?_
          conv => cbv
          have mx6 := get_mem hx6
          obtain rfl : x4 = x6 := cls_same hx4 hx6 (by rw [hd]; exact ib.2.2)
          refine r_callBTS m.sY (pSameTexts_ok x4) (by first | rfl | omega | assumption | exact decide_eq_true rfl | (subst_vars; omega)) ?_   -- h12
          conv => cbv
          refine r_addf m.sX (by omega) (by omega) fun r4 hr4 => ?_
          conv => cbv
          try have tr4 : Int.toNat r4 = Int.toNat i4 + 1 := by omega
          refine hE2 _ r4 ?_ ?_ ⟨(by (try dsimp only); first | omega | (simp only [List.length_nil]; omega) | (simp only [List.length_cons, List.length_nil]; omega)), (by (try dsimp only); first | omega | (simp only [List.length_nil]; omega) | (simp only [List.length_cons, List.length_nil]; omega))⟩ (by first | omega | (dsimp only; omega))
          · cbv
          · cbv
        · have dz_i4 := drop_end (xs := class__2) (i := Int.toNat i4) (by omega)
          have tz_i4 := take_end (xs := class__2) (i := Int.toNat i4) (by omega)
          refine hF2 _ _ ?_
          conv => cbv
          refine r_addf m.sX (by omega) (by omega) fun r5 hr5 => ?_
          conv => cbv
          try have tr5 : Int.toNat r5 = Int.toNat i3 + 1 := by omega
          refine hE _ (all_4, r5) ?_ ?_ ⟨(by (try dsimp only); first | omega | (simp only [List.length_nil]; omega) | (simp only [List.length_cons, List.length_nil]; omega)), (by (try dsimp only); first | omega | (simp only [List.length_nil]; omega) | (simp only [List.length_cons, List.length_nil]; omega)), (by (try dsimp only) <;> (rw [tr5, lenS_take hclass__2, ← q]; omega)), (by (try dsimp only) <;> first | omega | rfl | (simp [*]; done) | (rw [bd]; simp [*]; done))⟩ (by first | omega | (dsimp only; omega))
          · cbv
          · cbv
      · have dz_i3 := drop_end (xs := c) (i := Int.toNat i3) (by omega)
        have tz_i3 := take_end (xs := c) (i := Int.toNat i3) (by omega)
        refine hF _ _ ?_
        conv => cbv
        refine r_lenR m.sX fun n8 hn8 mn8 => ?_
        conv => cbv
        refine r_neqF m.sX ((by have z : all_3 = copies.length := (by rw [q, List.take_of_length_le (by omega), lenS_total I]); omega)) ?_
        conv => cbv
        exact hQ _ (congrArg PV.bool (by first | rfl | omega | (simp [*]; done) | (subst_vars; simp [*]; done) | (rw [q]; simp [*]; done) | (rw [bd]; simp [*]; done)))   -- leaf 3
    · refine r_callBT m.sX (sameLists_ok c) (by first | rfl | omega | assumption | exact decide_eq_true rfl | (subst_vars; omega)) ?_   -- h14
      conv => cbv
      exact hQ _ (congrArg PV.bool (by first | rfl | omega | (simp [*]; done) | (subst_vars; simp [*]; done)))   -- leaf 4

end

theorem lawCopies_ok (code more : List Int) (hf : ∀ x ∈ code, 0 ≤ x ∧ x ≤ 255) (hg : ∀ x ∈ more, 0 ≤ x ∧ x ≤ 255) : OkA Try.prog 4 [.isl 1 (rows cU8 code), .isl 1 (rows cU8 more)] (· = .bool true) :=
  fn_introW envOk fieldsOk mixed Try.func4 rfl (c := Try.f4.body.getD .skip) rfl fun κ X Y L Q m hQ =>
    W_cut m 12 295 [1, 8, 9, 12, 13, 16, 17, 21] [] (fun σ : Bool × Int × Bool × Int × Bool × List Int × Bool => [(1, .isl 1 (rows cU8 more)), (8, .bool σ.1), (9, .int .i64 σ.2.1), (12, .bool σ.2.2.1), (13, .int .i64 σ.2.2.2.1), (16, .bool σ.2.2.2.2.1), (17, .isl 1 (rows cInt σ.2.2.2.2.2.1)), (21, .bool σ.2.2.2.2.2.2)]) (fun σ => []) (fun σ => (more.length : Int) ≤ 9223372036854775807 ∧ ((CopyF σ.2.1 σ.2.2.2.1 σ.1 σ.2.2.1 σ.2.2.2.2.1 σ.2.2.2.2.2.2 σ.2.2.2.2.2.1))) (copies_part1 m hQ code more hf) fun ⟨ok, state, one, earliest, three, of_, mixed⟩ ⟨hl, CF⟩ =>
    W_cut m 2 295 [1] [] (fun _ : Unit => midCopies more) (fun _ => []) (fun _ => True) (copies_part2 m hQ more ⟨hl, hg⟩ ok state one earliest three of_ mixed CF) fun _ _ =>
    W_last m (copies_part3 m hQ more ⟨hl, hg⟩)

end Go.Proofs.Ytifkjlpkhfldoaa.Ai
