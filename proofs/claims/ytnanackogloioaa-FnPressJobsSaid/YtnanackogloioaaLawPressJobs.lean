/- The law FnPressJobs: its body returns true. -/
import Derived.Test.YtnanackogloioaaPressDraw
import Derived.Test.YtnanackogloioaaAiCut
namespace Go.Proofs.Ytnanackogloioaa.Ai
open Go Go.Proofs
set_option maxRecDepth 10000
set_option maxHeartbeats 4000000
set_option linter.unusedVariables false

theorem need_ok {p : Press} {x : PressJob} {n : Int} {b : Bool} (h : (n, b) = needAns p x) : (okPress p && okJob x) = b := by
  unfold needAns at h
  split at h <;> simp_all
theorem need_val {p : Press} {x : PressJob} {n : Int} (h : (n, true) = needAns p x) : okPress p = true ∧ okJob x = true ∧ n = needF p.2.2.1 x.2.1 := by
  have e := need_ok h
  rw [needAns, if_pos e] at h
  rw [Bool.and_eq_true] at e
  exact ⟨e.1, e.2, (Prod.mk.inj h).1⟩
theorem min_ok {p : Press} {x : PressJob} {n : Int} {b : Bool} (h : (n, b) = minAns p x) : (okPress p && okJob x) = b := by
  unfold minAns at h
  split at h <;> simp_all
theorem min_val {p : Press} {x : PressJob} {n : Int} (h : (n, true) = minAns p x) : n = p.2.1 + runF p.1 (needF p.2.2.1 x.2.1) := by
  have e := min_ok h
  rw [minAns, if_pos e] at h
  exact (Prod.mk.inj h).1
theorem paper_val {p : Press} {l : List PressJob} {n : Int} (h : (n, true) = paperAns p l) : okPress p = true ∧ okJobs l = true ∧ n = paperF p.2.2.1 l := by
  unfold paperAns at h
  split at h
  · rename_i e
    rw [Bool.and_eq_true] at e
    exact ⟨e.1, e.2, (Prod.mk.inj h).1⟩
  · simp at h
theorem wash_val {p : Press} {a b n : Int} (h : (n, true) = washAns p a b) : okPress p = true ∧ (0 ≤ a ∧ a ≤ 4) ∧ (a = b → n = 0) ∧ (b < a → n = nth p.2.2.2 a.toNat) ∧ (a < b → n = (nth p.2.2.2 a.toNat + 1) / 2) := by
  unfold washAns at h
  split at h
  · rename_i e
    simp only [Bool.and_eq_true] at e
    have e1 := (Prod.mk.inj h).1
    refine ⟨e.1, inB_spec e.2.1, fun h1 => ?_, fun h1 => ?_, fun h1 => ?_⟩
    · rw [e1, washF, if_pos h1]
    · rw [e1, washF, if_neg (by omega), if_pos h1]; rfl
    · rw [e1, washF, if_neg (by omega), if_neg (by omega)]; rfl
  · simp at h

noncomputable abbrev midPressJobs (more : List Int) : List (Nat × PV) := [(1, .isl 1 (rows cU8 more))]

section
variable {κ : Ctx} {X Y : Req → (PV → Prop) → Prop} {L : Code → (Ex → St → Prop) → St → Prop} {Q : PV → Prop}

theorem pressJobs_part1 (m : Mach Try.prog G κ X Y L) (hQ : ∀ r, r = PV.bool true → Q r) (code more : List Int) (hf : ∀ x ∈ code, 0 ≤ x ∧ x ≤ 255) (E0 : St → Prop)
    (hE0 : ∀ (s' : St) (a : Unit), headOk s' [] = true → Ai.norm [1] [] s' = St.at 255 (midPressJobs more) [] → (more.length : Int) ≤ 9223372036854775807 → E0 s') :
    Ai.code X L G (front 9 (Try.f3.body.getD .skip)) (fun e s' => match e with | .normal => E0 s' | .exit i => EndsIn (post G Try.f3.results.toList Q) (.exit i) s' | .ret => EndsIn (post G Try.f3.results.toList Q) .ret s') (start 255 [.isl 1 (rows cU8 code), .isl 1 (rows cU8 more)] []) := by
  conv => cbv
  refine r_callB m.sX (big_ok code more) (fun h1 => ?_) (fun h1 => ?_) <;> conv => cbv
  · exact hQ _ (congrArg PV.bool (by first | rfl | omega | (simp [*]; done) | (subst_vars; simp [*]; done)))   -- leaf 1
  · rw [Bool.or_eq_false_iff, decide_eq_false_iff_not, decide_eq_false_iff_not] at h1
    have h : CurIn code := ⟨by omega, hf⟩
    have hmr : (more.length : Int) ≤ 9223372036854775807 := by omega
    refine r_callE m.sX (drawSheetsNeeded_ok code h) ?_
    rintro _ ⟨⟨pA, pB, pC, pD⟩, ⟨xA, xB, xC⟩, rfl⟩
    conv => cbv
    refine r_callF ib m.sX (SheetsNeeded_ok (pA, pB, pC, pD) (xA, xB, xC)) fun v hn => ?_
    obtain ⟨n, ok⟩ := v
    conv => cbv
    try dsimp only at hn
    have o1 := need_ok hn
    try dsimp only at o1
    refine r_callF ib m.sX (specSheetsNeeded_ok (pA, pB, pC, pD) (xA, xB, xC)) fun y1 hy1 => ?_
    obtain rfl := hn.trans hy1.symm
    clear hy1
    conv => cbv
    refine r_callF ib m.sX (JobMinutes_ok (pA, pB, pC, pD) (xA, xB, xC)) fun v hm_ => ?_
    obtain ⟨m_, one⟩ := v
    conv => cbv
    try dsimp only at hm_
    have o2 := min_ok hm_
    try dsimp only at o2
    refine r_callF ib m.sX (specJobMinutes_ok (pA, pB, pC, pD) (xA, xB, xC)) fun y2 hy2 => ?_
    obtain rfl := hm_.trans hy2.symm
    clear hy2
    conv => cbv
    rcases Bool.eq_false_or_eq_true ok with rfl | rfl <;> conv => cbv
    · refine r_neqF m.sX (by omega) ?_
      conv => cbv
      obtain rfl : one = true := by exact o2.symm.trans o1
      conv => cbv
      obtain ⟨v1, v2, v3⟩ := need_val hn
      have v4 := min_val hm_
      try dsimp only at v4
      have sp := okPress_spec v1
      try dsimp only at sp
      have sx := okJob_spec v2
      try dsimp only at sx
      try dsimp only at v3
      have nd := needF_spec sp.2.2.2.1.1 sp.2.2.2.1.2 sx.2.1.1
      try dsimp only at nd
      rw [← v3] at nd v4
      have nb := nd.bound sp.2.2.2.1.1 sp.2.2.2.1.2 sx.2.1.1
      try dsimp only at nb
      have na := nd.1
      try dsimp only at na
      have rs := runF_spec (h := pA) (n := n) (by omega) (by omega)
      try dsimp only at rs
      have lb1 := lost_bound sp.2.2.2.1.1 sp.2.2.2.1.2 (show 0 ≤ n by omega)
      try dsimp only at lb1
      refine r_neqF m.sX (by omega) ?_
      conv => cbv
      refine r_mulf m.sX (by omega) (by omega) fun r1 hr1 => ?_
      conv => cbv
      refine r_addf m.sX (by omega) (by omega) fun r2 hr2 => ?_
      conv => cbv
      refine r_divf m.sX (by omega) (by omega) fun r3 hr3 br3 => ?_
      conv => cbv
      have e1 : r3 = lost pC n := by rw [hr3, hr2, hr1]; rfl
      refine r_subf m.sX (by omega) (by omega) fun good hgood => ?_
      conv => cbv
      have n2 := nd.2.1
      try dsimp only at n2
      refine r_subf m.sX (by omega) (by omega) fun r4 hr4 => ?_
      conv => cbv
      refine r_subf m.sX (by omega) (by omega) fun r5 hr5 => ?_
      conv => cbv
      have lb2 := lost_bound sp.2.2.2.1.1 sp.2.2.2.1.2 (show 0 ≤ r5 by omega)
      try dsimp only at lb2
      refine r_mulf m.sX (by omega) (by omega) fun r6 hr6 => ?_
      conv => cbv
      refine r_addf m.sX (by omega) (by omega) fun r7 hr7 => ?_
      conv => cbv
      refine r_divf m.sX (by omega) (by omega) fun r8 hr8 br8 => ?_
      conv => cbv
      have e2 : r8 = lost pC r5 := by rw [hr8, hr7, hr6]; rfl
      refine r_subf m.sX (by omega) (by omega) fun before hbefore => ?_
      conv => cbv
      have e3 := nd.2.2 r5
      try dsimp only at e3
      refine r_subf m.sX (by omega) (by omega) fun run hrun => ?_
      conv => cbv
      have e4 : run = runF pA n := by omega
      rw [← e4] at rs
      refine r_lssF m.sX (by omega) ?_
      conv => cbv
      refine r_geqF m.sX (by omega) ?_
      conv => cbv
      refine r_mulf m.sX (by omega) (by omega) fun r9 hr9 => ?_
      conv => cbv
      refine r_mulf m.sX (by omega) (by omega) fun r10 hr10 => ?_
      conv => cbv
      refine r_lssF m.sX (by omega) ?_
      conv => cbv
      refine r_subf m.sX (by omega) (by omega) fun r11 hr11 => ?_
      conv => cbv
      have e5 : r11 * pA = run * pA - pA := by rw [hr11, Int.sub_mul, Int.one_mul]
      refine r_mulf m.sX (by omega) (by omega) fun r12 hr12 => ?_
      conv => cbv
      refine r_mulf m.sX (by omega) (by omega) fun r13 hr13 => ?_
      conv => cbv
      refine r_geqF m.sX (by omega) ?_
      conv => cbv
      exact hE0 _ () (by cbv) (by cbv) hmr
    · refine r_neqF m.sX (by omega) ?_
      conv => cbv
      obtain rfl : one = false := by exact o2.symm.trans o1
      conv => cbv
      refine r_neqF m.sX (by omega) ?_
      conv => cbv
      exact hE0 _ () (by cbv) (by cbv) hmr

theorem pressJobs_part2 (m : Mach Try.prog G κ X Y L) (hQ : ∀ r, r = PV.bool true → Q r) (more : List Int) (h : CurIn more) (E0 : St → Prop)
    (hE0 : ∀ (s' : St) (a : Unit), headOk s' [] = true → Ai.norm [1] [] s' = St.at 255 (midPressJobs more) [] → True → E0 s') :
    Ai.code X L G (front 5 (rest 9 (Try.f3.body.getD .skip))) (fun e s' => match e with | .normal => E0 s' | .exit i => EndsIn (post G Try.f3.results.toList Q) (.exit i) s' | .ret => EndsIn (post G Try.f3.results.toList Q) .ret s') (St.at 255 (midPressJobs more) []) := by
  conv => cbv
  refine r_callE m.sX ((drawPaperFor_ok more h).iceE) ?_
  rintro _ ⟨_, ⟨⟨uA, uB, uC, uD⟩, l, rfl, bu_1⟩, rfl⟩
  conv => cbv
  refine r_callF ib m.sX (PaperFor_ok (uA, uB, uC, uD) l) fun v ha => ?_
  obtain ⟨a, three⟩ := v
  conv => cbv
  try dsimp only at ha
  refine r_callF ib m.sX (specPaperFor_ok (uA, uB, uC, uD) l) fun y1 hy1 => ?_
  obtain rfl := ha.trans hy1.symm
  clear hy1
  conv => cbv
  rcases Bool.eq_false_or_eq_true three with rfl | rfl <;> conv => cbv
  · obtain ⟨w1, w2, w3⟩ := paper_val ha
    have sp := okPress_spec w1
    try dsimp only at sp
    have hl := okJobs_len w2
    try dsimp only at hl
    try dsimp only at w3
    refine r_neqF m.sX (by omega) ?_
    conv => cbv
    refine r_lenR m.sX fun n1 hn1 mn1 => ?_
    conv => cbv
    refine r_loopF (α := Int × Int) m 255 [1, 22, 24, 169, 170, 171] [⟨18, 145, 0, 0, 0⟩] (fun σ => [(1, .isl 1 (rows cU8 more)), (18, .optr 145 0 4 0 0), (22, .int .i64 a), (24, .int .i64 σ.1), (169, .isl 3 (rows cPressJob l)), (170, .int .i64 n1), (171, .int .i64 σ.2)]) (fun σ => [(145, 0, .box [.int .i64 uA, .int .i64 uB, .int .i64 uC, .isl 1 (rows cInt uD)])])
      (fun σ => (0 ≤ σ.2) ∧ (σ.2 ≤ n1) ∧ (σ.1 = paperF uC (l.take σ.2.toNat)) ∧ (0 ≤ σ.1 ∧ σ.1 ≤ 40001 * σ.2)) (fun σ => (n1 - σ.2).toNat) (0, 0) ?_ ?_ ?_ ?_
    · cbv
    · cbv
    · exact ⟨(by (try dsimp only); first | omega | (simp only [List.length_nil]; omega)), (by (try dsimp only); first | omega | (simp only [List.length_nil]; omega)), (by (try dsimp only) <;> first | omega | rfl | (simp [*]; done)), (by (try dsimp only) <;> first | omega | rfl | (simp [*]; done))⟩
    rintro ⟨sum, i1⟩ ⟨lo1, hi1, q, b⟩ E hE F hF
    dsimp only at lo1 hi1 q b
    conv => cbv
    refine r_lss m.sX (fun h2 => ?_) (fun h2 => ?_) <;> conv => cbv
    · refine r_index m.sX (by omega) (by omega) fun v hyA => ?_
      obtain ⟨yA, yB, yC⟩ := v
      conv => cbv
      have hy := hyA
      have my := get_mem hy
      have dy := drop_cons hy
      have ky := take_snoc hy
      have jy : (i1 + 1).toNat = Int.toNat i1 + 1 := by omega
      refine r_callF ib m.sX (SheetsNeeded_ok (uA, uB, uC, uD) (yA, yB, yC)) fun v hk => ?_
      obtain ⟨k, five⟩ := v
      conv => cbv
      try dsimp only at hk
      obtain rfl : five = true := by exact (need_ok hk).symm.trans (by rw [w1, okJobs_mem w2 _ my]; rfl)
      conv => cbv
      obtain ⟨-, -, kv⟩ := need_val hk
      try dsimp only at kv
      have sy := okJob_spec (okJobs_mem w2 _ my)
      try dsimp only at sy
      have nb := need_bound sp.2.2.2.1.1 sp.2.2.2.1.2 sy.2.1.1
      try dsimp only at nb
      refine r_addf m.sX (by omega) (by omega) fun sum_2 hsum_2 => ?_
      conv => cbv
      refine r_addf m.sX (by omega) (by omega) fun r1 hr1 => ?_
      conv => cbv
      have tr1 : Int.toNat r1 = Int.toNat i1 + 1 := by omega
      refine hE _ (sum_2, r1) ?_ ?_ ⟨(by (try dsimp only); first | omega | (simp only [List.length_nil]; omega)), (by (try dsimp only); first | omega | (simp only [List.length_nil]; omega)), (by (try dsimp only) <;> (rw [tr1, ky, paperF_snoc, ← q]; dsimp only; omega)), (by (try dsimp only) <;> first | omega | rfl | (simp [*]; done) | (rw [b]; simp [*]; done))⟩ (by first | omega | (dsimp only; omega))
      · cbv
      · cbv
    · have dz_i1 := drop_end (xs := l) (i := Int.toNat i1) (by omega)
      have tz_i1 := take_end (xs := l) (i := Int.toNat i1) (by omega)
      refine hF _ _ ?_
      conv => cbv
      refine r_neqF m.sX ((by rw [q, tz_i1, w3])) ?_
      conv => cbv
      exact hE0 _ () (by cbv) (by cbv) trivial
  · refine r_neqF m.sX (by omega) ?_
    conv => cbv
    exact hE0 _ () (by cbv) (by cbv) trivial

theorem pressJobs_part3 (m : Mach Try.prog G κ X Y L) (hQ : ∀ r, r = PV.bool true → Q r) (more : List Int) (h : CurIn more) :
    Ai.code X L G (rest 5 (rest 9 (Try.f3.body.getD .skip))) (EndsIn (post G Try.f3.results.toList Q)) (St.at 255 (midPressJobs more) []) := by
  conv => cbv
  refine r_callE m.sX (drawWashBetween_ok more h) ?_
  rintro _ ⟨⟨vA, vB, vC, vD⟩, from_, to_, rfl, bv_1, bv_2⟩
  conv => cbv
  refine r_callF ib m.sX (WashBetween_ok (vA, vB, vC, vD) from_ to_) fun v hw => ?_
  obtain ⟨w, five⟩ := v
  conv => cbv
  try dsimp only at hw
  refine r_callF ib m.sX (specWashBetween_ok (vA, vB, vC, vD) from_ to_) fun y1 hy1 => ?_
  obtain rfl := hw.trans hy1.symm
  clear hy1
  conv => cbv
  rcases Bool.eq_false_or_eq_true five with rfl | rfl <;> conv => cbv
  · obtain ⟨a1, a2, a3, a4, a5⟩ := wash_val hw
    have sp := okPress_spec a1
    try dsimp only at sp
    try dsimp only at a4 a5
    refine r_eqlT m.sX (by omega) ?_
    conv => cbv
    refine r_index m.sX (by omega) (by omega) fun x1 hx1 => ?_
    conv => cbv
    have mx1 := get_mem hx1
    have vx1 := nth_some hx1
    have bx := sp.1 _ mx1
    try dsimp only at bx
    rw [vx1] at a4 a5
    refine r_leqT m.sX (by omega) ?_
    conv => cbv
    refine r_neq m.sX (fun h3 => ?_) (fun h3 => ?_) <;> conv => cbv
    · refine r_eql m.sX (fun h4 => ?_) (fun h4 => ?_) <;> conv => cbv
      · exact hQ _ (congrArg PV.bool (by first | rfl | omega | (simp [*]; done) | (subst_vars; simp [*]; done)))   -- leaf 2
      · refine r_mulf m.sX (by omega) (by omega) fun r1 hr1 => ?_
        conv => cbv
        refine r_index m.sX (by omega) (by omega) fun x2 hx2 => ?_
        conv => cbv
        have mx2 := get_mem hx2
        have vx2 := nth_some hx2
        obtain rfl : x1 = x2 := Option.some.inj (hx1.symm.trans hx2)
        refine r_geqT m.sX (by omega) ?_
        conv => cbv
        exact hQ _ (congrArg PV.bool (by first | rfl | omega | (simp [*]; done) | (subst_vars; simp [*]; done)))   -- leaf 3
    · refine r_eqlT m.sX (by omega) ?_
      conv => cbv
      refine r_eql m.sX (fun h7 => ?_) (fun h7 => ?_) <;> conv => cbv
      · exact hQ _ (congrArg PV.bool (by first | rfl | omega | (simp [*]; done) | (subst_vars; simp [*]; done)))   -- leaf 4
      · refine r_mulf m.sX (by omega) (by omega) fun r2 hr2 => ?_
        conv => cbv
        refine r_index m.sX (by omega) (by omega) fun x3 hx3 => ?_
        conv => cbv
        have mx3 := get_mem hx3
        have vx3 := nth_some hx3
        obtain rfl : x1 = x3 := Option.some.inj (hx1.symm.trans hx3)
        refine r_geqT m.sX (by omega) ?_
        conv => cbv
        exact hQ _ (congrArg PV.bool (by first | rfl | omega | (simp [*]; done) | (subst_vars; simp [*]; done)))   -- leaf 5
  · refine r_eqlT m.sX (by omega) ?_
    conv => cbv
    exact hQ _ (congrArg PV.bool (by first | rfl | omega | (simp [*]; done) | (subst_vars; simp [*]; done)))   -- leaf 6

end

theorem lawPressJobs_ok (code more : List Int) (hf : ∀ x ∈ code, 0 ≤ x ∧ x ≤ 255) (hg : ∀ x ∈ more, 0 ≤ x ∧ x ≤ 255) : OkA Try.prog 3 [.isl 1 (rows cU8 code), .isl 1 (rows cU8 more)] (· = .bool true) :=
  fn_introW envOk fieldsOk mixed Try.func3 rfl (c := Try.f3.body.getD .skip) rfl fun κ X Y L Q m hQ =>
    W_cut m 9 255 [1] [] (fun _ : Unit => midPressJobs more) (fun _ => []) (fun _ => (more.length : Int) ≤ 9223372036854775807) (pressJobs_part1 m hQ code more hf) fun _ hl =>
    W_cut m 5 255 [1] [] (fun _ : Unit => midPressJobs more) (fun _ => []) (fun _ => True) (pressJobs_part2 m hQ more ⟨hl, hg⟩) fun _ _ =>
    W_last m (pressJobs_part3 m hQ more ⟨hl, hg⟩)

end Go.Proofs.Ytnanackogloioaa.Ai
