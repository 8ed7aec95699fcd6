/- The law FnJustified: its body returns true. -/
import Derived.Test.YtnkikmdkkkhlcaaJustDraw
import Derived.Test.YtnkikmdkkkhlcaaAiCut
namespace Go.Proofs.Ytnkikmdkkkhlcaa.Ai
open Go Go.Proofs
set_option maxRecDepth 10000
set_option maxHeartbeats 4000000
set_option linter.unusedVariables false

theorem just_ok {ws : List Int} {r : JRule} {m : Int} {xs : List Int} {b : Bool} (h : (xs, b) = justAns ws r m) : (askJ ws r m && fitsJ ws r m) = b := by
  unfold justAns at h
  split at h <;> rename_i e
  · rw [e, Bool.true_and]; exact justF_ok h
  · rw [(Prod.mk.inj h).2]; simp [e]
theorem why_ok {ws : List Int} {r : JRule} {m w : Int} {b : Bool} (h : (w, b) = whyAns ws r m) : askJ ws r m = b := by
  unfold whyAns at h
  split at h <;> simp_all
theorem why_val {ws : List Int} {r : JRule} {m w : Int} (h : (w, true) = whyAns ws r m) : w = whyF ws r m := by
  have e := why_ok h
  rw [whyAns, if_pos e] at h
  exact (Prod.mk.inj h).1
theorem why_ne {ws : List Int} {r : JRule} {m : Int} (h : fitsJ ws r m = false) : whyF ws r m ≠ 0 := fun e => by rw [why_fits e] at h; cases h
theorem just_snd (ws : List Int) (r : JRule) (m : Int) : (justAns ws r m).2 = (askJ ws r m && fitsJ ws r m) := (just_ok (xs := (justAns ws r m).1) (b := (justAns ws r m).2) rfl).symm
theorem cost_ok {ws : List Int} {r : JRule} {m w : Int} {b : Bool} (h : (w, b) = costAns ws r m) : (askJ ws r m && fitsJ ws r m) = b := by
  rw [costAns, just_snd] at h
  split at h <;> rename_i e
  · rw [e]; exact (Prod.mk.inj h).2.symm
  · rw [(Prod.mk.inj h).2]; simpa using e
theorem cost_val {ws : List Int} {r : JRule} {m w : Int} {xs : List Int} (h : (w, true) = costAns ws r m) (hs : (xs, true) = justAns ws r m) : w = costF r xs := by
  rw [costAns, ← hs] at h
  exact (Prod.mk.inj h).1
theorem bound_ok {ws : List Int} {r : JRule} {a b : Int} {c : Bool} (h : (a, b, c) = boundAns ws r) : (okLine ws && okRule r) = c := by
  unfold boundAns at h
  split at h <;> simp_all
theorem bound_val {ws : List Int} {r : JRule} {a b : Int} (h : (a, b, true) = boundAns ws r) : a = ws.sum + gapsF ws * r.1 ∧ b = ws.sum + gapsF ws * r.2.2 := by
  have e := bound_ok h
  rw [boundAns, if_pos e] at h
  simp only [Prod.mk.injEq] at h
  exact ⟨h.1, h.2.1⟩
theorem nat_ok {ws : List Int} {r : JRule} {a : Int} {c : Bool} (h : (a, c) = natAns ws r) : (okLine ws && okRule r) = c := by
  unfold natAns at h
  split at h <;> simp_all
theorem nat_val {ws : List Int} {r : JRule} {a : Int} (h : (a, true) = natAns ws r) : a = ws.sum + gapsF ws * r.2.1 := by
  have e := nat_ok h
  rw [natAns, if_pos e] at h
  exact (Prod.mk.inj h).1
theorem ask_lr {ws : List Int} {r : JRule} {m : Int} (h : askJ ws r m = true) : (okLine ws && okRule r) = true := by
  have h := askJ_in h
  rw [h.line, h.rule]; rfl
theorem fits_spec {ws : List Int} {r : JRule} {m : Int} (h : fitsJ ws r m = true) : ws.sum + gapsF ws * r.1 ≤ m ∧ m ≤ ws.sum + gapsF ws * r.2.2 := by
  have h := inB_spec h
  rw [leftF] at h
  omega
theorem not_fits {ws : List Int} {r : JRule} {m : Int} (h : fitsJ ws r m = false) : ¬ (ws.sum + gapsF ws * r.1 ≤ m ∧ m ≤ ws.sum + gapsF ws * r.2.2) := fun e => by
  have : fitsJ ws r m = true := by
    rw [fitsJ, leftF, inB, Bool.and_eq_true, decide_eq_true_eq, decide_eq_true_eq]
    omega
  rw [this] at h; cases h
theorem spaces_at {l g : Int} {i : Nat} {x : Int} (h : (spacesF l g)[i]? = some x) : x = spaceF l g i := by
  have hi := (List.getElem?_eq_some_iff.1 h).1
  simp only [spacesF, List.length_map, List.length_range] at hi
  rw [spacesF, List.getElem?_map, List.getElem?_range hi] at h
  exact (Option.some.inj h).symm
theorem just_sum {ws : List Int} {r : JRule} {m : Int} (hj : Jin ws r m) (h : fitsJ ws r m = true) : (spacesF (leftF ws m) (gapsF ws)).sum = leftF ws m := by
  have s1 := line_sum hj.line
  rcases Int.lt_or_le 0 (gapsF ws) with hg | hg
  · exact spaces_sum _ _ hg
  · have e : gapsF ws = 0 := by have : gapsF ws = ws.length - 1 := rfl; omega
    rw [e, (fits_left hj h).2.2 e]; rfl

noncomputable abbrev midJustified (more : List Int) : List (Nat × PV) := [(1, .isl 1 (rows cU8 more))]

section
variable {κ : Ctx} {X Y : Req → (PV → Prop) → Prop} {L : Code → (Ex → St → Prop) → St → Prop} {Q : PV → Prop}

theorem justified_part1 (m : Mach Try.prog G κ X Y L) (hQ : ∀ r, r = PV.bool true → Q r) (code more : List Int) (hf : ∀ x ∈ code, 0 ≤ x ∧ x ≤ 255) (E0 : St → Prop)
    (hE0 : ∀ (s' : St) (a : Unit), headOk s' [] = true → Ai.norm [1] [] s' = St.at 301 (midJustified more) [] → (more.length : Int) ≤ 9223372036854775807 → E0 s') :
    Ai.code X L G (front 17 (Try.f7.body.getD .skip)) (fun e s' => match e with | .normal => E0 s' | .exit i => EndsIn (post G Try.f7.results.toList Q) (.exit i) s' | .ret => EndsIn (post G Try.f7.results.toList Q) .ret s') (start 301 [.isl 1 (rows cU8 code), .isl 1 (rows cU8 more)] []) := by
  conv => cbv
  refine r_lenR m.sX fun n1 hn1 mn1 => ?_
  conv => cbv
  refine r_lenR m.sX fun n2 hn2 mn2 => ?_
  conv => cbv
  refine r_add m.sX fun r1 hr1 => ?_
  conv => cbv
  refine r_gtr m.sX (fun h1 => ?_) (fun h1 => ?_) <;> conv => cbv
  · exact hQ _ (congrArg PV.bool (by first | rfl | omega | (simp [*]; done) | (subst_vars; simp [*]; done)))   -- leaf 1
  · have h : CurIn code := ⟨by omega, hf⟩
    have hd : (more.length : Int) ≤ 9223372036854775807 := by omega
    refine r_callE m.sX ((drawJustifyLine_ok code h).iceE) ?_
    rintro _ ⟨_, ⟨words, ⟨rA, rB, rC⟩, measure, rfl, bwords_1⟩, rfl⟩
    conv => cbv
    refine r_callF (lbI 1 cInt) m.sX ((JustifyLine_ok words (rA, rB, rC) measure).ice) fun v hs_ => ?_
    obtain ⟨s_, ok⟩ := v
    conv => cbv
    try dsimp only at hs_
    have o1 := just_ok hs_
    try dsimp only at o1
    refine r_callF (lbI 1 cInt) m.sX ((specJustifyLine_ok words (rA, rB, rC) measure).ice) fun y1 hy1 => ?_
    obtain rfl := hy1.trans hs_.symm
    clear hy1
    conv => cbv
    refine r_callF ib m.sX (WhyNotJustified_ok words (rA, rB, rC) measure) fun v hw => ?_
    obtain ⟨w, one⟩ := v
    conv => cbv
    try dsimp only at hw
    have o2 := why_ok hw
    try dsimp only at o2
    refine r_callF ib m.sX (specWhyNotJustified_ok words (rA, rB, rC) measure) fun y2 hy2 => ?_
    obtain rfl := hy2.trans hw.symm
    clear hy2
    conv => cbv
    refine r_callF ib m.sX (CostOfLine_ok words (rA, rB, rC) measure) fun v hc => ?_
    obtain ⟨c, three⟩ := v
    conv => cbv
    try dsimp only at hc
    have o3 := cost_ok hc
    try dsimp only at o3
    refine r_callF ib m.sX (specCostOfLine_ok words (rA, rB, rC) measure) fun y3 hy3 => ?_
    obtain rfl := hy3.trans hc.symm
    clear hy3
    conv => cbv
    refine r_callF iib m.sX (WidthBounds_ok words (rA, rB, rC)) fun v hlow => ?_
    obtain ⟨low, high, five⟩ := v
    conv => cbv
    try dsimp only at hlow
    have o4 := bound_ok hlow
    try dsimp only at o4
    refine r_callF iib m.sX (specWidthBounds_ok words (rA, rB, rC)) fun y4 hy4 => ?_
    obtain rfl := hy4.trans hlow.symm
    clear hy4
    conv => cbv
    refine r_callF ib m.sX (NaturalWidth_ok words (rA, rB, rC)) fun v hn => ?_
    obtain ⟨n, seven⟩ := v
    conv => cbv
    try dsimp only at hn
    have o5 := nat_ok hn
    try dsimp only at o5
    refine r_callF ib m.sX (specNaturalWidth_ok words (rA, rB, rC)) fun y5 hy5 => ?_
    obtain rfl := hy5.trans hn.symm
    clear hy5
    conv => cbv
    rcases Bool.eq_false_or_eq_true ok with rfl | rfl <;> conv => cbv
    · obtain ⟨hj, ef, es, sa, sl, sl'⟩ := just_spec hs_
      rw [gapsF] at sl'
      have fb := fits_spec ef
      try dsimp only at fb
      have wf : SumFits s_ := sumfits_of 54 (fun y hy => by have := sa y hy; have := okRule_spec hj.rule; dsimp only at *; omega) (by omega)
      have mb := inB_spec hj.meas
      try dsimp only at mb
      have js := just_sum hj ef
      try dsimp only at js
      rw [← es, leftF] at js
      refine r_callBT m.sX (qInts_ok s_ s_) (by first | assumption | (simp [*]; done) | omega) ?_   -- h2
      conv => cbv
      obtain rfl : one = true := by rw [← o2]; rw [Bool.and_eq_true] at o1; exact o1.1
      conv => cbv
      try have nf : fitsJ words (rA, rB, rC) measure = false := by rw [o2, Bool.true_and] at o1; exact o1
      try have fb := not_fits nf
      try dsimp only at fb
      refine r_neqF m.sX (by omega) ?_
      conv => cbv
      obtain rfl : three = true := by exact o3.symm.trans o1
      conv => cbv
      refine r_neqF m.sX (by omega) ?_
      conv => cbv
      obtain rfl : five = true := by exact o4.symm.trans (ask_lr o2)
      conv => cbv
      refine r_neqF m.sX (by omega) ?_
      conv => cbv
      refine r_neqF m.sX (by omega) ?_
      conv => cbv
      obtain rfl : seven = true := by exact o5.symm.trans o4
      conv => cbv
      obtain ⟨b1, b2⟩ := bound_val hlow
      have b3 := nat_val hn
      try dsimp only at b3
      try dsimp only at b1 b2 b3
      have lr1 : okLine words = true := by rw [Bool.and_eq_true] at o4; exact o4.1
      have lr2 : okRule (rA, rB, rC) = true := by rw [Bool.and_eq_true] at o4; exact o4.2
      have s1 := line_sum lr1
      try dsimp only at s1
      have s0 := line_fits lr1
      try dsimp only at s0
      have s2 := okRule_spec lr2
      try dsimp only at s2
      have g0 : 0 ≤ gapsF words := by rw [gapsF]; omega
      have m1 := Int.mul_le_mul_of_nonneg_left s2.2.1 g0
      try dsimp only at m1
      have m2 := Int.mul_le_mul_of_nonneg_left s2.2.2.1 g0
      try dsimp only at m2
      refine r_neqF m.sX (by omega) ?_
      conv => cbv
      refine r_eqlT m.sX ((by exact (why_val hw).trans (by rw [whyF, ef]; rfl))) ?_
      conv => cbv
      refine r_gtrF m.sX (by omega) ?_
      conv => cbv
      refine r_gtrF m.sX (by omega) ?_
      conv => cbv
      refine r_callBT m.sX (IsRule_ok (rA, rB, rC)) (by first | assumption | (simp [*]; done) | omega) ?_   -- h11
      conv => cbv
      refine r_leqT m.sX (by omega) ?_
      conv => cbv
      refine r_leqT m.sX (by omega) ?_
      conv => cbv
      refine r_lenR m.sX fun n3 hn3 mn3 => ?_
      conv => cbv
      refine r_loop (α := Int × Int) m 301 [1, 5, 7, 10, 18, 30, 224, 225, 226] [⟨6, 49, 0, 0, 0⟩] (fun σ => [(1, .isl 1 (rows cU8 more)), (5, .isl 1 (rows cInt words)), (6, .optr 49 0 3 0 0), (7, .int .i64 measure), (10, .isl 1 (rows cInt s_)), (18, .int .i64 c), (30, .int .i64 σ.1), (224, .isl 1 (rows cInt s_)), (225, .int .i64 n3), (226, .int .i64 σ.2)]) (fun σ => [(49, 0, .box [.int .i64 rA, .int .i64 rB, .int .i64 rC])])
        (fun σ => (0 ≤ σ.2) ∧ (σ.2 ≤ n3) ∧ (σ.1 = costF (rA, rB, rC) (s_.take σ.2.toNat)) ∧ (0 ≤ σ.1 ∧ σ.1 ≤ 2916 * σ.2)) (fun σ => (n3 - σ.2).toNat) (0, 0) ?_ ?_ ?_ ?_
      · cbv
      · cbv
      · exact ⟨(by (try dsimp only); first | omega | (simp only [List.length_nil]; omega)), (by (try dsimp only); first | omega | (simp only [List.length_nil]; omega)), (by (try dsimp only); first | omega | rfl | (simp [*]; done)), (by (try dsimp only); first | omega | rfl | (simp [*]; done))⟩
      rintro ⟨own, i1⟩ ⟨lo1, hi1, q, b⟩ E hE
      dsimp only at lo1 hi1 q b
      conv => cbv
      refine r_lss m.sX (fun h14 => ?_) (fun h14 => ?_) <;> conv => cbv
      · refine r_index m.sX (by omega) (by omega) fun x hx => ?_
        conv => cbv
        have mx := get_mem hx
        have dx := drop_cons hx
        have kx := take_snoc hx
        have jx : (i1 + 1).toNat = Int.toNat i1 + 1 := by omega
        have vx := nth_some hx
        have bx := sa _ mx
        try dsimp only at bx
        have e1 := spaces_at (es ▸ hx)
        try dsimp only at e1
        refine r_lssF m.sX (by omega) ?_
        conv => cbv
        refine r_gtrF m.sX (by omega) ?_
        conv => cbv
        refine r_gtr m.sX (fun h17 => ?_) (fun h17 => ?_) <;> conv => cbv
        · refine r_subf m.sX (by omega) (by omega) fun r2 hr2 => ?_
          conv => cbv
          refine r_index m.sX (by omega) (by omega) fun x1 hx1 => ?_
          conv => cbv
          have mx1 := get_mem hx1
          have vx1 := nth_some hx1
          have e2 := spaces_at (es ▸ hx1)
          try dsimp only at e2
          refine r_lssF m.sX ((by have := (space_order (leftF words measure) (gapsF words) (Int.toNat r2) (Int.toNat i1) (by omega)).1; omega)) ?_
          conv => cbv
          refine r_index m.sX (by omega) (by omega) fun x2 hx2 => ?_
          conv => cbv
          have mx2 := get_mem hx2
          have vx2 := nth_some hx2
          have e3 := spaces_at (es ▸ hx2)
          try dsimp only at e3
          refine r_addf m.sX (by omega) (by omega) fun r3 hr3 => ?_
          conv => cbv
          refine r_gtrF m.sX ((by have := (space_order (leftF words measure) (gapsF words) (Int.toNat 0) (Int.toNat i1) (by omega)).2; omega)) ?_
          conv => cbv
          refine r_subf m.sX (by omega) (by omega) fun r4 hr4 => ?_
          conv => cbv
          refine r_subf m.sX (by omega) (by omega) fun r5 hr5 => ?_
          conv => cbv
          have sq := sq54 (show r5 = r4 by omega) (by omega) (by omega)
          try dsimp only at sq
          refine r_mulf m.sX (by omega) (by omega) fun r6 hr6 => ?_
          conv => cbv
          refine r_addf m.sX (by omega) (by omega) fun own_2 hown_2 => ?_
          conv => cbv
          refine r_addf m.sX (by omega) (by omega) fun r7 hr7 => ?_
          conv => cbv
          have tr7 : Int.toNat r7 = Int.toNat i1 + 1 := by omega
          refine hE _ (own_2, r7) ?_ ?_ ⟨(by (try dsimp only); first | omega | (simp only [List.length_nil]; omega)), (by (try dsimp only); first | omega | (simp only [List.length_nil]; omega)), (by (try dsimp only); rw [tr7, kx, costF_snoc, ← q]; dsimp only; first | (rw [hown_2, hr6, hr4, hr5]) | (rw [hown_3, hr10, hr8, hr9])), (by (try dsimp only); first | omega | rfl | (simp [*]; done) | (rw [b]; simp [*]; done))⟩ (by first | omega | (dsimp only; omega))
          · cbv
          · cbv
        · refine r_subf m.sX (by omega) (by omega) fun r8 hr8 => ?_
          conv => cbv
          refine r_subf m.sX (by omega) (by omega) fun r9 hr9 => ?_
          conv => cbv
          have sq := sq54 (show r9 = r8 by omega) (by omega) (by omega)
          try dsimp only at sq
          refine r_mulf m.sX (by omega) (by omega) fun r10 hr10 => ?_
          conv => cbv
          refine r_addf m.sX (by omega) (by omega) fun own_3 hown_3 => ?_
          conv => cbv
          refine r_addf m.sX (by omega) (by omega) fun r11 hr11 => ?_
          conv => cbv
          have tr11 : Int.toNat r11 = Int.toNat i1 + 1 := by omega
          refine hE _ (own_3, r11) ?_ ?_ ⟨(by (try dsimp only); first | omega | (simp only [List.length_nil]; omega)), (by (try dsimp only); first | omega | (simp only [List.length_nil]; omega)), (by (try dsimp only); rw [tr11, kx, costF_snoc, ← q]; dsimp only; first | (rw [hown_2, hr6, hr4, hr5]) | (rw [hown_3, hr10, hr8, hr9])), (by (try dsimp only); first | omega | rfl | (simp [*]; done) | (rw [b]; simp [*]; done))⟩ (by first | omega | (dsimp only; omega))
          · cbv
          · cbv
      · have dz_i1 := drop_end (xs := s_) (i := Int.toNat i1) (by omega)
        have tz_i1 := take_end (xs := s_) (i := Int.toNat i1) (by omega)
        refine r_neqF m.sX ((by rw [q, tz_i1, cost_val hc hs_])) ?_
        conv => cbv
        refine r_lenR m.sX fun n4 hn4 mn4 => ?_
        conv => cbv
        refine r_lenR m.sX fun n5 hn5 mn5 => ?_
        conv => cbv
        refine r_subf m.sX (by omega) (by omega) fun r12 hr12 => ?_
        conv => cbv
        refine r_neqF m.sX (by omega) ?_
        conv => cbv
        refine r_callF (PV.int .i64) m.sX (qSum_ok words (by first | rfl | assumption | omega | (simp only [List.length_append, List.length_cons, List.length_nil] at *; omega))) fun r13 hr13 => ?_
        conv => cbv
        try dsimp only at hr13
        refine r_callF (PV.int .i64) m.sX (qSum_ok s_ (by first | rfl | assumption | omega | (simp only [List.length_append, List.length_cons, List.length_nil] at *; omega))) fun r14 hr14 => ?_
        conv => cbv
        try dsimp only at hr14
        refine r_addf m.sX (by omega) (by omega) fun r15 hr15 => ?_
        conv => cbv
        refine r_neqF m.sX (by omega) ?_
        conv => cbv
        exact hE0 _ () (by cbv) (by cbv) hd
    · refine r_callBT m.sX (qInts_ok s_ s_) (by first | assumption | (simp [*]; done) | omega) ?_   -- h23
      conv => cbv
      rcases Bool.eq_false_or_eq_true one with rfl | rfl <;> conv => cbv
      · try have nf : fitsJ words (rA, rB, rC) measure = false := by rw [o2, Bool.true_and] at o1; exact o1
        try have fb := not_fits nf
        try dsimp only at fb
        refine r_neqF m.sX (by omega) ?_
        conv => cbv
        obtain rfl : three = false := by exact o3.symm.trans o1
        conv => cbv
        refine r_neqF m.sX (by omega) ?_
        conv => cbv
        obtain rfl : five = true := by exact o4.symm.trans (ask_lr o2)
        conv => cbv
        refine r_neqF m.sX (by omega) ?_
        conv => cbv
        refine r_neqF m.sX (by omega) ?_
        conv => cbv
        obtain rfl : seven = true := by exact o5.symm.trans o4
        conv => cbv
        obtain ⟨b1, b2⟩ := bound_val hlow
        have b3 := nat_val hn
        try dsimp only at b3
        try dsimp only at b1 b2 b3
        have lr1 : okLine words = true := by rw [Bool.and_eq_true] at o4; exact o4.1
        have lr2 : okRule (rA, rB, rC) = true := by rw [Bool.and_eq_true] at o4; exact o4.2
        have s1 := line_sum lr1
        try dsimp only at s1
        have s0 := line_fits lr1
        try dsimp only at s0
        have s2 := okRule_spec lr2
        try dsimp only at s2
        have g0 : 0 ≤ gapsF words := by rw [gapsF]; omega
        have m1 := Int.mul_le_mul_of_nonneg_left s2.2.1 g0
        try dsimp only at m1
        have m2 := Int.mul_le_mul_of_nonneg_left s2.2.2.1 g0
        try dsimp only at m2
        refine r_neqF m.sX (by omega) ?_
        conv => cbv
        refine r_eqlF m.sX ((by rw [why_val hw]; exact why_ne nf)) ?_
        conv => cbv
        refine r_gtrF m.sX (by omega) ?_
        conv => cbv
        refine r_gtrF m.sX (by omega) ?_
        conv => cbv
        refine r_callBT m.sX (IsRule_ok (rA, rB, rC)) (by first | assumption | (simp [*]; done) | omega) ?_   -- h32
        conv => cbv
        refine r_leq m.sX (fun h33 => ?_) (fun h33 => ?_) <;> conv => cbv
        · refine r_leqF m.sX (by omega) ?_
          conv => cbv
          exact hE0 _ () (by cbv) (by cbv) hd
        · exact hE0 _ () (by cbv) (by cbv) hd
      · refine r_neqF m.sX (by omega) ?_
        conv => cbv
        obtain rfl : three = false := by exact o3.symm.trans o1
        conv => cbv
        refine r_neqF m.sX (by omega) ?_
        conv => cbv
        rcases Bool.eq_false_or_eq_true five with rfl | rfl <;> conv => cbv
        · refine r_neqF m.sX (by omega) ?_
          conv => cbv
          refine r_neqF m.sX (by omega) ?_
          conv => cbv
          obtain rfl : seven = true := by exact o5.symm.trans o4
          conv => cbv
          obtain ⟨b1, b2⟩ := bound_val hlow
          have b3 := nat_val hn
          try dsimp only at b3
          try dsimp only at b1 b2 b3
          have lr1 : okLine words = true := by rw [Bool.and_eq_true] at o4; exact o4.1
          have lr2 : okRule (rA, rB, rC) = true := by rw [Bool.and_eq_true] at o4; exact o4.2
          have s1 := line_sum lr1
          try dsimp only at s1
          have s0 := line_fits lr1
          try dsimp only at s0
          have s2 := okRule_spec lr2
          try dsimp only at s2
          have g0 : 0 ≤ gapsF words := by rw [gapsF]; omega
          have m1 := Int.mul_le_mul_of_nonneg_left s2.2.1 g0
          try dsimp only at m1
          have m2 := Int.mul_le_mul_of_nonneg_left s2.2.2.1 g0
          try dsimp only at m2
          refine r_neqF m.sX (by omega) ?_
          conv => cbv
          refine r_gtrF m.sX (by omega) ?_
          conv => cbv
          refine r_gtrF m.sX (by omega) ?_
          conv => cbv
          refine r_callBT m.sX (IsRule_ok (rA, rB, rC)) (by first | assumption | (simp [*]; done) | omega) ?_   -- h42
          conv => cbv
          exact hE0 _ () (by cbv) (by cbv) hd
        · refine r_neqF m.sX (by omega) ?_
          conv => cbv
          refine r_neqF m.sX (by omega) ?_
          conv => cbv
          obtain rfl : seven = false := by exact o5.symm.trans o4
          conv => cbv
          refine r_neqF m.sX (by omega) ?_
          conv => cbv
          exact hE0 _ () (by cbv) (by cbv) hd

theorem justified_part2 (m : Mach Try.prog G κ X Y L) (hQ : ∀ r, r = PV.bool true → Q r) (more : List Int) (h : CurIn more) :
    Ai.code X L G (rest 17 (Try.f7.body.getD .skip)) (EndsIn (post G Try.f7.results.toList Q)) (St.at 301 (midJustified more) []) := by
  conv => cbv
  refine r_callE m.sX (drawIsRule_ok more h) ?_
  rintro _ ⟨⟨uA, uB, uC⟩, rfl⟩
  conv => cbv
  refine r_draw m (by kernel_rfl) ?_
  conv => cbv
  refine r_callBS m.sY (IsRule_ok (uA, uB, uC)) (fun h1 => ?_) (fun h1 => ?_) <;> conv => cbv
  · refine r_callBTS m.sY (specIsRule_ok (uA, uB, uC)) h1 ?_
    conv => cbv
    exact hQ _ (congrArg PV.bool (by first | rfl | omega | (simp [*]; done) | (subst_vars; simp [*]; done)))   -- leaf 2
  · refine r_callBFS m.sY (specIsRule_ok (uA, uB, uC)) h1 ?_
    conv => cbv
    exact hQ _ (congrArg PV.bool (by first | rfl | omega | (simp [*]; done) | (subst_vars; simp [*]; done)))   -- leaf 3

end

theorem lawJustified_ok (code more : List Int) (hf : ∀ x ∈ code, 0 ≤ x ∧ x ≤ 255) (hg : ∀ x ∈ more, 0 ≤ x ∧ x ≤ 255) : OkA Try.prog 7 [.isl 1 (rows cU8 code), .isl 1 (rows cU8 more)] (· = .bool true) :=
  fn_introW envOk fieldsOk mixed Try.func7 rfl (c := Try.f7.body.getD .skip) rfl fun κ X Y L Q m hQ =>
    W_cut m 17 301 [1] [] (fun _ : Unit => midJustified more) (fun _ => []) (fun _ => (more.length : Int) ≤ 9223372036854775807) (justified_part1 m hQ code more hf) fun _ hl =>
    W_last m (justified_part2 m hQ more ⟨hl, hg⟩)

end Go.Proofs.Ytnkikmdkkkhlcaa.Ai
