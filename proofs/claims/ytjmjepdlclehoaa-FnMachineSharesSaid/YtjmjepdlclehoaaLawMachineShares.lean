/- The law FnMachineShares: its body returns true. -/
import Derived.Test.YtjmjepdlclehoaaCast4
import Derived.Test.YtjmjepdlclehoaaCastDraw
import Derived.Test.YtjmjepdlclehoaaAiCut
namespace Go.Proofs.Ytjmjepdlclehoaa.Ai
open Go Go.Proofs
set_option linter.unusedSimpArgs false
set_option maxRecDepth 10000
set_option maxHeartbeats 4000000
set_option linter.unusedVariables false
theorem share_facts {m n : CMach} {l : List Casting} {s : List Int} {e : Int} (h : (s, e, true) = shareAns m n l) : okM m = true ∧ okM n = true ∧ okCs l = true ∧ s.length = l.length ∧ (∀ x ∈ s, x = 0 ∨ x = 1) ∧ e = costS m n l s ∧ e ≤ timeF m l (upto l.length) ∧ e ≤ timeF n l (upto l.length) := by
  unfold shareAns at h
  split at h
  · rename_i hc
    simp only [Bool.and_eq_true] at hc
    obtain ⟨h1, h2, h3, h4⟩ := shareF_spec hc.1 hc.2.1 (okAll_of hc.2.2)
    obtain ⟨a1, a2⟩ := Prod.mk.inj h
    obtain ⟨a3, -⟩ := Prod.mk.inj a2
    subst a1; subst a3
    obtain ⟨h5, h6⟩ := shares_len _ _ h1
    exact ⟨hc.1, hc.2.1, hc.2.2, h5, h6, h2, h3, h4⟩
  · simp at h
theorem upto_succ (n : Nat) : upto (n + 1) = upto n ++ [(n : Int)] := by simp [upto, List.range_succ]
theorem time_at {m : CMach} {l : List Casting} {o : List Int} {t : Int} {b : Bool} (hm : okM m = true) (hl : okCs l = true) (ho : fineB l.length o = true) (h : (t, b) = if okM m && okCs l && fineB l.length o then (timeF m l o, true) else (0, false)) : t = timeF m l o ∧ b = true := by
  rw [hm, hl, ho] at h
  exact Prod.mk.inj h
theorem most_facts {m : CMach} {l : List Casting} {minutes : Int} {o : List Int} (h : (o, true) = mostAns m l minutes) : okM m = true ∧ okCs l = true ∧ fineB l.length o = true ∧ timeF m l o ≤ minutes ∧ o.length ≤ l.length ∧ ∀ p, Diff l.length p → p.length ≤ l.length → timeF m l p ≤ minutes → p.length ≤ o.length := by
  unfold mostAns at h
  split at h
  · rename_i hc
    simp only [Bool.and_eq_true] at hc
    obtain ⟨h1, h2, h3, h4⟩ := mostF_spec (m := m) (l := l) (minutes := minutes) (by have := inB_spec hc.2.2; omega)
    obtain ⟨rfl, -⟩ := Prod.mk.inj h
    exact ⟨hc.1, hc.2.1, fineB_diff.2 h1, h2, h3, h4⟩
  · simp at h
theorem best_facts {m : CMach} {l : List Casting} {o : List Int} {t : Int} {b : Bool} (hm : okM m = true) (hl : okCs l = true) (h : (o, t, b) = bestAns m l) : b = true ∧ Diff l.length o ∧ o.length = l.length ∧ t = timeF m l o ∧ ∀ p, Diff l.length p → p.length = l.length → t ≤ timeF m l p := by
  rw [bestAns, hm, hl] at h
  obtain ⟨h1, h2, h3, h4⟩ := bestO_spec hm (okAll_of hl)
  obtain ⟨a1, a2⟩ := Prod.mk.inj (show (o, t, b) = ((bestO m l).1, (bestO m l).2, true) from h)
  obtain ⟨a3, a4⟩ := Prod.mk.inj a2
  subst a1; subst a3; subst a4
  exact ⟨rfl, h1, h2, h3, h4⟩
/-- All castings are done in time just if most castings are all. -/
theorem most_best {m : CMach} {l : List Casting} {minutes t : Int} {o p : List Int} (h1 : fineB l.length o = true) (h2 : timeF m l o ≤ minutes) (h3 : o.length ≤ l.length) (h4 : ∀ p, Diff l.length p → p.length ≤ l.length → timeF m l p ≤ minutes → p.length ≤ o.length)
    (g1 : Diff l.length p) (g2 : p.length = l.length) (g3 : t = timeF m l p) (g4 : ∀ p, Diff l.length p → p.length = l.length → t ≤ timeF m l p) : t ≤ minutes ↔ o.length = l.length := by
  constructor
  · intro h
    have := h4 p g1 (by omega) (by omega)
    omega
  · intro h
    have := g4 o (fineB_diff.1 h1) h
    omega
theorem cast_at {m : CMach} {x : Casting} {t : Int} (h : (t, true) = if okM m && okX x then (timeC m x, true) else (0, false)) : okM m = true ∧ okX x = true ∧ t = timeC m x := by
  split at h
  · rename_i hc
    simp only [Bool.and_eq_true] at hc
    exact ⟨hc.1, hc.2, (Prod.mk.inj h).1⟩
  · simp at h
theorem timeC_spec {a p c b x t : Int} (hp : 1 ≤ p) (ht : t = timeC (a, p, c) (b, x)) : 60 * x ≤ t * p ∧ t * p ≤ 60 * x + p - 1 ∧ (t - 1) * p < 60 * x ∧ (t - 1) * p = t * p - p := by
  have e1 := Int.mul_ediv_add_emod (60 * x + p - 1) p
  have e2 := Int.emod_nonneg (60 * x + p - 1) (show p ≠ 0 by omega)
  have e3 := Int.emod_lt_of_pos (60 * x + p - 1) (show 0 < p by omega)
  have e4 : (60 * x + p - 1) / p = t := by rw [ht]; rfl
  rw [e4, Int.mul_comm] at e1
  have e5 : (t - 1) * p = t * p - p := by rw [Int.sub_mul, Int.one_mul]
  refine ⟨by omega, by omega, by omega, e5⟩
noncomputable abbrev midMachineShares (more : List Int) : List (Nat × PV) := [(1, .isl 1 (rows cU8 more))]

section
variable {κ : Ctx} {X Y : Req → (PV → Prop) → Prop} {L : Code → (Ex → St → Prop) → St → Prop} {Q : PV → Prop}

theorem machineShares_part1 (m : Mach Try.prog G κ X Y L) (hQ : ∀ r, r = PV.bool true → Q r) (code more : List Int) (hf : ∀ x ∈ code, 0 ≤ x ∧ x ≤ 255) (E0 : St → Prop)
    (hE0 : ∀ (s' : St) (a : Unit), headOk s' [] = true → Ai.norm [1] [] s' = St.at 293 (midMachineShares more) [] → (more.length : Int) ≤ 9223372036854775807 → E0 s') :
    Ai.code X L G (front 7 (Try.f3.body.getD .skip)) (fun e s' => match e with | .normal => E0 s' | .exit i => EndsIn (post G Try.f3.results.toList Q) (.exit i) s' | .ret => EndsIn (post G Try.f3.results.toList Q) .ret s') (start 293 [.isl 1 (rows cU8 code), .isl 1 (rows cU8 more)] []) := by
  conv => cbv
  refine r_callB m.sX (big_ok code more) (fun h1 => ?_) (fun h1 => ?_) <;> conv => cbv
  · exact hQ _ (congrArg PV.bool (by first | rfl | omega | (simp [*]; done) | (subst_vars; simp [*]; done)))   -- leaf 1
  · rw [Bool.or_eq_false_iff, decide_eq_false_iff_not, decide_eq_false_iff_not] at h1
    have h : CurIn code := ⟨by omega, hf⟩
    have hmr : (more.length : Int) ≤ 9223372036854775807 := by omega
    refine r_callE m.sX ((drawShareOfMachines_ok code h).iceE) ?_
    rintro _ ⟨_, ⟨⟨m_A, m_B, m_C⟩, ⟨nA, nB, nC⟩, l, rfl, bm__1⟩, rfl⟩
    conv => cbv
    refine r_callF (licI 1 cInt) m.sX ((ShareOfMachines_ok (m_A, m_B, m_C) (nA, nB, nC) l).ice) fun v hs_ => ?_
    obtain ⟨s_, e, ok⟩ := v
    conv => cbv
    try dsimp only at hs_
    refine r_callF (licI 1 cInt) m.sX ((specShareOfMachines_ok (m_A, m_B, m_C) (nA, nB, nC) l).ice) fun y1 hy1 => ?_
    obtain rfl := hs_.trans hy1.symm
    clear hy1
    conv => cbv
    rcases Bool.eq_false_or_eq_true ok with rfl | rfl <;> conv => cbv
    · obtain ⟨ok1, ok2, ok3, sl, sx, ec, e1, e2⟩ := share_facts hs_
      have ll := okCs_len ok3
      try dsimp only at ll
      refine r_callBT m.sX (sameInts_ok s_ s_) (by first | assumption | exact decide_eq_true rfl | (simp [*]; done) | omega) ?_   -- h2
      conv => cbv
      refine r_neqF m.sX (by first | omega | rfl) ?_
      conv => cbv
      refine r_lenR m.sX fun n1 hn1 mn1 => ?_
      conv => cbv
      refine r_loopF (α := List Int × List Int × List Int × Int) m 293 [1, 7, 12, 85, 86, 87] [⟨5, 41, 0, 0, 0⟩, ⟨6, 49, 0, 0, 0⟩, ⟨14, 113, 3, 1, 0⟩, ⟨15, 121, 3, 1, 0⟩, ⟨16, 129, 3, 1, 0⟩] (fun σ => [(1, .isl 1 (rows cU8 more)), (5, .optr 41 0 3 0 0), (6, .optr 49 0 3 0 0), (7, .isl 2 (rows cCasting l)), (12, .int .i64 e), (14, .osl 113 0), (15, .osl 121 0), (16, .osl 129 0), (85, .isl 1 (rows cInt s_)), (86, .int .i64 n1), (87, .int .i64 σ.2.2.2)]) (fun σ => [(41, 0, .box [.int .i64 m_A, .int .i64 m_B, .int .i64 m_C]), (49, 0, .box [.int .i64 nA, .int .i64 nB, .int .i64 nC]), (113, 0, .row 3 1 (rows cInt σ.1)), (121, 0, .row 3 1 (rows cInt σ.2.1)), (129, 0, .row 3 1 (rows cInt σ.2.2.1))])
        (fun σ => (0 ≤ σ.2.2.2) ∧ (σ.2.2.2 ≤ n1) ∧ (σ.2.2.1 = upto σ.2.2.2.toNat) ∧ (σ.1 = pickG true 0 (s_.take σ.2.2.2.toNat)) ∧ (σ.2.1 = pickG false 0 (s_.take σ.2.2.2.toNat)) ∧ ((σ.2.2.1.length : Int) = σ.2.2.2) ∧ ((σ.1.length : Int) ≤ σ.2.2.2) ∧ ((σ.2.1.length : Int) ≤ σ.2.2.2)) (fun σ => (n1 - σ.2.2.2).toNat) ([], [], [], 0) ?_ ?_ ?_ ?_
      · cbv
      · (try dsimp only); (try simp only [rows_cons, rows_nil]); cbv
      · exact ⟨(by (try dsimp only); first | omega | (simp only [List.length_nil]; omega) | (simp only [List.length_cons, List.length_nil]; omega)), (by (try dsimp only); first | omega | (simp only [List.length_nil]; omega) | (simp only [List.length_cons, List.length_nil]; omega)), (by (try dsimp only) <;> (rfl)), (by (try dsimp only) <;> ((simp [pickG]))), (by (try dsimp only) <;> ((simp [pickG]))), (by (try dsimp only) <;> first | omega | rfl | (simp [*]; done)), (by (try dsimp only) <;> first | omega | rfl | (simp [*]; done)), (by (try dsimp only) <;> first | omega | rfl | (simp [*]; done))⟩
      rintro ⟨first, second, all, i1⟩ ⟨lo1, hi1, qa, q1, q2, l0, l1, l2⟩ E hE F hF
      dsimp only at lo1 hi1 qa q1 q2 l0 l1 l2
      conv => cbv
      refine r_lss m.sX (fun h4 => ?_) (fun h4 => ?_) <;> conv => cbv
      · refine r_index m.sX (by omega) (by omega) fun k hk => ?_
        conv => cbv
        have mk := get_mem hk
        have dk := drop_cons hk
        have kk := take_snoc hk
        have jk : (i1 + 1).toNat = Int.toNat i1 + 1 := by omega
        have vk := nth_some hk
        have elj : (s_.take i1.toNat).length = i1.toNat := by rw [List.length_take]; omega
        have ei : ((i1.toNat : Nat) : Int) = i1 := by omega
        refine r_append1 (i1) m.sX rfl (by first | omega | (dsimp only; omega)) (by first | omega | (dsimp only; omega)) fun all_2 hall_2 => ?_
        conv => cbv
        have lall_2 : (all_2.length : Int) = all.length + 1 := by rw [hall_2]; first | done | (simp; done) | (simp; omega)
        refine r_eql m.sX (fun h5 => ?_) (fun h5 => ?_) <;> conv => cbv
        · refine r_append1 (i1) m.sX rfl (by first | omega | (dsimp only; omega)) (by first | omega | (dsimp only; omega)) fun first_2 hfirst_2 => ?_
          conv => cbv
          have lfirst_2 : (first_2.length : Int) = first.length + 1 := by rw [hfirst_2]; first | done | (simp; done) | (simp; omega)
          refine r_addf m.sX (by omega) (by omega) fun r1 hr1 => ?_
          conv => cbv
          try have tr1 : Int.toNat r1 = Int.toNat i1 + 1 := by omega
          refine hE _ (first_2, second, all_2, r1) ?_ ?_ ⟨(by (try dsimp only); first | omega | (simp only [List.length_nil]; omega) | (simp only [List.length_cons, List.length_nil]; omega)), (by (try dsimp only); first | omega | (simp only [List.length_nil]; omega) | (simp only [List.length_cons, List.length_nil]; omega)), (by (try dsimp only) <;> (rw [hall_2, qa, tr1, upto_succ, ei])), (by (try dsimp only) <;> (first | (rw [hfirst_2, q1, tr1, kk, pick_snoc, elj, ei]; simp [h5]; done) | (rw [q1, tr1, kk, pick_snoc, elj, ei]; simp [h5]; done))), (by (try dsimp only) <;> (first | (rw [hsecond_2, q2, tr1, kk, pick_snoc, elj, ei]; simp [h5]; done) | (rw [q2, tr1, kk, pick_snoc, elj, ei]; simp [h5]; done))), (by (try dsimp only) <;> first | omega | rfl | (simp [*]; done) | (rw [l0]; simp [*]; done)), (by (try dsimp only) <;> first | omega | rfl | (simp [*]; done) | (rw [l1]; simp [*]; done)), (by (try dsimp only) <;> first | omega | rfl | (simp [*]; done) | (rw [l2]; simp [*]; done))⟩ (by first | omega | (dsimp only; omega))
          · cbv
          · cbv
        · refine r_append1 (i1) m.sX rfl (by first | omega | (dsimp only; omega)) (by first | omega | (dsimp only; omega)) fun second_2 hsecond_2 => ?_
          conv => cbv
          have lsecond_2 : (second_2.length : Int) = second.length + 1 := by rw [hsecond_2]; first | done | (simp; done) | (simp; omega)
          refine r_addf m.sX (by omega) (by omega) fun r2 hr2 => ?_
          conv => cbv
          try have tr2 : Int.toNat r2 = Int.toNat i1 + 1 := by omega
          refine hE _ (first, second_2, all_2, r2) ?_ ?_ ⟨(by (try dsimp only); first | omega | (simp only [List.length_nil]; omega) | (simp only [List.length_cons, List.length_nil]; omega)), (by (try dsimp only); first | omega | (simp only [List.length_nil]; omega) | (simp only [List.length_cons, List.length_nil]; omega)), (by (try dsimp only) <;> (rw [hall_2, qa, tr2, upto_succ, ei])), (by (try dsimp only) <;> (first | (rw [hfirst_2, q1, tr2, kk, pick_snoc, elj, ei]; simp [h5]; done) | (rw [q1, tr2, kk, pick_snoc, elj, ei]; simp [h5]; done))), (by (try dsimp only) <;> (first | (rw [hsecond_2, q2, tr2, kk, pick_snoc, elj, ei]; simp [h5]; done) | (rw [q2, tr2, kk, pick_snoc, elj, ei]; simp [h5]; done))), (by (try dsimp only) <;> first | omega | rfl | (simp [*]; done) | (rw [l0]; simp [*]; done)), (by (try dsimp only) <;> first | omega | rfl | (simp [*]; done) | (rw [l1]; simp [*]; done)), (by (try dsimp only) <;> first | omega | rfl | (simp [*]; done) | (rw [l2]; simp [*]; done))⟩ (by first | omega | (dsimp only; omega))
          · cbv
          · cbv
      · rw [List.take_of_length_le (by omega)] at q1 q2
        have f1 : fineB l.length first = true := by rw [q1]; exact pick_fine true (by omega)
        have f2 : fineB l.length second = true := by rw [q2]; exact pick_fine false (by omega)
        have qa2 : all = upto l.length := by rw [qa, show i1.toNat = l.length by omega]
        have fa : fineB l.length all = true := by rw [qa2]; exact fineB_diff.2 (upto_diff _).1
        have dz_i1 := drop_end (xs := s_) (i := Int.toNat i1) (by omega)
        have tz_i1 := take_end (xs := s_) (i := Int.toNat i1) (by omega)
        refine hF _ _ ?_
        conv => cbv
        refine .inl (r_callFO ib m.sX ((OrderTime_ok (m_A, m_B, m_C) l first).ok flat_ib) fun v ha => ?_)
        obtain ⟨a, one⟩ := v
        conv => cbv
        try dsimp only at ha
        obtain ⟨ea, ea2⟩ := time_at ok1 ok3 f1 ha
        refine .inl (r_callFO ib m.sX ((OrderTime_ok (nA, nB, nC) l second).ok flat_ib) fun v hb => ?_)
        obtain ⟨b, two⟩ := v
        conv => cbv
        try dsimp only at hb
        obtain ⟨eb, eb2⟩ := time_at ok2 ok3 f2 hb
        refine .inl (r_callFO ib m.sX ((OrderTime_ok (m_A, m_B, m_C) l all).ok flat_ib) fun v hx => ?_)
        obtain ⟨x, three⟩ := v
        conv => cbv
        try dsimp only at hx
        obtain ⟨ex, ex2⟩ := time_at ok1 ok3 fa hx
        refine .inl (r_callFO ib m.sX ((OrderTime_ok (nA, nB, nC) l all).ok flat_ib) fun v hy => ?_)
        obtain ⟨y, four⟩ := v
        conv => cbv
        try dsimp only at hy
        obtain ⟨ey, ey2⟩ := time_at ok2 ok3 fa hy
        rw [costS, ← q1, ← q2, ← ea, ← eb] at ec
        rw [← qa2, ← ex] at e1
        rw [← qa2, ← ey] at e2
        obtain rfl : one = true := by first | assumption | (simp [*]; done) | omega
        conv => cbv
        obtain rfl : two = true := by first | assumption | (simp [*]; done) | omega
        conv => cbv
        obtain rfl : three = true := by first | assumption | (simp [*]; done) | omega
        conv => cbv
        obtain rfl : four = true := by first | assumption | (simp [*]; done) | omega
        conv => cbv
        refine r_gtrF m.sX (by first | omega | rfl) ?_
        conv => cbv
        refine r_gtrF m.sX (by first | omega | rfl) ?_
        conv => cbv
        refine r_neq m.sX (fun h8 => ?_) (fun h8 => ?_) <;> conv => cbv
        · refine r_neqF m.sX (by first | omega | rfl) ?_
          conv => cbv
          refine r_gtrF m.sX (by first | omega | rfl) ?_
          conv => cbv
          refine r_gtrF m.sX (by first | omega | rfl) ?_
          conv => cbv
          exact hE0 _ () (by cbv) (by cbv) hmr
        · refine r_gtrF m.sX (by first | omega | rfl) ?_
          conv => cbv
          refine r_gtrF m.sX (by first | omega | rfl) ?_
          conv => cbv
          exact hE0 _ () (by cbv) (by cbv) hmr
    · refine r_callBT m.sX (sameInts_ok s_ s_) (by first | assumption | exact decide_eq_true rfl | (simp [*]; done) | omega) ?_   -- h14
      conv => cbv
      refine r_neqF m.sX (by first | omega | rfl) ?_
      conv => cbv
      exact hE0 _ () (by cbv) (by cbv) hmr

theorem machineShares_part2 (m : Mach Try.prog G κ X Y L) (hQ : ∀ r, r = PV.bool true → Q r) (more : List Int) (h : CurIn more) (E0 : St → Prop)
    (hE0 : ∀ (s' : St) (a : Unit), headOk s' [] = true → Ai.norm [1] [] s' = St.at 293 (midMachineShares more) [] → True → E0 s') :
    Ai.code X L G (front 5 (rest 7 (Try.f3.body.getD .skip))) (fun e s' => match e with | .normal => E0 s' | .exit i => EndsIn (post G Try.f3.results.toList Q) (.exit i) s' | .ret => EndsIn (post G Try.f3.results.toList Q) .ret s') (St.at 293 (midMachineShares more) []) := by
  conv => cbv
  refine r_callE m.sX ((drawMostCastings_ok more h).iceE) ?_
  rintro _ ⟨_, ⟨⟨uA, uB, uC⟩, v, minutes, rfl, bu_1⟩, rfl⟩
  conv => cbv
  refine r_callF (lbI 1 cInt) m.sX ((MostCastings_ok (uA, uB, uC) v minutes).ice) fun v ho => ?_
  obtain ⟨o, one⟩ := v
  conv => cbv
  try dsimp only at ho
  refine r_callF (lbI 1 cInt) m.sX (specMostCastings_ok (uA, uB, uC) v minutes) fun y1 hy1 => ?_
  obtain rfl := ho.trans hy1.symm
  clear hy1
  conv => cbv
  rcases Bool.eq_false_or_eq_true one with rfl | rfl <;> conv => cbv
  · obtain ⟨g1, g2, g3, g4, g5, g6⟩ := most_facts ho
    refine r_callBT m.sX (sameInts_ok o o) (by first | assumption | exact decide_eq_true rfl | (simp [*]; done) | omega) ?_   -- h1
    conv => cbv
    refine r_callF ib m.sX (OrderTime_ok (uA, uB, uC) v o) fun v htime => ?_
    obtain ⟨time, three⟩ := v
    conv => cbv
    try dsimp only at htime
    obtain ⟨t1, t2⟩ := time_at g1 g2 g3 htime
    obtain rfl : three = true := by first | assumption | (simp [*]; done) | omega
    conv => cbv
    refine r_gtrF m.sX (by first | omega | rfl) ?_
    conv => cbv
    refine r_callF (licI 1 cInt) m.sX ((BestCastOrder_ok (uA, uB, uC) v).ice) fun v hv1 => ?_
    obtain ⟨v1, all, four⟩ := v
    conv => cbv
    try dsimp only at hv1
    obtain ⟨u1, u2, u3, u4, u5⟩ := best_facts g1 g2 hv1
    have mb := most_best g3 g4 g5 g6 u2 u3 u4 u5
    try dsimp only at mb
    obtain rfl : four = true := by first | assumption | (simp [*]; done) | omega
    conv => cbv
    refine r_leq m.sX (fun h3 => ?_) (fun h3 => ?_) <;> conv => cbv
    · refine r_lenR m.sX fun n1 hn1 mn1 => ?_
      conv => cbv
      refine r_lenR m.sX fun n2 hn2 mn2 => ?_
      conv => cbv
      refine r_eqlT m.sX (by first | omega | rfl) ?_
      conv => cbv
      exact hE0 _ () (by cbv) (by cbv) trivial
    · refine r_lenR m.sX fun n3 hn3 mn3 => ?_
      conv => cbv
      refine r_lenR m.sX fun n4 hn4 mn4 => ?_
      conv => cbv
      refine r_eqlF m.sX (by first | omega | rfl) ?_
      conv => cbv
      exact hE0 _ () (by cbv) (by cbv) trivial
  · refine r_callBT m.sX (sameInts_ok o o) (by first | assumption | exact decide_eq_true rfl | (simp [*]; done) | omega) ?_   -- h6
    conv => cbv
    exact hE0 _ () (by cbv) (by cbv) trivial

theorem machineShares_part3 (m : Mach Try.prog G κ X Y L) (hQ : ∀ r, r = PV.bool true → Q r) (more : List Int) (h : CurIn more) :
    Ai.code X L G (rest 5 (rest 7 (Try.f3.body.getD .skip))) (EndsIn (post G Try.f3.results.toList Q)) (St.at 293 (midMachineShares more) []) := by
  conv => cbv
  refine r_callE m.sX (drawCastTime_ok more h) ?_
  rintro _ ⟨⟨pA, pB, pC⟩, ⟨xA, xB⟩, rfl⟩
  conv => cbv
  refine r_callF ib m.sX (CastTime_ok (pA, pB, pC) (xA, xB)) fun v ht => ?_
  obtain ⟨t, three⟩ := v
  conv => cbv
  try dsimp only at ht
  refine r_callF ib m.sX (specCastTime_ok (pA, pB, pC) (xA, xB)) fun y1 hy1 => ?_
  obtain rfl := ht.trans hy1.symm
  clear hy1
  conv => cbv
  rcases Bool.eq_false_or_eq_true three with rfl | rfl <;> conv => cbv
  · obtain ⟨c1, c2, c3⟩ := cast_at ht
    have c4 := okM_spec c1
    try dsimp only at c4
    have c5 := okX_spec c2
    try dsimp only at c5
    have c6 := timeC_bound c1 c2
    try dsimp only at c6
    rw [← c3] at c6
    try dsimp only at c4 c5
    obtain ⟨d1, d2, d3, d4⟩ := timeC_spec c4.2.1.1 c3
    refine r_eqlT m.sX (by first | omega | rfl) ?_
    conv => cbv
    refine r_mulf m.sX (by first | omega | (subst_vars; omega)) (by first | omega | (subst_vars; omega)) fun r1 hr1 => ?_
    conv => cbv
    refine r_mulf m.sX (by first | omega | (subst_vars; omega)) (by first | omega | (subst_vars; omega)) fun r2 hr2 => ?_
    conv => cbv
    refine r_geqT m.sX (by first | omega | rfl) ?_
    conv => cbv
    refine r_subf m.sX (by omega) (by omega) fun r3 hr3 => ?_
    conv => cbv
    have e3 : r3 * pB = t * pB - pB := by rw [hr3]; exact d4
    have e4 : r3 * pB < 60 * xB := by rw [hr3]; exact d3
    refine r_mulf m.sX (by first | omega | (subst_vars; omega)) (by first | omega | (subst_vars; omega)) fun r4 hr4 => ?_
    conv => cbv
    refine r_mulf m.sX (by first | omega | (subst_vars; omega)) (by first | omega | (subst_vars; omega)) fun r5 hr5 => ?_
    conv => cbv
    refine r_lssT m.sX (by first | omega | rfl) ?_
    conv => cbv
    exact hQ _ (congrArg PV.bool (by first | rfl | omega | (simp [*]; done) | (subst_vars; simp [*]; done)))   -- leaf 2
  · refine r_eqlT m.sX (by first | omega | rfl) ?_
    conv => cbv
    exact hQ _ (congrArg PV.bool (by first | rfl | omega | (simp [*]; done) | (subst_vars; simp [*]; done)))   -- leaf 3

end

theorem lawMachineShares_ok (code more : List Int) (hf : ∀ x ∈ code, 0 ≤ x ∧ x ≤ 255) (hg : ∀ x ∈ more, 0 ≤ x ∧ x ≤ 255) : OkA Try.prog 3 [.isl 1 (rows cU8 code), .isl 1 (rows cU8 more)] (· = .bool true) :=
  fn_introW envOk fieldsOk mixed Try.func3 rfl (c := Try.f3.body.getD .skip) rfl fun κ X Y L Q m hQ =>
    W_cut m 7 293 [1] [] (fun _ : Unit => midMachineShares more) (fun _ => []) (fun _ => (more.length : Int) ≤ 9223372036854775807) (machineShares_part1 m hQ code more hf) fun _ hl =>
    W_cut m 5 293 [1] [] (fun _ : Unit => midMachineShares more) (fun _ => []) (fun _ => True) (machineShares_part2 m hQ more ⟨hl, hg⟩) fun _ _ =>
    W_last m (machineShares_part3 m hQ more ⟨hl, hg⟩)

end Go.Proofs.Ytjmjepdlclehoaa.Ai
