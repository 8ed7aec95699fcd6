/- Contracts of the functions on drifts, corrections and sums. -/
import Derived.Test.YtfnfjgdepilgkaaDriftLaw
import Derived.Test.YtfnfjgdepilgkaaTrial
namespace Go.Proofs.Ytfnfjgdepilgkaa.Ai
open Go Go.Proofs
set_option maxRecDepth 10000
set_option maxHeartbeats 4000000
set_option linter.unusedVariables false

theorem drift_ok (l : List Int) (from_ : Int) (sign : Int) (ht : TrialOk l) (hf : 0 ≤ from_ ∧ from_ < l.length) (hs : sign = 1 ∨ sign = -1) : OkA Try.prog 112 [.isl 1 (rows cInt l), .int .i64 from_, .int .i64 sign] (· = .int .i64 (driftI l from_ sign)) :=
  fn_intro envOk fieldsOk mixed Try.func112 rfl fun κ X Y L Q m hQ => by
    have ll := ht.len
    conv => cbv
    refine r_loopF (α := Int) m 36 [0, 1, 2, 7] [] (fun σ => [(0, .isl 1 (rows cInt l)), (1, .int .i64 from_), (2, .int .i64 sign), (7, .int .i64 σ)]) (fun σ => [])
      (fun σ => (1 ≤ σ ∧ from_ + σ ≤ l.length) ∧ (driftN l sign from_.toNat l.length 1 = driftN l sign from_.toNat ((l.length : Int) - (σ - 1)).toNat σ.toNat)) (fun σ => ((l.length : Int) - σ).toNat) 1 ?_ ?_ ?_ ?_
    · cbv
    · cbv
    · exact ⟨(by (try dsimp only) <;> (omega)), (by (try dsimp only) <;> (rw [show ((l.length : Int) - (1 - 1)).toNat = l.length by omega]; rfl))⟩
    rintro n ⟨nb, q⟩ E hE F hF
    conv => cbv
    refine r_draw m (by kernel_rfl) ?_
    conv => cbv
    refine r_addf m.sY (by omega) (by omega) fun r1 hr1 => ?_
    conv => cbv
    refine r_lenRS m.sY (by omega) fun n1 hn1 => ?_
    conv => cbv
    refine r_lss m.sY (fun h1 => ?_) (fun h1 => ?_) <;> conv => cbv
    · refine r_addf m.sY (by omega) (by omega) fun r2 hr2 => ?_
      conv => cbv
      refine r_index m.sY (by omega) (by omega) fun x1 hx1 => ?_
      conv => cbv
      have mx1 := get_mem hx1
      have vx1 := nth_some hx1
      have bx1 := ht.bound _ mx1
      refine r_addf m.sY (by omega) (by omega) fun r3 hr3 => ?_
      conv => cbv
      refine r_subf m.sY (by omega) (by omega) fun r4 hr4 => ?_
      conv => cbv
      refine r_index m.sY (by omega) (by omega) fun x2 hx2 => ?_
      conv => cbv
      have mx2 := get_mem hx2
      have vx2 := nth_some hx2
      have bx2 := ht.bound _ mx2
      refine r_subf m.sY (by omega) (by omega) fun r5 hr5 => ?_
      conv => cbv
      have de : dif l (from_.toNat + n.toNat) = r5 := by rw [dif, show from_.toNat + n.toNat = r2.toNat by omega, nth_some hx1, show r2.toNat - 1 = r4.toNat by omega, nth_some hx2, hr5]
      have mb : -1000 ≤ sign * r5 ∧ sign * r5 ≤ 1000 := by rcases hs with e | e <;> rw [e] <;> omega
      refine r_mulf m.sY (by first | omega | (subst_vars; omega)) (by first | omega | (subst_vars; omega)) fun r6 hr6 => ?_
      conv => cbv
      refine r_gtr m.sY (fun h2 => ?_) (fun h2 => ?_) <;> conv => cbv
      · have c : from_.toNat + n.toNat < l.length ∧ 0 < sign * dif l (from_.toNat + n.toNat) := ⟨by omega, by rw [de, ← hr6]; exact h2⟩
        refine r_addf m.sX (by omega) (by omega) fun n_2 hn_2 => ?_
        conv => cbv
        refine hE _ n_2 ?_ ?_ ⟨(by (try dsimp only) <;> (omega)), (by (try dsimp only) <;> (rw [q, show ((l.length : Int) - (n - 1)).toNat = ((l.length : Int) - (n_2 - 1)).toNat + 1 by omega, driftN_step _ c, show n.toNat + 1 = n_2.toNat by omega]))⟩ (by first | omega | (dsimp only; omega))
        · cbv
        · cbv
      · refine hF _ _ ?_
        conv => cbv
        exact hQ (.int .i64 n) (Eq.trans (by first | rfl | (simp only [lb, lbI, rows_cons, rows_nil, unnilT, unnil, unnilTI, unnilI]; done) | (simp only [lb, lbI, rows_cons, rows_nil, unnilT, unnil, unnilTI, unnilI]; rfl)) (congrArg (PV.int .i64) (show n = driftI l from_ sign from by rw [driftI, q, driftN_stop _ (fun e => by have e2 := e.2; rw [de, ← hr6] at e2; omega)]; omega)))   -- leaf 1
    · refine hF _ _ ?_
      conv => cbv
      exact hQ (.int .i64 n) (Eq.trans (by first | rfl | (simp only [lb, lbI, rows_cons, rows_nil, unnilT, unnil, unnilTI, unnilI]; done) | (simp only [lb, lbI, rows_cons, rows_nil, unnilT, unnil, unnilTI, unnilI]; rfl)) (congrArg (PV.int .i64) (show n = driftI l from_ sign from by rw [driftI, q, driftN_stop _ (fun e => by have e1 := e.1; omega)]; omega)))   -- leaf 2

theorem LongestDrift_ok (l : List Int)  : OkA Try.prog 30 [.isl 1 (rows cInt l)] (· = iib (ldA l)) :=
  fn_intro envOk fieldsOk mixed Try.func30 rfl fun κ X Y L Q m hQ => by
    conv => cbv
    refine r_callB m.sX (IsTrial_ok l) (fun h1 => ?_) (fun h1 => ?_) <;> conv => cbv
    · have ok := trialB_spec h1
      have ll := ok.len
      refine r_lenR m.sX fun n1 hn1 mn1 => ?_
      conv => cbv
      refine r_loopF (α := Int × Int × Int) m 32 [0, 5, 6, 13, 14] [] (fun σ => [(0, .isl 1 (rows cInt l)), (5, .int .i64 σ.1), (6, .int .i64 σ.2.1), (13, .int .i64 n1), (14, .int .i64 σ.2.2)]) (fun σ => [])
        (fun σ => (0 ≤ σ.2.2) ∧ (σ.2.2 ≤ n1) ∧ (ldG l l.length 0 (0, 0) = ldG l (n1 - σ.2.2).toNat σ.2.2 (σ.1, σ.2.1))) (fun σ => (n1 - σ.2.2).toNat) (0, 0, 0) ?_ ?_ ?_ ?_
      · cbv
      · cbv
      · exact ⟨(by (try dsimp only); first | omega | (simp only [List.length_nil]; omega)), (by (try dsimp only); first | omega | (simp only [List.length_nil]; omega)), (by (try dsimp only) <;> (rw [show (n1 - 0).toNat = l.length by omega]))⟩
      rintro ⟨best, most, i1⟩ ⟨lo1, hi1, q⟩ E hE F hF
      dsimp only at lo1 hi1 q
      conv => cbv
      refine r_lss m.sX (fun h2 => ?_) (fun h2 => ?_) <;> conv => cbv
      · refine r_callF (PV.int .i64) m.sX (drift_ok l i1 1 (by first | rfl | assumption | omega | (simp only [List.length_append, List.length_cons, List.length_nil] at *; omega)) (by first | rfl | assumption | omega | (simp only [List.length_append, List.length_cons, List.length_nil] at *; omega)) (by first | rfl | assumption | omega | (simp only [List.length_append, List.length_cons, List.length_nil] at *; omega))) fun r1 hr1 => ?_
        conv => cbv
        refine r_callF (PV.int .i64) m.sX (drift_ok l i1 (-1) (by first | rfl | assumption | omega | (simp only [List.length_append, List.length_cons, List.length_nil] at *; omega)) (by first | rfl | assumption | omega | (simp only [List.length_append, List.length_cons, List.length_nil] at *; omega)) (by first | rfl | assumption | omega | (simp only [List.length_append, List.length_cons, List.length_nil] at *; omega))) fun r2 hr2 => ?_
        conv => cbv
        refine r_max m.sX fun n hn => ?_
        conv => cbv
        have nl : longI l i1 = n := by rw [longI, ← hr1, ← hr2, hn]
        refine r_gtr m.sX (fun h3 => ?_) (fun h3 => ?_) <;> conv => cbv
        · refine r_addf m.sX (by omega) (by omega) fun r3 hr3 => ?_
          conv => cbv
          try have tr3 : Int.toNat r3 = Int.toNat i1 + 1 := by omega
          refine hE _ (i1, n, r3) ?_ ?_ ⟨(by (try dsimp only); first | omega | (simp only [List.length_nil]; omega)), (by (try dsimp only); first | omega | (simp only [List.length_nil]; omega)), (by (try dsimp only) <;> (first | rw [q, show (n1 - i1).toNat = (n1 - r3).toNat + 1 by omega, ldG_step (p := (i1, n)) (by rw [ldS, nl, if_pos (show most < n by omega)]), ← hr3] | rw [q, show (n1 - i1).toNat = (n1 - r3).toNat + 1 by omega, ldG_step (p := (best, most)) (by rw [ldS, nl, if_neg (show ¬ most < n by omega)]), ← hr3]))⟩ (by first | omega | (dsimp only; omega))
          · cbv
          · cbv
        · refine r_addf m.sX (by omega) (by omega) fun r4 hr4 => ?_
          conv => cbv
          try have tr4 : Int.toNat r4 = Int.toNat i1 + 1 := by omega
          refine hE _ (best, most, r4) ?_ ?_ ⟨(by (try dsimp only); first | omega | (simp only [List.length_nil]; omega)), (by (try dsimp only); first | omega | (simp only [List.length_nil]; omega)), (by (try dsimp only) <;> (first | rw [q, show (n1 - i1).toNat = (n1 - r4).toNat + 1 by omega, ldG_step (p := (i1, n)) (by rw [ldS, nl, if_pos (show most < n by omega)]), ← hr4] | rw [q, show (n1 - i1).toNat = (n1 - r4).toNat + 1 by omega, ldG_step (p := (best, most)) (by rw [ldS, nl, if_neg (show ¬ most < n by omega)]), ← hr4]))⟩ (by first | omega | (dsimp only; omega))
          · cbv
          · cbv
      · have dz_i1 := drop_end (xs := l) (i := Int.toNat i1) (by omega)
        have tz_i1 := take_end (xs := l) (i := Int.toNat i1) (by omega)
        refine hF _ _ ?_
        conv => cbv
        exact hQ (.tup [.int .i64 best, .int .i64 most, .bool true]) (Eq.trans (by first | rfl | (simp only [lb, lbI, rows_cons, rows_nil, unnilT, unnil, unnilTI, unnilI]; done) | (simp only [lb, lbI, rows_cons, rows_nil, unnilT, unnil, unnilTI, unnilI]; rfl)) (congrArg (iib) (show (best, most, true) = ldA l from by rw [ldA, if_pos h1, q, show (n1 - i1).toNat = 0 by omega, ldG])))   -- leaf 1
    · exact hQ (.tup [.int .i64 0, .int .i64 0, .bool false]) (Eq.trans (by first | rfl | (simp only [lb, lbI, rows_cons, rows_nil, unnilT, unnil, unnilTI, unnilI]; done) | (simp only [lb, lbI, rows_cons, rows_nil, unnilT, unnil, unnilTI, unnilI]; rfl)) (congrArg (iib) (show (0, 0, false) = ldA l from by rw [ldA, h1]; rfl)))   -- leaf 2

theorem CorrectionFor_ok (l : List Int)  : OkA Try.prog 32 [.isl 1 (rows cInt l)] (· = ib (corrA l)) :=
  fn_intro envOk fieldsOk mixed Try.func32 rfl fun κ X Y L Q m hQ => by
    conv => cbv
    refine r_callB m.sX (IsTrial_ok l) (fun h1 => ?_) (fun h1 => ?_) <;> conv => cbv
    · have ok := trialB_spec h1
      have ll := ok.len
      refine r_callF (fun l => PV.fr _ _ (rows _ l)) m.sX (sorted_ok l (by intro e_; rw [e_] at ll; simp at ll) (by omega)) fun s_ hs_ => ?_
      conv => cbv
      have sl := sortI_len l
      rw [← hs_] at sl
      refine r_draw m (by kernel_rfl) ?_
      conv => cbv
      refine r_lenRS m.sY (by omega) fun n1 hn1 => ?_
      conv => cbv
      first | refine r_divf m.sY (by omega) (by omega) fun r1 hr1 br1 => ?_ | refine r_tdivf m.sY (by omega) (by omega) fun r1 hr1 br1 => ?_
      conv => cbv
      refine r_oindex m.sY (by omega) (by omega) ?_
      conv => cbv
      obtain ⟨x1, hx1⟩ := get_ex (xs := s_) (i := Int.toNat r1) (by omega)
      have mx1 := get_mem hx1
      have vx1 := nth_some hx1
      have x1b := nth_sort_bound ok.bound (j := r1.toNat) (by omega)
      rw [← hs_, nth_some hx1] at x1b
      refine r_oload m.sY hx1 (Nat.le_of_ble_eq_true rfl) ?_
      conv => cbv
      refine r_neg m.sY fun r2 hr2 => ?_   -- r2 = wrap (-x1)
      conv => cbv
      refine r_lenRS m.sY (by omega) fun n2 hn2 => ?_
      conv => cbv
      refine r_subf m.sY (by omega) (by omega) fun r3 hr3 => ?_
      conv => cbv
      first | refine r_divf m.sY (by omega) (by omega) fun r4 hr4 br4 => ?_ | refine r_tdivf m.sY (by omega) (by omega) fun r4 hr4 br4 => ?_
      conv => cbv
      refine r_oindex m.sY (by omega) (by omega) ?_
      conv => cbv
      obtain ⟨x2, hx2⟩ := get_ex (xs := s_) (i := Int.toNat r4) (by omega)
      have mx2 := get_mem hx2
      have vx2 := nth_some hx2
      have x2b := nth_sort_bound ok.bound (j := r4.toNat) (by omega)
      rw [← hs_, nth_some hx2] at x2b
      refine r_oload m.sY hx2 (Nat.le_of_ble_eq_true rfl) ?_
      conv => cbv
      refine r_neg m.sY fun r5 hr5 => ?_   -- r5 = wrap (-x2)
      conv => cbv
      refine r_max m.sX fun r6 hr6 => ?_
      conv => cbv
      refine r_min m.sX fun r7 hr7 => ?_
      conv => cbv
      exact hQ (.tup [.int .i64 r7, .bool true]) (Eq.trans (by first | rfl | (simp only [lb, lbI, rows_cons, rows_nil, unnilT, unnil, unnilTI, unnilI]; done) | (simp only [lb, lbI, rows_cons, rows_nil, unnilT, unnil, unnilTI, unnilI]; rfl)) (congrArg (ib) (show (r7, true) = corrA l from by rw [corrA, if_pos h1, corrI, ← hs_, show (l.length - 1) / 2 = r4.toNat by omega, show l.length / 2 = r1.toNat by omega, nth_some hx1, nth_some hx2, hr7, hr6, hr5, hr2, wrap64 (by omega) (by omega), wrap64 (by omega) (by omega)])))   -- leaf 1
    · exact hQ (.tup [.int .i64 0, .bool false]) (Eq.trans (by first | rfl | (simp only [lb, lbI, rows_cons, rows_nil, unnilT, unnil, unnilTI, unnilI]; done) | (simp only [lb, lbI, rows_cons, rows_nil, unnilT, unnil, unnilTI, unnilI]; rfl)) (congrArg (ib) (show (0, false) = corrA l from by rw [corrA, h1]; rfl)))   -- leaf 2

theorem sums_ok (l : List Int) (aim : Int) (ht : TrialOk l) (ha : -500 ≤ aim ∧ aim ≤ 500) : OkA Try.prog 115 [.isl 1 (rows cInt l), .int .i64 aim] (· = .fr 3 1 (rows cInt (smsI l aim))) :=
  OkA.unnil 3 1 (fn_intro envOk fieldsOk mixed Try.func115 rfl fun κ X Y L Q m hQ => by
    have ll := ht.len
    conv => cbv
    refine r_lenR m.sX fun n1 hn1 mn1 => ?_
    conv => cbv
    refine r_loopF (α := List Int × Int × Int) m 27 [1, 6, 10, 11, 12] [⟨5, 41, 3, 1, 0⟩] (fun σ => [(1, .int .i64 aim), (5, .osl 41 0), (6, .int .i64 σ.2.1), (10, .isl 1 (rows cInt l)), (11, .int .i64 n1), (12, .int .i64 σ.2.2)]) (fun σ => [(41, 0, .row 3 1 (rows cInt σ.1))])
      (fun σ => (0 ≤ σ.2.2) ∧ (σ.2.2 ≤ n1) ∧ (σ.1 = (List.range σ.2.2.toNat).map (smAt l aim)) ∧ (σ.2.1 = (l.take σ.2.2.toNat).sum - aim * σ.2.2) ∧ (-40000 ≤ σ.2.1 ∧ σ.2.1 ≤ 40000) ∧ ((σ.1.length : Int) = σ.2.2)) (fun σ => (n1 - σ.2.2).toNat) ([], 0, 0) ?_ ?_ ?_ ?_
    · cbv
    · (try dsimp only); simp only [rows_cons, rows_nil]; cbv
    · exact ⟨(by (try dsimp only); first | omega | (simp only [List.length_nil]; omega)), (by (try dsimp only); first | omega | (simp only [List.length_nil]; omega)), (by (try dsimp only) <;> (rfl)), (by (try dsimp only) <;> (simp)), (by (try dsimp only) <;> first | omega | rfl | (simp [*]; done)), (by (try dsimp only) <;> first | omega | rfl | (simp [*]; done))⟩
    rintro ⟨list, n, i1⟩ ⟨lo1, hi1, q, s, nb, ln⟩ E hE F hF
    dsimp only at lo1 hi1 q s nb ln
    conv => cbv
    refine r_lss m.sX (fun h1 => ?_) (fun h1 => ?_) <;> conv => cbv
    · refine r_index m.sX (by omega) (by omega) fun x hx => ?_
      conv => cbv
      have mx := get_mem hx
      have dx := drop_cons hx
      have kx := take_snoc hx
      have jx : (i1 + 1).toNat = Int.toNat i1 + 1 := by omega
      have vx := nth_some hx
      have bx := ht.bound _ mx
      have sb3 := sm_at_bound ht ha (i := i1.toNat) (by omega)
      have sn := sm_next (aim := aim) hx
      rw [show ((i1.toNat : Nat) : Int) = i1 by omega, ← s] at sn
      refine r_subf m.sX (by omega) (by omega) fun r1 hr1 => ?_
      conv => cbv
      refine r_addf m.sX (by omega) (by omega) fun n_2 hn_2 => ?_
      conv => cbv
      have ne : n_2 = smAt l aim i1.toNat := by rw [sn, hn_2, hr1]
      refine r_append1 (n_2) m.sX rfl (by first | omega | (dsimp only; omega)) (by first | omega | (dsimp only; omega)) fun list_2 hlist_2 => ?_
      conv => cbv
      have llist_2 : (list_2.length : Int) = list.length + 1 := by rw [hlist_2]; first | done | (simp; done) | (simp; omega)
      refine r_addf m.sX (by omega) (by omega) fun r2 hr2 => ?_
      conv => cbv
      try have tr2 : Int.toNat r2 = Int.toNat i1 + 1 := by omega
      refine hE _ (list_2, n_2, r2) ?_ ?_ ⟨(by (try dsimp only); first | omega | (simp only [List.length_nil]; omega)), (by (try dsimp only); first | omega | (simp only [List.length_nil]; omega)), (by (try dsimp only) <;> (rw [hlist_2, q, tr2, ne, List.range_succ, List.map_append]; rfl)), (by (try dsimp only) <;> (rw [hn_2, hr1, s, tr2, sum_take hx, hr2, Int.mul_add]; omega)), (by (try dsimp only) <;> (rw [ne]; exact sb3)), (by (try dsimp only) <;> (omega))⟩ (by first | omega | (dsimp only; omega))
      · cbv
      · cbv
    · have dz_i1 := drop_end (xs := l) (i := Int.toNat i1) (by omega)
      have tz_i1 := take_end (xs := l) (i := Int.toNat i1) (by omega)
      refine hF _ _ ?_
      conv => cbv
      exact hQ (.fr 3 1 (rows cInt list)) (Eq.trans (by first | rfl | (simp only [lb, lbI, rows_cons, rows_nil, unnilT, unnil, unnilTI, unnilI]; done) | (simp only [lb, lbI, rows_cons, rows_nil, unnilT, unnil, unnilTI, unnilI]; rfl)) (congrArg (fun l => PV.fr 3 1 (rows cInt l)) (show list = smsI l aim from by rw [smsI, q, show l.length = i1.toNat by omega]))))   -- leaf 1

theorem FirstAlarm_ok (l : List Int) (aim : Int) (limit : Int)  : OkA Try.prog 35 [.isl 1 (rows cInt l), .int .i64 aim, .int .i64 limit] (· = ib (alA l aim limit)) :=
  fn_intro envOk fieldsOk mixed Try.func35 rfl fun κ X Y L Q m hQ => by
    conv => cbv
    refine r_callB m.sX (IsTrial_ok l) (fun h1 => ?_) (fun h1 => ?_) <;> conv => cbv
    · have ok := trialB_spec h1
      have ll := ok.len
      refine r_callB m.sX (isOff_ok aim) (fun h2 => ?_) (fun h2 => ?_) <;> conv => cbv
      · have ab := inB_spec h2
        refine r_callB m.sX (within_ok limit 0 20000) (fun h3 => ?_) (fun h3 => ?_) <;> conv => cbv
        · refine r_callF (fun l => PV.fr _ _ (rows _ l)) m.sX (sums_ok l aim (by first | rfl | assumption | omega | (simp only [List.length_append, List.length_cons, List.length_nil] at *; omega)) (by first | rfl | assumption | omega | (simp only [List.length_append, List.length_cons, List.length_nil] at *; omega))) fun v1 hv1 => ?_
          conv => cbv
          have vl := sms_len l aim
          rw [← hv1] at vl
          refine r_lenR m.sX fun n1 hn1 mn1 => ?_
          conv => cbv
          refine r_loopF (α := Int) m 38 [2, 26, 27] [⟨25, 201, 3, 1, 0⟩] (fun σ => [(2, .int .i64 limit), (25, .osl 201 0), (26, .int .i64 n1), (27, .int .i64 σ)]) (fun σ => [(201, 0, .row 3 1 (rows cInt v1))])
            (fun σ => (0 ≤ σ) ∧ (σ ≤ n1) ∧ (alG limit v1 0 = alG limit (v1.drop σ.toNat) σ)) (fun σ => (n1 - σ).toNat) 0 ?_ ?_ ?_ ?_
          · cbv
          · cbv
          · exact ⟨(by (try dsimp only); first | omega | (simp only [List.length_nil]; omega)), (by (try dsimp only); first | omega | (simp only [List.length_nil]; omega)), (by (try dsimp only) <;> (rfl))⟩
          rintro i1 ⟨lo1, hi1, q⟩ E hE F hF
          conv => cbv
          refine r_lss m.sX (fun h4 => ?_) (fun h4 => ?_) <;> conv => cbv
          · refine r_oindex m.sX (by omega) (by omega) ?_
            conv => cbv
            obtain ⟨n, hn⟩ := get_ex (xs := v1) (i := Int.toNat i1) (by omega)
            have mn := get_mem hn
            have dn := drop_cons hn
            have kn := take_snoc hn
            have jn : (i1 + 1).toNat = Int.toNat i1 + 1 := by omega
            have vn := nth_some hn
            have nb := sms_bound ok ab n (by rw [← hv1]; exact mn)
            refine r_oload m.sX hn (Nat.le_of_ble_eq_true rfl) ?_
            conv => cbv
            refine r_callF (PV.int .i64) m.sX (abs_ok n (by first | rfl | assumption | omega | (simp only [List.length_append, List.length_cons, List.length_nil] at *; omega))) fun r1 hr1 => ?_
            conv => cbv
            refine r_gtr m.sX (fun h5 => ?_) (fun h5 => ?_) <;> conv => cbv
            · refine hF _ _ ?_
              conv => cbv
              exact hQ (.tup [.int .i64 i1, .bool true]) (Eq.trans (by first | rfl | (simp only [lb, lbI, rows_cons, rows_nil, unnilT, unnil, unnilTI, unnilI]; done) | (simp only [lb, lbI, rows_cons, rows_nil, unnilT, unnil, unnilTI, unnilI]; rfl)) (congrArg (ib) (show (i1, true) = alA l aim limit from by rw [alA, if_pos (by rw [h1, h2, h3]; rfl), ← hv1, q, alG_drop _ hn, if_pos (by omega)])))   -- leaf 1
            · refine r_addf m.sX (by omega) (by omega) fun r2 hr2 => ?_
              conv => cbv
              try have tr2 : Int.toNat r2 = Int.toNat i1 + 1 := by omega
              refine hE _ r2 ?_ ?_ ⟨(by (try dsimp only); first | omega | (simp only [List.length_nil]; omega)), (by (try dsimp only); first | omega | (simp only [List.length_nil]; omega)), (by (try dsimp only) <;> (rw [q, alG_drop _ hn, if_neg (by omega), tr2, ← hr2]))⟩ (by first | omega | (dsimp only; omega))
              · cbv
              · cbv
          · have dz_i1 := drop_end (xs := v1) (i := Int.toNat i1) (by omega)
            have tz_i1 := take_end (xs := v1) (i := Int.toNat i1) (by omega)
            refine hF _ _ ?_
            conv => cbv
            exact hQ (.tup [.int .i64 0, .bool false]) (Eq.trans (by first | rfl | (simp only [lb, lbI, rows_cons, rows_nil, unnilT, unnil, unnilTI, unnilI]; done) | (simp only [lb, lbI, rows_cons, rows_nil, unnilT, unnil, unnilTI, unnilI]; rfl)) (congrArg (ib) (show (0, false) = alA l aim limit from by rw [alA, if_pos (by rw [h1, h2, h3]; rfl), ← hv1, q, alG_end _ (by omega)])))   -- leaf 2
        · exact hQ (.tup [.int .i64 0, .bool false]) (Eq.trans (by first | rfl | (simp only [lb, lbI, rows_cons, rows_nil, unnilT, unnil, unnilTI, unnilI]; done) | (simp only [lb, lbI, rows_cons, rows_nil, unnilT, unnil, unnilTI, unnilI]; rfl)) (congrArg (ib) (show (0, false) = alA l aim limit from by rw [alA, h1, h2, h3]; rfl)))   -- leaf 3
      · exact hQ (.tup [.int .i64 0, .bool false]) (Eq.trans (by first | rfl | (simp only [lb, lbI, rows_cons, rows_nil, unnilT, unnil, unnilTI, unnilI]; done) | (simp only [lb, lbI, rows_cons, rows_nil, unnilT, unnil, unnilTI, unnilI]; rfl)) (congrArg (ib) (show (0, false) = alA l aim limit from by rw [alA, h1, h2]; rfl)))   -- leaf 4
    · exact hQ (.tup [.int .i64 0, .bool false]) (Eq.trans (by first | rfl | (simp only [lb, lbI, rows_cons, rows_nil, unnilT, unnil, unnilTI, unnilI]; done) | (simp only [lb, lbI, rows_cons, rows_nil, unnilT, unnil, unnilTI, unnilI]; rfl)) (congrArg (ib) (show (0, false) = alA l aim limit from by rw [alA, h1]; rfl)))   -- leaf 5

theorem SumsOff_ok (l : List Int) (aim : Int)  : OkA Try.prog 37 [.isl 1 (rows cInt l), .int .i64 aim] (· = (lb 3 1 cInt) (smsA l aim)) :=
  OkA.unnil 3 1 (fn_intro envOk fieldsOk mixed Try.func37 rfl fun κ X Y L Q m hQ => by
    conv => cbv
    refine r_callB m.sX (IsTrial_ok l) (fun h1 => ?_) (fun h1 => ?_) <;> conv => cbv
    · have ok := trialB_spec h1
      have ll := ok.len
      refine r_callB m.sX (isOff_ok aim) (fun h2 => ?_) (fun h2 => ?_) <;> conv => cbv
      · have ab := inB_spec h2
        refine r_callF (fun l => PV.fr _ _ (rows _ l)) m.sX (sums_ok l aim (by first | rfl | assumption | omega | (simp only [List.length_append, List.length_cons, List.length_nil] at *; omega)) (by first | rfl | assumption | omega | (simp only [List.length_append, List.length_cons, List.length_nil] at *; omega))) fun v1 hv1 => ?_
        conv => cbv
        exact hQ (.tup [.fr 3 1 (rows cInt v1), .bool true]) (Eq.trans (by first | rfl | (simp only [lb, lbI, rows_cons, rows_nil, unnilT, unnil, unnilTI, unnilI]; done) | (simp only [lb, lbI, rows_cons, rows_nil, unnilT, unnil, unnilTI, unnilI]; rfl)) (congrArg ((lb 3 1 cInt)) (show (v1, true) = smsA l aim from by rw [smsA, h1, h2, hv1]; rfl)))   -- leaf 1
      · exact hQ (.tup [.fr 3 1 [], .bool false]) (Eq.trans (by first | rfl | (simp only [lb, lbI, rows_cons, rows_nil, unnilT, unnil, unnilTI, unnilI]; done) | (simp only [lb, lbI, rows_cons, rows_nil, unnilT, unnil, unnilTI, unnilI]; rfl)) (congrArg ((lb 3 1 cInt)) (show ([], false) = smsA l aim from by rw [smsA, h1, h2]; rfl)))   -- leaf 2
    · exact hQ (.tup [.fr 3 1 [], .bool false]) (Eq.trans (by first | rfl | (simp only [lb, lbI, rows_cons, rows_nil, unnilT, unnil, unnilTI, unnilI]; done) | (simp only [lb, lbI, rows_cons, rows_nil, unnilT, unnil, unnilTI, unnilI]; rfl)) (congrArg ((lb 3 1 cInt)) (show ([], false) = smsA l aim from by rw [smsA, h1]; rfl))))   -- leaf 3

theorem JoinTrials_ok (a : List Int) (b : List Int)  : OkA Try.prog 40 [.isl 1 (rows cInt a), .isl 1 (rows cInt b)] (· = (lb 3 1 cInt) (joinT a b)) :=
  OkA.unnil 3 1 (fn_intro envOk fieldsOk mixed Try.func40 rfl fun κ X Y L Q m hQ => by
    conv => cbv
    refine r_callB m.sX (IsTrial_ok a) (fun h1 => ?_) (fun h1 => ?_) <;> conv => cbv
    · have l1 := (trialB_spec h1).len
      refine r_callB m.sX (IsTrial_ok b) (fun h2 => ?_) (fun h2 => ?_) <;> conv => cbv
      · have l2 := (trialB_spec h2).len
        refine r_lenR m.sX fun n1 hn1 mn1 => ?_
        conv => cbv
        refine r_lenR m.sX fun n2 hn2 mn2 => ?_
        conv => cbv
        refine r_addf m.sX (by omega) (by omega) fun r1 hr1 => ?_
        conv => cbv
        refine r_gtr m.sX (fun h3 => ?_) (fun h3 => ?_) <;> conv => cbv
        · exact hQ (.tup [.fr 3 1 [], .bool false]) (Eq.trans (by first | rfl | (simp only [lb, lbI, rows_cons, rows_nil, unnilT, unnil, unnilTI, unnilI]; done) | (simp only [lb, lbI, rows_cons, rows_nil, unnilT, unnil, unnilTI, unnilI]; rfl)) (congrArg ((lb 3 1 cInt)) (show ([], false) = joinT a b from by rw [joinT, h1, h2, decide_eq_false (by omega)]; rfl)))   -- leaf 1
        · refine r_append0R m.sX (by first | omega | (dsimp only; omega)) (by first | omega | (dsimp only; omega)) fun zs1 hzs1 => ?_
          conv => cbv
          have lzs1 : (zs1.length : Int) = a.length := by rw [hzs1]; first | done | (simp; done) | (simp; omega)
          refine r_append m.sX (by first | omega | (dsimp only; omega)) (by first | omega | (dsimp only; omega)) fun zs2 hzs2 => ?_
          conv => cbv
          have lzs2 : (zs2.length : Int) = zs1.length + b.length := by rw [hzs2]; first | done | (simp; done) | (simp; omega)
          exact hQ (.tup [.fr 3 1 (rows cInt zs2), .bool true]) (Eq.trans (by first | rfl | (simp only [lb, lbI, rows_cons, rows_nil, unnilT, unnil, unnilTI, unnilI]; done) | (simp only [lb, lbI, rows_cons, rows_nil, unnilT, unnil, unnilTI, unnilI]; rfl)) (congrArg ((lb 3 1 cInt)) (show (zs2, true) = joinT a b from by rw [joinT, if_pos (by rw [h1, h2, decide_eq_true (by omega)]; rfl), hzs2, hzs1])))   -- leaf 2
      · exact hQ (.tup [.fr 3 1 [], .bool false]) (Eq.trans (by first | rfl | (simp only [lb, lbI, rows_cons, rows_nil, unnilT, unnil, unnilTI, unnilI]; done) | (simp only [lb, lbI, rows_cons, rows_nil, unnilT, unnil, unnilTI, unnilI]; rfl)) (congrArg ((lb 3 1 cInt)) (show ([], false) = joinT a b from by rw [joinT, h1, h2]; rfl)))   -- leaf 3
    · exact hQ (.tup [.fr 3 1 [], .bool false]) (Eq.trans (by first | rfl | (simp only [lb, lbI, rows_cons, rows_nil, unnilT, unnil, unnilTI, unnilI]; done) | (simp only [lb, lbI, rows_cons, rows_nil, unnilT, unnil, unnilTI, unnilI]; rfl)) (congrArg ((lb 3 1 cInt)) (show ([], false) = joinT a b from by rw [joinT, h1]; rfl))))   -- leaf 4

theorem l1Sign_ok (n : Int)  : OkA Try.prog 113 [.int .i64 n] (· = .int .i64 (sgnI n)) :=
  fn_intro envOk fieldsOk mixed Try.func113 rfl fun κ X Y L Q m hQ => by
    conv => cbv
    refine r_gtr m.sX (fun h1 => ?_) (fun h1 => ?_) <;> conv => cbv
    · exact hQ (.int .i64 1) (Eq.trans (by first | rfl | (simp only [lb, lbI, rows_cons, rows_nil, unnilT, unnil, unnilTI, unnilI]; done) | (simp only [lb, lbI, rows_cons, rows_nil, unnilT, unnil, unnilTI, unnilI]; rfl)) (congrArg (PV.int .i64) (show 1 = sgnI n from by rw [sgnI, if_pos (by omega)])))   -- leaf 1
    · refine r_lss m.sX (fun h2 => ?_) (fun h2 => ?_) <;> conv => cbv
      · exact hQ (.int .i64 (-1)) (Eq.trans (by first | rfl | (simp only [lb, lbI, rows_cons, rows_nil, unnilT, unnil, unnilTI, unnilI]; done) | (simp only [lb, lbI, rows_cons, rows_nil, unnilT, unnil, unnilTI, unnilI]; rfl)) (congrArg (PV.int .i64) (show -1 = sgnI n from by rw [sgnI, if_neg (by omega), if_pos (by omega)])))   -- leaf 2
      · exact hQ (.int .i64 0) (Eq.trans (by first | rfl | (simp only [lb, lbI, rows_cons, rows_nil, unnilT, unnil, unnilTI, unnilI]; done) | (simp only [lb, lbI, rows_cons, rows_nil, unnilT, unnil, unnilTI, unnilI]; rfl)) (congrArg (PV.int .i64) (show 0 = sgnI n from by rw [sgnI, if_neg (by omega), if_neg (by omega)])))   -- leaf 3

theorem specLongestDrift_ok (l : List Int)  : OkA Try.prog 31 [.isl 1 (rows cInt l)] (· = iib (ldA l)) :=
  fn_intro envOk fieldsOk mixed Try.func31 rfl fun κ X Y L Q m hQ => by
    conv => cbv
    refine r_callB m.sX (gaGood_ok l) (fun h1 => ?_) (fun h1 => ?_) <;> conv => cbv
    · have ok := trialB_spec h1
      have ll := ok.len
      refine r_lenR m.sX fun n1 hn1 mn1 => ?_
      conv => cbv
      refine r_loopF (α := Int × Int × Int) m 68 [0, 5, 6, 14, 15] [] (fun σ => [(0, .isl 1 (rows cInt l)), (5, .int .i64 σ.1), (6, .int .i64 σ.2.1), (14, .int .i64 n1), (15, .int .i64 σ.2.2)]) (fun σ => [])
        (fun σ => (0 ≤ σ.2.2) ∧ (σ.2.2 ≤ n1) ∧ (ldG l l.length 0 (0, 1) = ldG l (n1 - σ.2.2).toNat σ.2.2 (σ.1, σ.2.1)) ∧ (1 ≤ σ.2.1)) (fun σ => (n1 - σ.2.2).toNat) (0, 1, 0) ?_ ?_ ?_ ?_
      · cbv
      · cbv
      · exact ⟨(by (try dsimp only); first | omega | (simp only [List.length_nil]; omega)), (by (try dsimp only); first | omega | (simp only [List.length_nil]; omega)), (by (try dsimp only) <;> (rw [show (n1 - 0).toNat = l.length by omega])), (by (try dsimp only) <;> first | omega | rfl | (simp [*]; done))⟩
      rintro ⟨best, most, i1⟩ ⟨lo1, hi1, q, mb⟩ E hE F hF
      dsimp only at lo1 hi1 q mb
      conv => cbv
      refine r_lss m.sX (fun h2 => ?_) (fun h2 => ?_) <;> conv => cbv
      · refine r_addf m.sX (by omega) (by omega) fun k hk => ?_
        conv => cbv
        refine r_loopF (α := Int × Int × Int) m 68 [0, 5, 6, 7, 8, 14, 15] [] (fun σ => [(0, .isl 1 (rows cInt l)), (5, .int .i64 σ.1), (6, .int .i64 σ.2.1), (7, .int .i64 i1), (8, .int .i64 σ.2.2), (14, .int .i64 n1), (15, .int .i64 i1)]) (fun σ => [])
          (fun σ => (i1 + 1 ≤ σ.2.2 ∧ σ.2.2 ≤ n1) ∧ (SameWay l i1.toNat σ.2.2.toNat) ∧ ((σ.1, σ.2.1) = if most < σ.2.2 - i1 then (i1, σ.2.2 - i1) else (best, most))) (fun σ => (n1 - σ.2.2).toNat) (best, most, k) ?_ ?_ ?_ ?_
        · cbv
        · cbv
        · exact ⟨(by (try dsimp only) <;> (omega)), (by (try dsimp only) <;> (intro j a b; omega)), (by (try dsimp only) <;> (rw [if_neg (by omega)]))⟩
        rintro ⟨best_2, most_2, k_2⟩ ⟨kb, sm, st⟩ E2 hE2 F2 hF2
        dsimp only at kb sm st
        conv => cbv
        refine r_lenR m.sX fun n2 hn2 mn2 => ?_
        conv => cbv
        refine r_lss m.sX (fun h3 => ?_) (fun h3 => ?_) <;> conv => cbv
        · refine r_draw m (by kernel_rfl) ?_
          conv => cbv
          refine r_addf m.sY (by omega) (by omega) fun r1 hr1 => ?_
          conv => cbv
          refine r_index m.sY (by omega) (by omega) fun x1 hx1 => ?_
          conv => cbv
          have mx1 := get_mem hx1
          have vx1 := nth_some hx1
          have bx1 := ok.bound _ mx1
          refine r_index m.sY (by omega) (by omega) fun x2 hx2 => ?_
          conv => cbv
          have mx2 := get_mem hx2
          have dx2 := drop_cons hx2
          have kx2 := take_snoc hx2
          have jx2 : (i1 + 1).toNat = Int.toNat i1 + 1 := by omega
          have vx2 := nth_some hx2
          have bx2 := ok.bound _ mx2
          refine r_subf m.sY (by omega) (by omega) fun r2 hr2 => ?_
          conv => cbv
          refine r_callFS (PV.int .i64) m.sY (l1Sign_ok r2) trivial fun sign hsign => ?_
          conv => cbv
          have ds : sign = sgnI (dif l (i1.toNat + 1)) := by rw [hsign, dif, show i1.toNat + 1 = r1.toNat by omega, nth_some hx1, show r1.toNat - 1 = i1.toNat by omega, nth_some hx2, hr2]
          refine r_draw m (by kernel_rfl) ?_
          conv => cbv
          refine r_eql m.sY (fun h4 => ?_) (fun h4 => ?_) <;> conv => cbv
          · have lg : longI l i1 = k_2 - i1 := by have z := same_long (i := i1.toNat) (k := k_2.toNat) sm (by omega) (by omega) (fun _ => .inl (by rw [← ds]; exact h4)); rw [show ((i1.toNat : Nat) : Int) = i1 by omega] at z; omega
            refine hF2 _ _ ?_
            conv => cbv
            refine r_addf m.sX (by omega) (by omega) fun r3 hr3 => ?_
            conv => cbv
            try have tr3 : Int.toNat r3 = Int.toNat i1 + 1 := by omega
            refine hE _ (best_2, most_2, r3) ?_ ?_ ⟨(by (try dsimp only); first | omega | (simp only [List.length_nil]; omega)), (by (try dsimp only); first | omega | (simp only [List.length_nil]; omega)), (by (try dsimp only) <;> (rw [q, show (n1 - i1).toNat = (n1 - r3).toNat + 1 by omega, ldG_step (p := (best_2, most_2)) (by rw [ldS, lg]; exact st), ← hr3])), (by (try dsimp only) <;> (split at st <;> (have e2 := (Prod.mk.inj st).2; omega)))⟩ (by first | omega | (dsimp only; omega))
            · cbv
            · cbv
          · refine r_index m.sY (by omega) (by omega) fun x3 hx3 => ?_
            conv => cbv
            have mx3 := get_mem hx3
            have vx3 := nth_some hx3
            have bx3 := ok.bound _ mx3
            refine r_subf m.sY (by omega) (by omega) fun r4 hr4 => ?_
            conv => cbv
            refine r_index m.sY (by omega) (by omega) fun x4 hx4 => ?_
            conv => cbv
            have mx4 := get_mem hx4
            have vx4 := nth_some hx4
            have bx4 := ok.bound _ mx4
            refine r_subf m.sY (by omega) (by omega) fun r5 hr5 => ?_
            conv => cbv
            refine r_callFS (PV.int .i64) m.sY (l1Sign_ok r5) trivial fun r6 hr6 => ?_
            conv => cbv
            have dk : r6 = sgnI (dif l k_2.toNat) := by rw [hr6, dif, nth_some hx3, show k_2.toNat - 1 = r4.toNat by omega, nth_some hx4, hr5]
            refine r_neq m.sY (fun h5 => ?_) (fun h5 => ?_) <;> conv => cbv
            · have lg : longI l i1 = k_2 - i1 := by have z := same_long (i := i1.toNat) (k := k_2.toNat) sm (by omega) (by omega) (fun _ => .inr (by rw [← ds, ← dk]; exact h5)); rw [show ((i1.toNat : Nat) : Int) = i1 by omega] at z; omega
              refine hF2 _ _ ?_
              conv => cbv
              refine r_addf m.sX (by omega) (by omega) fun r7 hr7 => ?_
              conv => cbv
              try have tr7 : Int.toNat r7 = Int.toNat i1 + 1 := by omega
              refine hE _ (best_2, most_2, r7) ?_ ?_ ⟨(by (try dsimp only); first | omega | (simp only [List.length_nil]; omega)), (by (try dsimp only); first | omega | (simp only [List.length_nil]; omega)), (by (try dsimp only) <;> (rw [q, show (n1 - i1).toNat = (n1 - r7).toNat + 1 by omega, ldG_step (p := (best_2, most_2)) (by rw [ldS, lg]; exact st), ← hr7])), (by (try dsimp only) <;> (split at st <;> (have e2 := (Prod.mk.inj st).2; omega)))⟩ (by first | omega | (dsimp only; omega))
              · cbv
              · cbv
            · refine r_subf m.sX (by omega) (by omega) fun r8 hr8 => ?_
              conv => cbv
              refine r_addf m.sX (by omega) (by omega) fun r9 hr9 => ?_
              conv => cbv
              refine r_gtr m.sX (fun h6 => ?_) (fun h6 => ?_) <;> conv => cbv
              · refine r_subf m.sX (by omega) (by omega) fun r10 hr10 => ?_
                conv => cbv
                refine r_addf m.sX (by omega) (by omega) fun most_3 hmost_3 => ?_
                conv => cbv
                refine r_addf m.sX (by omega) (by omega) fun k_3 hk_3 => ?_
                conv => cbv
                refine hE2 _ (i1, most_3, k_3) ?_ ?_ ⟨(by (try dsimp only) <;> (omega)), (by (try dsimp only) <;> (first | (rw [show k_3.toNat = k_2.toNat + 1 by omega]; exact same_next sm (by rw [← ds]; exact h4) (by rw [← dk, ← ds]; exact h5)) | (rw [show k_4.toNat = k_2.toNat + 1 by omega]; exact same_next sm (by rw [← ds]; exact h4) (by rw [← dk, ← ds]; exact h5)))), (by (try dsimp only) <;> (split at st <;> (obtain ⟨e1, e2⟩ := Prod.mk.inj st; first | (exfalso; omega) | (rw [if_pos (by omega)]; exact Prod.ext (by first | rfl | omega) (by first | rfl | (dsimp only; omega))) | (rw [if_neg (by omega)]; exact st))))⟩ (by first | omega | (dsimp only; omega))
                · cbv
                · cbv
              · refine r_addf m.sX (by omega) (by omega) fun k_4 hk_4 => ?_
                conv => cbv
                refine hE2 _ (best_2, most_2, k_4) ?_ ?_ ⟨(by (try dsimp only) <;> (omega)), (by (try dsimp only) <;> (first | (rw [show k_3.toNat = k_2.toNat + 1 by omega]; exact same_next sm (by rw [← ds]; exact h4) (by rw [← dk, ← ds]; exact h5)) | (rw [show k_4.toNat = k_2.toNat + 1 by omega]; exact same_next sm (by rw [← ds]; exact h4) (by rw [← dk, ← ds]; exact h5)))), (by (try dsimp only) <;> (split at st <;> (obtain ⟨e1, e2⟩ := Prod.mk.inj st; first | (exfalso; omega) | (rw [if_pos (by omega)]; exact Prod.ext (by first | rfl | omega) (by first | rfl | (dsimp only; omega))) | (rw [if_neg (by omega)]; exact st))))⟩ (by first | omega | (dsimp only; omega))
                · cbv
                · cbv
        · have lg : longI l i1 = k_2 - i1 := by have z := same_long (i := i1.toNat) (k := k_2.toNat) sm (by omega) (by omega) (fun e => absurd e (by omega)); rw [show ((i1.toNat : Nat) : Int) = i1 by omega] at z; omega
          refine hF2 _ _ ?_
          conv => cbv
          refine r_addf m.sX (by omega) (by omega) fun r11 hr11 => ?_
          conv => cbv
          try have tr11 : Int.toNat r11 = Int.toNat i1 + 1 := by omega
          refine hE _ (best_2, most_2, r11) ?_ ?_ ⟨(by (try dsimp only); first | omega | (simp only [List.length_nil]; omega)), (by (try dsimp only); first | omega | (simp only [List.length_nil]; omega)), (by (try dsimp only) <;> (rw [q, show (n1 - i1).toNat = (n1 - r11).toNat + 1 by omega, ldG_step (p := (best_2, most_2)) (by rw [ldS, lg]; exact st), ← hr11])), (by (try dsimp only) <;> (split at st <;> (have e2 := (Prod.mk.inj st).2; omega)))⟩ (by first | omega | (dsimp only; omega))
          · cbv
          · cbv
      · have dz_i1 := drop_end (xs := l) (i := Int.toNat i1) (by omega)
        have tz_i1 := take_end (xs := l) (i := Int.toNat i1) (by omega)
        refine hF _ _ ?_
        conv => cbv
        exact hQ (.tup [.int .i64 best, .int .i64 most, .bool true]) (Eq.trans (by first | rfl | (simp only [lb, lbI, rows_cons, rows_nil, unnilT, unnil, unnilTI, unnilI]; done) | (simp only [lb, lbI, rows_cons, rows_nil, unnilT, unnil, unnilTI, unnilI]; rfl)) (congrArg (iib) (show (best, most, true) = ldA l from by rw [ldA, if_pos h1, ← ldG_one (by omega), q, show (n1 - i1).toNat = 0 by omega, ldG])))   -- leaf 1
    · exact hQ (.tup [.int .i64 0, .int .i64 0, .bool false]) (Eq.trans (by first | rfl | (simp only [lb, lbI, rows_cons, rows_nil, unnilT, unnil, unnilTI, unnilI]; done) | (simp only [lb, lbI, rows_cons, rows_nil, unnilT, unnil, unnilTI, unnilI]; rfl)) (congrArg (iib) (show (0, 0, false) = ldA l from by rw [ldA, h1]; rfl)))   -- leaf 2

theorem specCorrectionFor_ok (l : List Int)  : OkA Try.prog 33 [.isl 1 (rows cInt l)] (· = ib (corrA l)) :=
  fn_intro envOk fieldsOk mixed Try.func33 rfl fun κ X Y L Q m hQ => by
    conv => cbv
    refine r_callB m.sX (gaGood_ok l) (fun h1 => ?_) (fun h1 => ?_) <;> conv => cbv
    · have ok := trialB_spec h1
      have ll := ok.len
      refine r_callF (fun l => PV.fr _ _ (rows _ l)) m.sX (gaSorted_ok l (by first | rfl | assumption | omega | (simp only [List.length_append, List.length_cons, List.length_nil] at *; omega))) fun sorted hsorted => ?_
      conv => cbv
      have sl := sortI_len l
      rw [← hsorted] at sl
      refine r_draw m (by kernel_rfl) ?_
      conv => cbv
      refine r_lenRS m.sY (by omega) fun n1 hn1 => ?_
      conv => cbv
      refine r_subf m.sY (by omega) (by omega) fun r1 hr1 => ?_
      conv => cbv
      first | refine r_divf m.sY (by omega) (by omega) fun r2 hr2 br2 => ?_ | refine r_tdivf m.sY (by omega) (by omega) fun r2 hr2 br2 => ?_
      conv => cbv
      refine r_oindex m.sY (by omega) (by omega) ?_
      conv => cbv
      obtain ⟨low, hlow⟩ := get_ex (xs := sorted) (i := Int.toNat r2) (by omega)
      have mlow := get_mem hlow
      have vlow := nth_some hlow
      have lb1 := nth_sort_bound ok.bound (j := r2.toNat) (by omega)
      rw [← hsorted, nth_some hlow] at lb1
      refine r_oload m.sY hlow (Nat.le_of_ble_eq_true rfl) ?_
      conv => cbv
      refine r_lenRS m.sY (by omega) fun n2 hn2 => ?_
      conv => cbv
      first | refine r_divf m.sY (by omega) (by omega) fun r3 hr3 br3 => ?_ | refine r_tdivf m.sY (by omega) (by omega) fun r3 hr3 br3 => ?_
      conv => cbv
      refine r_oindex m.sY (by omega) (by omega) ?_
      conv => cbv
      obtain ⟨high, hhigh⟩ := get_ex (xs := sorted) (i := Int.toNat r3) (by omega)
      have mhigh := get_mem hhigh
      have vhigh := nth_some hhigh
      have hb1 := nth_sort_bound ok.bound (j := r3.toNat) (by omega)
      rw [← hsorted, nth_some hhigh] at hb1
      have lm := sortI_mono (l := l) (i := r2.toNat) (j := r3.toNat) (by omega) (by omega)
      rw [← hsorted, nth_some hlow, nth_some hhigh] at lm
      have ce : corrA l = (min (-low) (max (-high) 0), true) := by rw [corrA, if_pos h1, corrI, ← hsorted, show (l.length - 1) / 2 = r2.toNat by omega, show l.length / 2 = r3.toNat by omega, nth_some hlow, nth_some hhigh]
      refine r_oload m.sY hhigh (Nat.le_of_ble_eq_true rfl) ?_
      conv => cbv
      refine r_gtr m.sX (fun h2 => ?_) (fun h2 => ?_) <;> conv => cbv
      · refine r_neg m.sX fun r4 hr4 => ?_   -- r4 = wrap (-low)
        conv => cbv
        exact hQ (.tup [.int .i64 r4, .bool true]) (Eq.trans (by first | rfl | (simp only [lb, lbI, rows_cons, rows_nil, unnilT, unnil, unnilTI, unnilI]; done) | (simp only [lb, lbI, rows_cons, rows_nil, unnilT, unnil, unnilTI, unnilI]; rfl)) (congrArg (ib) (show (r4, true) = corrA l from by rw [ce]; exact Prod.ext (by show r4 = min (-low) (max (-high) 0); rw [hr4, wrap64 (by omega) (by omega)]; omega) rfl)))   -- leaf 1
      · refine r_lss m.sX (fun h3 => ?_) (fun h3 => ?_) <;> conv => cbv
        · refine r_neg m.sX fun r5 hr5 => ?_   -- r5 = wrap (-high)
          conv => cbv
          exact hQ (.tup [.int .i64 r5, .bool true]) (Eq.trans (by first | rfl | (simp only [lb, lbI, rows_cons, rows_nil, unnilT, unnil, unnilTI, unnilI]; done) | (simp only [lb, lbI, rows_cons, rows_nil, unnilT, unnil, unnilTI, unnilI]; rfl)) (congrArg (ib) (show (r5, true) = corrA l from by rw [ce]; exact Prod.ext (by show r5 = min (-low) (max (-high) 0); rw [hr5, wrap64 (by omega) (by omega)]; omega) rfl)))   -- leaf 2
        · exact hQ (.tup [.int .i64 0, .bool true]) (Eq.trans (by first | rfl | (simp only [lb, lbI, rows_cons, rows_nil, unnilT, unnil, unnilTI, unnilI]; done) | (simp only [lb, lbI, rows_cons, rows_nil, unnilT, unnil, unnilTI, unnilI]; rfl)) (congrArg (ib) (show (0, true) = corrA l from by rw [ce]; exact Prod.ext (by show 0 = min (-low) (max (-high) 0); omega) rfl)))   -- leaf 3
    · exact hQ (.tup [.int .i64 0, .bool false]) (Eq.trans (by first | rfl | (simp only [lb, lbI, rows_cons, rows_nil, unnilT, unnil, unnilTI, unnilI]; done) | (simp only [lb, lbI, rows_cons, rows_nil, unnilT, unnil, unnilTI, unnilI]; rfl)) (congrArg (ib) (show (0, false) = corrA l from by rw [corrA, h1]; rfl)))   -- leaf 4

theorem gaAim_ok (n : Int)  : OkA Try.prog 116 [.int .i64 n] (· = .bool (inB n (-500) 500)) :=
  fn_intro envOk fieldsOk mixed Try.func116 rfl fun κ X Y L Q m hQ => by
    conv => cbv
    refine r_callB m.sX (l1In_ok n (-500) 500) (fun h1 => ?_) (fun h1 => ?_) <;> conv => cbv
    · exact hQ _ (congrArg PV.bool (by first | rfl | omega | (simp [*]; done) | (subst_vars; simp [*]; done)))   -- leaf 1
    · exact hQ _ (congrArg PV.bool (by first | rfl | omega | (simp [*]; done) | (subst_vars; simp [*]; done)))   -- leaf 2

theorem gaSums_ok (l : List Int) (aim : Int) (ht : TrialOk l) (ha : -500 ≤ aim ∧ aim ≤ 500) : OkA Try.prog 117 [.isl 1 (rows cInt l), .int .i64 aim] (· = .fr 3 1 (rows cInt (smsI l aim))) :=
  OkA.unnil 3 1 (fn_intro envOk fieldsOk mixed Try.func117 rfl fun κ X Y L Q m hQ => by
    have ll := ht.len
    conv => cbv
    refine r_lenR m.sX fun n1 hn1 mn1 => ?_
    conv => cbv
    refine r_loopF (α := List Int × Int × Int) m 26 [1, 6, 9, 10, 11] [⟨5, 41, 3, 1, 0⟩] (fun σ => [(1, .int .i64 aim), (5, .osl 41 0), (6, .int .i64 σ.2.1), (9, .isl 1 (rows cInt l)), (10, .int .i64 n1), (11, .int .i64 σ.2.2)]) (fun σ => [(41, 0, .row 3 1 (rows cInt σ.1))])
      (fun σ => (0 ≤ σ.2.2) ∧ (σ.2.2 ≤ n1) ∧ (σ.1 = (List.range σ.2.2.toNat).map (smAt l aim)) ∧ (σ.2.1 = (l.take σ.2.2.toNat).sum - aim * σ.2.2) ∧ (-40000 ≤ σ.2.1 ∧ σ.2.1 ≤ 40000) ∧ ((σ.1.length : Int) = σ.2.2)) (fun σ => (n1 - σ.2.2).toNat) ([], 0, 0) ?_ ?_ ?_ ?_
    · cbv
    · (try dsimp only); simp only [rows_cons, rows_nil]; cbv
    · exact ⟨(by (try dsimp only); first | omega | (simp only [List.length_nil]; omega)), (by (try dsimp only); first | omega | (simp only [List.length_nil]; omega)), (by (try dsimp only) <;> (rfl)), (by (try dsimp only) <;> (simp)), (by (try dsimp only) <;> first | omega | rfl | (simp [*]; done)), (by (try dsimp only) <;> first | omega | rfl | (simp [*]; done))⟩
    rintro ⟨out, sum, i1⟩ ⟨lo1, hi1, q, s, nb, ln⟩ E hE F hF
    dsimp only at lo1 hi1 q s nb ln
    conv => cbv
    refine r_lss m.sX (fun h1 => ?_) (fun h1 => ?_) <;> conv => cbv
    · refine r_index m.sX (by omega) (by omega) fun n hn => ?_
      conv => cbv
      have mn := get_mem hn
      have dn := drop_cons hn
      have kn := take_snoc hn
      have jn : (i1 + 1).toNat = Int.toNat i1 + 1 := by omega
      have vn := nth_some hn
      have bx := ht.bound _ mn
      have sb3 := sm_at_bound ht ha (i := i1.toNat) (by omega)
      have sn := sm_next (aim := aim) hn
      rw [show ((i1.toNat : Nat) : Int) = i1 by omega, ← s] at sn
      refine r_subf m.sX (by omega) (by omega) fun r1 hr1 => ?_
      conv => cbv
      refine r_addf m.sX (by omega) (by omega) fun sum_2 hsum_2 => ?_
      conv => cbv
      have ne : sum_2 = smAt l aim i1.toNat := by rw [sn, hsum_2, hr1]
      refine r_append1 (sum_2) m.sX rfl (by first | omega | (dsimp only; omega)) (by first | omega | (dsimp only; omega)) fun out_2 hout_2 => ?_
      conv => cbv
      have lout_2 : (out_2.length : Int) = out.length + 1 := by rw [hout_2]; first | done | (simp; done) | (simp; omega)
      refine r_addf m.sX (by omega) (by omega) fun r2 hr2 => ?_
      conv => cbv
      try have tr2 : Int.toNat r2 = Int.toNat i1 + 1 := by omega
      refine hE _ (out_2, sum_2, r2) ?_ ?_ ⟨(by (try dsimp only); first | omega | (simp only [List.length_nil]; omega)), (by (try dsimp only); first | omega | (simp only [List.length_nil]; omega)), (by (try dsimp only) <;> (rw [hout_2, q, tr2, ne, List.range_succ, List.map_append]; rfl)), (by (try dsimp only) <;> (rw [hsum_2, hr1, s, tr2, sum_take hn, hr2, Int.mul_add]; omega)), (by (try dsimp only) <;> (rw [ne]; exact sb3)), (by (try dsimp only) <;> (omega))⟩ (by first | omega | (dsimp only; omega))
      · cbv
      · cbv
    · have dz_i1 := drop_end (xs := l) (i := Int.toNat i1) (by omega)
      have tz_i1 := take_end (xs := l) (i := Int.toNat i1) (by omega)
      refine hF _ _ ?_
      conv => cbv
      exact hQ (.fr 3 1 (rows cInt out)) (Eq.trans (by first | rfl | (simp only [lb, lbI, rows_cons, rows_nil, unnilT, unnil, unnilTI, unnilI]; done) | (simp only [lb, lbI, rows_cons, rows_nil, unnilT, unnil, unnilTI, unnilI]; rfl)) (congrArg (fun l => PV.fr 3 1 (rows cInt l)) (show out = smsI l aim from by rw [smsI, q, show l.length = i1.toNat by omega]))))   -- leaf 1

theorem specFirstAlarm_ok (l : List Int) (aim : Int) (limit : Int)  : OkA Try.prog 36 [.isl 1 (rows cInt l), .int .i64 aim, .int .i64 limit] (· = ib (alA l aim limit)) :=
  fn_intro envOk fieldsOk mixed Try.func36 rfl fun κ X Y L Q m hQ => by
    conv => cbv
    refine r_callB m.sX (gaGood_ok l) (fun h1 => ?_) (fun h1 => ?_) <;> conv => cbv
    · have ok := trialB_spec h1
      have ll := ok.len
      refine r_callB m.sX (gaAim_ok aim) (fun h2 => ?_) (fun h2 => ?_) <;> conv => cbv
      · have ab := inB_spec h2
        refine r_callB m.sX (l1In_ok limit 0 20000) (fun h3 => ?_) (fun h3 => ?_) <;> conv => cbv
        · refine r_callF (fun l => PV.fr _ _ (rows _ l)) m.sX (gaSums_ok l aim (by first | rfl | assumption | omega | (simp only [List.length_append, List.length_cons, List.length_nil] at *; omega)) (by first | rfl | assumption | omega | (simp only [List.length_append, List.length_cons, List.length_nil] at *; omega))) fun v1 hv1 => ?_
          conv => cbv
          have vl := sms_len l aim
          rw [← hv1] at vl
          refine r_lenR m.sX fun n1 hn1 mn1 => ?_
          conv => cbv
          refine r_loopF (α := Int) m 38 [2, 26, 27] [⟨25, 201, 3, 1, 0⟩] (fun σ => [(2, .int .i64 limit), (25, .osl 201 0), (26, .int .i64 n1), (27, .int .i64 σ)]) (fun σ => [(201, 0, .row 3 1 (rows cInt v1))])
            (fun σ => (0 ≤ σ) ∧ (σ ≤ n1) ∧ (alG limit v1 0 = alG limit (v1.drop σ.toNat) σ)) (fun σ => (n1 - σ).toNat) 0 ?_ ?_ ?_ ?_
          · cbv
          · cbv
          · exact ⟨(by (try dsimp only); first | omega | (simp only [List.length_nil]; omega)), (by (try dsimp only); first | omega | (simp only [List.length_nil]; omega)), (by (try dsimp only) <;> (rfl))⟩
          rintro i1 ⟨lo1, hi1, q⟩ E hE F hF
          conv => cbv
          refine r_lss m.sX (fun h4 => ?_) (fun h4 => ?_) <;> conv => cbv
          · refine r_oindex m.sX (by omega) (by omega) ?_
            conv => cbv
            obtain ⟨n, hn⟩ := get_ex (xs := v1) (i := Int.toNat i1) (by omega)
            have mn := get_mem hn
            have dn := drop_cons hn
            have kn := take_snoc hn
            have jn : (i1 + 1).toNat = Int.toNat i1 + 1 := by omega
            have vn := nth_some hn
            have nb := sms_bound ok ab n (by rw [← hv1]; exact mn)
            refine r_oload m.sX hn (Nat.le_of_ble_eq_true rfl) ?_
            conv => cbv
            refine r_callF (PV.int .i64) m.sX (l1Abs_ok n (by first | rfl | assumption | omega | (simp only [List.length_append, List.length_cons, List.length_nil] at *; omega))) fun r1 hr1 => ?_
            conv => cbv
            refine r_gtr m.sX (fun h5 => ?_) (fun h5 => ?_) <;> conv => cbv
            · refine hF _ _ ?_
              conv => cbv
              exact hQ (.tup [.int .i64 i1, .bool true]) (Eq.trans (by first | rfl | (simp only [lb, lbI, rows_cons, rows_nil, unnilT, unnil, unnilTI, unnilI]; done) | (simp only [lb, lbI, rows_cons, rows_nil, unnilT, unnil, unnilTI, unnilI]; rfl)) (congrArg (ib) (show (i1, true) = alA l aim limit from by rw [alA, if_pos (by rw [h1, h2, h3]; rfl), ← hv1, q, alG_drop _ hn, if_pos (by omega)])))   -- leaf 1
            · refine r_addf m.sX (by omega) (by omega) fun r2 hr2 => ?_
              conv => cbv
              try have tr2 : Int.toNat r2 = Int.toNat i1 + 1 := by omega
              refine hE _ r2 ?_ ?_ ⟨(by (try dsimp only); first | omega | (simp only [List.length_nil]; omega)), (by (try dsimp only); first | omega | (simp only [List.length_nil]; omega)), (by (try dsimp only) <;> (rw [q, alG_drop _ hn, if_neg (by omega), tr2, ← hr2]))⟩ (by first | omega | (dsimp only; omega))
              · cbv
              · cbv
          · have dz_i1 := drop_end (xs := v1) (i := Int.toNat i1) (by omega)
            have tz_i1 := take_end (xs := v1) (i := Int.toNat i1) (by omega)
            refine hF _ _ ?_
            conv => cbv
            exact hQ (.tup [.int .i64 0, .bool false]) (Eq.trans (by first | rfl | (simp only [lb, lbI, rows_cons, rows_nil, unnilT, unnil, unnilTI, unnilI]; done) | (simp only [lb, lbI, rows_cons, rows_nil, unnilT, unnil, unnilTI, unnilI]; rfl)) (congrArg (ib) (show (0, false) = alA l aim limit from by rw [alA, if_pos (by rw [h1, h2, h3]; rfl), ← hv1, q, alG_end _ (by omega)])))   -- leaf 2
        · exact hQ (.tup [.int .i64 0, .bool false]) (Eq.trans (by first | rfl | (simp only [lb, lbI, rows_cons, rows_nil, unnilT, unnil, unnilTI, unnilI]; done) | (simp only [lb, lbI, rows_cons, rows_nil, unnilT, unnil, unnilTI, unnilI]; rfl)) (congrArg (ib) (show (0, false) = alA l aim limit from by rw [alA, h1, h2, h3]; rfl)))   -- leaf 3
      · exact hQ (.tup [.int .i64 0, .bool false]) (Eq.trans (by first | rfl | (simp only [lb, lbI, rows_cons, rows_nil, unnilT, unnil, unnilTI, unnilI]; done) | (simp only [lb, lbI, rows_cons, rows_nil, unnilT, unnil, unnilTI, unnilI]; rfl)) (congrArg (ib) (show (0, false) = alA l aim limit from by rw [alA, h1, h2]; rfl)))   -- leaf 4
    · exact hQ (.tup [.int .i64 0, .bool false]) (Eq.trans (by first | rfl | (simp only [lb, lbI, rows_cons, rows_nil, unnilT, unnil, unnilTI, unnilI]; done) | (simp only [lb, lbI, rows_cons, rows_nil, unnilT, unnil, unnilTI, unnilI]; rfl)) (congrArg (ib) (show (0, false) = alA l aim limit from by rw [alA, h1]; rfl)))   -- leaf 5

theorem specSumsOff_ok (l : List Int) (aim : Int)  : OkA Try.prog 38 [.isl 1 (rows cInt l), .int .i64 aim] (· = (lb 3 1 cInt) (smsA l aim)) :=
  OkA.unnil 3 1 (fn_intro envOk fieldsOk mixed Try.func38 rfl fun κ X Y L Q m hQ => by
    conv => cbv
    refine r_callB m.sX (gaGood_ok l) (fun h1 => ?_) (fun h1 => ?_) <;> conv => cbv
    · have ok := trialB_spec h1
      have ll := ok.len
      refine r_callB m.sX (gaAim_ok aim) (fun h2 => ?_) (fun h2 => ?_) <;> conv => cbv
      · have ab := inB_spec h2
        refine r_callF (fun l => PV.fr _ _ (rows _ l)) m.sX (gaSums_ok l aim (by first | rfl | assumption | omega | (simp only [List.length_append, List.length_cons, List.length_nil] at *; omega)) (by first | rfl | assumption | omega | (simp only [List.length_append, List.length_cons, List.length_nil] at *; omega))) fun v1 hv1 => ?_
        conv => cbv
        exact hQ (.tup [.fr 3 1 (rows cInt v1), .bool true]) (Eq.trans (by first | rfl | (simp only [lb, lbI, rows_cons, rows_nil, unnilT, unnil, unnilTI, unnilI]; done) | (simp only [lb, lbI, rows_cons, rows_nil, unnilT, unnil, unnilTI, unnilI]; rfl)) (congrArg ((lb 3 1 cInt)) (show (v1, true) = smsA l aim from by rw [smsA, h1, h2, hv1]; rfl)))   -- leaf 1
      · exact hQ (.tup [.nil, .bool false]) (Eq.trans (by first | rfl | (simp only [lb, lbI, rows_cons, rows_nil, unnilT, unnil, unnilTI, unnilI]; done) | (simp only [lb, lbI, rows_cons, rows_nil, unnilT, unnil, unnilTI, unnilI]; rfl)) (congrArg ((lb 3 1 cInt)) (show ([], false) = smsA l aim from by rw [smsA, h1, h2]; rfl)))   -- leaf 2
    · exact hQ (.tup [.nil, .bool false]) (Eq.trans (by first | rfl | (simp only [lb, lbI, rows_cons, rows_nil, unnilT, unnil, unnilTI, unnilI]; done) | (simp only [lb, lbI, rows_cons, rows_nil, unnilT, unnil, unnilTI, unnilI]; rfl)) (congrArg ((lb 3 1 cInt)) (show ([], false) = smsA l aim from by rw [smsA, h1]; rfl))))   -- leaf 3

theorem specJoinTrials_ok (a : List Int) (b : List Int)  : OkA Try.prog 41 [.isl 1 (rows cInt a), .isl 1 (rows cInt b)] (· = (lb 3 1 cInt) (joinT a b)) :=
  OkA.unnil 3 1 (fn_intro envOk fieldsOk mixed Try.func41 rfl fun κ X Y L Q m hQ => by
    conv => cbv
    refine r_callB m.sX (gaGood_ok a) (fun h1 => ?_) (fun h1 => ?_) <;> conv => cbv
    · have l1 := (trialB_spec h1).len
      refine r_callB m.sX (gaGood_ok b) (fun h2 => ?_) (fun h2 => ?_) <;> conv => cbv
      · have l2 := (trialB_spec h2).len
        refine r_lenR m.sX fun n1 hn1 mn1 => ?_
        conv => cbv
        refine r_lenR m.sX fun n2 hn2 mn2 => ?_
        conv => cbv
        refine r_addf m.sX (by omega) (by omega) fun r1 hr1 => ?_
        conv => cbv
        refine r_gtr m.sX (fun h3 => ?_) (fun h3 => ?_) <;> conv => cbv
        · exact hQ (.tup [.nil, .bool false]) (Eq.trans (by first | rfl | (simp only [lb, lbI, rows_cons, rows_nil, unnilT, unnil, unnilTI, unnilI]; done) | (simp only [lb, lbI, rows_cons, rows_nil, unnilT, unnil, unnilTI, unnilI]; rfl)) (congrArg ((lb 3 1 cInt)) (show ([], false) = joinT a b from by rw [joinT, h1, h2, decide_eq_false (by omega)]; rfl)))   -- leaf 1
        · refine r_callF (fun l => PV.fr _ _ (rows _ l)) m.sX (l1Own_ok a (by first | rfl | assumption | omega | (simp only [List.length_append, List.length_cons, List.length_nil] at *; omega))) fun v1 hv1 => ?_
          conv => cbv
          have lv1 : (v1.length : Int) = a.length := by rw [hv1]
          refine r_append m.sX (by first | omega | (dsimp only; omega)) (by first | omega | (dsimp only; omega)) fun zs1 hzs1 => ?_
          conv => cbv
          have lzs1 : (zs1.length : Int) = v1.length + b.length := by rw [hzs1]; first | done | (simp; done) | (simp; omega)
          exact hQ (.tup [.fr 3 1 (rows cInt zs1), .bool true]) (Eq.trans (by first | rfl | (simp only [lb, lbI, rows_cons, rows_nil, unnilT, unnil, unnilTI, unnilI]; done) | (simp only [lb, lbI, rows_cons, rows_nil, unnilT, unnil, unnilTI, unnilI]; rfl)) (congrArg ((lb 3 1 cInt)) (show (zs1, true) = joinT a b from by rw [joinT, if_pos (by rw [h1, h2, decide_eq_true (by omega)]; rfl), hzs1, hv1])))   -- leaf 2
      · exact hQ (.tup [.nil, .bool false]) (Eq.trans (by first | rfl | (simp only [lb, lbI, rows_cons, rows_nil, unnilT, unnil, unnilTI, unnilI]; done) | (simp only [lb, lbI, rows_cons, rows_nil, unnilT, unnil, unnilTI, unnilI]; rfl)) (congrArg ((lb 3 1 cInt)) (show ([], false) = joinT a b from by rw [joinT, h1, h2]; rfl)))   -- leaf 3
    · exact hQ (.tup [.nil, .bool false]) (Eq.trans (by first | rfl | (simp only [lb, lbI, rows_cons, rows_nil, unnilT, unnil, unnilTI, unnilI]; done) | (simp only [lb, lbI, rows_cons, rows_nil, unnilT, unnil, unnilTI, unnilI]; rfl)) (congrArg ((lb 3 1 cInt)) (show ([], false) = joinT a b from by rw [joinT, h1]; rfl))))   -- leaf 4

end Go.Proofs.Ytfnfjgdepilgkaa.Ai
