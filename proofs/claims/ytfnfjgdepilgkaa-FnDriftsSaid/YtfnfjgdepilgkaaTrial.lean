/- Contracts of the functions on trials. -/
import Derived.Test.YtfnfjgdepilgkaaSort
import Derived.Test.YtfnfjgdepilgkaaLit
import Derived.Test.YtfnfjgdepilgkaaThaw
namespace Go.Proofs.Ytfnfjgdepilgkaa.Ai
open Go Go.Proofs
set_option maxRecDepth 10000
set_option maxHeartbeats 4000000
set_option linter.unusedVariables false

theorem r_tdivf {P : Program} {b : Bool} {X : Req → (PV → Prop) → Prop} {K : PV → Prop} {m n : Int} (h : Std P b X) (h1 : -1000000000000 ≤ m ∧ m ≤ 1000000000000) (h0 : 0 < n) (H : ∀ r, r = m.tdiv n → -1000000000000 ≤ r ∧ r ≤ 1000000000000 → K (.int .i64 r)) : X (.bin .quo .i64 m n) K := by
  have a : -1000000000000 ≤ m.tdiv n ∧ m.tdiv n ≤ 1000000000000 := by
    have e := Int.natAbs_tdiv_le_natAbs m n
    omega
  exact r_quo h (by omega) fun r e => H r (by rw [e, wrap64 (by omega) (by omega)]) (by rw [e, wrap64 (by omega) (by omega)]; exact a)

theorem isOff_ok (n : Int)  : OkA Try.prog 101 [.int .i64 n] (· = .bool (inB n (-500) 500)) :=
  fn_intro envOk fieldsOk mixed Try.func101 rfl fun κ X Y L Q m hQ => by
    conv => cbv
    refine r_callB m.sX (within_ok n (-500) 500) (fun h1 => ?_) (fun h1 => ?_) <;> conv => cbv
    · exact hQ _ (congrArg PV.bool (by first | rfl | omega | (simp [*]; done) | (subst_vars; simp [*]; done)))   -- leaf 1
    · exact hQ _ (congrArg PV.bool (by first | rfl | omega | (simp [*]; done) | (subst_vars; simp [*]; done)))   -- leaf 2

theorem IsTrial_ok (l : List Int)  : OkA Try.prog 17 [.isl 1 (rows cInt l)] (· = .bool (trialB l)) :=
  fn_intro envOk fieldsOk mixed Try.func17 rfl fun κ X Y L Q m hQ => by
    conv => cbv
    refine r_lenR m.sX fun n1 hn1 mn1 => ?_
    conv => cbv
    refine r_loopF (α := Int) m 18 [0, 5, 6, 7] [] (fun σ => [(0, .isl 1 (rows cInt l)), (5, .isl 1 (rows cInt l)), (6, .int .i64 n1), (7, .int .i64 σ)]) (fun σ => [])
      (fun σ => (0 ≤ σ) ∧ (σ ≤ n1) ∧ (allB l (-500) 500 = allB (l.drop σ.toNat) (-500) 500)) (fun σ => (n1 - σ).toNat) 0 ?_ ?_ ?_ ?_
    · cbv
    · cbv
    · exact ⟨(by (try dsimp only); first | omega | (simp only [List.length_nil]; omega)), (by (try dsimp only); first | omega | (simp only [List.length_nil]; omega)), (by (try dsimp only) <;> first | omega | rfl | (simp [*]; done))⟩
    rintro i1 ⟨lo1, hi1, q⟩ E hE F hF
    conv => cbv
    refine r_lss m.sX (fun h1 => ?_) (fun h1 => ?_) <;> conv => cbv
    · refine r_index m.sX (by omega) (by omega) fun n hn => ?_
      conv => cbv
      have mn := get_mem hn
      have dn := drop_cons hn
      have kn := take_snoc hn
      have jn : (i1 + 1).toNat = Int.toNat i1 + 1 := by omega
      have vn := nth_some hn
      refine r_callB m.sX (isOff_ok n) (fun h2 => ?_) (fun h2 => ?_) <;> conv => cbv
      · refine r_addf m.sX (by omega) (by omega) fun r1 hr1 => ?_
        conv => cbv
        try have tr1 : Int.toNat r1 = Int.toNat i1 + 1 := by omega
        refine hE _ r1 ?_ ?_ ⟨(by (try dsimp only); first | omega | (simp only [List.length_nil]; omega)), (by (try dsimp only); first | omega | (simp only [List.length_nil]; omega)), (by (try dsimp only) <;> (rw [q, dn, allB_cons, h2, Bool.true_and, tr1]))⟩ (by first | omega | (dsimp only; omega))
        · cbv
        · cbv
      · refine hF _ _ ?_
        conv => cbv
        exact hQ _ (congrArg PV.bool (by rw [trialB, q, dn, allB_cons, h2]; rfl))   -- leaf 1
    · have dz_i1 := drop_end (xs := l) (i := Int.toNat i1) (by omega)
      have tz_i1 := take_end (xs := l) (i := Int.toNat i1) (by omega)
      refine hF _ _ ?_
      conv => cbv
      refine r_lenR m.sX fun n2 hn2 mn2 => ?_
      conv => cbv
      refine r_callB m.sX (within_ok n2 1 40) (fun h3 => ?_) (fun h3 => ?_) <;> conv => cbv
      · exact hQ _ (congrArg PV.bool (by rw [trialB, q, dz_i1, allB_nil, ← hn2, h3]; rfl))   -- leaf 2
      · exact hQ _ (congrArg PV.bool (by rw [trialB, q, dz_i1, allB_nil, ← hn2, h3]; rfl))   -- leaf 3

theorem implSum_ok (l : List Int) (hf : SumFits l) : OkA Try.prog 93 [.isl 1 (rows cInt l)] (· = .int .i64 (l.sum)) :=
  fn_intro envOk fieldsOk mixed Try.func93 rfl fun κ X Y L Q m hQ => by
    conv => cbv
    refine r_lenR m.sX fun n1 hn1 mn1 => ?_
    conv => cbv
    refine r_loopF (α := Int × Int) m 17 [3, 6, 7, 8] [] (fun σ => [(3, .int .i64 σ.1), (6, .isl 1 (rows cInt l)), (7, .int .i64 n1), (8, .int .i64 σ.2)]) (fun σ => [])
      (fun σ => (0 ≤ σ.2) ∧ (σ.2 ≤ n1) ∧ (σ.1 = (l.take σ.2.toNat).sum)) (fun σ => (n1 - σ.2).toNat) (0, 0) ?_ ?_ ?_ ?_
    · cbv
    · cbv
    · exact ⟨(by (try dsimp only); first | omega | (simp only [List.length_nil]; omega)), (by (try dsimp only); first | omega | (simp only [List.length_nil]; omega)), (by (try dsimp only) <;> first | omega | rfl | (simp [*]; done))⟩
    rintro ⟨n, i1⟩ ⟨lo1, hi1, q⟩ E hE F hF
    dsimp only at lo1 hi1 q
    have bq := hf i1.toNat
    conv => cbv
    refine r_lss m.sX (fun h1 => ?_) (fun h1 => ?_) <;> conv => cbv
    · refine r_index m.sX (by omega) (by omega) fun x hx => ?_
      conv => cbv
      have mx := get_mem hx
      have dx := drop_cons hx
      have kx := take_snoc hx
      have jx : (i1 + 1).toNat = Int.toNat i1 + 1 := by omega
      have vx := nth_some hx
      have bn := hf (i1.toNat + 1)
      rw [sum_take hx] at bn
      refine r_addf m.sX (by omega) (by omega) fun n_2 hn_2 => ?_
      conv => cbv
      refine r_addf m.sX (by omega) (by omega) fun r1 hr1 => ?_
      conv => cbv
      try have tr1 : Int.toNat r1 = Int.toNat i1 + 1 := by omega
      refine hE _ (n_2, r1) ?_ ?_ ⟨(by (try dsimp only); first | omega | (simp only [List.length_nil]; omega)), (by (try dsimp only); first | omega | (simp only [List.length_nil]; omega)), (by (try dsimp only) <;> (rw [tr1, sum_take hx]; omega))⟩ (by first | omega | (dsimp only; omega))
      · cbv
      · cbv
    · have dz_i1 := drop_end (xs := l) (i := Int.toNat i1) (by omega)
      have tz_i1 := take_end (xs := l) (i := Int.toNat i1) (by omega)
      refine hF _ _ ?_
      conv => cbv
      exact hQ (.int .i64 n) (Eq.trans (by first | rfl | (simp only [lb, lbI, rows_cons, rows_nil, unnilT, unnil, unnilTI, unnilI]; done) | (simp only [lb, lbI, rows_cons, rows_nil, unnilT, unnil, unnilTI, unnilI]; rfl)) (congrArg (PV.int .i64) (show n = l.sum from by rw [q, tz_i1])))   -- leaf 1

theorem gcd_ok (a : Int) (b : Int) (ha : 0 ≤ a ∧ a ≤ 1000000) (hb : 0 ≤ b ∧ b ≤ 1000000) : OkA Try.prog 94 [.int .i64 a, .int .i64 b] (· = .int .i64 (gcdI a b)) :=
  fn_intro envOk fieldsOk mixed Try.func94 rfl fun κ X Y L Q m hQ => by
    conv => cbv
    refine r_loopF (α := Int × Int) m 12 [0, 1] [] (fun σ => [(0, .int .i64 σ.1), (1, .int .i64 σ.2)]) (fun σ => [])
      (fun σ => (gcdI a b = gcdI σ.1 σ.2) ∧ (0 ≤ σ.1 ∧ σ.1 ≤ 1000000) ∧ (0 ≤ σ.2 ∧ σ.2 ≤ 1000000)) (fun σ => σ.2.toNat) (a, b) ?_ ?_ ?_ ?_
    · cbv
    · cbv
    · exact ⟨(by (try dsimp only) <;> (rfl)), (by (try dsimp only) <;> first | omega | rfl | (simp [*]; done)), (by (try dsimp only) <;> first | omega | rfl | (simp [*]; done))⟩
    rintro ⟨a_2, b_2⟩ ⟨q, p1, p2⟩ E hE F hF
    dsimp only at q p1 p2
    conv => cbv
    refine r_gtr m.sX (fun h1 => ?_) (fun h1 => ?_) <;> conv => cbv
    · refine r_draw m (by kernel_rfl) ?_
      conv => cbv
      refine r_modf m.sY (by omega) (by omega) fun b_3 hb_3 bb_3 => ?_
      conv => cbv
      refine hE _ (b_2, b_3) ?_ ?_ ⟨(by (try dsimp only) <;> (rw [q, gcdI_step p1.1 h1, hb_3])), (by (try dsimp only) <;> first | omega | rfl | (simp [*]; done) | (rw [p1]; simp [*]; done)), (by (try dsimp only) <;> first | omega | rfl | (simp [*]; done) | (rw [p2]; simp [*]; done))⟩ (by first | omega | (dsimp only; omega))
      · cbv
      · cbv
    · refine hF _ _ ?_
      conv => cbv
      exact hQ (.int .i64 a_2) (Eq.trans (by first | rfl | (simp only [lb, lbI, rows_cons, rows_nil, unnilT, unnil, unnilTI, unnilI]; done) | (simp only [lb, lbI, rows_cons, rows_nil, unnilT, unnil, unnilTI, unnilI]; rfl)) (congrArg (PV.int .i64) (show a_2 = gcdI a b from by rw [q, show b_2 = 0 by omega, gcdI_zero p1.1])))   -- leaf 1

theorem abs_ok (n : Int) (hn : -9000000000000000000 ≤ n ∧ n ≤ 9000000000000000000) : OkA Try.prog 95 [.int .i64 n] (· = .int .i64 (absI n)) :=
  fn_intro envOk fieldsOk mixed Try.func95 rfl fun κ X Y L Q m hQ => by
    conv => cbv
    refine r_neg m.sX fun r1 hr1 => ?_   -- r1 = wrap (-n)
    conv => cbv
    refine r_max m.sX fun r2 hr2 => ?_
    conv => cbv
    exact hQ (.int .i64 r2) (Eq.trans (by first | rfl | (simp only [lb, lbI, rows_cons, rows_nil, unnilT, unnil, unnilTI, unnilI]; done) | (simp only [lb, lbI, rows_cons, rows_nil, unnilT, unnil, unnilTI, unnilI]; rfl)) (congrArg (PV.int .i64) (show r2 = absI n from by rw [hr2, hr1, wrap64 (by omega) (by omega)]; rfl)))   -- leaf 1

theorem MeanOff_ok (l : List Int)  : OkA Try.prog 11 [.isl 1 (rows cInt l)] (· = iib (meanA l)) :=
  fn_intro envOk fieldsOk mixed Try.func11 rfl fun κ X Y L Q m hQ => by
    conv => cbv
    refine r_callB m.sX (IsTrial_ok l) (fun h1 => ?_) (fun h1 => ?_) <;> conv => cbv
    · have ok := trialB_spec h1
      have sf := ok.fits
      have sb := ok.sum
      have ll := ok.len
      refine r_callF (PV.int .i64) m.sX (implSum_ok l (by first | rfl | assumption | omega | (simp only [List.length_append, List.length_cons, List.length_nil] at *; omega))) fun n hn => ?_
      conv => cbv
      refine r_lenR m.sX fun d hd md => ?_
      conv => cbv
      refine r_callF (PV.int .i64) m.sX (abs_ok n (by first | rfl | assumption | omega | (simp only [List.length_append, List.length_cons, List.length_nil] at *; omega))) fun r1 hr1 => ?_
      conv => cbv
      have e1 : 0 ≤ r1 ∧ r1 ≤ 20000 := by rw [hr1]; unfold absI; omega
      refine r_callF (PV.int .i64) m.sX (gcd_ok r1 d (by first | rfl | assumption | omega | (simp only [List.length_append, List.length_cons, List.length_nil] at *; omega)) (by first | rfl | assumption | omega | (simp only [List.length_append, List.length_cons, List.length_nil] at *; omega))) fun g hg => ?_
      conv => cbv
      have g1 := gcdI_pos (a := r1) (b := d) (by omega)
      rw [← hg] at g1
      refine r_draw m (by kernel_rfl) ?_
      conv => cbv
      first | refine r_divf m.sY (by omega) (by omega) fun r2 hr2 br2 => ?_ | refine r_tdivf m.sY (by omega) (by omega) fun r2 hr2 br2 => ?_
      conv => cbv
      first | refine r_divf m.sY (by omega) (by omega) fun r3 hr3 br3 => ?_ | refine r_tdivf m.sY (by omega) (by omega) fun r3 hr3 br3 => ?_
      conv => cbv
      exact hQ (.tup [.int .i64 r2, .int .i64 r3, .bool true]) (Eq.trans (by first | rfl | (simp only [lb, lbI, rows_cons, rows_nil, unnilT, unnil, unnilTI, unnilI]; done) | (simp only [lb, lbI, rows_cons, rows_nil, unnilT, unnil, unnilTI, unnilI]; rfl)) (congrArg (iib) (show (r2, r3, true) = meanA l from by rw [meanA, if_pos h1, hr2, hr3, hg, hr1, hn, hd])))   -- leaf 1
    · exact hQ (.tup [.int .i64 0, .int .i64 0, .bool false]) (Eq.trans (by first | rfl | (simp only [lb, lbI, rows_cons, rows_nil, unnilT, unnil, unnilTI, unnilI]; done) | (simp only [lb, lbI, rows_cons, rows_nil, unnilT, unnil, unnilTI, unnilI]; rfl)) (congrArg (iib) (show (0, 0, false) = meanA l from by rw [meanA, h1]; rfl)))   -- leaf 2

theorem gaGood_ok (l : List Int)  : OkA Try.prog 96 [.isl 1 (rows cInt l)] (· = .bool (trialB l)) :=
  fn_intro envOk fieldsOk mixed Try.func96 rfl fun κ X Y L Q m hQ => by
    conv => cbv
    refine r_lenR m.sX fun n1 hn1 mn1 => ?_
    conv => cbv
    refine r_callB m.sX (l1In_ok n1 1 40) (fun h1 => ?_) (fun h1 => ?_) <;> conv => cbv
    · refine r_callB m.sX (l1All_ok l (-500) 500) (fun h2 => ?_) (fun h2 => ?_) <;> conv => cbv
      · exact hQ _ (congrArg PV.bool (by rw [trialB, h2, ← hn1, h1]; rfl))   -- leaf 1
      · exact hQ _ (congrArg PV.bool (by rw [trialB, h2]; rfl))   -- leaf 2
    · exact hQ _ (congrArg PV.bool (by rw [trialB, ← hn1, h1, Bool.and_false]))   -- leaf 3

theorem l1Abs_ok (n : Int) (hn : -9000000000000000000 ≤ n ∧ n ≤ 9000000000000000000) : OkA Try.prog 97 [.int .i64 n] (· = .int .i64 (absI n)) :=
  fn_intro envOk fieldsOk mixed Try.func97 rfl fun κ X Y L Q m hQ => by
    conv => cbv
    refine r_neg m.sX fun r1 hr1 => ?_   -- r1 = wrap (-n)
    conv => cbv
    refine r_callF (PV.int .i64) m.sX (l1Most_ok n r1) fun r2 hr2 => ?_
    conv => cbv
    exact hQ (.int .i64 r2) (Eq.trans (by first | rfl | (simp only [lb, lbI, rows_cons, rows_nil, unnilT, unnil, unnilTI, unnilI]; done) | (simp only [lb, lbI, rows_cons, rows_nil, unnilT, unnil, unnilTI, unnilI]; rfl)) (congrArg (PV.int .i64) (show r2 = absI n from by rw [hr2, hr1, wrap64 (by omega) (by omega)]; rfl)))   -- leaf 1

theorem gaSum_ok (l : List Int) (hf : SumFits l) : OkA Try.prog 98 [.isl 1 (rows cInt l)] (· = .int .i64 (l.sum)) :=
  fn_intro envOk fieldsOk mixed Try.func98 rfl fun κ X Y L Q m hQ => by
    conv => cbv
    refine r_lenR m.sX fun n1 hn1 mn1 => ?_
    conv => cbv
    refine r_loopF (α := Int × Int) m 17 [3, 6, 7, 8] [] (fun σ => [(3, .int .i64 σ.1), (6, .isl 1 (rows cInt l)), (7, .int .i64 n1), (8, .int .i64 σ.2)]) (fun σ => [])
      (fun σ => (0 ≤ σ.2) ∧ (σ.2 ≤ n1) ∧ (σ.1 = (l.take σ.2.toNat).sum)) (fun σ => (n1 - σ.2).toNat) (0, 0) ?_ ?_ ?_ ?_
    · cbv
    · cbv
    · exact ⟨(by (try dsimp only); first | omega | (simp only [List.length_nil]; omega)), (by (try dsimp only); first | omega | (simp only [List.length_nil]; omega)), (by (try dsimp only) <;> first | omega | rfl | (simp [*]; done))⟩
    rintro ⟨sum, i1⟩ ⟨lo1, hi1, q⟩ E hE F hF
    dsimp only at lo1 hi1 q
    have bq := hf i1.toNat
    conv => cbv
    refine r_lss m.sX (fun h1 => ?_) (fun h1 => ?_) <;> conv => cbv
    · refine r_index m.sX (by omega) (by omega) fun n hn => ?_
      conv => cbv
      have mn := get_mem hn
      have dn := drop_cons hn
      have kn := take_snoc hn
      have jn : (i1 + 1).toNat = Int.toNat i1 + 1 := by omega
      have vn := nth_some hn
      have bn := hf (i1.toNat + 1)
      rw [sum_take hn] at bn
      refine r_addf m.sX (by omega) (by omega) fun sum_2 hsum_2 => ?_
      conv => cbv
      refine r_addf m.sX (by omega) (by omega) fun r1 hr1 => ?_
      conv => cbv
      try have tr1 : Int.toNat r1 = Int.toNat i1 + 1 := by omega
      refine hE _ (sum_2, r1) ?_ ?_ ⟨(by (try dsimp only); first | omega | (simp only [List.length_nil]; omega)), (by (try dsimp only); first | omega | (simp only [List.length_nil]; omega)), (by (try dsimp only) <;> (rw [tr1, sum_take hn]; omega))⟩ (by first | omega | (dsimp only; omega))
      · cbv
      · cbv
    · have dz_i1 := drop_end (xs := l) (i := Int.toNat i1) (by omega)
      have tz_i1 := take_end (xs := l) (i := Int.toNat i1) (by omega)
      refine hF _ _ ?_
      conv => cbv
      exact hQ (.int .i64 sum) (Eq.trans (by first | rfl | (simp only [lb, lbI, rows_cons, rows_nil, unnilT, unnil, unnilTI, unnilI]; done) | (simp only [lb, lbI, rows_cons, rows_nil, unnilT, unnil, unnilTI, unnilI]; rfl)) (congrArg (PV.int .i64) (show sum = l.sum from by rw [q, tz_i1])))   -- leaf 1

theorem specMeanOff_ok (l : List Int)  : OkA Try.prog 12 [.isl 1 (rows cInt l)] (· = iib (meanA l)) :=
  fn_intro envOk fieldsOk mixed Try.func12 rfl fun κ X Y L Q m hQ => by
    conv => cbv
    refine r_callB m.sX (gaGood_ok l) (fun h1 => ?_) (fun h1 => ?_) <;> conv => cbv
    · have ok := trialB_spec h1
      have sf := ok.fits
      have sb := ok.sum
      have ll := ok.len
      refine r_callF (PV.int .i64) m.sX (gaSum_ok l (by first | rfl | assumption | omega | (simp only [List.length_append, List.length_cons, List.length_nil] at *; omega))) fun r1 hr1 => ?_
      conv => cbv
      refine r_callF (PV.int .i64) m.sX (l1Abs_ok r1 (by first | rfl | assumption | omega | (simp only [List.length_append, List.length_cons, List.length_nil] at *; omega))) fun a ha => ?_
      conv => cbv
      have e1 : 0 ≤ a ∧ a ≤ 20000 := by rw [ha]; unfold absI; omega
      refine r_lenR m.sX fun b hb mb => ?_
      conv => cbv
      refine r_loopF (α := Int × Int) m 31 [0, 5, 6] [] (fun σ => [(0, .isl 1 (rows cInt l)), (5, .int .i64 σ.1), (6, .int .i64 σ.2)]) (fun σ => [])
        (fun σ => (gcdI a b = gcdI σ.1 σ.2) ∧ (0 ≤ σ.1 ∧ σ.1 ≤ 1000000) ∧ (0 ≤ σ.2 ∧ σ.2 ≤ 1000000)) (fun σ => σ.2.toNat) (a, b) ?_ ?_ ?_ ?_
      · cbv
      · cbv
      · exact ⟨(by (try dsimp only) <;> (rfl)), (by (try dsimp only) <;> first | omega | rfl | (simp [*]; done)), (by (try dsimp only) <;> first | omega | rfl | (simp [*]; done))⟩
      rintro ⟨a_2, b_2⟩ ⟨q, p1, p2⟩ E hE F hF
      dsimp only at q p1 p2
      conv => cbv
      refine r_gtr m.sX (fun h2 => ?_) (fun h2 => ?_) <;> conv => cbv
      · refine r_modf m.sX (by omega) (by omega) fun r hr br => ?_
        conv => cbv
        refine hE _ (b_2, r) ?_ ?_ ⟨(by (try dsimp only) <;> (rw [q, gcdI_step p1.1 h2, hr])), (by (try dsimp only) <;> first | omega | rfl | (simp [*]; done) | (rw [p1]; simp [*]; done)), (by (try dsimp only) <;> first | omega | rfl | (simp [*]; done) | (rw [p2]; simp [*]; done))⟩ (by first | omega | (dsimp only; omega))
        · cbv
        · cbv
      · have qa : gcdI a b = a_2 := by rw [q, show b_2 = 0 by omega, gcdI_zero p1.1]
        have g1 := gcdI_pos (a := a) (b := b) (by omega)
        rw [qa] at g1
        refine hF _ _ ?_
        conv => cbv
        refine r_draw m (by kernel_rfl) ?_
        conv => cbv
        refine r_callFS (PV.int .i64) m.sY (gaSum_ok l (by first | rfl | assumption | omega | (simp only [List.length_append, List.length_cons, List.length_nil] at *; omega))) trivial fun y1 hy1 => ?_
        obtain rfl := hr1.trans hy1.symm
        clear hy1
        conv => cbv
        first | refine r_divf m.sY (by omega) (by omega) fun r2 hr2 br2 => ?_ | refine r_tdivf m.sY (by omega) (by omega) fun r2 hr2 br2 => ?_
        conv => cbv
        refine r_lenRS m.sY (by omega) fun n1 hn1 => ?_
        conv => cbv
        first | refine r_divf m.sY (by omega) (by omega) fun r3 hr3 br3 => ?_ | refine r_tdivf m.sY (by omega) (by omega) fun r3 hr3 br3 => ?_
        conv => cbv
        exact hQ (.tup [.int .i64 r2, .int .i64 r3, .bool true]) (Eq.trans (by first | rfl | (simp only [lb, lbI, rows_cons, rows_nil, unnilT, unnil, unnilTI, unnilI]; done) | (simp only [lb, lbI, rows_cons, rows_nil, unnilT, unnil, unnilTI, unnilI]; rfl)) (congrArg (iib) (show (r2, r3, true) = meanA l from by rw [meanA, if_pos h1, hr2, hr3, ← qa, hn1, ha, hr1, hb])))   -- leaf 1
    · exact hQ (.tup [.int .i64 0, .int .i64 0, .bool false]) (Eq.trans (by first | rfl | (simp only [lb, lbI, rows_cons, rows_nil, unnilT, unnil, unnilTI, unnilI]; done) | (simp only [lb, lbI, rows_cons, rows_nil, unnilT, unnil, unnilTI, unnilI]; rfl)) (congrArg (iib) (show (0, 0, false) = meanA l from by rw [meanA, h1]; rfl)))   -- leaf 2

theorem SpreadOff_ok (l : List Int)  : OkA Try.prog 13 [.isl 1 (rows cInt l)] (· = ib (spreadA l)) :=
  fn_intro envOk fieldsOk mixed Try.func13 rfl fun κ X Y L Q m hQ => by
    conv => cbv
    refine r_callB m.sX (IsTrial_ok l) (fun h1 => ?_) (fun h1 => ?_) <;> conv => cbv
    · have ok := trialB_spec h1
      have ll := ok.len
      refine r_callF (fun l => PV.fr _ _ (rows _ l)) m.sX (sorted_ok l (by intro e_; rw [e_] at ll; simp at ll) (by omega)) fun s_ hs_ => ?_
      conv => cbv
      have sl := sortI_len l
      rw [← hs_] at sl
      refine r_draw m (by kernel_rfl) ?_
      conv => cbv
      refine r_lenRS m.sY (by omega) fun n1 hn1 => ?_
      conv => cbv
      refine r_subf m.sY (by omega) (by omega) fun r1 hr1 => ?_
      conv => cbv
      refine r_oindex m.sY (by omega) (by omega) ?_
      conv => cbv
      obtain ⟨x1, hx1⟩ := get_ex (xs := s_) (i := Int.toNat r1) (by omega)
      have mx1 := get_mem hx1
      have vx1 := nth_some hx1
      have x1b := nth_sort_bound ok.bound (j := r1.toNat) (by omega)
      rw [← hs_, nth_some hx1] at x1b
      refine r_oload m.sY hx1 (Nat.le_of_ble_eq_true rfl) ?_
      conv => cbv
      refine r_oindex m.sY (by omega) (by omega) ?_
      conv => cbv
      obtain ⟨x2, hx2⟩ := get_ex (xs := s_) (i := Int.toNat 0) (by omega)
      have mx2 := get_mem hx2
      have vx2 := nth_some hx2
      have x2b := nth_sort_bound ok.bound (j := Int.toNat 0) (by omega)
      rw [← hs_, nth_some hx2] at x2b
      refine r_oload m.sY hx2 (Nat.le_of_ble_eq_true rfl) ?_
      conv => cbv
      refine r_subf m.sY (by omega) (by omega) fun r2 hr2 => ?_
      conv => cbv
      exact hQ (.tup [.int .i64 r2, .bool true]) (Eq.trans (by first | rfl | (simp only [lb, lbI, rows_cons, rows_nil, unnilT, unnil, unnilTI, unnilI]; done) | (simp only [lb, lbI, rows_cons, rows_nil, unnilT, unnil, unnilTI, unnilI]; rfl)) (congrArg (ib) (show (r2, true) = spreadA l from by rw [spreadA, if_pos h1, spreadI, ← hs_, show l.length - 1 = r1.toNat by omega, nth_some hx1, show nth s_ 0 = x2 from nth_some hx2, hr2])))   -- leaf 1
    · exact hQ (.tup [.int .i64 0, .bool false]) (Eq.trans (by first | rfl | (simp only [lb, lbI, rows_cons, rows_nil, unnilT, unnil, unnilTI, unnilI]; done) | (simp only [lb, lbI, rows_cons, rows_nil, unnilT, unnil, unnilTI, unnilI]; rfl)) (congrArg (ib) (show (0, false) = spreadA l from by rw [spreadA, h1]; rfl)))   -- leaf 2

theorem gaSorted_ok (l : List Int) (hl : l.length ≤ 1000) : OkA Try.prog 100 [.isl 1 (rows cInt l)] (· = .fr 3 1 (rows cInt (sortI l))) :=
  OkA.unnil 3 1 (fn_intro envOk fieldsOk mixed Try.func100 rfl fun κ X Y L Q m hQ => by
    conv => cbv
    refine r_lenR m.sX fun n1 hn1 mn1 => ?_
    conv => cbv
    refine r_loopF (α := List Int × Int) m 40 [7, 8, 9] [⟨3, 25, 3, 1, 0⟩] (fun σ => [(3, .osl 25 0), (7, .isl 1 (rows cInt l)), (8, .int .i64 n1), (9, .int .i64 σ.2)]) (fun σ => [(25, 0, .row 3 1 (rows cInt σ.1))])
      (fun σ => (0 ≤ σ.2) ∧ (σ.2 ≤ n1) ∧ (insS l [] = insS (l.drop σ.2.toNat) σ.1) ∧ ((σ.1.length : Int) = σ.2)) (fun σ => (n1 - σ.2).toNat) ([], 0) ?_ ?_ ?_ ?_
    · cbv
    · (try dsimp only); simp only [rows_cons, rows_nil]; cbv
    · exact ⟨(by (try dsimp only); first | omega | (simp only [List.length_nil]; omega)), (by (try dsimp only); first | omega | (simp only [List.length_nil]; omega)), (by (try dsimp only) <;> (rfl)), (by (try dsimp only) <;> first | omega | rfl | (simp [*]; done))⟩
    rintro ⟨out, i1⟩ ⟨lo1, hi1, q, ol⟩ E hE F hF
    dsimp only at lo1 hi1 q ol
    conv => cbv
    refine r_lss m.sX (fun h1 => ?_) (fun h1 => ?_) <;> conv => cbv
    · refine r_index m.sX (by omega) (by omega) fun n hn => ?_
      conv => cbv
      have mn := get_mem hn
      have dn := drop_cons hn
      have kn := take_snoc hn
      have jn : (i1 + 1).toNat = Int.toNat i1 + 1 := by omega
      have vn := nth_some hn
      refine r_loopF (α := Int) m 40 [5, 6, 7, 8, 9] [⟨3, 25, 3, 1, 0⟩] (fun σ => [(3, .osl 25 0), (5, .int .i64 n), (6, .int .i64 σ), (7, .isl 1 (rows cInt l)), (8, .int .i64 n1), (9, .int .i64 i1)]) (fun σ => [(25, 0, .row 3 1 (rows cInt out))])
        (fun σ => (0 ≤ σ ∧ σ ≤ out.length) ∧ (∀ j : Nat, (j : Int) < σ → nth out j < n)) (fun σ => ((out.length : Int) - σ).toNat) 0 ?_ ?_ ?_ ?_
      · cbv
      · cbv
      · exact ⟨(by (try dsimp only) <;> first | omega | rfl | (simp [*]; done)), (by (try dsimp only) <;> (intro j hj; omega))⟩
      rintro k ⟨kb, lo⟩ E2 hE2 F2 hF2
      conv => cbv
      refine r_lenR m.sX fun n2 hn2 mn2 => ?_
      conv => cbv
      refine r_lss m.sX (fun h2 => ?_) (fun h2 => ?_) <;> conv => cbv
      · refine r_oindex m.sX (by omega) (by omega) ?_
        conv => cbv
        obtain ⟨x1, hx1⟩ := get_ex (xs := out) (i := Int.toNat k) (by omega)
        have mx1 := get_mem hx1
        have vx1 := nth_some hx1
        refine r_oload m.sX hx1 (Nat.le_of_ble_eq_true rfl) ?_
        conv => cbv
        refine r_lss m.sX (fun h3 => ?_) (fun h3 => ?_) <;> conv => cbv
        · refine r_addf m.sX (by omega) (by omega) fun k_2 hk_2 => ?_
          conv => cbv
          refine hE2 _ k_2 ?_ ?_ ⟨(by (try dsimp only) <;> (omega)), (by (try dsimp only) <;> (intro j hj; by_cases e : (j : Int) < k; exact lo j e; (rw [show j = k.toNat by omega, nth_some hx1]; exact h3)))⟩ (by first | omega | (dsimp only; omega))
          · cbv
          · cbv
        · have pe := putS_at (l := out) (n := n) (k := k.toNat) (fun j hj => lo j (by omega)) (by omega) (fun _ => by rw [nth_some hx1]; omega)
          refine hF2 _ _ ?_
          conv => cbv
          refine r_drawT 3 m rfl rfl (by kernel_rfl) ?_
          conv => cbv
          refine r_islice (i := 0) (j := k) m.sY (by omega) (by omega) (by omega) fun zs1 hzs1 => ?_   -- zs1 = out[None:k]
          have lzs1 : (zs1.length : Int) = k - 0 := by rw [hzs1]; first | done | (simp; done) | (simp; omega)
          conv => cbv
          refine r_callFS (fun l => PV.fr _ _ (rows _ l)) m.sY (l1Own_ok zs1 (by first | rfl | assumption | omega | (simp only [List.length_append, List.length_cons, List.length_nil] at *; omega))) trivial fun v1 hv1 => ?_
          conv => cbv
          have lv1 : (v1.length : Int) = zs1.length := by rw [hv1]
          refine r_append1 (n) m.sY rfl (by first | omega | (dsimp only; omega)) (by first | omega | (dsimp only; omega)) fun zs2 hzs2 => ?_
          conv => cbv
          have lzs2 : (zs2.length : Int) = v1.length + 1 := by rw [hzs2]; first | done | (simp; done) | (simp; omega)
          refine r_islice' (i := k) m.sY (by omega) (by omega) fun zs3 hzs3 => ?_   -- zs3 = out[k:None]
          have lzs3 : (zs3.length : Int) = out.length - k := by rw [hzs3]; first | done | (simp; done) | (simp; omega)
          conv => cbv
          refine r_append m.sY (by first | omega | (dsimp only; omega)) (by first | omega | (dsimp only; omega)) fun out_2 hout_2 => ?_
          conv => cbv
          have lout_2 : (out_2.length : Int) = zs2.length + zs3.length := by rw [hout_2]; first | done | (simp; done) | (simp; omega)
          refine r_addf m.sX (by omega) (by omega) fun r1 hr1 => ?_
          conv => cbv
          try have tr1 : Int.toNat r1 = Int.toNat i1 + 1 := by omega
          refine hE _ (out_2, r1) ?_ ?_ ⟨(by (try dsimp only); first | omega | (simp only [List.length_nil]; omega)), (by (try dsimp only); first | omega | (simp only [List.length_nil]; omega)), (by (try dsimp only) <;> (first | (rw [q, insS_drop _ hn, pe, hout_2, hzs2, hv1, hzs1, hzs3, tr1]; rfl) | (rw [q, insS_drop _ hn, pe, hout_3, hzs5, hv2, hzs4, hzs6, tr1]; rfl))), (by (try dsimp only) <;> (first | (rw [hout_2, hzs2, hv1, hzs1, hzs3]; simp; omega) | (rw [hout_3, hzs5, hv2, hzs4, hzs6]; simp; omega)))⟩ (by first | omega | (dsimp only; omega))
          · cbv
          · cbv
      · have pe := putS_at (l := out) (n := n) (k := k.toNat) (fun j hj => lo j (by omega)) (by omega) (fun hj => by omega)
        refine hF2 _ _ ?_
        conv => cbv
        refine r_drawT 3 m rfl rfl (by kernel_rfl) ?_
        conv => cbv
        refine r_islice (i := 0) (j := k) m.sY (by omega) (by omega) (by omega) fun zs4 hzs4 => ?_   -- zs4 = out[None:k]
        have lzs4 : (zs4.length : Int) = k - 0 := by rw [hzs4]; first | done | (simp; done) | (simp; omega)
        conv => cbv
        refine r_callFS (fun l => PV.fr _ _ (rows _ l)) m.sY (l1Own_ok zs4 (by first | rfl | assumption | omega | (simp only [List.length_append, List.length_cons, List.length_nil] at *; omega))) trivial fun v2 hv2 => ?_
        conv => cbv
        have lv2 : (v2.length : Int) = zs4.length := by rw [hv2]
        refine r_append1 (n) m.sY rfl (by first | omega | (dsimp only; omega)) (by first | omega | (dsimp only; omega)) fun zs5 hzs5 => ?_
        conv => cbv
        have lzs5 : (zs5.length : Int) = v2.length + 1 := by rw [hzs5]; first | done | (simp; done) | (simp; omega)
        refine r_islice' (i := k) m.sY (by omega) (by omega) fun zs6 hzs6 => ?_   -- zs6 = out[k:None]
        have lzs6 : (zs6.length : Int) = out.length - k := by rw [hzs6]; first | done | (simp; done) | (simp; omega)
        conv => cbv
        refine r_append m.sY (by first | omega | (dsimp only; omega)) (by first | omega | (dsimp only; omega)) fun out_3 hout_3 => ?_
        conv => cbv
        have lout_3 : (out_3.length : Int) = zs5.length + zs6.length := by rw [hout_3]; first | done | (simp; done) | (simp; omega)
        refine r_addf m.sX (by omega) (by omega) fun r2 hr2 => ?_
        conv => cbv
        try have tr2 : Int.toNat r2 = Int.toNat i1 + 1 := by omega
        refine hE _ (out_3, r2) ?_ ?_ ⟨(by (try dsimp only); first | omega | (simp only [List.length_nil]; omega)), (by (try dsimp only); first | omega | (simp only [List.length_nil]; omega)), (by (try dsimp only) <;> (first | (rw [q, insS_drop _ hn, pe, hout_2, hzs2, hv1, hzs1, hzs3, tr2]; rfl) | (rw [q, insS_drop _ hn, pe, hout_3, hzs5, hv2, hzs4, hzs6, tr2]; rfl))), (by (try dsimp only) <;> (first | (rw [hout_2, hzs2, hv1, hzs1, hzs3]; simp; omega) | (rw [hout_3, hzs5, hv2, hzs4, hzs6]; simp; omega)))⟩ (by first | omega | (dsimp only; omega))
        · cbv
        · cbv
    · have dz_i1 := drop_end (xs := l) (i := Int.toNat i1) (by omega)
      have tz_i1 := take_end (xs := l) (i := Int.toNat i1) (by omega)
      refine hF _ _ ?_
      conv => cbv
      exact hQ (.fr 3 1 (rows cInt out)) (Eq.trans (by first | rfl | (simp only [lb, lbI, rows_cons, rows_nil, unnilT, unnil, unnilTI, unnilI]; done) | (simp only [lb, lbI, rows_cons, rows_nil, unnilT, unnil, unnilTI, unnilI]; rfl)) (congrArg (fun l => PV.fr 3 1 (rows cInt l)) (show out = sortI l from by rw [← insS_sort, q, dz_i1]; rfl))))   -- leaf 1

theorem specSpreadOff_ok (l : List Int)  : OkA Try.prog 14 [.isl 1 (rows cInt l)] (· = ib (spreadA l)) :=
  fn_intro envOk fieldsOk mixed Try.func14 rfl fun κ X Y L Q m hQ => by
    conv => cbv
    refine r_callB m.sX (gaGood_ok l) (fun h1 => ?_) (fun h1 => ?_) <;> conv => cbv
    · have ok := trialB_spec h1
      have ll := ok.len
      refine r_callF (fun l => PV.fr _ _ (rows _ l)) m.sX (gaSorted_ok l (by first | rfl | assumption | omega | (simp only [List.length_append, List.length_cons, List.length_nil] at *; omega))) fun sorted hsorted => ?_
      conv => cbv
      have sl := sortI_len l
      rw [← hsorted] at sl
      refine r_draw m (by kernel_rfl) ?_
      conv => cbv
      refine r_lenRS m.sY (by omega) fun n1 hn1 => ?_
      conv => cbv
      refine r_subf m.sY (by omega) (by omega) fun r1 hr1 => ?_
      conv => cbv
      refine r_oindex m.sY (by omega) (by omega) ?_
      conv => cbv
      obtain ⟨x1, hx1⟩ := get_ex (xs := sorted) (i := Int.toNat r1) (by omega)
      have mx1 := get_mem hx1
      have vx1 := nth_some hx1
      have x1b := nth_sort_bound ok.bound (j := r1.toNat) (by omega)
      rw [← hsorted, nth_some hx1] at x1b
      refine r_oload m.sY hx1 (Nat.le_of_ble_eq_true rfl) ?_
      conv => cbv
      refine r_oindex m.sY (by omega) (by omega) ?_
      conv => cbv
      obtain ⟨x2, hx2⟩ := get_ex (xs := sorted) (i := Int.toNat 0) (by omega)
      have mx2 := get_mem hx2
      have vx2 := nth_some hx2
      have x2b := nth_sort_bound ok.bound (j := Int.toNat 0) (by omega)
      rw [← hsorted, nth_some hx2] at x2b
      refine r_oload m.sY hx2 (Nat.le_of_ble_eq_true rfl) ?_
      conv => cbv
      refine r_subf m.sY (by omega) (by omega) fun r2 hr2 => ?_
      conv => cbv
      exact hQ (.tup [.int .i64 r2, .bool true]) (Eq.trans (by first | rfl | (simp only [lb, lbI, rows_cons, rows_nil, unnilT, unnil, unnilTI, unnilI]; done) | (simp only [lb, lbI, rows_cons, rows_nil, unnilT, unnil, unnilTI, unnilI]; rfl)) (congrArg (ib) (show (r2, true) = spreadA l from by rw [spreadA, if_pos h1, spreadI, ← hsorted, show l.length - 1 = r1.toNat by omega, nth_some hx1, show nth sorted 0 = x2 from nth_some hx2, hr2])))   -- leaf 1
    · exact hQ (.tup [.int .i64 0, .bool false]) (Eq.trans (by first | rfl | (simp only [lb, lbI, rows_cons, rows_nil, unnilT, unnil, unnilTI, unnilI]; done) | (simp only [lb, lbI, rows_cons, rows_nil, unnilT, unnil, unnilTI, unnilI]; rfl)) (congrArg (ib) (show (0, false) = spreadA l from by rw [spreadA, h1]; rfl)))   -- leaf 2

theorem MedianOff_ok (l : List Int)  : OkA Try.prog 15 [.isl 1 (rows cInt l)] (· = ib (medA l)) :=
  fn_intro envOk fieldsOk mixed Try.func15 rfl fun κ X Y L Q m hQ => by
    conv => cbv
    refine r_callB m.sX (IsTrial_ok l) (fun h1 => ?_) (fun h1 => ?_) <;> conv => cbv
    · have ok := trialB_spec h1
      have ll := ok.len
      refine r_callF (fun l => PV.fr _ _ (rows _ l)) m.sX (sorted_ok l (by intro e_; rw [e_] at ll; simp at ll) (by omega)) fun v1 hv1 => ?_
      conv => cbv
      have sl := sortI_len l
      rw [← hv1] at sl
      refine r_lenR m.sX fun n1 hn1 mn1 => ?_
      conv => cbv
      refine r_subf m.sX (by omega) (by omega) fun r1 hr1 => ?_
      conv => cbv
      first | refine r_divf m.sX (by omega) (by omega) fun r2 hr2 br2 => ?_ | refine r_tdivf m.sX (by omega) (by omega) fun r2 hr2 br2 => ?_
      conv => cbv
      refine r_oindex m.sX (by omega) (by omega) ?_
      conv => cbv
      obtain ⟨x1, hx1⟩ := get_ex (xs := v1) (i := Int.toNat r2) (by omega)
      have mx1 := get_mem hx1
      have vx1 := nth_some hx1
      refine r_oload m.sX hx1 (Nat.le_of_ble_eq_true rfl) ?_
      conv => cbv
      exact hQ (.tup [.int .i64 x1, .bool true]) (Eq.trans (by first | rfl | (simp only [lb, lbI, rows_cons, rows_nil, unnilT, unnil, unnilTI, unnilI]; done) | (simp only [lb, lbI, rows_cons, rows_nil, unnilT, unnil, unnilTI, unnilI]; rfl)) (congrArg (ib) (show (x1, true) = medA l from by rw [medA, if_pos h1, medI, ← hv1, show (l.length - 1) / 2 = r2.toNat by omega, nth_some hx1])))   -- leaf 1
    · exact hQ (.tup [.int .i64 0, .bool false]) (Eq.trans (by first | rfl | (simp only [lb, lbI, rows_cons, rows_nil, unnilT, unnil, unnilTI, unnilI]; done) | (simp only [lb, lbI, rows_cons, rows_nil, unnilT, unnil, unnilTI, unnilI]; rfl)) (congrArg (ib) (show (0, false) = medA l from by rw [medA, h1]; rfl)))   -- leaf 2

theorem specMedianOff_ok (l : List Int)  : OkA Try.prog 16 [.isl 1 (rows cInt l)] (· = ib (medA l)) :=
  fn_intro envOk fieldsOk mixed Try.func16 rfl fun κ X Y L Q m hQ => by
    conv => cbv
    refine r_callB m.sX (gaGood_ok l) (fun h1 => ?_) (fun h1 => ?_) <;> conv => cbv
    · have ok := trialB_spec h1
      have ll := ok.len
      refine r_callF (fun l => PV.fr _ _ (rows _ l)) m.sX (gaSorted_ok l (by first | rfl | assumption | omega | (simp only [List.length_append, List.length_cons, List.length_nil] at *; omega))) fun v1 hv1 => ?_
      conv => cbv
      have sl := sortI_len l
      rw [← hv1] at sl
      refine r_lenR m.sX fun n1 hn1 mn1 => ?_
      conv => cbv
      refine r_subf m.sX (by omega) (by omega) fun r1 hr1 => ?_
      conv => cbv
      first | refine r_divf m.sX (by omega) (by omega) fun r2 hr2 br2 => ?_ | refine r_tdivf m.sX (by omega) (by omega) fun r2 hr2 br2 => ?_
      conv => cbv
      refine r_oindex m.sX (by omega) (by omega) ?_
      conv => cbv
      obtain ⟨x1, hx1⟩ := get_ex (xs := v1) (i := Int.toNat r2) (by omega)
      have mx1 := get_mem hx1
      have vx1 := nth_some hx1
      refine r_oload m.sX hx1 (Nat.le_of_ble_eq_true rfl) ?_
      conv => cbv
      exact hQ (.tup [.int .i64 x1, .bool true]) (Eq.trans (by first | rfl | (simp only [lb, lbI, rows_cons, rows_nil, unnilT, unnil, unnilTI, unnilI]; done) | (simp only [lb, lbI, rows_cons, rows_nil, unnilT, unnil, unnilTI, unnilI]; rfl)) (congrArg (ib) (show (x1, true) = medA l from by rw [medA, if_pos h1, medI, ← hv1, show (l.length - 1) / 2 = r2.toNat by omega, nth_some hx1])))   -- leaf 1
    · exact hQ (.tup [.int .i64 0, .bool false]) (Eq.trans (by first | rfl | (simp only [lb, lbI, rows_cons, rows_nil, unnilT, unnil, unnilTI, unnilI]; done) | (simp only [lb, lbI, rows_cons, rows_nil, unnilT, unnil, unnilTI, unnilI]; rfl)) (congrArg (ib) (show (0, false) = medA l from by rw [medA, h1]; rfl)))   -- leaf 2

theorem isAllowed_ok (n : Int)  : OkA Try.prog 105 [.int .i64 n] (· = .bool (inB n 0 40)) :=
  fn_intro envOk fieldsOk mixed Try.func105 rfl fun κ X Y L Q m hQ => by
    conv => cbv
    refine r_callB m.sX (within_ok n 0 40) (fun h1 => ?_) (fun h1 => ?_) <;> conv => cbv
    · exact hQ _ (congrArg PV.bool (by first | rfl | omega | (simp [*]; done) | (subst_vars; simp [*]; done)))   -- leaf 1
    · exact hQ _ (congrArg PV.bool (by first | rfl | omega | (simp [*]; done) | (subst_vars; simp [*]; done)))   -- leaf 2

theorem outside_ok (l : List Int) (most : Int) (hl : l.length ≤ 1000) (hb : ∀ x ∈ l, -500 ≤ x ∧ x ≤ 500) : OkA Try.prog 106 [.isl 1 (rows cInt l), .int .i64 most] (· = .fr 3 1 (rows cInt (outI l most))) :=
  OkA.unnil 3 1 (fn_intro envOk fieldsOk mixed Try.func106 rfl fun κ X Y L Q m hQ => by
    conv => cbv
    refine r_lenR m.sX fun n1 hn1 mn1 => ?_
    conv => cbv
    refine r_loopF (α := List Int × Int) m 26 [1, 9, 10, 11] [⟨5, 41, 3, 1, 0⟩] (fun σ => [(1, .int .i64 most), (5, .osl 41 0), (9, .isl 1 (rows cInt l)), (10, .int .i64 n1), (11, .int .i64 σ.2)]) (fun σ => [(41, 0, .row 3 1 (rows cInt σ.1))])
      (fun σ => (0 ≤ σ.2) ∧ (σ.2 ≤ n1) ∧ (σ.1 = outI (l.take σ.2.toNat) most) ∧ ((σ.1.length : Int) ≤ σ.2)) (fun σ => (n1 - σ.2).toNat) ([], 0) ?_ ?_ ?_ ?_
    · cbv
    · (try dsimp only); simp only [rows_cons, rows_nil]; cbv
    · exact ⟨(by (try dsimp only); first | omega | (simp only [List.length_nil]; omega)), (by (try dsimp only); first | omega | (simp only [List.length_nil]; omega)), (by (try dsimp only) <;> (rfl)), (by (try dsimp only) <;> first | omega | rfl | (simp [*]; done))⟩
    rintro ⟨list, i1⟩ ⟨lo1, hi1, q, ln⟩ E hE F hF
    dsimp only at lo1 hi1 q ln
    have ti1 : (i1.toNat : Int) = i1 := by omega
    conv => cbv
    refine r_lss m.sX (fun h1 => ?_) (fun h1 => ?_) <;> conv => cbv
    · refine r_index m.sX (by omega) (by omega) fun n hn => ?_
      conv => cbv
      have mn := get_mem hn
      have dn := drop_cons hn
      have kn := take_snoc hn
      have jn : (i1 + 1).toNat = Int.toNat i1 + 1 := by omega
      have vn := nth_some hn
      have bn := hb _ mn
      refine r_callF (PV.int .i64) m.sX (abs_ok n (by first | rfl | assumption | omega | (simp only [List.length_append, List.length_cons, List.length_nil] at *; omega))) fun r1 hr1 => ?_
      conv => cbv
      refine r_gtr m.sX (fun h2 => ?_) (fun h2 => ?_) <;> conv => cbv
      · refine r_append1 (i1) m.sX rfl (by first | omega | (dsimp only; omega)) (by first | omega | (dsimp only; omega)) fun list_2 hlist_2 => ?_
        conv => cbv
        have llist_2 : (list_2.length : Int) = list.length + 1 := by rw [hlist_2]; first | done | (simp; done) | (simp; omega)
        refine r_addf m.sX (by omega) (by omega) fun r2 hr2 => ?_
        conv => cbv
        try have tr2 : Int.toNat r2 = Int.toNat i1 + 1 := by omega
        refine hE _ (list_2, r2) ?_ ?_ ⟨(by (try dsimp only); first | omega | (simp only [List.length_nil]; omega)), (by (try dsimp only); first | omega | (simp only [List.length_nil]; omega)), (by (try dsimp only) <;> (first | rw [hlist_2, q, tr2, outI_take hn, if_pos (by omega), ti1] | rw [q, tr2, outI_take hn, if_neg (by omega), List.append_nil])), (by (try dsimp only) <;> (omega))⟩ (by first | omega | (dsimp only; omega))
        · cbv
        · cbv
      · refine r_addf m.sX (by omega) (by omega) fun r3 hr3 => ?_
        conv => cbv
        try have tr3 : Int.toNat r3 = Int.toNat i1 + 1 := by omega
        refine hE _ (list, r3) ?_ ?_ ⟨(by (try dsimp only); first | omega | (simp only [List.length_nil]; omega)), (by (try dsimp only); first | omega | (simp only [List.length_nil]; omega)), (by (try dsimp only) <;> (first | rw [hlist_2, q, tr3, outI_take hn, if_pos (by omega), ti1] | rw [q, tr3, outI_take hn, if_neg (by omega), List.append_nil])), (by (try dsimp only) <;> (omega))⟩ (by first | omega | (dsimp only; omega))
        · cbv
        · cbv
    · have dz_i1 := drop_end (xs := l) (i := Int.toNat i1) (by omega)
      have tz_i1 := take_end (xs := l) (i := Int.toNat i1) (by omega)
      refine hF _ _ ?_
      conv => cbv
      exact hQ (.fr 3 1 (rows cInt list)) (Eq.trans (by first | rfl | (simp only [lb, lbI, rows_cons, rows_nil, unnilT, unnil, unnilTI, unnilI]; done) | (simp only [lb, lbI, rows_cons, rows_nil, unnilT, unnil, unnilTI, unnilI]; rfl)) (congrArg (fun l => PV.fr 3 1 (rows cInt l)) (show list = outI l most from by rw [q, tz_i1]))))   -- leaf 1

theorem LeastTolerance_ok (l : List Int) (allowed : Int)  : OkA Try.prog 20 [.isl 1 (rows cInt l), .int .i64 allowed] (· = ib (leastA l allowed)) :=
  fn_intro envOk fieldsOk mixed Try.func20 rfl fun κ X Y L Q m hQ => by
    conv => cbv
    refine r_callB m.sX (IsTrial_ok l) (fun h1 => ?_) (fun h1 => ?_) <;> conv => cbv
    · have ok := trialB_spec h1
      have ll := ok.len
      have lb_ := ok.bound
      refine r_callB m.sX (isAllowed_ok allowed) (fun h2 => ?_) (fun h2 => ?_) <;> conv => cbv
      · have ab := inB_spec h2
        refine r_loopF (α := Int) m 24 [0, 1, 6] [] (fun σ => [(0, .isl 1 (rows cInt l)), (1, .int .i64 allowed), (6, .int .i64 σ)]) (fun σ => [])
          (fun σ => (leastG l allowed 500 0 = leastG l allowed (500 - σ).toNat σ) ∧ (0 ≤ σ ∧ σ ≤ 500)) (fun σ => (501 - σ).toNat) 0 ?_ ?_ ?_ ?_
        · cbv
        · cbv
        · exact ⟨(by (try dsimp only) <;> (rfl)), (by (try dsimp only) <;> first | omega | rfl | (simp [*]; done))⟩
        rintro most ⟨q, mb⟩ E hE F hF
        conv => cbv
        refine r_callF (fun l => PV.fr _ _ (rows _ l)) m.sX (outside_ok l most (by first | rfl | assumption | omega | (simp only [List.length_append, List.length_cons, List.length_nil] at *; omega)) (by first | rfl | assumption | omega | (simp only [List.length_append, List.length_cons, List.length_nil] at *; omega))) fun v1 hv1 => ?_
        conv => cbv
        have vl := outI_len l most
        rw [← hv1] at vl
        refine r_lenR m.sX fun n1 hn1 mn1 => ?_
        conv => cbv
        refine r_gtr m.sX (fun h3 => ?_) (fun h3 => ?_) <;> conv => cbv
        · have m5 : most < 500 := by apply Int.lt_of_not_ge; intro e; rw [trial_out ok e] at vl; omega
          refine r_addf m.sX (by omega) (by omega) fun most_2 hmost_2 => ?_
          conv => cbv
          refine hE _ most_2 ?_ ?_ ⟨(by (try dsimp only) <;> (rw [q, show (500 - most).toNat = (500 - most_2).toNat + 1 by omega, leastG_step (by omega), hmost_2])), (by (try dsimp only) <;> (omega))⟩ (by first | omega | (dsimp only; omega))
          · cbv
          · cbv
        · refine hF _ _ ?_
          conv => cbv
          exact hQ (.tup [.int .i64 most, .bool true]) (Eq.trans (by first | rfl | (simp only [lb, lbI, rows_cons, rows_nil, unnilT, unnil, unnilTI, unnilI]; done) | (simp only [lb, lbI, rows_cons, rows_nil, unnilT, unnil, unnilTI, unnilI]; rfl)) (congrArg (ib) (show (most, true) = leastA l allowed from by rw [leastA, if_pos (by rw [h1, h2]; rfl), q, leastG_done _ _ (by omega)])))   -- leaf 1
      · exact hQ (.tup [.int .i64 0, .bool false]) (Eq.trans (by first | rfl | (simp only [lb, lbI, rows_cons, rows_nil, unnilT, unnil, unnilTI, unnilI]; done) | (simp only [lb, lbI, rows_cons, rows_nil, unnilT, unnil, unnilTI, unnilI]; rfl)) (congrArg (ib) (show (0, false) = leastA l allowed from by rw [leastA, h1, h2]; rfl)))   -- leaf 2
    · exact hQ (.tup [.int .i64 0, .bool false]) (Eq.trans (by first | rfl | (simp only [lb, lbI, rows_cons, rows_nil, unnilT, unnil, unnilTI, unnilI]; done) | (simp only [lb, lbI, rows_cons, rows_nil, unnilT, unnil, unnilTI, unnilI]; rfl)) (congrArg (ib) (show (0, false) = leastA l allowed from by rw [leastA, h1]; rfl)))   -- leaf 3

theorem gaOutside_ok (l : List Int) (most : Int) (hl : l.length ≤ 1000) (hb : ∀ x ∈ l, -500 ≤ x ∧ x ≤ 500) : OkA Try.prog 108 [.isl 1 (rows cInt l), .int .i64 most] (· = .fr 3 1 (rows cInt (outI l most))) :=
  OkA.unnil 3 1 (fn_intro envOk fieldsOk mixed Try.func108 rfl fun κ X Y L Q m hQ => by
    conv => cbv
    refine r_lenR m.sX fun n1 hn1 mn1 => ?_
    conv => cbv
    refine r_loopF (α := List Int × Int) m 25 [1, 8, 9, 10] [⟨5, 41, 3, 1, 0⟩] (fun σ => [(1, .int .i64 most), (5, .osl 41 0), (8, .isl 1 (rows cInt l)), (9, .int .i64 n1), (10, .int .i64 σ.2)]) (fun σ => [(41, 0, .row 3 1 (rows cInt σ.1))])
      (fun σ => (0 ≤ σ.2) ∧ (σ.2 ≤ n1) ∧ (σ.1 = outI (l.take σ.2.toNat) most) ∧ ((σ.1.length : Int) ≤ σ.2)) (fun σ => (n1 - σ.2).toNat) ([], 0) ?_ ?_ ?_ ?_
    · cbv
    · (try dsimp only); simp only [rows_cons, rows_nil]; cbv
    · exact ⟨(by (try dsimp only); first | omega | (simp only [List.length_nil]; omega)), (by (try dsimp only); first | omega | (simp only [List.length_nil]; omega)), (by (try dsimp only) <;> (rfl)), (by (try dsimp only) <;> first | omega | rfl | (simp [*]; done))⟩
    rintro ⟨out, i1⟩ ⟨lo1, hi1, q, ln⟩ E hE F hF
    dsimp only at lo1 hi1 q ln
    have ti1 : (i1.toNat : Int) = i1 := by omega
    conv => cbv
    refine r_lss m.sX (fun h1 => ?_) (fun h1 => ?_) <;> conv => cbv
    · refine r_index m.sX (by omega) (by omega) fun n hn => ?_
      conv => cbv
      have mn := get_mem hn
      have dn := drop_cons hn
      have kn := take_snoc hn
      have jn : (i1 + 1).toNat = Int.toNat i1 + 1 := by omega
      have vn := nth_some hn
      have bn := hb _ mn
      refine r_callF (PV.int .i64) m.sX (l1Abs_ok n (by first | rfl | assumption | omega | (simp only [List.length_append, List.length_cons, List.length_nil] at *; omega))) fun r1 hr1 => ?_
      conv => cbv
      refine r_gtr m.sX (fun h2 => ?_) (fun h2 => ?_) <;> conv => cbv
      · refine r_append1 (i1) m.sX rfl (by first | omega | (dsimp only; omega)) (by first | omega | (dsimp only; omega)) fun out_2 hout_2 => ?_
        conv => cbv
        have lout_2 : (out_2.length : Int) = out.length + 1 := by rw [hout_2]; first | done | (simp; done) | (simp; omega)
        refine r_addf m.sX (by omega) (by omega) fun r2 hr2 => ?_
        conv => cbv
        try have tr2 : Int.toNat r2 = Int.toNat i1 + 1 := by omega
        refine hE _ (out_2, r2) ?_ ?_ ⟨(by (try dsimp only); first | omega | (simp only [List.length_nil]; omega)), (by (try dsimp only); first | omega | (simp only [List.length_nil]; omega)), (by (try dsimp only) <;> (first | rw [hout_2, q, tr2, outI_take hn, if_pos (by omega), ti1] | rw [q, tr2, outI_take hn, if_neg (by omega), List.append_nil])), (by (try dsimp only) <;> (omega))⟩ (by first | omega | (dsimp only; omega))
        · cbv
        · cbv
      · refine r_addf m.sX (by omega) (by omega) fun r3 hr3 => ?_
        conv => cbv
        try have tr3 : Int.toNat r3 = Int.toNat i1 + 1 := by omega
        refine hE _ (out, r3) ?_ ?_ ⟨(by (try dsimp only); first | omega | (simp only [List.length_nil]; omega)), (by (try dsimp only); first | omega | (simp only [List.length_nil]; omega)), (by (try dsimp only) <;> (first | rw [hout_2, q, tr3, outI_take hn, if_pos (by omega), ti1] | rw [q, tr3, outI_take hn, if_neg (by omega), List.append_nil])), (by (try dsimp only) <;> (omega))⟩ (by first | omega | (dsimp only; omega))
        · cbv
        · cbv
    · have dz_i1 := drop_end (xs := l) (i := Int.toNat i1) (by omega)
      have tz_i1 := take_end (xs := l) (i := Int.toNat i1) (by omega)
      refine hF _ _ ?_
      conv => cbv
      exact hQ (.fr 3 1 (rows cInt out)) (Eq.trans (by first | rfl | (simp only [lb, lbI, rows_cons, rows_nil, unnilT, unnil, unnilTI, unnilI]; done) | (simp only [lb, lbI, rows_cons, rows_nil, unnilT, unnil, unnilTI, unnilI]; rfl)) (congrArg (fun l => PV.fr 3 1 (rows cInt l)) (show out = outI l most from by rw [q, tz_i1]))))   -- leaf 1

theorem specLeastTolerance_ok (l : List Int) (allowed : Int)  : OkA Try.prog 21 [.isl 1 (rows cInt l), .int .i64 allowed] (· = ib (leastA l allowed)) :=
  fn_intro envOk fieldsOk mixed Try.func21 rfl fun κ X Y L Q m hQ => by
    conv => cbv
    refine r_callB m.sX (gaGood_ok l) (fun h1 => ?_) (fun h1 => ?_) <;> conv => cbv
    · have ok := trialB_spec h1
      have ll := ok.len
      have lb_ := ok.bound
      refine r_callB m.sX (l1In_ok allowed 0 40) (fun h2 => ?_) (fun h2 => ?_) <;> conv => cbv
      · have ab := inB_spec h2
        refine r_loopF (α := Int) m 24 [0, 1, 6] [] (fun σ => [(0, .isl 1 (rows cInt l)), (1, .int .i64 allowed), (6, .int .i64 σ)]) (fun σ => [])
          (fun σ => (leastG l allowed 500 0 = leastG l allowed (500 - σ).toNat σ) ∧ (0 ≤ σ ∧ σ ≤ 500)) (fun σ => (501 - σ).toNat) 0 ?_ ?_ ?_ ?_
        · cbv
        · cbv
        · exact ⟨(by (try dsimp only) <;> (rfl)), (by (try dsimp only) <;> first | omega | rfl | (simp [*]; done))⟩
        rintro most ⟨q, mb⟩ E hE F hF
        conv => cbv
        refine r_callF (fun l => PV.fr _ _ (rows _ l)) m.sX (gaOutside_ok l most (by first | rfl | assumption | omega | (simp only [List.length_append, List.length_cons, List.length_nil] at *; omega)) (by first | rfl | assumption | omega | (simp only [List.length_append, List.length_cons, List.length_nil] at *; omega))) fun v1 hv1 => ?_
        conv => cbv
        have vl := outI_len l most
        rw [← hv1] at vl
        refine r_lenR m.sX fun n1 hn1 mn1 => ?_
        conv => cbv
        refine r_gtr m.sX (fun h3 => ?_) (fun h3 => ?_) <;> conv => cbv
        · have m5 : most < 500 := by apply Int.lt_of_not_ge; intro e; rw [trial_out ok e] at vl; omega
          refine r_addf m.sX (by omega) (by omega) fun most_2 hmost_2 => ?_
          conv => cbv
          refine hE _ most_2 ?_ ?_ ⟨(by (try dsimp only) <;> (rw [q, show (500 - most).toNat = (500 - most_2).toNat + 1 by omega, leastG_step (by omega), hmost_2])), (by (try dsimp only) <;> (omega))⟩ (by first | omega | (dsimp only; omega))
          · cbv
          · cbv
        · refine hF _ _ ?_
          conv => cbv
          exact hQ (.tup [.int .i64 most, .bool true]) (Eq.trans (by first | rfl | (simp only [lb, lbI, rows_cons, rows_nil, unnilT, unnil, unnilTI, unnilI]; done) | (simp only [lb, lbI, rows_cons, rows_nil, unnilT, unnil, unnilTI, unnilI]; rfl)) (congrArg (ib) (show (most, true) = leastA l allowed from by rw [leastA, if_pos (by rw [h1, h2]; rfl), q, leastG_done _ _ (by omega)])))   -- leaf 1
      · exact hQ (.tup [.int .i64 0, .bool false]) (Eq.trans (by first | rfl | (simp only [lb, lbI, rows_cons, rows_nil, unnilT, unnil, unnilTI, unnilI]; done) | (simp only [lb, lbI, rows_cons, rows_nil, unnilT, unnil, unnilTI, unnilI]; rfl)) (congrArg (ib) (show (0, false) = leastA l allowed from by rw [leastA, h1, h2]; rfl)))   -- leaf 2
    · exact hQ (.tup [.int .i64 0, .bool false]) (Eq.trans (by first | rfl | (simp only [lb, lbI, rows_cons, rows_nil, unnilT, unnil, unnilTI, unnilI]; done) | (simp only [lb, lbI, rows_cons, rows_nil, unnilT, unnil, unnilTI, unnilI]; rfl)) (congrArg (ib) (show (0, false) = leastA l allowed from by rw [leastA, h1]; rfl)))   -- leaf 3

theorem isTolerance_ok (n : Int)  : OkA Try.prog 109 [.int .i64 n] (· = .bool (inB n 0 500)) :=
  fn_intro envOk fieldsOk mixed Try.func109 rfl fun κ X Y L Q m hQ => by
    conv => cbv
    refine r_callB m.sX (within_ok n 0 500) (fun h1 => ?_) (fun h1 => ?_) <;> conv => cbv
    · exact hQ _ (congrArg PV.bool (by first | rfl | omega | (simp [*]; done) | (subst_vars; simp [*]; done)))   -- leaf 1
    · exact hQ _ (congrArg PV.bool (by first | rfl | omega | (simp [*]; done) | (subst_vars; simp [*]; done)))   -- leaf 2

theorem IsAccepted_ok (l : List Int) (most : Int) (allowed : Int)  : OkA Try.prog 22 [.isl 1 (rows cInt l), .int .i64 most, .int .i64 allowed] (· = bb (acceptA l most allowed)) :=
  fn_intro envOk fieldsOk mixed Try.func22 rfl fun κ X Y L Q m hQ => by
    conv => cbv
    refine r_callB m.sX (IsTrial_ok l) (fun h1 => ?_) (fun h1 => ?_) <;> conv => cbv
    · have ok := trialB_spec h1
      have ll := ok.len
      have lb_ := ok.bound
      refine r_callB m.sX (isTolerance_ok most) (fun h2 => ?_) (fun h2 => ?_) <;> conv => cbv
      · refine r_callB m.sX (isAllowed_ok allowed) (fun h3 => ?_) (fun h3 => ?_) <;> conv => cbv
        · refine r_callF (fun l => PV.fr _ _ (rows _ l)) m.sX (outside_ok l most (by first | rfl | assumption | omega | (simp only [List.length_append, List.length_cons, List.length_nil] at *; omega)) (by first | rfl | assumption | omega | (simp only [List.length_append, List.length_cons, List.length_nil] at *; omega))) fun v1 hv1 => ?_
          conv => cbv
          have vl := outI_len l most
          rw [← hv1] at vl
          refine r_lenR m.sX fun n1 hn1 mn1 => ?_
          conv => cbv
          refine r_leq m.sX (fun h4 => ?_) (fun h4 => ?_) <;> conv => cbv
          · exact hQ (.tup [.bool true, .bool true]) (Eq.trans (by first | rfl | (simp only [lb, lbI, rows_cons, rows_nil, unnilT, unnil, unnilTI, unnilI]; done) | (simp only [lb, lbI, rows_cons, rows_nil, unnilT, unnil, unnilTI, unnilI]; rfl)) (congrArg (bb) (show (true, true) = acceptA l most allowed from by rw [acceptA, h1, h2, h3, decide_eq_true (by omega)]; rfl)))   -- leaf 1
          · exact hQ (.tup [.bool false, .bool true]) (Eq.trans (by first | rfl | (simp only [lb, lbI, rows_cons, rows_nil, unnilT, unnil, unnilTI, unnilI]; done) | (simp only [lb, lbI, rows_cons, rows_nil, unnilT, unnil, unnilTI, unnilI]; rfl)) (congrArg (bb) (show (false, true) = acceptA l most allowed from by rw [acceptA, h1, h2, h3, decide_eq_false (by omega)]; rfl)))   -- leaf 2
        · exact hQ (.tup [.bool false, .bool false]) (Eq.trans (by first | rfl | (simp only [lb, lbI, rows_cons, rows_nil, unnilT, unnil, unnilTI, unnilI]; done) | (simp only [lb, lbI, rows_cons, rows_nil, unnilT, unnil, unnilTI, unnilI]; rfl)) (congrArg (bb) (show (false, false) = acceptA l most allowed from by rw [acceptA, h1, h2, h3]; rfl)))   -- leaf 3
      · exact hQ (.tup [.bool false, .bool false]) (Eq.trans (by first | rfl | (simp only [lb, lbI, rows_cons, rows_nil, unnilT, unnil, unnilTI, unnilI]; done) | (simp only [lb, lbI, rows_cons, rows_nil, unnilT, unnil, unnilTI, unnilI]; rfl)) (congrArg (bb) (show (false, false) = acceptA l most allowed from by rw [acceptA, h1, h2]; rfl)))   -- leaf 4
    · exact hQ (.tup [.bool false, .bool false]) (Eq.trans (by first | rfl | (simp only [lb, lbI, rows_cons, rows_nil, unnilT, unnil, unnilTI, unnilI]; done) | (simp only [lb, lbI, rows_cons, rows_nil, unnilT, unnil, unnilTI, unnilI]; rfl)) (congrArg (bb) (show (false, false) = acceptA l most allowed from by rw [acceptA, h1]; rfl)))   -- leaf 5

theorem OutsideOff_ok (l : List Int) (most : Int)  : OkA Try.prog 24 [.isl 1 (rows cInt l), .int .i64 most] (· = (lb 3 1 cInt) (outA l most)) :=
  OkA.unnil 3 1 (fn_intro envOk fieldsOk mixed Try.func24 rfl fun κ X Y L Q m hQ => by
    conv => cbv
    refine r_callB m.sX (IsTrial_ok l) (fun h1 => ?_) (fun h1 => ?_) <;> conv => cbv
    · have ok := trialB_spec h1
      have ll := ok.len
      have lb_ := ok.bound
      refine r_callB m.sX (isTolerance_ok most) (fun h2 => ?_) (fun h2 => ?_) <;> conv => cbv
      · refine r_callF (fun l => PV.fr _ _ (rows _ l)) m.sX (outside_ok l most (by first | rfl | assumption | omega | (simp only [List.length_append, List.length_cons, List.length_nil] at *; omega)) (by first | rfl | assumption | omega | (simp only [List.length_append, List.length_cons, List.length_nil] at *; omega))) fun v1 hv1 => ?_
        conv => cbv
        exact hQ (.tup [.fr 3 1 (rows cInt v1), .bool true]) (Eq.trans (by first | rfl | (simp only [lb, lbI, rows_cons, rows_nil, unnilT, unnil, unnilTI, unnilI]; done) | (simp only [lb, lbI, rows_cons, rows_nil, unnilT, unnil, unnilTI, unnilI]; rfl)) (congrArg ((lb 3 1 cInt)) (show (v1, true) = outA l most from by rw [outA, h1, h2, hv1]; rfl)))   -- leaf 1
      · exact hQ (.tup [.fr 3 1 [], .bool false]) (Eq.trans (by first | rfl | (simp only [lb, lbI, rows_cons, rows_nil, unnilT, unnil, unnilTI, unnilI]; done) | (simp only [lb, lbI, rows_cons, rows_nil, unnilT, unnil, unnilTI, unnilI]; rfl)) (congrArg ((lb 3 1 cInt)) (show ([], false) = outA l most from by rw [outA, h1, h2]; rfl)))   -- leaf 2
    · exact hQ (.tup [.fr 3 1 [], .bool false]) (Eq.trans (by first | rfl | (simp only [lb, lbI, rows_cons, rows_nil, unnilT, unnil, unnilTI, unnilI]; done) | (simp only [lb, lbI, rows_cons, rows_nil, unnilT, unnil, unnilTI, unnilI]; rfl)) (congrArg ((lb 3 1 cInt)) (show ([], false) = outA l most from by rw [outA, h1]; rfl))))   -- leaf 3

theorem gaTolerance_ok (n : Int)  : OkA Try.prog 111 [.int .i64 n] (· = .bool (inB n 0 500)) :=
  fn_intro envOk fieldsOk mixed Try.func111 rfl fun κ X Y L Q m hQ => by
    conv => cbv
    refine r_callB m.sX (l1In_ok n 0 500) (fun h1 => ?_) (fun h1 => ?_) <;> conv => cbv
    · exact hQ _ (congrArg PV.bool (by first | rfl | omega | (simp [*]; done) | (subst_vars; simp [*]; done)))   -- leaf 1
    · exact hQ _ (congrArg PV.bool (by first | rfl | omega | (simp [*]; done) | (subst_vars; simp [*]; done)))   -- leaf 2

theorem specOutsideOff_ok (l : List Int) (most : Int)  : OkA Try.prog 25 [.isl 1 (rows cInt l), .int .i64 most] (· = (lb 3 1 cInt) (outA l most)) :=
  OkA.unnil 3 1 (fn_intro envOk fieldsOk mixed Try.func25 rfl fun κ X Y L Q m hQ => by
    conv => cbv
    refine r_callB m.sX (gaGood_ok l) (fun h1 => ?_) (fun h1 => ?_) <;> conv => cbv
    · have ok := trialB_spec h1
      have ll := ok.len
      have lb_ := ok.bound
      refine r_callB m.sX (gaTolerance_ok most) (fun h2 => ?_) (fun h2 => ?_) <;> conv => cbv
      · refine r_callF (fun l => PV.fr _ _ (rows _ l)) m.sX (gaOutside_ok l most (by first | rfl | assumption | omega | (simp only [List.length_append, List.length_cons, List.length_nil] at *; omega)) (by first | rfl | assumption | omega | (simp only [List.length_append, List.length_cons, List.length_nil] at *; omega))) fun v1 hv1 => ?_
        conv => cbv
        exact hQ (.tup [.fr 3 1 (rows cInt v1), .bool true]) (Eq.trans (by first | rfl | (simp only [lb, lbI, rows_cons, rows_nil, unnilT, unnil, unnilTI, unnilI]; done) | (simp only [lb, lbI, rows_cons, rows_nil, unnilT, unnil, unnilTI, unnilI]; rfl)) (congrArg ((lb 3 1 cInt)) (show (v1, true) = outA l most from by rw [outA, h1, h2, hv1]; rfl)))   -- leaf 1
      · exact hQ (.tup [.nil, .bool false]) (Eq.trans (by first | rfl | (simp only [lb, lbI, rows_cons, rows_nil, unnilT, unnil, unnilTI, unnilI]; done) | (simp only [lb, lbI, rows_cons, rows_nil, unnilT, unnil, unnilTI, unnilI]; rfl)) (congrArg ((lb 3 1 cInt)) (show ([], false) = outA l most from by rw [outA, h1, h2]; rfl)))   -- leaf 2
    · exact hQ (.tup [.nil, .bool false]) (Eq.trans (by first | rfl | (simp only [lb, lbI, rows_cons, rows_nil, unnilT, unnil, unnilTI, unnilI]; done) | (simp only [lb, lbI, rows_cons, rows_nil, unnilT, unnil, unnilTI, unnilI]; rfl)) (congrArg ((lb 3 1 cInt)) (show ([], false) = outA l most from by rw [outA, h1]; rfl))))   -- leaf 3

theorem WithoutOutside_ok (l : List Int) (most : Int)  : OkA Try.prog 26 [.isl 1 (rows cInt l), .int .i64 most] (· = (lb 3 1 cInt) (withA l most)) :=
  OkA.unnil 3 1 (fn_intro envOk fieldsOk mixed Try.func26 rfl fun κ X Y L Q m hQ => by
    conv => cbv
    refine r_callB m.sX (IsTrial_ok l) (fun h1 => ?_) (fun h1 => ?_) <;> conv => cbv
    · have ok := trialB_spec h1
      have ll := ok.len
      have lb_ := ok.bound
      refine r_callB m.sX (isTolerance_ok most) (fun h2 => ?_) (fun h2 => ?_) <;> conv => cbv
      · refine r_lenR m.sX fun n1 hn1 mn1 => ?_
        conv => cbv
        refine r_loopF (α := List Int × Int) m 38 [1, 19, 20, 21] [⟨6, 49, 3, 1, 0⟩] (fun σ => [(1, .int .i64 most), (6, .osl 49 0), (19, .isl 1 (rows cInt l)), (20, .int .i64 n1), (21, .int .i64 σ.2)]) (fun σ => [(49, 0, .row 3 1 (rows cInt σ.1))])
          (fun σ => (0 ≤ σ.2) ∧ (σ.2 ≤ n1) ∧ (σ.1 = insI (l.take σ.2.toNat) most) ∧ ((σ.1.length : Int) ≤ σ.2)) (fun σ => (n1 - σ.2).toNat) ([], 0) ?_ ?_ ?_ ?_
        · cbv
        · (try dsimp only); simp only [rows_cons, rows_nil]; cbv
        · exact ⟨(by (try dsimp only); first | omega | (simp only [List.length_nil]; omega)), (by (try dsimp only); first | omega | (simp only [List.length_nil]; omega)), (by (try dsimp only) <;> (rfl)), (by (try dsimp only) <;> first | omega | rfl | (simp [*]; done))⟩
        rintro ⟨list, i1⟩ ⟨lo1, hi1, q, ln⟩ E hE F hF
        dsimp only at lo1 hi1 q ln
        conv => cbv
        refine r_lss m.sX (fun h3 => ?_) (fun h3 => ?_) <;> conv => cbv
        · refine r_index m.sX (by omega) (by omega) fun n hn => ?_
          conv => cbv
          have mn := get_mem hn
          have dn := drop_cons hn
          have kn := take_snoc hn
          have jn : (i1 + 1).toNat = Int.toNat i1 + 1 := by omega
          have vn := nth_some hn
          have bn := lb_ _ mn
          refine r_callF (PV.int .i64) m.sX (abs_ok n (by first | rfl | assumption | omega | (simp only [List.length_append, List.length_cons, List.length_nil] at *; omega))) fun r1 hr1 => ?_
          conv => cbv
          refine r_leq m.sX (fun h4 => ?_) (fun h4 => ?_) <;> conv => cbv
          · refine r_append1 (n) m.sX rfl (by first | omega | (dsimp only; omega)) (by first | omega | (dsimp only; omega)) fun list_2 hlist_2 => ?_
            conv => cbv
            have llist_2 : (list_2.length : Int) = list.length + 1 := by rw [hlist_2]; first | done | (simp; done) | (simp; omega)
            refine r_addf m.sX (by omega) (by omega) fun r2 hr2 => ?_
            conv => cbv
            try have tr2 : Int.toNat r2 = Int.toNat i1 + 1 := by omega
            refine hE _ (list_2, r2) ?_ ?_ ⟨(by (try dsimp only); first | omega | (simp only [List.length_nil]; omega)), (by (try dsimp only); first | omega | (simp only [List.length_nil]; omega)), (by (try dsimp only) <;> (first | rw [hlist_2, q, tr2, insI_take hn, if_pos (by omega)] | rw [q, tr2, insI_take hn, if_neg (by omega), List.append_nil])), (by (try dsimp only) <;> (omega))⟩ (by first | omega | (dsimp only; omega))
            · cbv
            · cbv
          · refine r_addf m.sX (by omega) (by omega) fun r3 hr3 => ?_
            conv => cbv
            try have tr3 : Int.toNat r3 = Int.toNat i1 + 1 := by omega
            refine hE _ (list, r3) ?_ ?_ ⟨(by (try dsimp only); first | omega | (simp only [List.length_nil]; omega)), (by (try dsimp only); first | omega | (simp only [List.length_nil]; omega)), (by (try dsimp only) <;> (first | rw [hlist_2, q, tr3, insI_take hn, if_pos (by omega)] | rw [q, tr3, insI_take hn, if_neg (by omega), List.append_nil])), (by (try dsimp only) <;> (omega))⟩ (by first | omega | (dsimp only; omega))
            · cbv
            · cbv
        · have dz_i1 := drop_end (xs := l) (i := Int.toNat i1) (by omega)
          have tz_i1 := take_end (xs := l) (i := Int.toNat i1) (by omega)
          refine hF _ _ ?_
          conv => cbv
          refine r_lenR m.sX fun n2 hn2 mn2 => ?_
          conv => cbv
          refine r_gtr m.sX (fun h5 => ?_) (fun h5 => ?_) <;> conv => cbv
          · exact hQ (.tup [.fr 3 1 (rows cInt list), .bool true]) (Eq.trans (by first | rfl | (simp only [lb, lbI, rows_cons, rows_nil, unnilT, unnil, unnilTI, unnilI]; done) | (simp only [lb, lbI, rows_cons, rows_nil, unnilT, unnil, unnilTI, unnilI]; rfl)) (congrArg ((lb 3 1 cInt)) (show (list, true) = withA l most from by rw [withA, if_pos (by rw [h1, h2]; rfl), show insI l most = list by rw [q, tz_i1], decide_eq_true (by omega)])))   -- leaf 1
          · exact hQ (.tup [.fr 3 1 (rows cInt list), .bool false]) (Eq.trans (by first | rfl | (simp only [lb, lbI, rows_cons, rows_nil, unnilT, unnil, unnilTI, unnilI]; done) | (simp only [lb, lbI, rows_cons, rows_nil, unnilT, unnil, unnilTI, unnilI]; rfl)) (congrArg ((lb 3 1 cInt)) (show (list, false) = withA l most from by rw [withA, if_pos (by rw [h1, h2]; rfl), show insI l most = list by rw [q, tz_i1], decide_eq_false (by omega)])))   -- leaf 2
      · exact hQ (.tup [.fr 3 1 [], .bool false]) (Eq.trans (by first | rfl | (simp only [lb, lbI, rows_cons, rows_nil, unnilT, unnil, unnilTI, unnilI]; done) | (simp only [lb, lbI, rows_cons, rows_nil, unnilT, unnil, unnilTI, unnilI]; rfl)) (congrArg ((lb 3 1 cInt)) (show ([], false) = withA l most from by rw [withA, h1, h2]; rfl)))   -- leaf 3
    · exact hQ (.tup [.fr 3 1 [], .bool false]) (Eq.trans (by first | rfl | (simp only [lb, lbI, rows_cons, rows_nil, unnilT, unnil, unnilTI, unnilI]; done) | (simp only [lb, lbI, rows_cons, rows_nil, unnilT, unnil, unnilTI, unnilI]; rfl)) (congrArg ((lb 3 1 cInt)) (show ([], false) = withA l most from by rw [withA, h1]; rfl))))   -- leaf 4

theorem specWithoutOutside_ok (l : List Int) (most : Int)  : OkA Try.prog 27 [.isl 1 (rows cInt l), .int .i64 most] (· = (lb 3 1 cInt) (withA l most)) :=
  OkA.unnil 3 1 (fn_intro envOk fieldsOk mixed Try.func27 rfl fun κ X Y L Q m hQ => by
    conv => cbv
    refine r_callB m.sX (gaGood_ok l) (fun h1 => ?_) (fun h1 => ?_) <;> conv => cbv
    · have ok := trialB_spec h1
      have ll := ok.len
      have lb_ := ok.bound
      refine r_callB m.sX (gaTolerance_ok most) (fun h2 => ?_) (fun h2 => ?_) <;> conv => cbv
      · refine r_lenR m.sX fun n1 hn1 mn1 => ?_
        conv => cbv
        refine r_loopF (α := List Int × Int) m 36 [1, 17, 18, 19] [⟨6, 49, 3, 1, 0⟩] (fun σ => [(1, .int .i64 most), (6, .osl 49 0), (17, .isl 1 (rows cInt l)), (18, .int .i64 n1), (19, .int .i64 σ.2)]) (fun σ => [(49, 0, .row 3 1 (rows cInt σ.1))])
          (fun σ => (0 ≤ σ.2) ∧ (σ.2 ≤ n1) ∧ (σ.1 = insI (l.take σ.2.toNat) most) ∧ ((σ.1.length : Int) ≤ σ.2)) (fun σ => (n1 - σ.2).toNat) ([], 0) ?_ ?_ ?_ ?_
        · cbv
        · (try dsimp only); simp only [rows_cons, rows_nil]; cbv
        · exact ⟨(by (try dsimp only); first | omega | (simp only [List.length_nil]; omega)), (by (try dsimp only); first | omega | (simp only [List.length_nil]; omega)), (by (try dsimp only) <;> (rfl)), (by (try dsimp only) <;> first | omega | rfl | (simp [*]; done))⟩
        rintro ⟨out, i1⟩ ⟨lo1, hi1, q, ln⟩ E hE F hF
        dsimp only at lo1 hi1 q ln
        conv => cbv
        refine r_lss m.sX (fun h3 => ?_) (fun h3 => ?_) <;> conv => cbv
        · refine r_index m.sX (by omega) (by omega) fun n hn => ?_
          conv => cbv
          have mn := get_mem hn
          have dn := drop_cons hn
          have kn := take_snoc hn
          have jn : (i1 + 1).toNat = Int.toNat i1 + 1 := by omega
          have vn := nth_some hn
          have bn := lb_ _ mn
          refine r_callF (PV.int .i64) m.sX (l1Abs_ok n (by first | rfl | assumption | omega | (simp only [List.length_append, List.length_cons, List.length_nil] at *; omega))) fun r1 hr1 => ?_
          conv => cbv
          refine r_leq m.sX (fun h4 => ?_) (fun h4 => ?_) <;> conv => cbv
          · refine r_append1 (n) m.sX rfl (by first | omega | (dsimp only; omega)) (by first | omega | (dsimp only; omega)) fun out_2 hout_2 => ?_
            conv => cbv
            have lout_2 : (out_2.length : Int) = out.length + 1 := by rw [hout_2]; first | done | (simp; done) | (simp; omega)
            refine r_addf m.sX (by omega) (by omega) fun r2 hr2 => ?_
            conv => cbv
            try have tr2 : Int.toNat r2 = Int.toNat i1 + 1 := by omega
            refine hE _ (out_2, r2) ?_ ?_ ⟨(by (try dsimp only); first | omega | (simp only [List.length_nil]; omega)), (by (try dsimp only); first | omega | (simp only [List.length_nil]; omega)), (by (try dsimp only) <;> (first | rw [hout_2, q, tr2, insI_take hn, if_pos (by omega)] | rw [q, tr2, insI_take hn, if_neg (by omega), List.append_nil])), (by (try dsimp only) <;> (omega))⟩ (by first | omega | (dsimp only; omega))
            · cbv
            · cbv
          · refine r_addf m.sX (by omega) (by omega) fun r3 hr3 => ?_
            conv => cbv
            try have tr3 : Int.toNat r3 = Int.toNat i1 + 1 := by omega
            refine hE _ (out, r3) ?_ ?_ ⟨(by (try dsimp only); first | omega | (simp only [List.length_nil]; omega)), (by (try dsimp only); first | omega | (simp only [List.length_nil]; omega)), (by (try dsimp only) <;> (first | rw [hout_2, q, tr3, insI_take hn, if_pos (by omega)] | rw [q, tr3, insI_take hn, if_neg (by omega), List.append_nil])), (by (try dsimp only) <;> (omega))⟩ (by first | omega | (dsimp only; omega))
            · cbv
            · cbv
        · have dz_i1 := drop_end (xs := l) (i := Int.toNat i1) (by omega)
          have tz_i1 := take_end (xs := l) (i := Int.toNat i1) (by omega)
          refine hF _ _ ?_
          conv => cbv
          refine r_lenR m.sX fun n2 hn2 mn2 => ?_
          conv => cbv
          refine r_eql m.sX (fun h5 => ?_) (fun h5 => ?_) <;> conv => cbv
          · exact hQ (.tup [.nil, .bool false]) (Eq.trans (by first | rfl | (simp only [lb, lbI, rows_cons, rows_nil, unnilT, unnil, unnilTI, unnilI]; done) | (simp only [lb, lbI, rows_cons, rows_nil, unnilT, unnil, unnilTI, unnilI]; rfl)) (congrArg ((lb 3 1 cInt)) (show ([], false) = withA l most from by rw [withA, if_pos (by rw [h1, h2]; rfl), show insI l most = out by rw [q, tz_i1], decide_eq_false (by omega), List.length_eq_zero_iff.1 (show out.length = 0 by omega)])))   -- leaf 1
          · exact hQ (.tup [.fr 3 1 (rows cInt out), .bool true]) (Eq.trans (by first | rfl | (simp only [lb, lbI, rows_cons, rows_nil, unnilT, unnil, unnilTI, unnilI]; done) | (simp only [lb, lbI, rows_cons, rows_nil, unnilT, unnil, unnilTI, unnilI]; rfl)) (congrArg ((lb 3 1 cInt)) (show (out, true) = withA l most from by rw [withA, if_pos (by rw [h1, h2]; rfl), show insI l most = out by rw [q, tz_i1], decide_eq_true (by omega)])))   -- leaf 2
      · exact hQ (.tup [.nil, .bool false]) (Eq.trans (by first | rfl | (simp only [lb, lbI, rows_cons, rows_nil, unnilT, unnil, unnilTI, unnilI]; done) | (simp only [lb, lbI, rows_cons, rows_nil, unnilT, unnil, unnilTI, unnilI]; rfl)) (congrArg ((lb 3 1 cInt)) (show ([], false) = withA l most from by rw [withA, h1, h2]; rfl)))   -- leaf 3
    · exact hQ (.tup [.nil, .bool false]) (Eq.trans (by first | rfl | (simp only [lb, lbI, rows_cons, rows_nil, unnilT, unnil, unnilTI, unnilI]; done) | (simp only [lb, lbI, rows_cons, rows_nil, unnilT, unnil, unnilTI, unnilI]; rfl)) (congrArg ((lb 3 1 cInt)) (show ([], false) = withA l most from by rw [withA, h1]; rfl))))   -- leaf 4

end Go.Proofs.Ytfnfjgdepilgkaa.Ai
