/- Contracts of the functions on spaces. -/
import Derived.Test.YtpjmpgbgglhoeaaPay
namespace Go.Proofs.Ytpjmpgbgglhoeaa.Ai
open Go Go.Proofs
set_option maxRecDepth 10000
set_option maxHeartbeats 4000000
set_option linter.unusedVariables false

theorem AreSpaces_ok (kinds : List Int)  : OkA Try.prog 38 [.isl 1 (rows cInt kinds)] (· = .bool (okK kinds)) :=
  fn_intro envOk fieldsOk mixed Try.func38 rfl fun κ X Y L Q m hQ => by
    conv => cbv
    refine r_lenR m.sX fun n1 hn1 mn1 => ?_
    conv => cbv
    refine r_callB m.sX (within_ok n1 1 6) (fun h1 => ?_) (fun h1 => ?_) <;> conv => cbv
    · refine r_callB m.sX (increases_ok kinds 1 54) (fun h2 => ?_) (fun h2 => ?_) <;> conv => cbv
      · exact hQ _ (congrArg PV.bool (by first | rfl | omega | (simp [okK, *]; done) | (subst_vars; simp [okK, *]; done)))   -- leaf 1
      · exact hQ _ (congrArg PV.bool (by first | rfl | omega | (simp [okK, *]; done) | (subst_vars; simp [okK, *]; done)))   -- leaf 2
    · exact hQ _ (congrArg PV.bool (by first | rfl | omega | (simp [okK, *]; done) | (subst_vars; simp [okK, *]; done)))   -- leaf 3

theorem isFill_ok (kinds : List Int) (n : Int)  : OkA Try.prog 192 [.isl 1 (rows cInt kinds), .int .i64 n] (· = .bool (okF kinds n)) :=
  fn_intro envOk fieldsOk mixed Try.func192 rfl fun κ X Y L Q m hQ => by
    conv => cbv
    refine r_callB m.sX (AreSpaces_ok kinds) (fun h1 => ?_) (fun h1 => ?_) <;> conv => cbv
    · refine r_callB m.sX (within_ok n 0 400) (fun h2 => ?_) (fun h2 => ?_) <;> conv => cbv
      · exact hQ _ (congrArg PV.bool (by first | rfl | omega | (simp [okF, *]; done) | (subst_vars; simp [okF, *]; done)))   -- leaf 1
      · exact hQ _ (congrArg PV.bool (by first | rfl | omega | (simp [okF, *]; done) | (subst_vars; simp [okF, *]; done)))   -- leaf 2
    · exact hQ _ (congrArg PV.bool (by first | rfl | omega | (simp [okF, *]; done) | (subst_vars; simp [okF, *]; done)))   -- leaf 3

theorem plenty_ok (kinds : List Int) (hl : kinds.length ≤ 1000) : OkA Try.prog 194 [.isl 1 (rows cInt kinds)] (· = .fr 3 1 (rows cInt (List.replicate kinds.length 400))) :=
  OkA.unnil 3 1 (fn_intro envOk fieldsOk mixed Try.func194 rfl fun κ X Y L Q m hQ => by
    conv => cbv
    refine r_lenR m.sX fun n1 hn1 mn1 => ?_
    conv => cbv
    refine r_loopF (α := List Int × Int) m 14 [6, 7] [⟨3, 25, 3, 1, 0⟩] (fun σ => [(3, .osl 25 0), (6, .int .i64 n1), (7, .int .i64 σ.2)]) (fun σ => [(25, 0, .row 3 1 (rows cInt σ.1))])
      (fun σ => (0 ≤ σ.2) ∧ (σ.2 ≤ n1) ∧ (σ.1 = List.replicate σ.2.toNat 400) ∧ ((σ.1.length : Int) = σ.2)) (fun σ => (n1 - σ.2).toNat) ([], 0) ?_ ?_ ?_ ?_
    · cbv
    · (try dsimp only); simp only [rows_cons, rows_nil]; cbv
    · exact ⟨(by (try dsimp only); first | omega | (simp only [List.length_nil]; omega)), (by (try dsimp only); first | omega | (simp only [List.length_nil]; omega)), (by (try dsimp only) <;> first | omega | rfl | (simp [*]; done)), (by (try dsimp only) <;> first | omega | rfl | (simp [*]; done))⟩
    rintro ⟨stock, i1⟩ ⟨lo1, hi1, q, ln⟩ E hE F hF
    dsimp only at lo1 hi1 q ln
    conv => cbv
    refine r_lss m.sX (fun h1 => ?_) (fun h1 => ?_) <;> conv => cbv
    · refine r_append1 (400) m.sX rfl (by first | omega | (dsimp only; omega)) (by first | omega | (dsimp only; omega)) fun stock_2 hstock_2 => ?_
      conv => cbv
      have lstock_2 : (stock_2.length : Int) = stock.length + 1 := by rw [hstock_2]; first | done | (simp; done) | (simp; omega)
      refine r_addf m.sX (by omega) (by omega) fun r1 hr1 => ?_
      conv => cbv
      have tr1 : Int.toNat r1 = Int.toNat i1 + 1 := by omega
      refine hE _ (stock_2, r1) ?_ ?_ ⟨(by (try dsimp only); first | omega | (simp only [List.length_nil]; omega)), (by (try dsimp only); first | omega | (simp only [List.length_nil]; omega)), (by (try dsimp only) <;> (rw [hstock_2, q, tr1, List.replicate_succ'])), (by (try dsimp only) <;> first | omega | rfl | (simp [*]; done) | (rw [ln]; simp [*]; done))⟩ (by first | omega | (dsimp only; omega))
      · cbv
      · cbv
    · have dz_i1 := drop_end (xs := kinds) (i := Int.toNat i1) (by omega)
      have tz_i1 := take_end (xs := kinds) (i := Int.toNat i1) (by omega)
      refine hF _ _ ?_
      conv => cbv
      exact hQ (.fr 3 1 (rows cInt stock)) (Eq.trans (by first | rfl | (simp only [lb, lbI, rows_cons, rows_nil, unnilT, unnil, unnilTI, unnilI]; done) | (simp only [lb, lbI, rows_cons, rows_nil, unnilT, unnil, unnilTI, unnilI]; rfl)) (congrArg (fun l => PV.fr 3 1 (rows cInt l)) (show stock = List.replicate kinds.length 400 from by rw [q, show Int.toNat i1 = kinds.length by omega]))))   -- leaf 1

theorem bestOf_ok (kinds : List Int) (stock : List Int) (n : Int) (hk : ∀ k ∈ kinds, 1 ≤ k ∧ k ≤ 10000) (hs : stock.length = kinds.length) (hs0 : ∀ k ∈ stock, 0 ≤ k ∧ k ≤ 10000) (hn : 0 ≤ n ∧ n ≤ 10000) (hl : kinds.length ≤ 1000) : OkA Try.prog 193 [.isl 1 (rows cInt kinds), .isl 1 (rows cInt stock), .int .i64 n] (· = orow 3 1 cInt (bestF kinds stock n)) :=
  fn_intro envOk fieldsOk mixed Try.func193 rfl fun κ X Y L Q m hQ => by
    conv => cbv
    refine r_callF (fun l => PV.fr _ _ (rows _ l)) m.sX (fewest_ok kinds stock n (by first | rfl | assumption | omega | (simp only [List.length_append, List.length_cons, List.length_nil] at *; omega)) (by first | rfl | assumption | omega | (simp only [List.length_append, List.length_cons, List.length_nil] at *; omega)) (by first | rfl | assumption | omega | (simp only [List.length_append, List.length_cons, List.length_nil] at *; omega)) (by first | rfl | assumption | omega | (simp only [List.length_append, List.length_cons, List.length_nil] at *; omega)) (by first | rfl | assumption | omega | (simp only [List.length_append, List.length_cons, List.length_nil] at *; omega))) fun table htable => ?_
    conv => cbv
    have lt : (table.length : Int) = kinds.length + 1 := by rw [htable, tabC]; simp
    refine r_lenR m.sX fun n1 hn1 mn1 => ?_
    conv => cbv
    refine r_oindex m.sX (by omega) (by omega) ?_
    conv => cbv
    obtain ⟨x1, hx1⟩ := get_ex (xs := table) (i := Int.toNat n1) (by omega)
    have mx1 := get_mem hx1
    have ex1 : x1 = rowC (pre kinds stock kinds.length) n := by rw [htable, show Int.toNat n1 = kinds.length by omega] at hx1; exact (Option.some.inj ((tabC_get (by omega)).symm.trans hx1)).symm
    have l1 : (x1.length : Int) = n + 1 := by rw [ex1, rowC_length]; omega
    refine r_oload m.sX hx1 (Nat.le_of_ble_eq_true rfl) ?_
    conv => cbv
    refine r_index m.sX (by omega) (by omega) fun x2 hx2 => ?_
    conv => cbv
    have mx2 := get_mem hx2
    have vx2 := nth_some hx2
    have ex2 : x2 = fewC (pre kinds stock kinds.length) n := by rw [← vx2, ex1, rowC_nth (by omega), Int.toNat_of_nonneg hn.1]
    refine r_lss m.sX (fun h1 => ?_) (fun h1 => ?_) <;> conv => cbv
    · exact hQ (.nil) (Eq.trans (by rfl) (congrArg (orow 3 1 cInt) (show none = bestF kinds stock n from by rw [bestF, if_pos (by omega)])))   -- leaf 1
    · refine r_lenR m.sX fun n2 hn2 mn2 => ?_
      conv => cbv
      refine r_make cInt 0 m.sX rfl (by omega) (by omega) (by dsimp only; omega) (by omega) fun counts hcounts => ?_   -- counts = replicate n2
      have lcounts : (counts.length : Int) = n2 := by rw [hcounts]; first | done | (simp; done) | (simp; omega)
      conv => cbv
      refine r_lenR m.sX fun n3 hn3 mn3 => ?_
      conv => cbv
      refine r_subf m.sX (by omega) (by omega) fun i hi => ?_
      conv => cbv
      refine r_loopF (α := Int × List Int × Int) m 93 [0, 1, 2, 9] [⟨7, 57, 24, 1, 0⟩, ⟨8, 65, 3, 1, 0⟩] (fun σ => [(0, .isl 1 (rows cInt kinds)), (1, .isl 1 (rows cInt stock)), (2, .int .i64 σ.1), (7, .osl 57 0), (8, .osl 65 0), (9, .int .i64 σ.2.2)]) (fun σ => [(57, 0, .row 24 1 (rows (cSl 1 cInt) table)), (65, 0, .row 3 1 (rows cInt σ.2.1))])
        (fun σ => (-1 ≤ σ.2.2 ∧ σ.2.2 < kinds.length) ∧ (0 ≤ σ.1 ∧ σ.1 ≤ n) ∧ (0 ≤ fewC (pre kinds stock (σ.2.2 + 1).toNat) σ.1) ∧ ((σ.2.1.length : Int) = kinds.length) ∧ (σ.2.1 = List.replicate (σ.2.2 + 1).toNat 0 ++ σ.2.1.drop (σ.2.2 + 1).toNat) ∧ ((cntC (pre kinds stock kinds.length) n).reverse = (cntC (pre kinds stock (σ.2.2 + 1).toNat) σ.1).reverse ++ σ.2.1.drop (σ.2.2 + 1).toNat)) (fun σ => (σ.2.2 + 1).toNat) (n, counts, i) ?_ ?_ ?_ ?_
      · cbv
      · cbv
      · exact ⟨(by (try dsimp only) <;> first | omega | rfl | (simp [*]; done)), (by (try dsimp only) <;> first | omega | rfl | (simp [*]; done)), (by (try dsimp only) <;> (rw [show Int.toNat (i + 1) = kinds.length by omega]; omega)), (by (try dsimp only) <;> first | omega | rfl | (simp [*]; done)), (by (try dsimp only) <;> (rw [hcounts, show Int.toNat (i + 1) = kinds.length by omega, show Int.toNat n2 = kinds.length by omega]; simp)), (by (try dsimp only) <;> (rw [hcounts, show Int.toNat (i + 1) = kinds.length by omega, show Int.toNat n2 = kinds.length by omega]; simp))⟩
      rintro ⟨n_2, counts_2, i_2⟩ ⟨k1, nb, fb, ln, q1, q2⟩ E hE F hF
      dsimp only at k1 nb fb ln q1 q2
      conv => cbv
      refine r_geq m.sX (fun h2 => ?_) (fun h2 => ?_) <;> conv => cbv
      · have tn : Int.toNat (i_2 + 1) = Int.toNat i_2 + 1 := by omega
        refine r_draw m (by kernel_rfl) ?_
        conv => cbv
        refine r_index m.sY (by omega) (by omega) fun x3 hx3 => ?_
        conv => cbv
        have mx3 := get_mem hx3
        have vx3 := nth_some hx3
        have b3 := hs0 _ mx3
        refine r_index m.sY (by omega) (by omega) fun x4 hx4 => ?_
        conv => cbv
        have mx4 := get_mem hx4
        have vx4 := nth_some hx4
        have b4 := hk _ mx4
        have lk : ∀ p ∈ pre kinds stock (Int.toNat i_2), 1 ≤ p.1 := fun p hp => (hk p.1 (pre_mem hp).1).1
        rw [tn, pre_succ hx4 hx3] at fb
        have ef := fewC_bound (l := (x4, x3) :: pre kinds stock (Int.toNat i_2)) (fun p hp => by rcases List.mem_cons.1 hp with rfl | hp; exact b4.1; exact lk p hp) nb.1
        refine r_divf m.sY (by omega) (by omega) fun r1 hr1 br1 => ?_
        conv => cbv
        refine r_min m.sY fun many hmany => ?_
        conv => cbv
        refine r_loopF (α := Int × List Int × Int) m 93 [0, 1, 2, 9, 10] [⟨7, 57, 24, 1, 0⟩, ⟨8, 65, 3, 1, 0⟩] (fun σ => [(0, .isl 1 (rows cInt kinds)), (1, .isl 1 (rows cInt stock)), (2, .int .i64 σ.1), (7, .osl 57 0), (8, .osl 65 0), (9, .int .i64 i_2), (10, .int .i64 σ.2.2)]) (fun σ => [(57, 0, .row 24 1 (rows (cSl 1 cInt) table)), (65, 0, .row 3 1 (rows cInt σ.2.1))])
          (fun σ => (σ.1 = n_2) ∧ (σ.2.1 = counts_2) ∧ (-1 ≤ σ.2.2 ∧ σ.2.2 ≤ min x3 (n_2 / x4)) ∧ (∀ j, σ.2.2 < j → j ≤ min x3 (n_2 / x4) → best (pre kinds stock (Int.toNat i_2)) x4 x3 n_2 j = false)) (fun σ => (σ.2.2 + 1).toNat) (n_2, counts_2, many) ?_ ?_ ?_ ?_
        · cbv
        · cbv
        · exact ⟨(by (try dsimp only) <;> first | omega | rfl | (simp [*]; done)), (by (try dsimp only) <;> first | omega | rfl | (simp [*]; done)), (by (try dsimp only) <;> first | omega | rfl | (simp [*]; done)), (by (try dsimp only) <;> first | omega | rfl | (simp [*]; done))⟩
        rintro ⟨n_3, counts_3, many_2⟩ ⟨s1, s2, mb, no⟩ E2 hE2 F2 hF2
        dsimp only at s1 s2 mb no
        have l3 : (counts_3.length : Int) = kinds.length := by rw [s2]; exact ln
        have g1 := mul_bound (show 0 ≤ many_2 + 1 by omega) (show many_2 + 1 ≤ 10001 by omega) (show 0 ≤ x4 by omega) b4.2
        have g2 : (many_2 + 1) * x4 = many_2 * x4 + x4 := by rw [Int.add_mul, Int.one_mul]
        conv => cbv
        refine r_geq m.sX (fun h3 => ?_) (fun h3 => ?_) <;> conv => cbv
        · have g3 : many_2 * x4 ≤ n_2 := (Int.le_ediv_iff_mul_le (by omega)).1 (show many_2 ≤ n_2 / x4 by omega)
          have g4 := Int.mul_nonneg h3 (show 0 ≤ x4 by omega)
          refine r_draw m (by kernel_rfl) ?_
          conv => cbv
          refine r_oindex m.sY (by omega) (by omega) ?_
          conv => cbv
          obtain ⟨x5, hx5⟩ := get_ex (xs := table) (i := Int.toNat i_2) (by omega)
          have mx5 := get_mem hx5
          have ex5 : x5 = rowC (pre kinds stock (Int.toNat i_2)) n := by rw [htable] at hx5; exact (Option.some.inj ((tabC_get (by omega)).symm.trans hx5)).symm
          have l5 : (x5.length : Int) = n + 1 := by rw [ex5, rowC_length]; omega
          refine r_oload m.sY hx5 (Nat.le_of_ble_eq_true rfl) ?_
          conv => cbv
          refine r_index m.sY (by omega) (by omega) fun x6 hx6 => ?_
          conv => cbv
          have mx6 := get_mem hx6
          have vx6 := nth_some hx6
          obtain rfl : x4 = x6 := Option.some.inj (hx4.symm.trans hx6)
          refine r_mulf m.sY (by omega) (by omega) fun r2 hr2 => ?_
          conv => cbv
          refine r_subf m.sY (by omega) (by omega) fun r3 hr3 => ?_
          conv => cbv
          refine r_index m.sY (by omega) (by omega) fun rest hrest => ?_
          conv => cbv
          have mrest := get_mem hrest
          have vrest := nth_some hrest
          have er : rest = fewC (pre kinds stock (Int.toNat i_2)) (n_2 - many_2 * x4) := by rw [← vrest, ex5, rowC_nth (by omega), Int.toNat_of_nonneg (by omega), hr3, hr2, s1]
          have rb := fewC_bound lk (n := n_2 - many_2 * x4) (by omega)
          refine r_geq m.sX (fun h4 => ?_) (fun h4 => ?_) <;> conv => cbv
          · refine r_addf m.sX (by omega) (by omega) fun r4 hr4 => ?_
            conv => cbv
            refine r_addf m.sX (by omega) (by omega) fun r5 hr5 => ?_
            conv => cbv
            refine r_oindex m.sX (by omega) (by omega) ?_
            conv => cbv
            obtain ⟨x7, hx7⟩ := get_ex (xs := table) (i := Int.toNat r5) (by omega)
            have mx7 := get_mem hx7
            have ex7 : x7 = rowC (pre kinds stock (Int.toNat i_2 + 1)) n := by rw [htable, show Int.toNat r5 = Int.toNat i_2 + 1 by omega] at hx7; exact (Option.some.inj ((tabC_get (by omega)).symm.trans hx7)).symm
            have l7 : (x7.length : Int) = n + 1 := by rw [ex7, rowC_length]; omega
            refine r_oload m.sX hx7 (Nat.le_of_ble_eq_true rfl) ?_
            conv => cbv
            refine r_index m.sX (by omega) (by omega) fun x8 hx8 => ?_
            conv => cbv
            have mx8 := get_mem hx8
            have vx8 := nth_some hx8
            have ex8 : x8 = fewC ((x4, x3) :: pre kinds stock (Int.toNat i_2)) n_2 := by rw [← vx8, ex7, rowC_nth (by omega), Int.toNat_of_nonneg (by omega), pre_succ hx4 hx3, s1]
            refine r_eql m.sX (fun h5 => ?_) (fun h5 => ?_) <;> conv => cbv
            · have bt : best (pre kinds stock (Int.toNat i_2)) x4 x3 n_2 many_2 = true := by simp only [best, Bool.and_eq_true, decide_eq_true_eq]; omega
              have dm : down (best (pre kinds stock (Int.toNat i_2)) x4 x3 n_2) (min x3 (n_2 / x4)).toNat = many_2 := down_eq h3 (by omega) (.inl bt) fun j a b => no j a (by omega)
              refine r_oindex m.sX (by omega) (by omega) ?_
              conv => cbv
              obtain ⟨y1, hy1⟩ := get_ex (xs := counts_3) (i := Int.toNat i_2) (by omega)
              refine r_ostore (l := Int.toNat i_2) many_2 m.sX hy1 (Nat.le_of_ble_eq_true rfl) rfl fun counts_4 hcounts_4 => ?_   -- counts_4 = counts_3.set i_2 many_2
              have lcounts_4 : (counts_4.length : Int) = counts_3.length := by rw [hcounts_4]; first | done | (simp; done) | (simp; omega)
              have qq : counts_2 = List.replicate (Int.toNat i_2) 0 ++ 0 :: counts_2.drop (Int.toNat i_2 + 1) := q1.trans (by rw [tn, List.replicate_succ', List.append_assoc]; rfl)
              have e4 : counts_4 = List.replicate (Int.toNat i_2) 0 ++ many_2 :: counts_2.drop (Int.toNat i_2 + 1) := by rw [hcounts_4, s2]; exact (congrArg (fun z => List.set z (Int.toNat i_2) many_2) qq).trans (set_mid (by simp))
              have d4 : counts_4.drop (Int.toNat i_2) = many_2 :: counts_2.drop (Int.toNat i_2 + 1) := by rw [e4]; exact List.drop_left' (by simp)
              conv => cbv
              refine r_index m.sX (by omega) (by omega) fun x9 hx9 => ?_
              conv => cbv
              have mx9 := get_mem hx9
              have vx9 := nth_some hx9
              obtain rfl : x4 = x9 := Option.some.inj (hx4.symm.trans hx9)
              refine r_mulf m.sX (by omega) (by omega) fun r6 hr6 => ?_
              conv => cbv
              refine r_subf m.sX (by omega) (by omega) fun n_4 hn_4 => ?_
              conv => cbv
              have en4 : n_4 = n_2 - many_2 * x4 := by rw [hn_4, hr6, s1]
              refine hF2 _ _ ?_
              conv => cbv
              refine r_subf m.sX (by omega) (by omega) fun i_3 hi_3 => ?_
              conv => cbv
              have ti : Int.toNat (i_3 + 1) = Int.toNat i_2 := by omega
              refine hE _ (n_4, counts_4, i_3) ?_ ?_ ⟨(by (try dsimp only) <;> (omega)), (by (try dsimp only) <;> (first | (exfalso; exact ff) | omega)), (by (try dsimp only) <;> (first | (exfalso; exact ff) | (rw [ti, en4]; exact (best_spec bt).1))), (by (try dsimp only) <;> (first | (exfalso; exact ff) | omega)), (by (try dsimp only) <;> (first | (exfalso; exact ff) | (rw [ti, d4]; exact e4))), (by (try dsimp only) <;> (first | (exfalso; exact ff) | (rw [q2, tn, pre_succ hx4 hx3, cntC, dm, List.reverse_cons, List.append_assoc, ti, d4, en4]; rfl)))⟩ (by first | omega | (dsimp only; omega))
              · cbv
              · cbv
            · have bf : best (pre kinds stock (Int.toNat i_2)) x4 x3 n_2 many_2 = false := by simp only [best, Bool.and_eq_false_iff, decide_eq_false_iff_not]; omega
              refine r_subf m.sX (by omega) (by omega) fun many_3 hmany_3 => ?_
              conv => cbv
              refine hE2 _ (n_3, counts_3, many_3) ?_ ?_ ⟨(by (try dsimp only) <;> first | omega | rfl | (simp [*]; done) | (rw [s1]; simp [*]; done)), (by (try dsimp only) <;> first | omega | rfl | (simp [*]; done) | (rw [s2]; simp [*]; done)), (by (try dsimp only) <;> first | omega | rfl | (simp [*]; done) | (rw [mb]; simp [*]; done)), (by (try dsimp only) <;> (intro j a b; rcases Int.lt_or_le many_2 j with h | h; exact no j h b; rw [show j = many_2 by omega]; exact bf))⟩ (by first | omega | (dsimp only; omega))
              · cbv
              · cbv
          · have bf : best (pre kinds stock (Int.toNat i_2)) x4 x3 n_2 many_2 = false := by simp only [best, Bool.and_eq_false_iff, decide_eq_false_iff_not]; omega
            refine r_subf m.sX (by omega) (by omega) fun many_4 hmany_4 => ?_
            conv => cbv
            refine hE2 _ (n_3, counts_3, many_4) ?_ ?_ ⟨(by (try dsimp only) <;> first | omega | rfl | (simp [*]; done) | (rw [s1]; simp [*]; done)), (by (try dsimp only) <;> first | omega | rfl | (simp [*]; done) | (rw [s2]; simp [*]; done)), (by (try dsimp only) <;> first | omega | rfl | (simp [*]; done) | (rw [mb]; simp [*]; done)), (by (try dsimp only) <;> (intro j a b; rcases Int.lt_or_le many_2 j with h | h; exact no j h b; rw [show j = many_2 by omega]; exact bf))⟩ (by first | omega | (dsimp only; omega))
            · cbv
            · cbv
        · have ff : False := by obtain ⟨j, a, b, c⟩ := best_ex lk b4.1 fb; have := no j (by omega) b; rw [this] at c; cases c
          refine hF2 _ _ ?_
          conv => cbv
          refine r_subf m.sX (by omega) (by omega) fun i_4 hi_4 => ?_
          conv => cbv
          refine hE _ (n_3, counts_3, i_4) ?_ ?_ ⟨(by (try dsimp only) <;> (omega)), (by (try dsimp only) <;> (first | (exfalso; exact ff) | omega)), (by (try dsimp only) <;> (first | (exfalso; exact ff) | (rw [ti, en4]; exact (best_spec bt).1))), (by (try dsimp only) <;> (first | (exfalso; exact ff) | omega)), (by (try dsimp only) <;> (first | (exfalso; exact ff) | (rw [ti, d4]; exact e4))), (by (try dsimp only) <;> (first | (exfalso; exact ff) | (rw [q2, tn, pre_succ hx4 hx3, cntC, dm, List.reverse_cons, List.append_assoc, ti, d4, en4]; rfl)))⟩ (by first | omega | (dsimp only; omega))
          · cbv
          · cbv
      · refine hF _ _ ?_
        conv => cbv
        exact hQ (.fr 3 1 (rows cInt counts_2)) (Eq.trans (by rfl) (congrArg (orow 3 1 cInt) (show some counts_2 = bestF kinds stock n from by rw [bestF, if_neg (by omega), q2, show Int.toNat (i_2 + 1) = 0 by omega]; rfl)))   -- leaf 2

theorem FewestSpaces_ok (kinds : List Int) (n : Int)  : OkA Try.prog 27 [.isl 1 (rows cInt kinds), .int .i64 n] (· = (lb 3 1 cInt) (fillF kinds n)) :=
  OkA.unnil 3 1 (fn_intro envOk fieldsOk mixed Try.func27 rfl fun κ X Y L Q m hQ => by
    conv => cbv
    refine r_callB m.sX (isFill_ok kinds n) (fun h1 => ?_) (fun h1 => ?_) <;> conv => cbv
    · obtain ⟨b1, b2, b3⟩ := okF_spec h1
      have bk : ∀ k ∈ kinds, 1 ≤ k := fun k hk => (b2 k hk).1
      refine r_callF (fun l => PV.fr _ _ (rows _ l)) m.sX (plenty_ok kinds (by first | rfl | assumption | omega | (simp only [List.length_append, List.length_cons, List.length_nil] at *; omega))) fun v1 hv1 => ?_
      conv => cbv
      have bs : ∀ k ∈ v1, 0 ≤ k ∧ k ≤ 10000 := fun k hk => by rw [hv1] at hk; have := (List.mem_replicate.1 hk).2; omega
      have bl : v1.length = kinds.length := by rw [hv1]; simp
      have bk2 : ∀ k ∈ kinds, 1 ≤ k ∧ k ≤ 10000 := fun k hk => by have := b2 k hk; omega
      have ep : pre kinds v1 kinds.length = prF kinds := by rw [hv1]; rfl
      refine .inl (r_callFO (orow 3 1 cInt) m.sX ((bestOf_ok kinds v1 n (by first | rfl | assumption | omega | (simp only [List.length_append, List.length_cons, List.length_nil] at *; omega)) (by first | rfl | assumption | omega | (simp only [List.length_append, List.length_cons, List.length_nil] at *; omega)) (by first | rfl | assumption | omega | (simp only [List.length_append, List.length_cons, List.length_nil] at *; omega)) (by first | rfl | assumption | omega | (simp only [List.length_append, List.length_cons, List.length_nil] at *; omega)) (by first | rfl | assumption | omega | (simp only [List.length_append, List.length_cons, List.length_nil] at *; omega))).ok (flat_orow flat_cInt)) fun counts hcounts => ?_)
      rcases counts with _ | counts <;> conv => cbv
      · have e1 : fewC (prF kinds) n < 0 := by rw [bestF, ep] at hcounts; split at hcounts; assumption; cases hcounts
        exact hQ (.tup [.fr 3 1 [], .bool false]) (Eq.trans (by first | rfl | (simp only [lb, lbI, rows_cons, rows_nil, unnilT, unnil, unnilTI, unnilI]; done) | (simp only [lb, lbI, rows_cons, rows_nil, unnilT, unnil, unnilTI, unnilI]; rfl)) (congrArg ((lb 3 1 cInt)) (show ([], false) = fillF kinds n from by rw [fillF, h1, decide_eq_false (by omega)]; rfl)))   -- leaf 1
      · have e1 : ¬ fewC (prF kinds) n < 0 ∧ counts = (cntC (prF kinds) n).reverse := by rw [bestF, ep] at hcounts; split at hcounts; cases hcounts; exact ⟨by assumption, Option.some.inj hcounts⟩
        have lc : (counts.length : Int) = kinds.length := by rw [e1.2, List.length_reverse, cntC_length, prF, pre, List.length_reverse, List.length_take, List.length_zip]; simp
        refine r_notnilR m.sX (by omega) ?_   -- counts is not nil
        conv => cbv
        exact hQ (.tup [.fr 3 1 (rows cInt counts), .bool true]) (Eq.trans (by first | rfl | (simp only [lb, lbI, rows_cons, rows_nil, unnilT, unnil, unnilTI, unnilI]; done) | (simp only [lb, lbI, rows_cons, rows_nil, unnilT, unnil, unnilTI, unnilI]; rfl)) (congrArg ((lb 3 1 cInt)) (show (counts, true) = fillF kinds n from by rw [fillF, h1, decide_eq_true (by omega), e1.2]; rfl)))   -- leaf 2
    · exact hQ (.tup [.fr 3 1 [], .bool false]) (Eq.trans (by first | rfl | (simp only [lb, lbI, rows_cons, rows_nil, unnilT, unnil, unnilTI, unnilI]; done) | (simp only [lb, lbI, rows_cons, rows_nil, unnilT, unnil, unnilTI, unnilI]; rfl)) (congrArg ((lb 3 1 cInt)) (show ([], false) = fillF kinds n from by rw [fillF, h1]; rfl))))   -- leaf 3

theorem CanFill_ok (kinds : List Int) (n : Int)  : OkA Try.prog 29 [.isl 1 (rows cInt kinds), .int .i64 n] (· = bb (canF kinds n)) :=
  fn_intro envOk fieldsOk mixed Try.func29 rfl fun κ X Y L Q m hQ => by
    conv => cbv
    refine r_callB m.sX (isFill_ok kinds n) (fun h1 => ?_) (fun h1 => ?_) <;> conv => cbv
    · obtain ⟨b1, b2, b3⟩ := okF_spec h1
      refine r_callF (fun l => PV.fr _ _ (rows _ l)) m.sX (plenty_ok kinds (by first | rfl | assumption | omega | (simp only [List.length_append, List.length_cons, List.length_nil] at *; omega))) fun v1 hv1 => ?_
      conv => cbv
      have bs : ∀ k ∈ v1, 0 ≤ k ∧ k ≤ 10000 := fun k hk => by rw [hv1] at hk; have := (List.mem_replicate.1 hk).2; omega
      have bl : v1.length = kinds.length := by rw [hv1]; simp
      have bk2 : ∀ k ∈ kinds, 1 ≤ k ∧ k ≤ 10000 := fun k hk => by have := b2 k hk; omega
      have ep : pre kinds v1 kinds.length = prF kinds := by rw [hv1]; rfl
      refine .inr (r_pcallF (fun l => PV.fr _ _ (rows _ l)) m.sX (fewest_ok kinds v1 n (by first | rfl | assumption | omega | (simp only [List.length_append, List.length_cons, List.length_nil] at *; omega)) (by first | rfl | assumption | omega | (simp only [List.length_append, List.length_cons, List.length_nil] at *; omega)) (by first | rfl | assumption | omega | (simp only [List.length_append, List.length_cons, List.length_nil] at *; omega)) (by first | rfl | assumption | omega | (simp only [List.length_append, List.length_cons, List.length_nil] at *; omega)) (by first | rfl | assumption | omega | (simp only [List.length_append, List.length_cons, List.length_nil] at *; omega))) fun v2 hv2 => ?_)
      conv => cbv
      have l2 : (v2.length : Int) = kinds.length + 1 := by rw [hv2, tabC]; simp
      refine r_lenR m.sX fun n1 hn1 mn1 => ?_
      conv => cbv
      refine r_oindex m.sX (by omega) (by omega) ?_
      conv => cbv
      obtain ⟨x1, hx1⟩ := get_ex (xs := v2) (i := Int.toNat n1) (by omega)
      have mx1 := get_mem hx1
      have ex1 : x1 = rowC (prF kinds) n := by rw [hv2, show Int.toNat n1 = kinds.length by omega] at hx1; rw [← ep]; exact (Option.some.inj ((tabC_get (by omega)).symm.trans hx1)).symm
      have l1 : (x1.length : Int) = n + 1 := by rw [ex1, rowC_length]; omega
      refine r_oload m.sX hx1 (Nat.le_of_ble_eq_true rfl) ?_
      conv => cbv
      refine r_index m.sX (by omega) (by omega) fun x2 hx2 => ?_
      conv => cbv
      have mx2 := get_mem hx2
      have vx2 := nth_some hx2
      have ex2 : x2 = fewC (prF kinds) n := by rw [← vx2, ex1, rowC_nth (by omega), Int.toNat_of_nonneg b3.1]
      refine r_geq m.sX (fun h2 => ?_) (fun h2 => ?_) <;> conv => cbv
      · exact hQ (.tup [.bool true, .bool true]) (Eq.trans (by first | rfl | (simp only [lb, lbI, rows_cons, rows_nil, unnilT, unnil, unnilTI, unnilI]; done) | (simp only [lb, lbI, rows_cons, rows_nil, unnilT, unnil, unnilTI, unnilI]; rfl)) (congrArg (bb) (show (true, true) = canF kinds n from by rw [canF, h1, decide_eq_true (by omega)]; rfl)))   -- leaf 1
      · exact hQ (.tup [.bool false, .bool true]) (Eq.trans (by first | rfl | (simp only [lb, lbI, rows_cons, rows_nil, unnilT, unnil, unnilTI, unnilI]; done) | (simp only [lb, lbI, rows_cons, rows_nil, unnilT, unnil, unnilTI, unnilI]; rfl)) (congrArg (bb) (show (false, true) = canF kinds n from by rw [canF, h1, decide_eq_false (by omega)]; rfl)))   -- leaf 2
    · exact hQ (.tup [.bool false, .bool false]) (Eq.trans (by first | rfl | (simp only [lb, lbI, rows_cons, rows_nil, unnilT, unnil, unnilTI, unnilI]; done) | (simp only [lb, lbI, rows_cons, rows_nil, unnilT, unnil, unnilTI, unnilI]; rfl)) (congrArg (bb) (show (false, false) = canF kinds n from by rw [canF, h1]; rfl)))   -- leaf 3

theorem MissingSums_ok (kinds : List Int) (most : Int)  : OkA Try.prog 31 [.isl 1 (rows cInt kinds), .int .i64 most] (· = (lb 3 1 cInt) (missF kinds most)) :=
  OkA.unnil 3 1 (fn_intro envOk fieldsOk mixed Try.func31 rfl fun κ X Y L Q m hQ => by
    conv => cbv
    refine r_callB m.sX (isFill_ok kinds most) (fun h1 => ?_) (fun h1 => ?_) <;> conv => cbv
    · obtain ⟨b1, b2, b3⟩ := okF_spec h1
      refine r_callF (fun l => PV.fr _ _ (rows _ l)) m.sX (plenty_ok kinds (by first | rfl | assumption | omega | (simp only [List.length_append, List.length_cons, List.length_nil] at *; omega))) fun v1 hv1 => ?_
      conv => cbv
      have bs : ∀ k ∈ v1, 0 ≤ k ∧ k ≤ 10000 := fun k hk => by rw [hv1] at hk; have := (List.mem_replicate.1 hk).2; omega
      have bl : v1.length = kinds.length := by rw [hv1]; simp
      have bk2 : ∀ k ∈ kinds, 1 ≤ k ∧ k ≤ 10000 := fun k hk => by have := b2 k hk; omega
      have ep : pre kinds v1 kinds.length = prF kinds := by rw [hv1]; rfl
      refine .inr (r_pcallF (fun l => PV.fr _ _ (rows _ l)) m.sX (fewest_ok kinds v1 most (by first | rfl | assumption | omega | (simp only [List.length_append, List.length_cons, List.length_nil] at *; omega)) (by first | rfl | assumption | omega | (simp only [List.length_append, List.length_cons, List.length_nil] at *; omega)) (by first | rfl | assumption | omega | (simp only [List.length_append, List.length_cons, List.length_nil] at *; omega)) (by first | rfl | assumption | omega | (simp only [List.length_append, List.length_cons, List.length_nil] at *; omega)) (by first | rfl | assumption | omega | (simp only [List.length_append, List.length_cons, List.length_nil] at *; omega))) fun v2 hv2 => ?_)
      conv => cbv
      have l2 : (v2.length : Int) = kinds.length + 1 := by rw [hv2, tabC]; simp
      refine r_lenR m.sX fun n1 hn1 mn1 => ?_
      conv => cbv
      refine r_oindex m.sX (by omega) (by omega) ?_
      conv => cbv
      obtain ⟨x1, hx1⟩ := get_ex (xs := v2) (i := Int.toNat n1) (by omega)
      have mx1 := get_mem hx1
      have ex1 : x1 = rowC (prF kinds) most := by rw [hv2, show Int.toNat n1 = kinds.length by omega] at hx1; rw [← ep]; exact (Option.some.inj ((tabC_get (by omega)).symm.trans hx1)).symm
      have l1 : (x1.length : Int) = most + 1 := by rw [ex1, rowC_length]; omega
      refine r_oload m.sX hx1 (Nat.le_of_ble_eq_true rfl) ?_
      conv => cbv
      refine r_lenR m.sX fun n2 hn2 mn2 => ?_
      conv => cbv
      refine r_loopF (α := List Int × Int) m 38 [23, 24, 25] [⟨6, 49, 3, 1, 0⟩] (fun σ => [(6, .osl 49 0), (23, .isl 1 (rows cInt x1)), (24, .int .i64 n2), (25, .int .i64 σ.2)]) (fun σ => [(49, 0, .row 3 1 (rows cInt σ.1))])
        (fun σ => (0 ≤ σ.2) ∧ (σ.2 ≤ n2) ∧ (markL (fun x => decide (x < 0)) 0 x1 = σ.1 ++ markL (fun x => decide (x < 0)) σ.2 (x1.drop σ.2.toNat)) ∧ ((σ.1.length : Int) ≤ σ.2)) (fun σ => (n2 - σ.2).toNat) ([], 0) ?_ ?_ ?_ ?_
      · cbv
      · (try dsimp only); simp only [rows_cons, rows_nil]; cbv
      · exact ⟨(by (try dsimp only); first | omega | (simp only [List.length_nil]; omega)), (by (try dsimp only); first | omega | (simp only [List.length_nil]; omega)), (by (try dsimp only) <;> first | omega | rfl | (simp [*]; done)), (by (try dsimp only) <;> first | omega | rfl | (simp [*]; done))⟩
      rintro ⟨list, i1⟩ ⟨lo1, hi1, q, ln⟩ E hE F hF
      dsimp only at lo1 hi1 q ln
      conv => cbv
      refine r_lss m.sX (fun h2 => ?_) (fun h2 => ?_) <;> conv => cbv
      · refine r_index m.sX (by omega) (by omega) fun many hmany => ?_
        conv => cbv
        have mmany := get_mem hmany
        have dmany := drop_cons hmany
        have kmany := take_snoc hmany
        have jmany : (i1 + 1).toNat = Int.toNat i1 + 1 := by omega
        have vmany := nth_some hmany
        refine r_lss m.sX (fun h3 => ?_) (fun h3 => ?_) <;> conv => cbv
        · refine r_append1 (i1) m.sX rfl (by first | omega | (dsimp only; omega)) (by first | omega | (dsimp only; omega)) fun list_2 hlist_2 => ?_
          conv => cbv
          have llist_2 : (list_2.length : Int) = list.length + 1 := by rw [hlist_2]; first | done | (simp; done) | (simp; omega)
          refine r_addf m.sX (by omega) (by omega) fun r1 hr1 => ?_
          conv => cbv
          have tr1 : Int.toNat r1 = Int.toNat i1 + 1 := by omega
          refine hE _ (list_2, r1) ?_ ?_ ⟨(by (try dsimp only); first | omega | (simp only [List.length_nil]; omega)), (by (try dsimp only); first | omega | (simp only [List.length_nil]; omega)), (by (try dsimp only) <;> (rw [q, dmany, markL, tr1, show i1 + 1 = r1 by omega]; simp [*])), (by (try dsimp only) <;> first | omega | rfl | (simp [*]; done) | (rw [ln]; simp [*]; done))⟩ (by first | omega | (dsimp only; omega))
          · cbv
          · cbv
        · refine r_addf m.sX (by omega) (by omega) fun r2 hr2 => ?_
          conv => cbv
          have tr2 : Int.toNat r2 = Int.toNat i1 + 1 := by omega
          refine hE _ (list, r2) ?_ ?_ ⟨(by (try dsimp only); first | omega | (simp only [List.length_nil]; omega)), (by (try dsimp only); first | omega | (simp only [List.length_nil]; omega)), (by (try dsimp only) <;> (rw [q, dmany, markL, tr2, show i1 + 1 = r2 by omega]; simp [*])), (by (try dsimp only) <;> first | omega | rfl | (simp [*]; done) | (rw [ln]; simp [*]; done))⟩ (by first | omega | (dsimp only; omega))
          · cbv
          · cbv
      · have dz_i1 := drop_end (xs := x1) (i := Int.toNat i1) (by omega)
        have tz_i1 := take_end (xs := x1) (i := Int.toNat i1) (by omega)
        refine hF _ _ ?_
        conv => cbv
        exact hQ (.tup [.fr 3 1 (rows cInt list), .bool true]) (Eq.trans (by first | rfl | (simp only [lb, lbI, rows_cons, rows_nil, unnilT, unnil, unnilTI, unnilI]; done) | (simp only [lb, lbI, rows_cons, rows_nil, unnilT, unnil, unnilTI, unnilI]; rfl)) (congrArg ((lb 3 1 cInt)) (show (list, true) = missF kinds most from by rw [missF, h1, ← ex1, q, show Int.toNat i1 = x1.length by omega]; simp [markL])))   -- leaf 1
    · exact hQ (.tup [.fr 3 1 [], .bool false]) (Eq.trans (by first | rfl | (simp only [lb, lbI, rows_cons, rows_nil, unnilT, unnil, unnilTI, unnilI]; done) | (simp only [lb, lbI, rows_cons, rows_nil, unnilT, unnil, unnilTI, unnilI]; rfl)) (congrArg ((lb 3 1 cInt)) (show ([], false) = missF kinds most from by rw [missF, h1]; rfl))))   -- leaf 2

theorem WaysToFill_ok (kinds : List Int) (n : Int)  : OkA Try.prog 33 [.isl 1 (rows cInt kinds), .int .i64 n] (· = ib (waysF kinds n)) :=
  fn_intro envOk fieldsOk mixed Try.func33 rfl fun κ X Y L Q m hQ => by
    conv => cbv
    refine r_callB m.sX (isFill_ok kinds n) (fun h1 => ?_) (fun h1 => ?_) <;> conv => cbv
    · obtain ⟨b1, b2, b3⟩ := okF_spec h1
      have bk : ∀ k ∈ kinds, 1 ≤ k := fun k hk => (b2 k hk).1
      have bt : ∀ (i : Nat), ∀ k ∈ (kinds.take i).reverse, 1 ≤ k := fun i k hk => bk k (List.mem_of_mem_take (List.mem_reverse.1 hk))
      have bl : ∀ (i : Nat), (kinds.take i).reverse.length ≤ 6 := fun i => by rw [List.length_reverse, List.length_take]; omega
      refine r_addf m.sX (by omega) (by omega) fun r1 hr1 => ?_
      conv => cbv
      refine r_make cInt 0 m.sX rfl (by omega) (by omega) (by dsimp only; omega) (by omega) fun ways hways => ?_   -- ways = replicate r1
      have lways : (ways.length : Int) = r1 := by rw [hways]; first | done | (simp; done) | (simp; omega)
      conv => cbv
      refine r_oindex m.sX (by omega) (by omega) ?_
      conv => cbv
      obtain ⟨y1, hy1⟩ := get_ex (xs := ways) (i := Int.toNat 0) (by omega)
      refine r_ostore (l := Int.toNat 0) 1 m.sX hy1 (Nat.le_of_ble_eq_true rfl) rfl fun zs1 hzs1 => ?_   -- zs1 = ways.set 0 1
      have lzs1 : (zs1.length : Int) = ways.length := by rw [hzs1]; first | done | (simp; done) | (simp; omega)
      have e1 : zs1 = rowW [] n := by rw [hzs1, hways, show Int.toNat r1 = Int.toNat n + 1 by omega]; exact rowW_first b3.1
      conv => cbv
      refine r_lenR m.sX fun n1 hn1 mn1 => ?_
      conv => cbv
      refine r_loopF (α := List Int × Int) m 48 [1, 19, 20, 21] [⟨6, 49, 3, 1, 0⟩] (fun σ => [(1, .int .i64 n), (6, .osl 49 0), (19, .isl 1 (rows cInt kinds)), (20, .int .i64 n1), (21, .int .i64 σ.2)]) (fun σ => [(49, 0, .row 3 1 (rows cInt σ.1))])
        (fun σ => (0 ≤ σ.2) ∧ (σ.2 ≤ n1) ∧ (σ.1 = rowW (kinds.take σ.2.toNat).reverse n)) (fun σ => (n1 - σ.2).toNat) (zs1, 0) ?_ ?_ ?_ ?_
      · cbv
      · cbv
      · exact ⟨(by (try dsimp only); first | omega | (simp only [List.length_nil]; omega)), (by (try dsimp only); first | omega | (simp only [List.length_nil]; omega)), (by (try dsimp only) <;> (exact e1))⟩
      rintro ⟨ways_2, i1⟩ ⟨lo1, hi1, q⟩ E hE F hF
      dsimp only at lo1 hi1 q
      have l1 : (ways_2.length : Int) = n + 1 := by rw [q, rowW_length]; omega
      conv => cbv
      refine r_lss m.sX (fun h2 => ?_) (fun h2 => ?_) <;> conv => cbv
      · refine r_index m.sX (by omega) (by omega) fun width hwidth => ?_
        conv => cbv
        have mwidth := get_mem hwidth
        have dwidth := drop_cons hwidth
        have kwidth := take_snoc hwidth
        have jwidth : (i1 + 1).toNat = Int.toNat i1 + 1 := by omega
        have vwidth := nth_some hwidth
        have bw := b2 _ mwidth
        refine r_loopF (α := List Int × Int) m 48 [1, 8, 9, 19, 20, 21] [⟨6, 49, 3, 1, 0⟩] (fun σ => [(1, .int .i64 n), (6, .osl 49 0), (8, .int .i64 width), (9, .int .i64 σ.2), (19, .isl 1 (rows cInt kinds)), (20, .int .i64 n1), (21, .int .i64 i1)]) (fun σ => [(49, 0, .row 3 1 (rows cInt σ.1))])
          (fun σ => (width ≤ σ.2) ∧ (σ.1 = mixW width (kinds.take (Int.toNat i1)).reverse σ.2 n)) (fun σ => (n + 1 - σ.2).toNat) (ways_2, width) ?_ ?_ ?_ ?_
        · cbv
        · cbv
        · exact ⟨(by (try dsimp only) <;> first | omega | rfl | (simp [*]; done)), (by (try dsimp only) <;> (rw [q]; exact mixW_first _ _ _))⟩
        rintro ⟨ways_3, k⟩ ⟨k1, q2⟩ E2 hE2 F2 hF2
        dsimp only at k1 q2
        have l2 : (ways_3.length : Int) = n + 1 := by rw [q2, mixW_length]; omega
        conv => cbv
        refine r_leq m.sX (fun h3 => ?_) (fun h3 => ?_) <;> conv => cbv
        · refine r_draw m (by kernel_rfl) ?_
          conv => cbv
          refine r_oindex m.sY (by omega) (by omega) ?_
          conv => cbv
          obtain ⟨x1, hx1⟩ := get_ex (xs := ways_3) (i := Int.toNat k) (by omega)
          have mx1 := get_mem hx1
          have vx1 := nth_some hx1
          have e1 : x1 = wayW (kinds.take (Int.toNat i1)).reverse k := by rw [← vx1, q2, mixW_nth (by omega), if_neg (by omega), Int.toNat_of_nonneg (by omega)]
          have s1 := way_small (bt (Int.toNat i1)) (bl _) (n := k) (by omega) (by omega)
          refine r_oload m.sY hx1 (Nat.le_of_ble_eq_true rfl) ?_
          conv => cbv
          refine r_subf m.sY (by omega) (by omega) fun r2 hr2 => ?_
          conv => cbv
          refine r_oindex m.sY (by omega) (by omega) ?_
          conv => cbv
          obtain ⟨x2, hx2⟩ := get_ex (xs := ways_3) (i := Int.toNat r2) (by omega)
          have mx2 := get_mem hx2
          have vx2 := nth_some hx2
          have e2 : x2 = wayW (width :: (kinds.take (Int.toNat i1)).reverse) (k - width) := by rw [← vx2, q2, mixW_nth (by omega), if_pos (by omega), Int.toNat_of_nonneg (by omega), hr2]
          have s2 := way_small (r := width :: (kinds.take (Int.toNat i1)).reverse) (by rw [← take_rev hwidth]; exact bt _) (by rw [← take_rev hwidth]; exact bl _) (n := k - width) (by omega) (by omega)
          refine r_oload m.sY hx2 (Nat.le_of_ble_eq_true rfl) ?_
          conv => cbv
          refine r_addf m.sY (by omega) (by omega) fun r3 hr3 => ?_
          conv => cbv
          refine r_oindex m.sY (by omega) (by omega) ?_
          conv => cbv
          obtain ⟨y2, hy2⟩ := get_ex (xs := ways_3) (i := Int.toNat k) (by omega)
          refine r_ostore (l := Int.toNat k) r3 m.sY hy2 (Nat.le_of_ble_eq_true rfl) rfl fun ways_4 hways_4 => ?_   -- ways_4 = ways_3.set k r3
          have lways_4 : (ways_4.length : Int) = ways_3.length := by rw [hways_4]; first | done | (simp; done) | (simp; omega)
          conv => cbv
          refine r_addf m.sX (by omega) (by omega) fun k_2 hk_2 => ?_
          conv => cbv
          refine hE2 _ (ways_4, k_2) ?_ ?_ ⟨(by (try dsimp only) <;> first | omega | rfl | (simp [*]; done) | (rw [k1]; simp [*]; done)), (by (try dsimp only) <;> (rw [hways_4, q2, hk_2]; exact mixW_set (by omega) (by omega) (by rw [hr3, e1, e2]; exact (wayW_high bw.1 k1).symm)))⟩ (by first | omega | (dsimp only; omega))
          · cbv
          · cbv
        · refine hF2 _ _ ?_
          conv => cbv
          refine r_addf m.sX (by omega) (by omega) fun r4 hr4 => ?_
          conv => cbv
          have tr4 : Int.toNat r4 = Int.toNat i1 + 1 := by omega
          refine hE _ (ways_3, r4) ?_ ?_ ⟨(by (try dsimp only); first | omega | (simp only [List.length_nil]; omega)), (by (try dsimp only); first | omega | (simp only [List.length_nil]; omega)), (by (try dsimp only) <;> (rw [q2, tr4, take_rev hwidth]; exact mixW_last _ (by omega)))⟩ (by first | omega | (dsimp only; omega))
          · cbv
          · cbv
      · have dz_i1 := drop_end (xs := kinds) (i := Int.toNat i1) (by omega)
        have tz_i1 := take_end (xs := kinds) (i := Int.toNat i1) (by omega)
        refine hF _ _ ?_
        conv => cbv
        refine r_oindex m.sX (by omega) (by omega) ?_
        conv => cbv
        obtain ⟨x3, hx3⟩ := get_ex (xs := ways_2) (i := Int.toNat n) (by omega)
        have mx3 := get_mem hx3
        have vx3 := nth_some hx3
        have e3 : x3 = wayW kinds.reverse n := by rw [← vx3, q, rowW_nth (by omega), Int.toNat_of_nonneg b3.1, show Int.toNat i1 = kinds.length by omega, List.take_length]
        refine r_oload m.sX hx3 (Nat.le_of_ble_eq_true rfl) ?_
        conv => cbv
        exact hQ (.tup [.int .i64 x3, .bool true]) (Eq.trans (by first | rfl | (simp only [lb, lbI, rows_cons, rows_nil, unnilT, unnil, unnilTI, unnilI]; done) | (simp only [lb, lbI, rows_cons, rows_nil, unnilT, unnil, unnilTI, unnilI]; rfl)) (congrArg (ib) (show (x3, true) = waysF kinds n from by rw [waysF, h1, e3]; rfl)))   -- leaf 1
    · exact hQ (.tup [.int .i64 0, .bool false]) (Eq.trans (by first | rfl | (simp only [lb, lbI, rows_cons, rows_nil, unnilT, unnil, unnilTI, unnilI]; done) | (simp only [lb, lbI, rows_cons, rows_nil, unnilT, unnil, unnilTI, unnilI]; rfl)) (congrArg (ib) (show (0, false) = waysF kinds n from by rw [waysF, h1]; rfl)))   -- leaf 2

theorem NearestFill_ok (kinds : List Int) (n : Int)  : OkA Try.prog 35 [.isl 1 (rows cInt kinds), .int .i64 n] (· = ib (nearF kinds n)) :=
  fn_intro envOk fieldsOk mixed Try.func35 rfl fun κ X Y L Q m hQ => by
    conv => cbv
    refine r_callB m.sX (isFill_ok kinds n) (fun h1 => ?_) (fun h1 => ?_) <;> conv => cbv
    · obtain ⟨b1, b2, b3⟩ := okF_spec h1
      have bk : ∀ k ∈ kinds, 1 ≤ k := fun k hk => (b2 k hk).1
      refine r_callF (fun l => PV.fr _ _ (rows _ l)) m.sX (plenty_ok kinds (by first | rfl | assumption | omega | (simp only [List.length_append, List.length_cons, List.length_nil] at *; omega))) fun v1 hv1 => ?_
      conv => cbv
      have bs : ∀ k ∈ v1, 0 ≤ k ∧ k ≤ 10000 := fun k hk => by rw [hv1] at hk; have := (List.mem_replicate.1 hk).2; omega
      have bl : v1.length = kinds.length := by rw [hv1]; simp
      have bk2 : ∀ k ∈ kinds, 1 ≤ k ∧ k ≤ 10000 := fun k hk => by have := b2 k hk; omega
      have ep : pre kinds v1 kinds.length = prF kinds := by rw [hv1]; rfl
      refine .inr (r_pcallF (fun l => PV.fr _ _ (rows _ l)) m.sX (fewest_ok kinds v1 n (by first | rfl | assumption | omega | (simp only [List.length_append, List.length_cons, List.length_nil] at *; omega)) (by first | rfl | assumption | omega | (simp only [List.length_append, List.length_cons, List.length_nil] at *; omega)) (by first | rfl | assumption | omega | (simp only [List.length_append, List.length_cons, List.length_nil] at *; omega)) (by first | rfl | assumption | omega | (simp only [List.length_append, List.length_cons, List.length_nil] at *; omega)) (by first | rfl | assumption | omega | (simp only [List.length_append, List.length_cons, List.length_nil] at *; omega))) fun v2 hv2 => ?_)
      conv => cbv
      have l2 : (v2.length : Int) = kinds.length + 1 := by rw [hv2, tabC]; simp
      refine r_lenR m.sX fun n1 hn1 mn1 => ?_
      conv => cbv
      refine r_oindex m.sX (by omega) (by omega) ?_
      conv => cbv
      obtain ⟨row, hrow⟩ := get_ex (xs := v2) (i := Int.toNat n1) (by omega)
      have mrow := get_mem hrow
      have ex1 : row = rowC (prF kinds) n := by rw [hv2, show Int.toNat n1 = kinds.length by omega] at hrow; rw [← ep]; exact (Option.some.inj ((tabC_get (by omega)).symm.trans hrow)).symm
      have l1 : (row.length : Int) = n + 1 := by rw [ex1, rowC_length]; omega
      refine r_oload m.sX hrow (Nat.le_of_ble_eq_true rfl) ?_
      conv => cbv
      refine r_loopF (α := Int) m 28 [1, 6] [] (fun σ => [(1, .int .i64 σ), (6, .isl 1 (rows cInt row))]) (fun σ => [])
        (fun σ => (0 ≤ σ ∧ σ ≤ n) ∧ (∀ j, σ < j → j ≤ n → fewC (prF kinds) j < 0)) (fun σ => σ.toNat) n ?_ ?_ ?_ ?_
      · cbv
      · cbv
      · exact ⟨(by (try dsimp only) <;> first | omega | rfl | (simp [*]; done)), (by (try dsimp only) <;> (intro j a b; omega))⟩
      rintro n_2 ⟨nb, no⟩ E hE F hF
      conv => cbv
      refine r_index m.sX (by omega) (by omega) fun x1 hx1 => ?_
      conv => cbv
      have mx1 := get_mem hx1
      have vx1 := nth_some hx1
      have e1 : x1 = fewC (prF kinds) n_2 := by rw [← vx1, ex1, rowC_nth (by omega), Int.toNat_of_nonneg nb.1]
      have z1 : n_2 = 0 → x1 = 0 := fun e => by rw [e1, e, fewC_prF bk (by omega), fewP_zero bk]
      refine r_lss m.sX (fun h2 => ?_) (fun h2 => ?_) <;> conv => cbv
      · refine r_subf m.sX (by omega) (by omega) fun n_3 hn_3 => ?_
        conv => cbv
        refine hE _ n_3 ?_ ?_ ⟨(by (try dsimp only) <;> first | omega | rfl | (simp [*]; done) | (rw [nb]; simp [*]; done)), (by (try dsimp only) <;> (intro j a b; rcases Int.lt_or_le n_2 j with h | h; exact no j h b; rw [show j = n_2 by omega]; omega))⟩ (by first | omega | (dsimp only; omega))
        · cbv
        · cbv
      · refine hF _ _ ?_
        conv => cbv
        exact hQ (.tup [.int .i64 n_2, .bool true]) (Eq.trans (by first | rfl | (simp only [lb, lbI, rows_cons, rows_nil, unnilT, unnil, unnilTI, unnilI]; done) | (simp only [lb, lbI, rows_cons, rows_nil, unnilT, unnil, unnilTI, unnilI]; rfl)) (congrArg (ib) (show (n_2, true) = nearF kinds n from by rw [nearF, h1]; exact Prod.ext (down_eq (p := fun m => decide (0 ≤ fewC (prF kinds) m)) nb.1 (by omega) (.inl (decide_eq_true (by omega))) fun j a b => decide_eq_false (by have := no j a (by omega); omega)).symm rfl)))   -- leaf 1
    · exact hQ (.tup [.int .i64 0, .bool false]) (Eq.trans (by first | rfl | (simp only [lb, lbI, rows_cons, rows_nil, unnilT, unnil, unnilTI, unnilI]; done) | (simp only [lb, lbI, rows_cons, rows_nil, unnilT, unnil, unnilTI, unnilI]; rfl)) (congrArg (ib) (show (0, false) = nearF kinds n from by rw [nearF, h1]; rfl)))   -- leaf 2

theorem wsKinds_ok (kinds : List Int)  : OkA Try.prog 201 [.isl 1 (rows cInt kinds)] (· = .bool (okK kinds)) :=
  fn_intro envOk fieldsOk mixed Try.func201 rfl fun κ X Y L Q m hQ => by
    conv => cbv
    refine r_lenR m.sX fun n1 hn1 mn1 => ?_
    conv => cbv
    refine r_callB m.sX (l1In_ok n1 1 6) (fun h1 => ?_) (fun h1 => ?_) <;> conv => cbv
    · refine r_callB m.sX (l1Rising_ok kinds 1 54) (fun h2 => ?_) (fun h2 => ?_) <;> conv => cbv
      · exact hQ _ (congrArg PV.bool (by first | rfl | omega | (simp [okK, *]; done) | (subst_vars; simp [okK, *]; done)))   -- leaf 1
      · exact hQ _ (congrArg PV.bool (by first | rfl | omega | (simp [okK, *]; done) | (subst_vars; simp [okK, *]; done)))   -- leaf 2
    · exact hQ _ (congrArg PV.bool (by first | rfl | omega | (simp [okK, *]; done) | (subst_vars; simp [okK, *]; done)))   -- leaf 3

theorem wsAsked_ok (kinds : List Int) (n : Int)  : OkA Try.prog 195 [.isl 1 (rows cInt kinds), .int .i64 n] (· = .bool (okF kinds n)) :=
  fn_intro envOk fieldsOk mixed Try.func195 rfl fun κ X Y L Q m hQ => by
    conv => cbv
    refine r_callB m.sX (wsKinds_ok kinds) (fun h1 => ?_) (fun h1 => ?_) <;> conv => cbv
    · refine r_callB m.sX (l1In_ok n 0 400) (fun h2 => ?_) (fun h2 => ?_) <;> conv => cbv
      · exact hQ _ (congrArg PV.bool (by first | rfl | omega | (simp [okF, *]; done) | (subst_vars; simp [okF, *]; done)))   -- leaf 1
      · exact hQ _ (congrArg PV.bool (by first | rfl | omega | (simp [okF, *]; done) | (subst_vars; simp [okF, *]; done)))   -- leaf 2
    · exact hQ _ (congrArg PV.bool (by first | rfl | omega | (simp [okF, *]; done) | (subst_vars; simp [okF, *]; done)))   -- leaf 3

theorem wsFew_ok (kinds : List Int) (n : Int) (hks : ∀ k ∈ kinds, 1 ≤ k ∧ k ≤ 54) (hn : 0 ≤ n ∧ n ≤ 400) (hl : kinds.length ≤ 1000) : OkA Try.prog 196 [.isl 1 (rows cInt kinds), .int .i64 n] (· = .fr 3 1 (rows cInt (rowP kinds n))) :=
  OkA.unnil 3 1 (fn_intro envOk fieldsOk mixed Try.func196 rfl fun κ X Y L Q m hQ => by
    have bk : ∀ k ∈ kinds, 1 ≤ k := fun k hm => (hks k hm).1
    conv => cbv
    refine r_addf m.sX (by omega) (by omega) fun r1 hr1 => ?_
    conv => cbv
    refine r_make cInt 0 m.sX rfl (by omega) (by omega) (by dsimp only; omega) (by omega) fun out hout => ?_   -- out = replicate r1
    have lout : (out.length : Int) = r1 := by rw [hout]; first | done | (simp; done) | (simp; omega)
    conv => cbv
    refine r_loopF (α := List Int × Int) m 71 [0, 1, 6] [⟨5, 41, 3, 1, 0⟩] (fun σ => [(0, .isl 1 (rows cInt kinds)), (1, .int .i64 n), (5, .osl 41 0), (6, .int .i64 σ.2)]) (fun σ => [(41, 0, .row 3 1 (rows cInt σ.1))])
      (fun σ => (1 ≤ σ.2 ∧ σ.2 ≤ n + 1) ∧ (σ.1 = rowP kinds (σ.2 - 1) ++ List.replicate (n + 1 - σ.2).toNat 0)) (fun σ => (n + 1 - σ.2).toNat) (out, 1) ?_ ?_ ?_ ?_
    · cbv
    · cbv
    · exact ⟨(by (try dsimp only) <;> first | omega | rfl | (simp [*]; done)), (by (try dsimp only) <;> (rw [hout, show Int.toNat r1 = Int.toNat n + 1 by omega, List.replicate_succ, show n + 1 - 1 = n by omega]; exact rowP_first bk _))⟩
    rintro ⟨out_2, x⟩ ⟨k1, q⟩ E hE F hF
    dsimp only at k1 q
    have l1 : (out_2.length : Int) = n + 1 := by rw [q]; simp only [List.length_append, rowP_length, List.length_replicate]; omega
    conv => cbv
    refine r_leq m.sX (fun h1 => ?_) (fun h1 => ?_) <;> conv => cbv
    · refine r_oindex m.sX (by omega) (by omega) ?_
      conv => cbv
      obtain ⟨y1, hy1⟩ := get_ex (xs := out_2) (i := Int.toNat x) (by omega)
      refine r_ostore (l := Int.toNat x) (-1) m.sX hy1 (Nat.le_of_ble_eq_true rfl) rfl fun out_3 hout_3 => ?_   -- out_3 = out_2.set x -1
      have lout_3 : (out_3.length : Int) = out_2.length := by rw [hout_3]; first | done | (simp; done) | (simp; omega)
      have e3 : out_3 = rowP kinds (x - 1) ++ -1 :: List.replicate (n - x).toNat 0 := by rw [hout_3, q]; exact rowP_mid (by omega) (by omega)
      have n3 : nth out_3 (Int.toNat x) = -1 := by rw [e3]; exact nth_mid (by rw [rowP_length]; omega)
      conv => cbv
      refine r_lenR m.sX fun n1 hn1 mn1 => ?_
      conv => cbv
      refine r_loopF (α := List Int × Int) m 71 [0, 1, 6, 20, 21, 22] [⟨5, 41, 3, 1, 0⟩] (fun σ => [(0, .isl 1 (rows cInt kinds)), (1, .int .i64 n), (5, .osl 41 0), (6, .int .i64 x), (20, .isl 1 (rows cInt kinds)), (21, .int .i64 n1), (22, .int .i64 σ.2)]) (fun σ => [(41, 0, .row 3 1 (rows cInt σ.1))])
        (fun σ => (0 ≤ σ.2) ∧ (σ.2 ≤ n1) ∧ (σ.1 = rowP kinds (x - 1) ++ nth σ.1 (Int.toNat x) :: List.replicate (n - x).toNat 0) ∧ (IsMin (Last kinds (kinds.take σ.2.toNat) x) (nth σ.1 (Int.toNat x)))) (fun σ => (n1 - σ.2).toNat) (out_3, 0) ?_ ?_ ?_ ?_
      · cbv
      · cbv
      · exact ⟨(by (try dsimp only); first | omega | (simp only [List.length_nil]; omega)), (by (try dsimp only); first | omega | (simp only [List.length_nil]; omega)), (by (try dsimp only) <;> (rw [n3]; exact e3)), (by (try dsimp only) <;> (rw [n3]; exact last_nil _ _))⟩
      rintro ⟨out_4, i1⟩ ⟨lo2, hi2, e, c⟩ E2 hE2 F2 hF2
      dsimp only at lo2 hi2 e c
      have l4 : (out_4.length : Int) = n + 1 := by rw [e]; simp only [List.length_append, rowP_length, List.length_cons, List.length_replicate]; omega
      have cb := c.ge
      conv => cbv
      refine r_lss m.sX (fun h2 => ?_) (fun h2 => ?_) <;> conv => cbv
      · refine r_index m.sX (by omega) (by omega) fun k hk => ?_
        conv => cbv
        have mk := get_mem hk
        have dk := drop_cons hk
        have kk := take_snoc hk
        have jk : (i1 + 1).toNat = Int.toNat i1 + 1 := by omega
        have vk := nth_some hk
        have bq := hks _ mk
        have bf := fewP_bound bk (n := x - k)
        have low : ∀ (j : Nat), (j : Int) < x → nth out_4 j = fewP kinds j := fun j hj => by rw [e, nth_left (by rw [rowP_length]; omega), rowP_nth (by omega)]
        refine r_draw m (by kernel_rfl) ?_
        conv => cbv
        refine r_leq m.sY (fun h3 => ?_) (fun h3 => ?_) <;> conv => cbv
        · refine r_subf m.sY (by omega) (by omega) fun r2 hr2 => ?_
          conv => cbv
          refine r_oindex m.sY (by omega) (by omega) ?_
          conv => cbv
          obtain ⟨x1, hx1⟩ := get_ex (xs := out_4) (i := Int.toNat r2) (by omega)
          have mx1 := get_mem hx1
          have vx1 := nth_some hx1
          have e1 : x1 = fewP kinds (x - k) := by rw [← vx1, low _ (by omega), Int.toNat_of_nonneg (by omega), hr2]
          refine r_oload m.sY hx1 (Nat.le_of_ble_eq_true rfl) ?_
          conv => cbv
          refine r_geq m.sY (fun h4 => ?_) (fun h4 => ?_) <;> conv => cbv
          · refine r_oindex m.sY (by omega) (by omega) ?_
            conv => cbv
            obtain ⟨x2, hx2⟩ := get_ex (xs := out_4) (i := Int.toNat x) (by omega)
            have mx2 := get_mem hx2
            have vx2 := nth_some hx2
            refine r_oload m.sY hx2 (Nat.le_of_ble_eq_true rfl) ?_
            conv => cbv
            refine r_lss m.sY (fun h5 => ?_) (fun h5 => ?_) <;> conv => cbv
            · refine r_subf m.sX (by omega) (by omega) fun r3 hr3 => ?_
              conv => cbv
              refine r_oindex m.sX (by omega) (by omega) ?_
              conv => cbv
              obtain ⟨x3, hx3⟩ := get_ex (xs := out_4) (i := Int.toNat r3) (by omega)
              have mx3 := get_mem hx3
              have vx3 := nth_some hx3
              have e1' : x3 = fewP kinds (x - k) := by rw [← vx3, low _ (by omega), Int.toNat_of_nonneg (by omega), hr3]
              refine r_oload m.sX hx3 (Nat.le_of_ble_eq_true rfl) ?_
              conv => cbv
              refine r_addf m.sX (by omega) (by omega) fun r4 hr4 => ?_
              conv => cbv
              refine r_oindex m.sX (by omega) (by omega) ?_
              conv => cbv
              obtain ⟨y2, hy2⟩ := get_ex (xs := out_4) (i := Int.toNat x) (by omega)
              refine r_ostore (l := Int.toNat x) r4 m.sX hy2 (Nat.le_of_ble_eq_true rfl) rfl fun out_5 hout_5 => ?_   -- out_5 = out_4.set x r4
              have lout_5 : (out_5.length : Int) = out_4.length := by rw [hout_5]; first | done | (simp; done) | (simp; omega)
              have e5 : out_5 = rowP kinds (x - 1) ++ r4 :: List.replicate (n - x).toNat 0 := by rw [hout_5]; exact (congrArg (fun z => List.set z (Int.toNat x) r4) e).trans (set_mid (by rw [rowP_length]; omega))
              have n5 : nth out_5 (Int.toNat x) = r4 := by rw [e5]; exact nth_mid (by rw [rowP_length]; omega)
              conv => cbv
              refine r_addf m.sX (by omega) (by omega) fun r5 hr5 => ?_
              conv => cbv
              have tr5 : Int.toNat r5 = Int.toNat i1 + 1 := by omega
              refine hE2 _ (out_5, r5) ?_ ?_ ⟨(by (try dsimp only); first | omega | (simp only [List.length_nil]; omega)), (by (try dsimp only); first | omega | (simp only [List.length_nil]; omega)), (by (try dsimp only) <;> (first | exact e | (rw [n5]; exact e5))), (by (try dsimp only) <;> (rw [tr5, kk]; first | exact last_skip c (by omega) | (have ct := last_take c (show 0 ≤ fewP kinds (x - k) by omega); first | (rw [if_pos (by omega)] at ct; rw [n5]; refine cast ?_ ct; congr 1; omega) | (rw [if_neg (by omega)] at ct; exact ct))))⟩ (by first | omega | (dsimp only; omega))
              · cbv
              · cbv
            · refine r_subf m.sY (by omega) (by omega) fun r6 hr6 => ?_
              conv => cbv
              refine r_oindex m.sY (by omega) (by omega) ?_
              conv => cbv
              obtain ⟨x4, hx4⟩ := get_ex (xs := out_4) (i := Int.toNat r6) (by omega)
              have mx4 := get_mem hx4
              have vx4 := nth_some hx4
              have e1' : x4 = fewP kinds (x - k) := by rw [← vx4, low _ (by omega), Int.toNat_of_nonneg (by omega), hr6]
              refine r_oload m.sY hx4 (Nat.le_of_ble_eq_true rfl) ?_
              conv => cbv
              refine r_addf m.sY (by omega) (by omega) fun r7 hr7 => ?_
              conv => cbv
              refine r_oindex m.sY (by omega) (by omega) ?_
              conv => cbv
              obtain ⟨x5, hx5⟩ := get_ex (xs := out_4) (i := Int.toNat x) (by omega)
              have mx5 := get_mem hx5
              have vx5 := nth_some hx5
              refine r_oload m.sY hx5 (Nat.le_of_ble_eq_true rfl) ?_
              conv => cbv
              refine r_lss m.sY (fun h6 => ?_) (fun h6 => ?_) <;> conv => cbv
              · refine r_subf m.sX (by omega) (by omega) fun r8 hr8 => ?_
                conv => cbv
                refine r_oindex m.sX (by omega) (by omega) ?_
                conv => cbv
                obtain ⟨x6, hx6⟩ := get_ex (xs := out_4) (i := Int.toNat r8) (by omega)
                have mx6 := get_mem hx6
                have vx6 := nth_some hx6
                have e1'' : x6 = fewP kinds (x - k) := by rw [← vx6, low _ (by omega), Int.toNat_of_nonneg (by omega), hr8]
                refine r_oload m.sX hx6 (Nat.le_of_ble_eq_true rfl) ?_
                conv => cbv
                refine r_addf m.sX (by omega) (by omega) fun r9 hr9 => ?_
                conv => cbv
                refine r_oindex m.sX (by omega) (by omega) ?_
                conv => cbv
                obtain ⟨y3, hy3⟩ := get_ex (xs := out_4) (i := Int.toNat x) (by omega)
                refine r_ostore (l := Int.toNat x) r9 m.sX hy3 (Nat.le_of_ble_eq_true rfl) rfl fun out_6 hout_6 => ?_   -- out_6 = out_4.set x r9
                have lout_6 : (out_6.length : Int) = out_4.length := by rw [hout_6]; first | done | (simp; done) | (simp; omega)
                have e5 : out_6 = rowP kinds (x - 1) ++ r9 :: List.replicate (n - x).toNat 0 := by rw [hout_6]; exact (congrArg (fun z => List.set z (Int.toNat x) r9) e).trans (set_mid (by rw [rowP_length]; omega))
                have n5 : nth out_6 (Int.toNat x) = r9 := by rw [e5]; exact nth_mid (by rw [rowP_length]; omega)
                conv => cbv
                refine r_addf m.sX (by omega) (by omega) fun r10 hr10 => ?_
                conv => cbv
                have tr10 : Int.toNat r10 = Int.toNat i1 + 1 := by omega
                refine hE2 _ (out_6, r10) ?_ ?_ ⟨(by (try dsimp only); first | omega | (simp only [List.length_nil]; omega)), (by (try dsimp only); first | omega | (simp only [List.length_nil]; omega)), (by (try dsimp only) <;> (first | exact e | (rw [n5]; exact e5))), (by (try dsimp only) <;> (rw [tr10, kk]; first | exact last_skip c (by omega) | (have ct := last_take c (show 0 ≤ fewP kinds (x - k) by omega); first | (rw [if_pos (by omega)] at ct; rw [n5]; refine cast ?_ ct; congr 1; omega) | (rw [if_neg (by omega)] at ct; exact ct))))⟩ (by first | omega | (dsimp only; omega))
                · cbv
                · cbv
              · refine r_addf m.sX (by omega) (by omega) fun r11 hr11 => ?_
                conv => cbv
                have tr11 : Int.toNat r11 = Int.toNat i1 + 1 := by omega
                refine hE2 _ (out_4, r11) ?_ ?_ ⟨(by (try dsimp only); first | omega | (simp only [List.length_nil]; omega)), (by (try dsimp only); first | omega | (simp only [List.length_nil]; omega)), (by (try dsimp only) <;> (first | exact e | (rw [n5]; exact e5))), (by (try dsimp only) <;> (rw [tr11, kk]; first | exact last_skip c (by omega) | (have ct := last_take c (show 0 ≤ fewP kinds (x - k) by omega); first | (rw [if_pos (by omega)] at ct; rw [n5]; refine cast ?_ ct; congr 1; omega) | (rw [if_neg (by omega)] at ct; exact ct))))⟩ (by first | omega | (dsimp only; omega))
                · cbv
                · cbv
          · refine r_addf m.sX (by omega) (by omega) fun r12 hr12 => ?_
            conv => cbv
            have tr12 : Int.toNat r12 = Int.toNat i1 + 1 := by omega
            refine hE2 _ (out_4, r12) ?_ ?_ ⟨(by (try dsimp only); first | omega | (simp only [List.length_nil]; omega)), (by (try dsimp only); first | omega | (simp only [List.length_nil]; omega)), (by (try dsimp only) <;> (first | exact e | (rw [n5]; exact e5))), (by (try dsimp only) <;> (rw [tr12, kk]; first | exact last_skip c (by omega) | (have ct := last_take c (show 0 ≤ fewP kinds (x - k) by omega); first | (rw [if_pos (by omega)] at ct; rw [n5]; refine cast ?_ ct; congr 1; omega) | (rw [if_neg (by omega)] at ct; exact ct))))⟩ (by first | omega | (dsimp only; omega))
            · cbv
            · cbv
        · have ng : fewP kinds (x - k) = -1 := fewP_neg bk (by omega)
          refine r_addf m.sX (by omega) (by omega) fun r13 hr13 => ?_
          conv => cbv
          have tr13 : Int.toNat r13 = Int.toNat i1 + 1 := by omega
          refine hE2 _ (out_4, r13) ?_ ?_ ⟨(by (try dsimp only); first | omega | (simp only [List.length_nil]; omega)), (by (try dsimp only); first | omega | (simp only [List.length_nil]; omega)), (by (try dsimp only) <;> (first | exact e | (rw [n5]; exact e5))), (by (try dsimp only) <;> (rw [tr13, kk]; first | exact last_skip c (by omega) | (have ct := last_take c (show 0 ≤ fewP kinds (x - k) by omega); first | (rw [if_pos (by omega)] at ct; rw [n5]; refine cast ?_ ct; congr 1; omega) | (rw [if_neg (by omega)] at ct; exact ct))))⟩ (by first | omega | (dsimp only; omega))
          · cbv
          · cbv
      · have dz_i1 := drop_end (xs := kinds) (i := Int.toNat i1) (by omega)
        have tz_i1 := take_end (xs := kinds) (i := Int.toNat i1) (by omega)
        refine hF2 _ _ ?_
        conv => cbv
        refine r_addf m.sX (by omega) (by omega) fun x_2 hx_2 => ?_
        conv => cbv
        refine hE _ (out_4, x_2) ?_ ?_ ⟨(by (try dsimp only) <;> first | omega | rfl | (simp [*]; done) | (rw [k1]; simp [*]; done)), (by (try dsimp only) <;> (rw [show n + 1 - x_2 = n - x by omega]; exact e.trans (rowP_next (by omega) hx_2 (fewP_last bk k1.1 (by rw [tz_i1] at c; exact c)))))⟩ (by first | omega | (dsimp only; omega))
        · cbv
        · cbv
    · refine hF _ _ ?_
      conv => cbv
      exact hQ (.fr 3 1 (rows cInt out_2)) (Eq.trans (by first | rfl | (simp only [lb, lbI, rows_cons, rows_nil, unnilT, unnil, unnilTI, unnilI]; done) | (simp only [lb, lbI, rows_cons, rows_nil, unnilT, unnil, unnilTI, unnilI]; rfl)) (congrArg (fun l => PV.fr 3 1 (rows cInt l)) (show out_2 = rowP kinds n from by rw [q, show x = n + 1 by omega, show n + 1 - 1 = n by omega, show Int.toNat (n + 1 - (n + 1)) = 0 by omega]; simp))))   -- leaf 1

theorem specFewestSpaces_ok (kinds : List Int) (n : Int)  : OkA Try.prog 28 [.isl 1 (rows cInt kinds), .int .i64 n] (· = (lb 3 1 cInt) (fillF kinds n)) :=
  OkA.unnil 3 1 (fn_intro envOk fieldsOk mixed Try.func28 rfl fun κ X Y L Q m hQ => by
    conv => cbv
    refine r_callB m.sX (wsAsked_ok kinds n) (fun h1 => ?_) (fun h1 => ?_) <;> conv => cbv
    · obtain ⟨b1, b2, b3⟩ := okF_spec h1
      have bk : ∀ k ∈ kinds, 1 ≤ k := fun k hk => (b2 k hk).1
      have ef := fewC_prF bk b3.2
      refine r_callF (fun l => PV.fr _ _ (rows _ l)) m.sX (wsFew_ok kinds n (by first | rfl | assumption | omega | (simp only [List.length_append, List.length_cons, List.length_nil] at *; omega)) (by first | rfl | assumption | omega | (simp only [List.length_append, List.length_cons, List.length_nil] at *; omega)) (by first | rfl | assumption | omega | (simp only [List.length_append, List.length_cons, List.length_nil] at *; omega))) fun v1 hv1 => ?_
      conv => cbv
      have l1 : (v1.length : Int) = n + 1 := by rw [hv1, rowP_length]; omega
      have lv : ∀ (j : Nat), (j : Int) ≤ n → nth v1 j = fewP kinds j := fun j hj => by rw [hv1, rowP_nth hj]
      refine r_oindex m.sX (by omega) (by omega) ?_
      conv => cbv
      obtain ⟨x1, hx1⟩ := get_ex (xs := v1) (i := Int.toNat n) (by omega)
      have mx1 := get_mem hx1
      have vx1 := nth_some hx1
      have e1 : x1 = fewP kinds n := by rw [← vx1, lv _ (by omega), Int.toNat_of_nonneg b3.1]
      refine r_oload m.sX hx1 (Nat.le_of_ble_eq_true rfl) ?_
      conv => cbv
      refine r_lss m.sX (fun h2 => ?_) (fun h2 => ?_) <;> conv => cbv
      · exact hQ (.tup [.nil, .bool false]) (Eq.trans (by first | rfl | (simp only [lb, lbI, rows_cons, rows_nil, unnilT, unnil, unnilTI, unnilI]; done) | (simp only [lb, lbI, rows_cons, rows_nil, unnilT, unnil, unnilTI, unnilI]; rfl)) (congrArg ((lb 3 1 cInt)) (show ([], false) = fillF kinds n from by rw [fillF, h1, decide_eq_false (by omega)]; rfl)))   -- leaf 1
      · refine r_callF (fun l => PV.fr 3 1 (rows cInt l)) m.sX (wsFew_ok kinds n (by first | rfl | assumption | omega | (simp only [List.length_append, List.length_cons, List.length_nil] at *; omega)) (by first | rfl | assumption | omega | (simp only [List.length_append, List.length_cons, List.length_nil] at *; omega)) (by first | rfl | assumption | omega | (simp only [List.length_append, List.length_cons, List.length_nil] at *; omega))) fun y1 hy1 => ?_
        obtain rfl := hv1.trans hy1.symm
        clear hy1
        conv => cbv
        refine r_lenR m.sX fun n1 hn1 mn1 => ?_
        conv => cbv
        refine r_make cInt 0 m.sX rfl (by omega) (by omega) (by dsimp only; omega) (by omega) fun out hout => ?_   -- out = replicate n1
        have lout : (out.length : Int) = n1 := by rw [hout]; first | done | (simp; done) | (simp; omega)
        conv => cbv
        refine r_lenR m.sX fun n2 hn2 mn2 => ?_
        conv => cbv
        refine r_subf m.sX (by omega) (by omega) fun k hk => ?_
        conv => cbv
        refine r_loopF (α := Int × List Int × Int) m 91 [0, 1, 8] [⟨6, 49, 3, 1, 0⟩, ⟨7, 57, 3, 1, 0⟩] (fun σ => [(0, .isl 1 (rows cInt kinds)), (1, .int .i64 σ.1), (6, .osl 49 0), (7, .osl 57 0), (8, .int .i64 σ.2.2)]) (fun σ => [(49, 0, .row 3 1 (rows cInt v1)), (57, 0, .row 3 1 (rows cInt σ.2.1))])
          (fun σ => (-1 ≤ σ.2.2 ∧ σ.2.2 < kinds.length) ∧ (0 ≤ σ.1 ∧ σ.1 ≤ n) ∧ (0 ≤ fewC (pre kinds (List.replicate kinds.length 400) (σ.2.2 + 1).toNat) σ.1) ∧ (fewC (pre kinds (List.replicate kinds.length 400) (σ.2.2 + 1).toNat) σ.1 = fewP kinds σ.1) ∧ ((σ.2.1.length : Int) = kinds.length) ∧ (σ.2.1 = List.replicate (σ.2.2 + 1).toNat 0 ++ σ.2.1.drop (σ.2.2 + 1).toNat) ∧ ((cntC (prF kinds) n).reverse = (cntC (pre kinds (List.replicate kinds.length 400) (σ.2.2 + 1).toNat) σ.1).reverse ++ σ.2.1.drop (σ.2.2 + 1).toNat)) (fun σ => (σ.2.2 + 1).toNat) (n, out, k) ?_ ?_ ?_ ?_
        · cbv
        · cbv
        · exact ⟨(by (try dsimp only) <;> first | omega | rfl | (simp [*]; done)), (by (try dsimp only) <;> first | omega | rfl | (simp [*]; done)), (by (try dsimp only) <;> (rw [show Int.toNat (k + 1) = kinds.length by omega]; show 0 ≤ fewC (prF kinds) n; omega)), (by (try dsimp only) <;> (rw [show Int.toNat (k + 1) = kinds.length by omega]; exact ef)), (by (try dsimp only) <;> first | omega | rfl | (simp [*]; done)), (by (try dsimp only) <;> (rw [hout, show Int.toNat (k + 1) = kinds.length by omega, show Int.toNat n1 = kinds.length by omega]; simp)), (by (try dsimp only) <;> (rw [hout, show Int.toNat (k + 1) = kinds.length by omega, show Int.toNat n1 = kinds.length by omega]; simp [prF]))⟩
        rintro ⟨n_2, out_2, k_2⟩ ⟨k1, nb, fb, fe, ln, q1, q2⟩ E hE F hF
        dsimp only at k1 nb fb fe ln q1 q2
        conv => cbv
        refine r_geq m.sX (fun h3 => ?_) (fun h3 => ?_) <;> conv => cbv
        · have tn : Int.toNat (k_2 + 1) = Int.toNat k_2 + 1 := by omega
          refine r_index m.sX (by omega) (by omega) fun x2 hx2 => ?_
          conv => cbv
          have mx2 := get_mem hx2
          have vx2 := nth_some hx2
          have b4 := b2 _ mx2
          have hst : (List.replicate kinds.length (400 : Int))[Int.toNat k_2]? = some 400 := by rw [List.getElem?_replicate, if_pos (by omega)]
          have lk : ∀ p ∈ pre kinds (List.replicate kinds.length 400) (Int.toNat k_2), 1 ≤ p.1 := fun p hp => bk p.1 (pre_mem hp).1
          rw [tn, pre_succ hx2 hst] at fb fe
          have dv : n_2 / x2 ≤ n_2 := Int.ediv_le_self x2 nb.1
          have mn : min 400 (n_2 / x2) = n_2 / x2 := by omega
          refine r_divf m.sX (by omega) (by omega) fun most hmost bmost => ?_
          conv => cbv
          refine r_loopF (α := Int × List Int × Int) m 91 [0, 1, 8, 9] [⟨6, 49, 3, 1, 0⟩, ⟨7, 57, 3, 1, 0⟩] (fun σ => [(0, .isl 1 (rows cInt kinds)), (1, .int .i64 σ.1), (6, .osl 49 0), (7, .osl 57 0), (8, .int .i64 k_2), (9, .int .i64 σ.2.2)]) (fun σ => [(49, 0, .row 3 1 (rows cInt v1)), (57, 0, .row 3 1 (rows cInt σ.2.1))])
            (fun σ => (σ.1 = n_2) ∧ (σ.2.1 = out_2) ∧ (0 ≤ σ.2.2 ∧ σ.2.2 ≤ n_2 / x2) ∧ (∀ j, σ.2.2 < j → j ≤ n_2 / x2 → best (pre kinds (List.replicate kinds.length 400) (Int.toNat k_2)) x2 400 n_2 j = false)) (fun σ => (σ.2.2).toNat) (n_2, out_2, most) ?_ ?_ ?_ ?_
          · cbv
          · cbv
          · exact ⟨(by (try dsimp only) <;> first | omega | rfl | (simp [*]; done)), (by (try dsimp only) <;> first | omega | rfl | (simp [*]; done)), (by (try dsimp only) <;> first | omega | rfl | (simp [*]; done)), (by (try dsimp only) <;> first | omega | rfl | (simp [*]; done))⟩
          rintro ⟨n_3, out_3, most_2⟩ ⟨s1, s2, mb, no⟩ E2 hE2 F2 hF2
          dsimp only at s1 s2 mb no
          have l3 : (out_3.length : Int) = kinds.length := by rw [s2]; exact ln
          have g3 : most_2 * x2 ≤ n_2 := (Int.le_ediv_iff_mul_le (by omega)).1 mb.2
          have g4 := Int.mul_nonneg mb.1 (show 0 ≤ x2 by omega)
          conv => cbv
          refine r_gtr m.sX (fun h4 => ?_) (fun h4 => ?_) <;> conv => cbv
          · refine r_draw m (by kernel_rfl) ?_
            conv => cbv
            refine r_islice (i := 0) (j := k_2) m.sY (by omega) (by omega) (by omega) fun zs1 hzs1 => ?_   -- zs1 = kinds[None:k_2]
            have lzs1 : (zs1.length : Int) = k_2 - 0 := by rw [hzs1]; first | done | (simp; done) | (simp; omega)
            have ez : zs1 = kinds.take (Int.toNat k_2) := hzs1
            have kz : ∀ k ∈ zs1, 1 ≤ k ∧ k ≤ 54 := fun k hk => b2 k (List.mem_of_mem_take (ez ▸ hk))
            conv => cbv
            refine r_index m.sY (by omega) (by omega) fun x3 hx3 => ?_
            conv => cbv
            have mx3 := get_mem hx3
            have vx3 := nth_some hx3
            obtain rfl : x2 = x3 := Option.some.inj (hx2.symm.trans hx3)
            refine r_mulf m.sY (by omega) (by omega) fun r1 hr1 => ?_
            conv => cbv
            refine r_subf m.sY (by omega) (by omega) fun r2 hr2 => ?_
            conv => cbv
            refine r_callFS (fun l => PV.isl _ (rows _ l)) m.sY ((wsFew_ok zs1 r2 (by first | rfl | assumption | omega | (simp only [List.length_append, List.length_cons, List.length_nil] at *; omega)) (by first | rfl | assumption | omega | (simp only [List.length_append, List.length_cons, List.length_nil] at *; omega)) (by first | rfl | assumption | omega | (simp only [List.length_append, List.length_cons, List.length_nil] at *; omega))).ice) trivial fun rest hrest => ?_
            conv => cbv
            have lr : (rest.length : Int) = r2 + 1 := by rw [hrest, rowP_length]; omega
            refine r_lenR m.sX fun n3 hn3 mn3 => ?_
            conv => cbv
            refine r_subf m.sX (by omega) (by omega) fun r3 hr3 => ?_
            conv => cbv
            refine r_index m.sX (by omega) (by omega) fun left hleft => ?_
            conv => cbv
            have mleft := get_mem hleft
            have vleft := nth_some hleft
            have el : left = fewC (pre kinds (List.replicate kinds.length 400) (Int.toNat k_2)) (n_2 - most_2 * x2) := by rw [← vleft, hrest, rowP_nth (by omega), fewC_pre bk (by omega), ez]; congr 1; omega
            have rb := fewC_bound lk (n := n_2 - most_2 * x2) (by omega)
            refine r_geq m.sX (fun h5 => ?_) (fun h5 => ?_) <;> conv => cbv
            · refine r_addf m.sX (by omega) (by omega) fun r4 hr4 => ?_
              conv => cbv
              refine r_oindex m.sX (by omega) (by omega) ?_
              conv => cbv
              obtain ⟨x4, hx4⟩ := get_ex (xs := v1) (i := Int.toNat n_3) (by omega)
              have mx4 := get_mem hx4
              have vx4 := nth_some hx4
              have ex4 : x4 = fewC ((x2, 400) :: pre kinds (List.replicate kinds.length 400) (Int.toNat k_2)) n_2 := by rw [← vx4, lv _ (by omega), Int.toNat_of_nonneg (by omega), fe, s1]
              refine r_oload m.sX hx4 (Nat.le_of_ble_eq_true rfl) ?_
              conv => cbv
              refine r_eql m.sX (fun h6 => ?_) (fun h6 => ?_) <;> conv => cbv
              · have bt : best (pre kinds (List.replicate kinds.length 400) (Int.toNat k_2)) x2 400 n_2 most_2 = true := by simp only [best, Bool.and_eq_true, decide_eq_true_eq]; omega
                have dm : down (best (pre kinds (List.replicate kinds.length 400) (Int.toNat k_2)) x2 400 n_2) (min 400 (n_2 / x2)).toNat = most_2 := down_eq mb.1 (by omega) (.inl bt) fun j a b => no j a (by omega)
                refine r_oindex m.sX (by omega) (by omega) ?_
                conv => cbv
                obtain ⟨y2, hy2⟩ := get_ex (xs := out_3) (i := Int.toNat k_2) (by omega)
                refine r_ostore (l := Int.toNat k_2) most_2 m.sX hy2 (Nat.le_of_ble_eq_true rfl) rfl fun out_4 hout_4 => ?_   -- out_4 = out_3.set k_2 most_2
                have lout_4 : (out_4.length : Int) = out_3.length := by rw [hout_4]; first | done | (simp; done) | (simp; omega)
                have qq : out_2 = List.replicate (Int.toNat k_2) 0 ++ 0 :: out_2.drop (Int.toNat k_2 + 1) := q1.trans (by rw [tn, List.replicate_succ', List.append_assoc]; rfl)
                have e4 : out_4 = List.replicate (Int.toNat k_2) 0 ++ most_2 :: out_2.drop (Int.toNat k_2 + 1) := by rw [hout_4, s2]; exact (congrArg (fun z => List.set z (Int.toNat k_2) most_2) qq).trans (set_mid (by simp))
                have d4 : out_4.drop (Int.toNat k_2) = most_2 :: out_2.drop (Int.toNat k_2 + 1) := by rw [e4]; exact List.drop_left' (by simp)
                conv => cbv
                refine r_index m.sX (by omega) (by omega) fun x5 hx5 => ?_
                conv => cbv
                have mx5 := get_mem hx5
                have vx5 := nth_some hx5
                obtain rfl : x2 = x5 := Option.some.inj (hx2.symm.trans hx5)
                refine r_mulf m.sX (by omega) (by omega) fun r5 hr5 => ?_
                conv => cbv
                refine r_subf m.sX (by omega) (by omega) fun n_4 hn_4 => ?_
                conv => cbv
                have en4 : n_4 = n_2 - most_2 * x2 := by rw [hn_4, hr5, s1]
                refine hF2 _ _ ?_
                conv => cbv
                refine r_subf m.sX (by omega) (by omega) fun k_3 hk_3 => ?_
                conv => cbv
                have ti : Int.toNat (k_3 + 1) = Int.toNat k_2 := by omega
                refine hE _ (n_4, out_4, k_3) ?_ ?_ ⟨(by (try dsimp only) <;> first | omega | rfl | (simp [*]; done) | (rw [k1]; simp [*]; done)), (by (try dsimp only) <;> first | omega | rfl | (simp [*]; done) | (rw [nb]; simp [*]; done)), (by (try dsimp only) <;> (rw [ti, en4]; exact (best_spec bt).1)), (by (try dsimp only) <;> (have bs := best_spec bt; rw [ti, en4]; rw [fewC_pre bk (by omega)] at bs ⊢; rw [fe] at bs; exact (fewP_rest (fun k hk => List.mem_of_mem_take hk) mx2 (by omega) bs.1 bs.2).symm)), (by (try dsimp only) <;> first | omega | rfl | (simp [*]; done) | (rw [ln]; simp [*]; done)), (by (try dsimp only) <;> (rw [ti, d4]; exact e4)), (by (try dsimp only) <;> (rw [q2, tn, pre_succ hx2 hst, cntC, dm, List.reverse_cons, List.append_assoc, ti, d4, en4]; rfl))⟩ (by first | omega | (dsimp only; omega))
                · cbv
                · cbv
              · have bf : best (pre kinds (List.replicate kinds.length 400) (Int.toNat k_2)) x2 400 n_2 most_2 = false := by simp only [best, Bool.and_eq_false_iff, decide_eq_false_iff_not]; omega
                refine r_subf m.sX (by omega) (by omega) fun most_3 hmost_3 => ?_
                conv => cbv
                refine hE2 _ (n_3, out_3, most_3) ?_ ?_ ⟨(by (try dsimp only) <;> first | omega | rfl | (simp [*]; done) | (rw [s1]; simp [*]; done)), (by (try dsimp only) <;> first | omega | rfl | (simp [*]; done) | (rw [s2]; simp [*]; done)), (by (try dsimp only) <;> first | omega | rfl | (simp [*]; done) | (rw [mb]; simp [*]; done)), (by (try dsimp only) <;> (intro j a b; rcases Int.lt_or_le most_2 j with h | h; exact no j h b; rw [show j = most_2 by omega]; exact bf))⟩ (by first | omega | (dsimp only; omega))
                · cbv
                · cbv
            · have bf : best (pre kinds (List.replicate kinds.length 400) (Int.toNat k_2)) x2 400 n_2 most_2 = false := by simp only [best, Bool.and_eq_false_iff, decide_eq_false_iff_not]; omega
              refine r_subf m.sX (by omega) (by omega) fun most_4 hmost_4 => ?_
              conv => cbv
              refine hE2 _ (n_3, out_3, most_4) ?_ ?_ ⟨(by (try dsimp only) <;> first | omega | rfl | (simp [*]; done) | (rw [s1]; simp [*]; done)), (by (try dsimp only) <;> first | omega | rfl | (simp [*]; done) | (rw [s2]; simp [*]; done)), (by (try dsimp only) <;> first | omega | rfl | (simp [*]; done) | (rw [mb]; simp [*]; done)), (by (try dsimp only) <;> (intro j a b; rcases Int.lt_or_le most_2 j with h | h; exact no j h b; rw [show j = most_2 by omega]; exact bf))⟩ (by first | omega | (dsimp only; omega))
              · cbv
              · cbv
          · have m0 : most_2 = 0 := by omega
            have dm : down (best (pre kinds (List.replicate kinds.length 400) (Int.toNat k_2)) x2 400 n_2) (min 400 (n_2 / x2)).toNat = 0 := down_eq (by omega) (by omega) (.inr rfl) fun j a b => no j (by omega) (by omega)
            have bt : best (pre kinds (List.replicate kinds.length 400) (Int.toNat k_2)) x2 400 n_2 0 = true := by have := (best_down lk b4.1 fb).1; rwa [dm] at this
            have e4 : out_3 = List.replicate (Int.toNat k_2) 0 ++ 0 :: out_2.drop (Int.toNat k_2 + 1) := by rw [s2]; refine q1.trans ?_; rw [tn, List.replicate_succ', List.append_assoc]; rfl
            have d4 : out_3.drop (Int.toNat k_2) = 0 :: out_2.drop (Int.toNat k_2 + 1) := by rw [e4]; exact List.drop_left' (by simp)
            have en4 : n_3 = n_2 - 0 * x2 := by omega
            refine hF2 _ _ ?_
            conv => cbv
            refine r_subf m.sX (by omega) (by omega) fun k_4 hk_4 => ?_
            conv => cbv
            have ti : Int.toNat (k_4 + 1) = Int.toNat k_2 := by omega
            refine hE _ (n_3, out_3, k_4) ?_ ?_ ⟨(by (try dsimp only) <;> first | omega | rfl | (simp [*]; done) | (rw [k1]; simp [*]; done)), (by (try dsimp only) <;> first | omega | rfl | (simp [*]; done) | (rw [nb]; simp [*]; done)), (by (try dsimp only) <;> (rw [ti, en4]; exact (best_spec bt).1)), (by (try dsimp only) <;> (have bs := best_spec bt; rw [ti, en4]; rw [fewC_pre bk (by omega)] at bs ⊢; rw [fe] at bs; exact (fewP_rest (fun k hk => List.mem_of_mem_take hk) mx2 (by omega) bs.1 bs.2).symm)), (by (try dsimp only) <;> first | omega | rfl | (simp [*]; done) | (rw [ln]; simp [*]; done)), (by (try dsimp only) <;> (rw [ti, d4]; exact e4)), (by (try dsimp only) <;> (rw [q2, tn, pre_succ hx2 hst, cntC, dm, List.reverse_cons, List.append_assoc, ti, d4, en4]; rfl))⟩ (by first | omega | (dsimp only; omega))
            · cbv
            · cbv
        · refine hF _ _ ?_
          conv => cbv
          exact hQ (.tup [.fr 3 1 (rows cInt out_2), .bool true]) (Eq.trans (by first | rfl | (simp only [lb, lbI, rows_cons, rows_nil, unnilT, unnil, unnilTI, unnilI]; done) | (simp only [lb, lbI, rows_cons, rows_nil, unnilT, unnil, unnilTI, unnilI]; rfl)) (congrArg ((lb 3 1 cInt)) (show (out_2, true) = fillF kinds n from by rw [fillF, h1, decide_eq_true (by omega), q2, show Int.toNat (k_2 + 1) = 0 by omega]; rfl)))   -- leaf 2
    · exact hQ (.tup [.nil, .bool false]) (Eq.trans (by first | rfl | (simp only [lb, lbI, rows_cons, rows_nil, unnilT, unnil, unnilTI, unnilI]; done) | (simp only [lb, lbI, rows_cons, rows_nil, unnilT, unnil, unnilTI, unnilI]; rfl)) (congrArg ((lb 3 1 cInt)) (show ([], false) = fillF kinds n from by rw [fillF, h1]; rfl))))   -- leaf 3

theorem specCanFill_ok (kinds : List Int) (n : Int)  : OkA Try.prog 30 [.isl 1 (rows cInt kinds), .int .i64 n] (· = bb (canF kinds n)) :=
  fn_intro envOk fieldsOk mixed Try.func30 rfl fun κ X Y L Q m hQ => by
    conv => cbv
    refine r_callB m.sX (wsAsked_ok kinds n) (fun h1 => ?_) (fun h1 => ?_) <;> conv => cbv
    · obtain ⟨b1, b2, b3⟩ := okF_spec h1
      have bk : ∀ k ∈ kinds, 1 ≤ k := fun k hk => (b2 k hk).1
      have ef := fewC_prF bk b3.2
      refine r_callF (fun l => PV.fr _ _ (rows _ l)) m.sX (wsFew_ok kinds n (by first | rfl | assumption | omega | (simp only [List.length_append, List.length_cons, List.length_nil] at *; omega)) (by first | rfl | assumption | omega | (simp only [List.length_append, List.length_cons, List.length_nil] at *; omega)) (by first | rfl | assumption | omega | (simp only [List.length_append, List.length_cons, List.length_nil] at *; omega))) fun v1 hv1 => ?_
      conv => cbv
      have l1 : (v1.length : Int) = n + 1 := by rw [hv1, rowP_length]; omega
      refine r_oindex m.sX (by omega) (by omega) ?_
      conv => cbv
      obtain ⟨x1, hx1⟩ := get_ex (xs := v1) (i := Int.toNat n) (by omega)
      have mx1 := get_mem hx1
      have vx1 := nth_some hx1
      have e1 : x1 = fewP kinds n := by rw [← vx1, hv1, rowP_nth (by omega), Int.toNat_of_nonneg b3.1]
      refine r_oload m.sX hx1 (Nat.le_of_ble_eq_true rfl) ?_
      conv => cbv
      refine r_geq m.sX (fun h2 => ?_) (fun h2 => ?_) <;> conv => cbv
      · exact hQ (.tup [.bool true, .bool true]) (Eq.trans (by first | rfl | (simp only [lb, lbI, rows_cons, rows_nil, unnilT, unnil, unnilTI, unnilI]; done) | (simp only [lb, lbI, rows_cons, rows_nil, unnilT, unnil, unnilTI, unnilI]; rfl)) (congrArg (bb) (show (true, true) = canF kinds n from by rw [canF, h1, decide_eq_true (by omega)]; rfl)))   -- leaf 1
      · exact hQ (.tup [.bool false, .bool true]) (Eq.trans (by first | rfl | (simp only [lb, lbI, rows_cons, rows_nil, unnilT, unnil, unnilTI, unnilI]; done) | (simp only [lb, lbI, rows_cons, rows_nil, unnilT, unnil, unnilTI, unnilI]; rfl)) (congrArg (bb) (show (false, true) = canF kinds n from by rw [canF, h1, decide_eq_false (by omega)]; rfl)))   -- leaf 2
    · exact hQ (.tup [.bool false, .bool false]) (Eq.trans (by first | rfl | (simp only [lb, lbI, rows_cons, rows_nil, unnilT, unnil, unnilTI, unnilI]; done) | (simp only [lb, lbI, rows_cons, rows_nil, unnilT, unnil, unnilTI, unnilI]; rfl)) (congrArg (bb) (show (false, false) = canF kinds n from by rw [canF, h1]; rfl)))   -- leaf 3

theorem specMissingSums_ok (kinds : List Int) (most : Int)  : OkA Try.prog 32 [.isl 1 (rows cInt kinds), .int .i64 most] (· = (lb 3 1 cInt) (missF kinds most)) :=
  OkA.unnil 3 1 (fn_intro envOk fieldsOk mixed Try.func32 rfl fun κ X Y L Q m hQ => by
    conv => cbv
    refine r_callB m.sX (wsAsked_ok kinds most) (fun h1 => ?_) (fun h1 => ?_) <;> conv => cbv
    · obtain ⟨b1, b2, b3⟩ := okF_spec h1
      have bk : ∀ k ∈ kinds, 1 ≤ k := fun k hk => (b2 k hk).1
      refine r_callF (fun l => PV.fr _ _ (rows _ l)) m.sX (wsFew_ok kinds most (by first | rfl | assumption | omega | (simp only [List.length_append, List.length_cons, List.length_nil] at *; omega)) (by first | rfl | assumption | omega | (simp only [List.length_append, List.length_cons, List.length_nil] at *; omega)) (by first | rfl | assumption | omega | (simp only [List.length_append, List.length_cons, List.length_nil] at *; omega))) fun v1 hv1 => ?_
      conv => cbv
      have l1 : (v1.length : Int) = most + 1 := by rw [hv1, rowP_length]; omega
      refine r_lenR m.sX fun n1 hn1 mn1 => ?_
      conv => cbv
      refine r_loopF (α := List Int × Int) m 30 [16, 17] [⟨6, 49, 3, 1, 0⟩, ⟨15, 121, 3, 1, 0⟩] (fun σ => [(6, .osl 49 0), (15, .osl 121 0), (16, .int .i64 n1), (17, .int .i64 σ.2)]) (fun σ => [(49, 0, .row 3 1 (rows cInt σ.1)), (121, 0, .row 3 1 (rows cInt v1))])
        (fun σ => (0 ≤ σ.2) ∧ (σ.2 ≤ n1) ∧ (markL (fun x => decide (x < 0)) 0 v1 = σ.1 ++ markL (fun x => decide (x < 0)) σ.2 (v1.drop σ.2.toNat)) ∧ ((σ.1.length : Int) ≤ σ.2)) (fun σ => (n1 - σ.2).toNat) ([], 0) ?_ ?_ ?_ ?_
      · cbv
      · (try dsimp only); simp only [rows_cons, rows_nil]; cbv
      · exact ⟨(by (try dsimp only); first | omega | (simp only [List.length_nil]; omega)), (by (try dsimp only); first | omega | (simp only [List.length_nil]; omega)), (by (try dsimp only) <;> first | omega | rfl | (simp [*]; done)), (by (try dsimp only) <;> first | omega | rfl | (simp [*]; done))⟩
      rintro ⟨out, i1⟩ ⟨lo1, hi1, q, ln⟩ E hE F hF
      dsimp only at lo1 hi1 q ln
      conv => cbv
      refine r_lss m.sX (fun h2 => ?_) (fun h2 => ?_) <;> conv => cbv
      · refine r_oindex m.sX (by omega) (by omega) ?_
        conv => cbv
        obtain ⟨few, hfew⟩ := get_ex (xs := v1) (i := Int.toNat i1) (by omega)
        have mfew := get_mem hfew
        have dfew := drop_cons hfew
        have kfew := take_snoc hfew
        have jfew : (i1 + 1).toNat = Int.toNat i1 + 1 := by omega
        have vfew := nth_some hfew
        refine r_oload m.sX hfew (Nat.le_of_ble_eq_true rfl) ?_
        conv => cbv
        refine r_lss m.sX (fun h3 => ?_) (fun h3 => ?_) <;> conv => cbv
        · refine r_append1 (i1) m.sX rfl (by first | omega | (dsimp only; omega)) (by first | omega | (dsimp only; omega)) fun out_2 hout_2 => ?_
          conv => cbv
          have lout_2 : (out_2.length : Int) = out.length + 1 := by rw [hout_2]; first | done | (simp; done) | (simp; omega)
          refine r_addf m.sX (by omega) (by omega) fun r1 hr1 => ?_
          conv => cbv
          have tr1 : Int.toNat r1 = Int.toNat i1 + 1 := by omega
          refine hE _ (out_2, r1) ?_ ?_ ⟨(by (try dsimp only); first | omega | (simp only [List.length_nil]; omega)), (by (try dsimp only); first | omega | (simp only [List.length_nil]; omega)), (by (try dsimp only) <;> (rw [q, dfew, markL, tr1, show i1 + 1 = r1 by omega]; simp [*])), (by (try dsimp only) <;> first | omega | rfl | (simp [*]; done) | (rw [ln]; simp [*]; done))⟩ (by first | omega | (dsimp only; omega))
          · cbv
          · cbv
        · refine r_addf m.sX (by omega) (by omega) fun r2 hr2 => ?_
          conv => cbv
          have tr2 : Int.toNat r2 = Int.toNat i1 + 1 := by omega
          refine hE _ (out, r2) ?_ ?_ ⟨(by (try dsimp only); first | omega | (simp only [List.length_nil]; omega)), (by (try dsimp only); first | omega | (simp only [List.length_nil]; omega)), (by (try dsimp only) <;> (rw [q, dfew, markL, tr2, show i1 + 1 = r2 by omega]; simp [*])), (by (try dsimp only) <;> first | omega | rfl | (simp [*]; done) | (rw [ln]; simp [*]; done))⟩ (by first | omega | (dsimp only; omega))
          · cbv
          · cbv
      · have dz_i1 := drop_end (xs := v1) (i := Int.toNat i1) (by omega)
        have tz_i1 := take_end (xs := v1) (i := Int.toNat i1) (by omega)
        refine hF _ _ ?_
        conv => cbv
        exact hQ (.tup [.fr 3 1 (rows cInt out), .bool true]) (Eq.trans (by first | rfl | (simp only [lb, lbI, rows_cons, rows_nil, unnilT, unnil, unnilTI, unnilI]; done) | (simp only [lb, lbI, rows_cons, rows_nil, unnilT, unnil, unnilTI, unnilI]; rfl)) (congrArg ((lb 3 1 cInt)) (show (out, true) = missF kinds most from by rw [missF, h1, rowC_prF bk b3.2, ← hv1, q, show Int.toNat i1 = v1.length by omega]; simp [markL])))   -- leaf 1
    · exact hQ (.tup [.nil, .bool false]) (Eq.trans (by first | rfl | (simp only [lb, lbI, rows_cons, rows_nil, unnilT, unnil, unnilTI, unnilI]; done) | (simp only [lb, lbI, rows_cons, rows_nil, unnilT, unnil, unnilTI, unnilI]; rfl)) (congrArg ((lb 3 1 cInt)) (show ([], false) = missF kinds most from by rw [missF, h1]; rfl))))   -- leaf 2

theorem specWaysToFill_ok (kinds : List Int) (n : Int)  : OkA Try.prog 34 [.isl 1 (rows cInt kinds), .int .i64 n] (· = ib (waysF kinds n)) :=
  fn_intro envOk fieldsOk mixed Try.func34 rfl fun κ X Y L Q m hQ => by
    conv => cbv
    refine r_callB m.sX (wsAsked_ok kinds n) (fun h1 => ?_) (fun h1 => ?_) <;> conv => cbv
    · obtain ⟨b1, b2, b3⟩ := okF_spec h1
      have bk : ∀ k ∈ kinds, 1 ≤ k := fun k hk => (b2 k hk).1
      have bt : ∀ (i : Nat), ∀ k ∈ (kinds.take i).reverse, 1 ≤ k := fun i k hk => bk k (List.mem_of_mem_take (List.mem_reverse.1 hk))
      have bl : ∀ (i : Nat), (kinds.take i).reverse.length ≤ 6 := fun i => by rw [List.length_reverse, List.length_take]; omega
      refine r_addf m.sX (by omega) (by omega) fun r1 hr1 => ?_
      conv => cbv
      refine r_make cInt 0 m.sX rfl (by omega) (by omega) (by dsimp only; omega) (by omega) fun ways hways => ?_   -- ways = replicate r1
      have lways : (ways.length : Int) = r1 := by rw [hways]; first | done | (simp; done) | (simp; omega)
      conv => cbv
      refine r_oindex m.sX (by omega) (by omega) ?_
      conv => cbv
      obtain ⟨y1, hy1⟩ := get_ex (xs := ways) (i := Int.toNat 0) (by omega)
      refine r_ostore (l := Int.toNat 0) 1 m.sX hy1 (Nat.le_of_ble_eq_true rfl) rfl fun zs1 hzs1 => ?_   -- zs1 = ways.set 0 1
      have lzs1 : (zs1.length : Int) = ways.length := by rw [hzs1]; first | done | (simp; done) | (simp; omega)
      have e1 : zs1 = rowW [] n := by rw [hzs1, hways, show Int.toNat r1 = Int.toNat n + 1 by omega]; exact rowW_first b3.1
      conv => cbv
      refine r_lenR m.sX fun n1 hn1 mn1 => ?_
      conv => cbv
      refine r_loopF (α := List Int × Int) m 48 [1, 19, 20, 21] [⟨6, 49, 3, 1, 0⟩] (fun σ => [(1, .int .i64 n), (6, .osl 49 0), (19, .isl 1 (rows cInt kinds)), (20, .int .i64 n1), (21, .int .i64 σ.2)]) (fun σ => [(49, 0, .row 3 1 (rows cInt σ.1))])
        (fun σ => (0 ≤ σ.2) ∧ (σ.2 ≤ n1) ∧ (σ.1 = rowW (kinds.take σ.2.toNat).reverse n)) (fun σ => (n1 - σ.2).toNat) (zs1, 0) ?_ ?_ ?_ ?_
      · cbv
      · cbv
      · exact ⟨(by (try dsimp only); first | omega | (simp only [List.length_nil]; omega)), (by (try dsimp only); first | omega | (simp only [List.length_nil]; omega)), (by (try dsimp only) <;> (exact e1))⟩
      rintro ⟨ways_2, i1⟩ ⟨lo1, hi1, q⟩ E hE F hF
      dsimp only at lo1 hi1 q
      have l1 : (ways_2.length : Int) = n + 1 := by rw [q, rowW_length]; omega
      conv => cbv
      refine r_lss m.sX (fun h2 => ?_) (fun h2 => ?_) <;> conv => cbv
      · refine r_index m.sX (by omega) (by omega) fun k hk => ?_
        conv => cbv
        have mk := get_mem hk
        have dk := drop_cons hk
        have kk := take_snoc hk
        have jk : (i1 + 1).toNat = Int.toNat i1 + 1 := by omega
        have vk := nth_some hk
        have bw := b2 _ mk
        refine r_loopF (α := List Int × Int) m 48 [1, 8, 9, 19, 20, 21] [⟨6, 49, 3, 1, 0⟩] (fun σ => [(1, .int .i64 n), (6, .osl 49 0), (8, .int .i64 k), (9, .int .i64 σ.2), (19, .isl 1 (rows cInt kinds)), (20, .int .i64 n1), (21, .int .i64 i1)]) (fun σ => [(49, 0, .row 3 1 (rows cInt σ.1))])
          (fun σ => (k ≤ σ.2) ∧ (σ.1 = mixW k (kinds.take (Int.toNat i1)).reverse σ.2 n)) (fun σ => (n + 1 - σ.2).toNat) (ways_2, k) ?_ ?_ ?_ ?_
        · cbv
        · cbv
        · exact ⟨(by (try dsimp only) <;> first | omega | rfl | (simp [*]; done)), (by (try dsimp only) <;> (rw [q]; exact mixW_first _ _ _))⟩
        rintro ⟨ways_3, x⟩ ⟨k1, q2⟩ E2 hE2 F2 hF2
        dsimp only at k1 q2
        have l2 : (ways_3.length : Int) = n + 1 := by rw [q2, mixW_length]; omega
        conv => cbv
        refine r_leq m.sX (fun h3 => ?_) (fun h3 => ?_) <;> conv => cbv
        · refine r_draw m (by kernel_rfl) ?_
          conv => cbv
          refine r_oindex m.sY (by omega) (by omega) ?_
          conv => cbv
          obtain ⟨x1, hx1⟩ := get_ex (xs := ways_3) (i := Int.toNat x) (by omega)
          have mx1 := get_mem hx1
          have vx1 := nth_some hx1
          have e1 : x1 = wayW (kinds.take (Int.toNat i1)).reverse x := by rw [← vx1, q2, mixW_nth (by omega), if_neg (by omega), Int.toNat_of_nonneg (by omega)]
          have s1 := way_small (bt (Int.toNat i1)) (bl _) (n := x) (by omega) (by omega)
          refine r_oload m.sY hx1 (Nat.le_of_ble_eq_true rfl) ?_
          conv => cbv
          refine r_subf m.sY (by omega) (by omega) fun r2 hr2 => ?_
          conv => cbv
          refine r_oindex m.sY (by omega) (by omega) ?_
          conv => cbv
          obtain ⟨x2, hx2⟩ := get_ex (xs := ways_3) (i := Int.toNat r2) (by omega)
          have mx2 := get_mem hx2
          have vx2 := nth_some hx2
          have e2 : x2 = wayW (k :: (kinds.take (Int.toNat i1)).reverse) (x - k) := by rw [← vx2, q2, mixW_nth (by omega), if_pos (by omega), Int.toNat_of_nonneg (by omega), hr2]
          have s2 := way_small (r := k :: (kinds.take (Int.toNat i1)).reverse) (by rw [← take_rev hk]; exact bt _) (by rw [← take_rev hk]; exact bl _) (n := x - k) (by omega) (by omega)
          refine r_oload m.sY hx2 (Nat.le_of_ble_eq_true rfl) ?_
          conv => cbv
          refine r_addf m.sY (by omega) (by omega) fun r3 hr3 => ?_
          conv => cbv
          refine r_oindex m.sY (by omega) (by omega) ?_
          conv => cbv
          obtain ⟨y2, hy2⟩ := get_ex (xs := ways_3) (i := Int.toNat x) (by omega)
          refine r_ostore (l := Int.toNat x) r3 m.sY hy2 (Nat.le_of_ble_eq_true rfl) rfl fun ways_4 hways_4 => ?_   -- ways_4 = ways_3.set x r3
          have lways_4 : (ways_4.length : Int) = ways_3.length := by rw [hways_4]; first | done | (simp; done) | (simp; omega)
          conv => cbv
          refine r_addf m.sX (by omega) (by omega) fun x_2 hx_2 => ?_
          conv => cbv
          refine hE2 _ (ways_4, x_2) ?_ ?_ ⟨(by (try dsimp only) <;> first | omega | rfl | (simp [*]; done) | (rw [k1]; simp [*]; done)), (by (try dsimp only) <;> (rw [hways_4, q2, hx_2]; exact mixW_set (by omega) (by omega) (by rw [hr3, e1, e2]; exact (wayW_high bw.1 k1).symm)))⟩ (by first | omega | (dsimp only; omega))
          · cbv
          · cbv
        · refine hF2 _ _ ?_
          conv => cbv
          refine r_addf m.sX (by omega) (by omega) fun r4 hr4 => ?_
          conv => cbv
          have tr4 : Int.toNat r4 = Int.toNat i1 + 1 := by omega
          refine hE _ (ways_3, r4) ?_ ?_ ⟨(by (try dsimp only); first | omega | (simp only [List.length_nil]; omega)), (by (try dsimp only); first | omega | (simp only [List.length_nil]; omega)), (by (try dsimp only) <;> (rw [q2, tr4, take_rev hk]; exact mixW_last _ (by omega)))⟩ (by first | omega | (dsimp only; omega))
          · cbv
          · cbv
      · have dz_i1 := drop_end (xs := kinds) (i := Int.toNat i1) (by omega)
        have tz_i1 := take_end (xs := kinds) (i := Int.toNat i1) (by omega)
        refine hF _ _ ?_
        conv => cbv
        refine r_oindex m.sX (by omega) (by omega) ?_
        conv => cbv
        obtain ⟨x3, hx3⟩ := get_ex (xs := ways_2) (i := Int.toNat n) (by omega)
        have mx3 := get_mem hx3
        have vx3 := nth_some hx3
        have e3 : x3 = wayW kinds.reverse n := by rw [← vx3, q, rowW_nth (by omega), Int.toNat_of_nonneg b3.1, show Int.toNat i1 = kinds.length by omega, List.take_length]
        refine r_oload m.sX hx3 (Nat.le_of_ble_eq_true rfl) ?_
        conv => cbv
        exact hQ (.tup [.int .i64 x3, .bool true]) (Eq.trans (by first | rfl | (simp only [lb, lbI, rows_cons, rows_nil, unnilT, unnil, unnilTI, unnilI]; done) | (simp only [lb, lbI, rows_cons, rows_nil, unnilT, unnil, unnilTI, unnilI]; rfl)) (congrArg (ib) (show (x3, true) = waysF kinds n from by rw [waysF, h1, e3]; rfl)))   -- leaf 1
    · exact hQ (.tup [.int .i64 0, .bool false]) (Eq.trans (by first | rfl | (simp only [lb, lbI, rows_cons, rows_nil, unnilT, unnil, unnilTI, unnilI]; done) | (simp only [lb, lbI, rows_cons, rows_nil, unnilT, unnil, unnilTI, unnilI]; rfl)) (congrArg (ib) (show (0, false) = waysF kinds n from by rw [waysF, h1]; rfl)))   -- leaf 2

theorem specNearestFill_ok (kinds : List Int) (n : Int)  : OkA Try.prog 36 [.isl 1 (rows cInt kinds), .int .i64 n] (· = ib (nearF kinds n)) :=
  fn_intro envOk fieldsOk mixed Try.func36 rfl fun κ X Y L Q m hQ => by
    conv => cbv
    refine r_callB m.sX (wsAsked_ok kinds n) (fun h1 => ?_) (fun h1 => ?_) <;> conv => cbv
    · obtain ⟨b1, b2, b3⟩ := okF_spec h1
      have bk : ∀ k ∈ kinds, 1 ≤ k := fun k hk => (b2 k hk).1
      refine r_callF (fun l => PV.fr _ _ (rows _ l)) m.sX (wsFew_ok kinds n (by first | rfl | assumption | omega | (simp only [List.length_append, List.length_cons, List.length_nil] at *; omega)) (by first | rfl | assumption | omega | (simp only [List.length_append, List.length_cons, List.length_nil] at *; omega)) (by first | rfl | assumption | omega | (simp only [List.length_append, List.length_cons, List.length_nil] at *; omega))) fun few hfew => ?_
      conv => cbv
      have l1 : (few.length : Int) = n + 1 := by rw [hfew, rowP_length]; omega
      refine r_loopF (α := Int) m 22 [1] [⟨6, 49, 3, 1, 0⟩] (fun σ => [(1, .int .i64 σ), (6, .osl 49 0)]) (fun σ => [(49, 0, .row 3 1 (rows cInt few))])
        (fun σ => (0 ≤ σ ∧ σ ≤ n) ∧ (∀ j, σ < j → j ≤ n → fewC (prF kinds) j < 0)) (fun σ => σ.toNat) n ?_ ?_ ?_ ?_
      · cbv
      · cbv
      · exact ⟨(by (try dsimp only) <;> first | omega | rfl | (simp [*]; done)), (by (try dsimp only) <;> (intro j a b; omega))⟩
      rintro n_2 ⟨nb, no⟩ E hE F hF
      conv => cbv
      refine r_oindex m.sX (by omega) (by omega) ?_
      conv => cbv
      obtain ⟨x1, hx1⟩ := get_ex (xs := few) (i := Int.toNat n_2) (by omega)
      have mx1 := get_mem hx1
      have vx1 := nth_some hx1
      have e1 : x1 = fewC (prF kinds) n_2 := by rw [← vx1, hfew, rowP_nth (by omega), Int.toNat_of_nonneg nb.1, fewC_prF bk (by omega)]
      have z1 : n_2 = 0 → x1 = 0 := fun e => by rw [e1, e, fewC_prF bk (by omega), fewP_zero bk]
      refine r_oload m.sX hx1 (Nat.le_of_ble_eq_true rfl) ?_
      conv => cbv
      refine r_lss m.sX (fun h2 => ?_) (fun h2 => ?_) <;> conv => cbv
      · refine r_subf m.sX (by omega) (by omega) fun n_3 hn_3 => ?_
        conv => cbv
        refine hE _ n_3 ?_ ?_ ⟨(by (try dsimp only) <;> first | omega | rfl | (simp [*]; done) | (rw [nb]; simp [*]; done)), (by (try dsimp only) <;> (intro j a b; rcases Int.lt_or_le n_2 j with h | h; exact no j h b; rw [show j = n_2 by omega]; omega))⟩ (by first | omega | (dsimp only; omega))
        · cbv
        · cbv
      · refine hF _ _ ?_
        conv => cbv
        exact hQ (.tup [.int .i64 n_2, .bool true]) (Eq.trans (by first | rfl | (simp only [lb, lbI, rows_cons, rows_nil, unnilT, unnil, unnilTI, unnilI]; done) | (simp only [lb, lbI, rows_cons, rows_nil, unnilT, unnil, unnilTI, unnilI]; rfl)) (congrArg (ib) (show (n_2, true) = nearF kinds n from by rw [nearF, h1]; exact Prod.ext (down_eq (p := fun m => decide (0 ≤ fewC (prF kinds) m)) nb.1 (by omega) (.inl (decide_eq_true (by omega))) fun j a b => decide_eq_false (by have := no j a (by omega); omega)).symm rfl)))   -- leaf 1
    · exact hQ (.tup [.int .i64 0, .bool false]) (Eq.trans (by first | rfl | (simp only [lb, lbI, rows_cons, rows_nil, unnilT, unnil, unnilTI, unnilI]; done) | (simp only [lb, lbI, rows_cons, rows_nil, unnilT, unnil, unnilTI, unnilI]; rfl)) (congrArg (ib) (show (0, false) = nearF kinds n from by rw [nearF, h1]; rfl)))   -- leaf 2

theorem specAreSpaces_ok (kinds : List Int)  : OkA Try.prog 41 [.isl 1 (rows cInt kinds)] (· = .bool (okK kinds)) :=
  fn_intro envOk fieldsOk mixed Try.func41 rfl fun κ X Y L Q m hQ => by
    conv => cbv
    refine r_callB m.sX (wsKinds_ok kinds) (fun h1 => ?_) (fun h1 => ?_) <;> conv => cbv
    · exact hQ _ (congrArg PV.bool (by first | rfl | omega | (simp [*]; done) | (subst_vars; simp [*]; done)))   -- leaf 1
    · exact hQ _ (congrArg PV.bool (by first | rfl | omega | (simp [*]; done) | (subst_vars; simp [*]; done)))   -- leaf 2

end Go.Proofs.Ytpjmpgbgglhoeaa.Ai
