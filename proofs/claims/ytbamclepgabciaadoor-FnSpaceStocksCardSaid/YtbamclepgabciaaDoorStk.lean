/- Contracts of the functions on stocks of spaces. -/
import Derived.Test.YtbamclepgabciaaDoorStkLaw
import Derived.Test.YtbamclepgabciaaDoorSpace
import Derived.Test.YtbamclepgabciaaDoorPound
namespace Go.Proofs.YtbamclepgabciaaDoor.Ai
open Go Go.Proofs
set_option linter.unusedSimpArgs false
set_option maxRecDepth 10000
set_option maxHeartbeats 4000000
set_option linter.unusedVariables false
theorem areSpaceCounts_ok (kinds : List Int) (counts : List Int)  : OkA Tryd.prog 126 [.isl 1 (rows cInt kinds), .isl 1 (rows cInt counts)] (· = .bool (okCn kinds counts)) :=
  fn_intro envOk fieldsOk mixed Tryd.func126 rfl fun κ X Y L Q m hQ => by
    conv => cbv
    refine r_lenR m.sX fun n1 hn1 mn1 => ?_
    conv => cbv
    refine r_loopF (α := Int) m 26 [0, 1, 7, 8, 9] [] (fun σ => [(0, .isl 1 (rows cInt kinds)), (1, .isl 1 (rows cInt counts)), (7, .isl 1 (rows cInt counts)), (8, .int .i64 n1), (9, .int .i64 σ)]) (fun σ => [])
      (fun σ => (0 ≤ σ) ∧ (σ ≤ n1) ∧ (allB counts 0 400 = allB (counts.drop σ.toNat) 0 400)) (fun σ => (n1 - σ).toNat) 0 ?_ ?_ ?_ ?_
    · cbv
    · cbv
    · exact ⟨(by (try dsimp only); first | omega | (simp only [List.length_nil]; omega) | (simp only [List.length_cons, List.length_nil]; omega)), (by (try dsimp only); first | omega | (simp only [List.length_nil]; omega) | (simp only [List.length_cons, List.length_nil]; omega)), (by (try dsimp only) <;> (rfl))⟩
    rintro i1 ⟨lo1, hi1, q⟩ E hE F hF
    conv => cbv
    refine r_lss m.sX (fun h1 => ?_) (fun h1 => ?_) <;> conv => cbv
    · refine r_index m.sX (by omega) (by omega) fun n hn => ?_
      conv => cbv
      have mn := get_mem hn
      have dn := drop_cons hn
      have kn := take_snoc hn
      have jn : (i1 + 1).toNat = Int.toNat i1 + 1 := by omega
      have vn := nth_some hn
      refine r_callB m.sX (within_ok n 0 400) (fun h2 => ?_) (fun h2 => ?_) <;> conv => cbv
      · refine r_addf m.sX (by omega) (by omega) fun r1 hr1 => ?_
        conv => cbv
        try have tr1 : Int.toNat r1 = Int.toNat i1 + 1 := by omega
        refine hE _ r1 ?_ ?_ ⟨(by (try dsimp only); first | omega | (simp only [List.length_nil]; omega) | (simp only [List.length_cons, List.length_nil]; omega)), (by (try dsimp only); first | omega | (simp only [List.length_nil]; omega) | (simp only [List.length_cons, List.length_nil]; omega)), (by (try dsimp only) <;> (rw [q, dn, allB_cons, h2, Bool.true_and, tr1]))⟩ (by first | omega | (dsimp only; omega))
        · cbv
        · cbv
      · refine hF _ _ ?_
        conv => cbv
        exact hQ _ (congrArg PV.bool (by rw [okCn, q, dn, allB_cons, h2]; simp))   -- leaf 1
    · have dz_i1 := drop_end (xs := counts) (i := Int.toNat i1) (by omega)
      have tz_i1 := take_end (xs := counts) (i := Int.toNat i1) (by omega)
      refine hF _ _ ?_
      conv => cbv
      refine r_callB m.sX (AreSpaces_ok kinds) (fun h3 => ?_) (fun h3 => ?_) <;> conv => cbv
      · refine r_lenR m.sX fun n2 hn2 mn2 => ?_
        conv => cbv
        refine r_lenR m.sX fun n3 hn3 mn3 => ?_
        conv => cbv
        refine r_eql m.sX (fun h4 => ?_) (fun h4 => ?_) <;> conv => cbv
        · exact hQ _ (congrArg PV.bool (by rw [okCn, h3, q, dz_i1, allB_nil, decide_eq_true (by omega)]; rfl))   -- leaf 2
        · exact hQ _ (congrArg PV.bool (by rw [okCn, h3, decide_eq_false (by omega)]; simp))   -- leaf 3
      · exact hQ _ (congrArg PV.bool (by rw [okCn, h3]; rfl))   -- leaf 4

theorem wsCounts_ok (kinds : List Int) (counts : List Int)  : OkA Tryd.prog 129 [.isl 1 (rows cInt kinds), .isl 1 (rows cInt counts)] (· = .bool (decide (counts.length = kinds.length) && allB counts 0 400)) :=
  fn_intro envOk fieldsOk mixed Tryd.func129 rfl fun κ X Y L Q m hQ => by
    conv => cbv
    refine r_lenR m.sX fun n1 hn1 mn1 => ?_
    conv => cbv
    refine r_lenR m.sX fun n2 hn2 mn2 => ?_
    conv => cbv
    refine r_eql m.sX (fun h1 => ?_) (fun h1 => ?_) <;> conv => cbv
    · refine r_callB m.sX (l1All_ok counts 0 400) (fun h2 => ?_) (fun h2 => ?_) <;> conv => cbv
      · exact hQ _ (congrArg PV.bool (by rw [h2, decide_eq_true (by omega)]; rfl))   -- leaf 1
      · exact hQ _ (congrArg PV.bool (by rw [h2, decide_eq_true (by omega)]; rfl))   -- leaf 2
    · exact hQ _ (congrArg PV.bool (by rw [decide_eq_false (by omega)]; rfl))   -- leaf 3

theorem FillFromStock_ok (kinds : List Int) (stock : List Int) (n : Int)  : OkA Tryd.prog 57 [.isl 1 (rows cInt kinds), .isl 1 (rows cInt stock), .int .i64 n] (· = (lb 3 1 cInt) (stkF kinds stock n)) :=
  OkA.unnil 3 1 (fn_intro envOk fieldsOk mixed Tryd.func57 rfl fun κ X Y L Q m hQ => by
    conv => cbv
    refine r_callB m.sX (isFill_ok kinds n) (fun h1 => ?_) (fun h1 => ?_) <;> conv => cbv
    · obtain ⟨b1, b2, b3⟩ := okF_spec h1
      refine r_callB m.sX (areSpaceCounts_ok kinds stock) (fun h2 => ?_) (fun h2 => ?_) <;> conv => cbv
      · obtain ⟨s1_, s2_⟩ := okCn_spec h2
        have bk2 : ∀ k ∈ kinds, 1 ≤ k ∧ k ≤ 10000 := fun k hk => by have := b2 k hk; omega
        have bs2 : ∀ k ∈ stock, 0 ≤ k ∧ k ≤ 10000 := fun k hk => by have := s1_ k hk; omega
        have bp : ∀ i, ∀ p ∈ pre kinds stock i, 1 ≤ p.1 := fun i p hp => (b2 p.1 (pre_mem hp).1).1
        refine r_callF (fun l => PV.fr _ _ (rows _ l)) m.sX (fewest_ok kinds stock n (by first | rfl | assumption | omega | (simp only [List.length_append, List.length_cons, List.length_nil] at *; omega)) (by first | rfl | assumption | omega | (simp only [List.length_append, List.length_cons, List.length_nil] at *; omega)) (by first | rfl | assumption | omega | (simp only [List.length_append, List.length_cons, List.length_nil] at *; omega)) (by first | rfl | assumption | omega | (simp only [List.length_append, List.length_cons, List.length_nil] at *; omega)) (by first | rfl | assumption | omega | (simp only [List.length_append, List.length_cons, List.length_nil] at *; omega))) fun table htable => ?_
        conv => cbv
        have lt_ : (table.length : Int) = kinds.length + 1 := by rw [htable, tabC]; simp
        refine r_lenR m.sX fun n1 hn1 mn1 => ?_
        conv => cbv
        refine r_oindex m.sX (by omega) (by omega) ?_
        conv => cbv
        obtain ⟨x1, hx1⟩ := get_ex (xs := table) (i := Int.toNat n1) (by omega)
        have mx1 := get_mem hx1
        have ex1 : x1 = rowC (pre kinds stock kinds.length) n := by rw [htable, show Int.toNat n1 = kinds.length by omega] at hx1; exact (Option.some.inj ((tabC_get (by omega)).symm.trans hx1)).symm
        have l1_ : (x1.length : Int) = n + 1 := by rw [ex1, rowC_length]; omega
        refine r_oload m.sX hx1 (Nat.le_of_ble_eq_true rfl) ?_
        conv => cbv
        refine r_index m.sX (by omega) (by omega) fun x2 hx2 => ?_
        conv => cbv
        have mx2 := get_mem hx2
        have vx2 := nth_some hx2
        have ex2 : x2 = fewC (pre kinds stock kinds.length) n := by rw [← vx2, ex1, rowC_nth (by omega), Int.toNat_of_nonneg b3.1]
        refine r_lss m.sX (fun h3 => ?_) (fun h3 => ?_) <;> conv => cbv
        · exact hQ (.tup [.fr 3 1 [], .bool false]) (Eq.trans (by first | rfl | (simp only [lb, lbI, rows_cons, rows_nil, unnilT, unnil, unnilTI, unnilI]; done) | (simp only [lb, lbI, rows_cons, rows_nil, unnilT, unnil, unnilTI, unnilI]; rfl)) (congrArg ((lb 3 1 cInt)) (show ([], false) = stkF kinds stock n from by rw [stkF, h1, h2, decide_eq_false (by omega)]; rfl)))   -- leaf 1
        · refine r_lenR m.sX fun n2 hn2 mn2 => ?_
          conv => cbv
          refine r_make cInt 0 m.sX rfl (by omega) (by omega) (by dsimp only; omega) (by omega) fun counts hcounts => ?_   -- counts = replicate n2
          have lcounts : (counts.length : Int) = n2 := by rw [hcounts]; first | done | (simp; done) | (simp; omega)
          conv => cbv
          refine r_lenR m.sX fun n3 hn3 mn3 => ?_
          conv => cbv
          refine r_subf m.sX (by omega) (by omega) fun i hi => ?_
          conv => cbv
          refine r_loopF (α := Int × List Int × Int) m 88 [0, 1, 2, 10] [⟨8, 65, 26, 1, 0⟩, ⟨9, 73, 3, 1, 0⟩] (fun σ => [(0, .isl 1 (rows cInt kinds)), (1, .isl 1 (rows cInt stock)), (2, .int .i64 σ.1), (8, .osl 65 0), (9, .osl 73 0), (10, .int .i64 σ.2.2)]) (fun σ => [(65, 0, .row 26 1 (rows (cSl 1 cInt) table)), (73, 0, .row 3 1 (rows cInt σ.2.1))])
            (fun σ => (-1 ≤ σ.2.2 ∧ σ.2.2 ≤ (kinds.length : Int) - 1) ∧ (0 ≤ σ.1 ∧ σ.1 ≤ n) ∧ (0 ≤ fewC (pre kinds stock (σ.2.2 + 1).toNat) σ.1) ∧ ((σ.2.1.length : Int) = kinds.length) ∧ (∃ D, σ.2.1 = List.replicate (σ.2.2 + 1).toNat 0 ++ D ∧ (topC (pre kinds stock kinds.length) n).reverse = (topC (pre kinds stock (σ.2.2 + 1).toNat) σ.1).reverse ++ D)) (fun σ => (σ.2.2 + 1).toNat) (n, counts, i) ?_ ?_ ?_ ?_
          · cbv
          · cbv
          · exact ⟨(by (try dsimp only) <;> first | omega | rfl | (simp [*]; done)), (by (try dsimp only) <;> first | omega | rfl | (simp [*]; done)), (by (try dsimp only) <;> (rw [show Int.toNat (i + 1) = kinds.length by omega, ← ex2]; omega)), (by (try dsimp only) <;> first | omega | rfl | (simp [*]; done)), (by (try dsimp only) <;> (exact ⟨[], by rw [hcounts, show Int.toNat (i + 1) = Int.toNat n2 by omega, List.append_nil], by rw [show Int.toNat (i + 1) = kinds.length by omega, List.append_nil]⟩))⟩
          rintro ⟨n_2, counts_2, i_2⟩ ⟨k1, nb, f, ln, q⟩ E hE F hF
          dsimp only at k1 nb f ln q
          conv => cbv
          refine r_geq m.sX (fun h4 => ?_) (fun h4 => ?_) <;> conv => cbv
          · refine r_draw m (by kernel_rfl) ?_
            conv => cbv
            refine r_index m.sY (by omega) (by omega) fun x3 hx3 => ?_
            conv => cbv
            have mx3 := get_mem hx3
            have vx3 := nth_some hx3
            have w3 := s1_ _ mx3
            refine r_index m.sY (by omega) (by omega) fun x4 hx4 => ?_
            conv => cbv
            have mx4 := get_mem hx4
            have vx4 := nth_some hx4
            have w4 := b2 _ mx4
            first | refine r_divf m.sY (by omega) (by omega) fun r1 hr1 br1 => ?_ | refine r_tdivf m.sY (by omega) (by omega) fun r1 hr1 br1 => ?_
            conv => cbv
            have ep : pre kinds stock (Int.toNat (i_2 + 1)) = (x4, x3) :: pre kinds stock (Int.toNat i_2) := by rw [show Int.toNat (i_2 + 1) = Int.toNat i_2 + 1 by omega]; exact pre_succ hx4 hx3
            have f' := f
            rw [ep] at f'
            obtain ⟨mz, a0z, b0z, c0z⟩ := top_ex (bp _) w4.1 f'
            refine r_min m.sY fun many hmany => ?_
            conv => cbv
            refine r_loopF (α := Int) m 88 [0, 1, 2, 10, 11] [⟨8, 65, 26, 1, 0⟩, ⟨9, 73, 3, 1, 0⟩] (fun σ => [(0, .isl 1 (rows cInt kinds)), (1, .isl 1 (rows cInt stock)), (2, .int .i64 n_2), (8, .osl 65 0), (9, .osl 73 0), (10, .int .i64 i_2), (11, .int .i64 σ)]) (fun σ => [(65, 0, .row 26 1 (rows (cSl 1 cInt) table)), (73, 0, .row 3 1 (rows cInt counts_2))])
              (fun σ => (mz ≤ σ ∧ σ ≤ many) ∧ (∀ j, σ < j → j ≤ many → topB (pre kinds stock (Int.toNat i_2)) x4 n_2 j = false)) (fun σ => σ.toNat) many ?_ ?_ ?_ ?_
            · cbv
            · cbv
            · exact ⟨(by (try dsimp only) <;> (rw [hmany, hr1]; exact ⟨b0z, Int.le_refl _⟩)), (by (try dsimp only) <;> (intro j j1 j2; omega))⟩
            rintro many_2 ⟨k2, uq⟩ E2 hE2 F2 hF2
            have g1 : many_2 * x4 ≤ n_2 := (Int.le_ediv_iff_mul_le (by omega)).1 (by omega)
            have g0 : 0 ≤ many_2 * x4 := Int.mul_nonneg (by omega) (by omega)
            conv => cbv
            refine r_draw m (by kernel_rfl) ?_
            conv => cbv
            refine r_oindex m.sY (by omega) (by omega) ?_
            conv => cbv
            obtain ⟨x5, hx5⟩ := get_ex (xs := table) (i := Int.toNat i_2) (by omega)
            have mx5 := get_mem hx5
            have ex5 : x5 = rowC (pre kinds stock (Int.toNat i_2)) n := by rw [htable] at hx5; exact (Option.some.inj ((tabC_get (by omega)).symm.trans hx5)).symm
            have l5_ : (x5.length : Int) = n + 1 := by rw [ex5, rowC_length]; omega
            refine r_oload m.sY hx5 (Nat.le_of_ble_eq_true rfl) ?_
            conv => cbv
            refine r_index m.sY (by omega) (by omega) fun x6 hx6 => ?_
            conv => cbv
            have mx6 := get_mem hx6
            have vx6 := nth_some hx6
            obtain rfl : x4 = x6 := Option.some.inj (hx4.symm.trans hx6)
            refine r_mulf m.sY (by first | omega | (subst_vars; omega)) (by first | omega | (subst_vars; omega)) fun r2 hr2 => ?_
            conv => cbv
            refine r_subf m.sY (by omega) (by omega) fun r3 hr3 => ?_
            conv => cbv
            refine r_index m.sY (by omega) (by omega) fun x7 hx7 => ?_
            conv => cbv
            have mx7 := get_mem hx7
            have vx7 := nth_some hx7
            have e7 : x7 = fewC (pre kinds stock (Int.toNat i_2)) (n_2 - many_2 * x4) := by rw [← vx7, ex5, rowC_nth (by omega), Int.toNat_of_nonneg (by omega), hr3, hr2]
            refine r_lss m.sY (fun h5 => ?_) (fun h5 => ?_) <;> conv => cbv
            · have t5 : topB (pre kinds stock (Int.toNat i_2)) x4 n_2 many_2 = false := decide_eq_false (by rw [← e7]; omega)
              have nz : mz ≠ many_2 := by intro e; rw [e, t5] at c0z; cases c0z
              refine r_subf m.sX (by omega) (by omega) fun many_3 hmany_3 => ?_
              conv => cbv
              refine hE2 _ many_3 ?_ ?_ ⟨(by (try dsimp only) <;> first | omega | rfl | (simp [*]; done) | (rw [k2]; simp [*]; done)), (by (try dsimp only) <;> (intro j j1 j2; rcases Int.lt_or_le many_2 j with j3 | j3; exact uq j j3 j2; rw [show j = many_2 by omega]; exact t5))⟩ (by first | omega | (dsimp only; omega))
              · cbv
              · cbv
            · have dn : down (topB (pre kinds stock (Int.toNat i_2)) x4 n_2) (min x3 (n_2 / x4)).toNat = many_2 := down_eq (by omega) (by omega) (.inl (decide_eq_true (by rw [← e7]; omega))) (fun j j1 j2 => uq j j1 (by omega))
              obtain ⟨D, q1, q2⟩ := q
              rw [show Int.toNat (i_2 + 1) = Int.toNat i_2 + 1 by omega] at q1 q2
              obtain ⟨t1, t2⟩ := top_step hx4 hx3 (bp _) q1 q2 dn.symm
              have f2 : 0 ≤ fewC (pre kinds stock (Int.toNat i_2)) (n_2 - many_2 * x4) := by rw [← e7]; omega
              refine hF2 _ _ ?_
              conv => cbv
              refine r_oindex m.sX (by omega) (by omega) ?_
              conv => cbv
              obtain ⟨y1, hy1⟩ := get_ex (xs := counts_2) (i := Int.toNat i_2) (by omega)
              refine r_ostore (l := Int.toNat i_2) many_2 m.sX hy1 (Nat.le_of_ble_eq_true rfl) rfl fun counts_3 hcounts_3 => ?_   -- counts_3 = counts_2.set i_2 many_2
              have lcounts_3 : (counts_3.length : Int) = counts_2.length := by rw [hcounts_3]; first | done | (simp; done) | (simp; omega)
              conv => cbv
              refine r_index m.sX (by omega) (by omega) fun x8 hx8 => ?_
              conv => cbv
              have mx8 := get_mem hx8
              have vx8 := nth_some hx8
              obtain rfl : x4 = x8 := Option.some.inj (hx4.symm.trans hx8)
              refine r_mulf m.sX (by first | omega | (subst_vars; omega)) (by first | omega | (subst_vars; omega)) fun r4 hr4 => ?_
              conv => cbv
              refine r_subf m.sX (by omega) (by omega) fun n_3 hn_3 => ?_
              conv => cbv
              refine r_subf m.sX (by omega) (by omega) fun i_3 hi_3 => ?_
              conv => cbv
              refine hE _ (n_3, counts_3, i_3) ?_ ?_ ⟨(by (try dsimp only) <;> first | omega | rfl | (simp [*]; done) | (rw [k1]; simp [*]; done)), (by (try dsimp only) <;> first | omega | rfl | (simp [*]; done) | (rw [nb]; simp [*]; done)), (by (try dsimp only) <;> (rw [show Int.toNat (i_3 + 1) = Int.toNat i_2 by omega, hn_3, hr4]; exact f2)), (by (try dsimp only) <;> first | omega | rfl | (simp [*]; done) | (rw [ln]; simp [*]; done)), (by (try dsimp only) <;> (exact ⟨many_2 :: D, by rw [hcounts_3, t1, show Int.toNat (i_3 + 1) = Int.toNat i_2 by omega], by rw [t2, show Int.toNat (i_3 + 1) = Int.toNat i_2 by omega, hn_3, hr4]⟩))⟩ (by first | omega | (dsimp only; omega))
              · cbv
              · cbv
          · refine hF _ _ ?_
            conv => cbv
            exact hQ (.tup [.fr 3 1 (rows cInt counts_2), .bool true]) (Eq.trans (by first | rfl | (simp only [lb, lbI, rows_cons, rows_nil, unnilT, unnil, unnilTI, unnilI]; done) | (simp only [lb, lbI, rows_cons, rows_nil, unnilT, unnil, unnilTI, unnilI]; rfl)) (congrArg ((lb 3 1 cInt)) (show (counts_2, true) = stkF kinds stock n from by obtain ⟨D, q1, q2⟩ := q; rw [stkF, h1, h2, decide_eq_true (show 0 ≤ fewC (pre kinds stock kinds.length) n by omega), q1, q2, show Int.toNat (i_2 + 1) = 0 by omega]; simp [pre, topC])))   -- leaf 2
      · exact hQ (.tup [.fr 3 1 [], .bool false]) (Eq.trans (by first | rfl | (simp only [lb, lbI, rows_cons, rows_nil, unnilT, unnil, unnilTI, unnilI]; done) | (simp only [lb, lbI, rows_cons, rows_nil, unnilT, unnil, unnilTI, unnilI]; rfl)) (congrArg ((lb 3 1 cInt)) (show ([], false) = stkF kinds stock n from by rw [stkF, h1, h2]; rfl)))   -- leaf 3
    · exact hQ (.tup [.fr 3 1 [], .bool false]) (Eq.trans (by first | rfl | (simp only [lb, lbI, rows_cons, rows_nil, unnilT, unnil, unnilTI, unnilI]; done) | (simp only [lb, lbI, rows_cons, rows_nil, unnilT, unnil, unnilTI, unnilI]; rfl)) (congrArg ((lb 3 1 cInt)) (show ([], false) = stkF kinds stock n from by rw [stkF, h1]; rfl))))   -- leaf 4

theorem ThinnestNeeded_ok (kinds : List Int) (n : Int)  : OkA Tryd.prog 59 [.isl 1 (rows cInt kinds), .int .i64 n] (· = ib (thinF kinds n)) :=
  fn_intro envOk fieldsOk mixed Tryd.func59 rfl fun κ X Y L Q m hQ => by
    conv => cbv
    refine r_callB m.sX (isFill_ok kinds n) (fun h1 => ?_) (fun h1 => ?_) <;> conv => cbv
    · obtain ⟨b1, b2, b3⟩ := okF_spec h1
      refine r_islice' (i := 1) m.sX (by omega) (by omega) fun others hothers => ?_   -- others = kinds[1:None]
      have lothers : (others.length : Int) = kinds.length - 1 := by rw [hothers]; first | done | (simp; done) | (simp; omega)
      have bo : ∀ k ∈ others, 1 ≤ k ∧ k ≤ 54 := fun k hk => b2 k (by rw [hothers] at hk; exact List.mem_of_mem_drop hk)
      have bo1 : ∀ k ∈ others, 1 ≤ k := fun k hk => (bo k hk).1
      have bo2 : ∀ k ∈ others, 1 ≤ k ∧ k ≤ 10000 := fun k hk => by have := bo k hk; omega
      have lo_ : others.length ≤ 1000 := by rw [hothers, List.length_drop]; omega
      conv => cbv
      refine r_callF (fun l => PV.fr _ _ (rows _ l)) m.sX (plenty_ok others (by first | rfl | assumption | omega | (simp only [List.length_append, List.length_cons, List.length_nil] at *; omega))) fun v1 hv1 => ?_
      conv => cbv
      have bs : ∀ k ∈ v1, 0 ≤ k ∧ k ≤ 10000 := fun k hk => by rw [hv1] at hk; have := (List.mem_replicate.1 hk).2; omega
      have bl : v1.length = others.length := by rw [hv1]; simp
      have ep : pre others v1 others.length = prF others := by rw [hv1]; rfl
      refine .inr (r_pcallF (fun l => PV.fr _ _ (rows _ l)) m.sX (fewest_ok others v1 n (by first | rfl | assumption | omega | (simp only [List.length_append, List.length_cons, List.length_nil] at *; omega)) (by first | rfl | assumption | omega | (simp only [List.length_append, List.length_cons, List.length_nil] at *; omega)) (by first | rfl | assumption | omega | (simp only [List.length_append, List.length_cons, List.length_nil] at *; omega)) (by first | rfl | assumption | omega | (simp only [List.length_append, List.length_cons, List.length_nil] at *; omega)) (by first | rfl | assumption | omega | (simp only [List.length_append, List.length_cons, List.length_nil] at *; omega))) fun v2 hv2 => ?_)
      conv => cbv
      have l2_ : (v2.length : Int) = others.length + 1 := by rw [hv2, tabC]; simp
      refine r_lenR m.sX fun n1 hn1 mn1 => ?_
      conv => cbv
      refine r_oindex m.sX (by omega) (by omega) ?_
      conv => cbv
      obtain ⟨row, hrow⟩ := get_ex (xs := v2) (i := Int.toNat n1) (by omega)
      have mrow := get_mem hrow
      have er : row = rowP others n := by rw [hv2, show Int.toNat n1 = others.length by omega] at hrow; rw [← rowC_prF bo1 b3.2, ← ep]; exact (Option.some.inj ((tabC_get (by omega)).symm.trans hrow)).symm
      have lr_ : (row.length : Int) = n + 1 := by rw [er, rowP_length]; omega
      refine r_oload m.sX hrow (Nat.le_of_ble_eq_true rfl) ?_
      conv => cbv
      refine r_loopF (α := Int) m 45 [0, 1, 7, 8] [] (fun σ => [(0, .isl 1 (rows cInt kinds)), (1, .int .i64 n), (7, .isl 1 (rows cInt row)), (8, .int .i64 σ)]) (fun σ => [])
        (fun σ => (0 ≤ σ ∧ σ ≤ n + 1) ∧ (∀ j, 0 ≤ j → j < σ → ¬ Thin kinds n j)) (fun σ => (n + 1 - σ).toNat) 0 ?_ ?_ ?_ ?_
      · cbv
      · cbv
      · exact ⟨(by (try dsimp only) <;> first | omega | rfl | (simp [*]; done)), (by (try dsimp only) <;> (intro j j1 j2; omega))⟩
      rintro many ⟨k1, uq⟩ E hE F hF
      conv => cbv
      refine r_index m.sX (by omega) (by omega) fun x1 hx1 => ?_
      conv => cbv
      have mx1 := get_mem hx1
      have vx1 := nth_some hx1
      have w1 := b2 _ mx1
      have th : ∀ j, Thin kinds n j ↔ 0 ≤ fewP others (n - j * x1) := fun j => by show 0 ≤ fewP (kinds.drop 1) (n - j * nth kinds 0) ↔ _; rw [show kinds.drop 1 = others from hothers.symm, show nth kinds 0 = x1 from vx1]
      have g1 := mul_bound k1.1 (show many ≤ 401 by omega) (show 0 ≤ x1 by omega) w1.2
      refine r_mulf m.sX (by first | omega | (subst_vars; omega)) (by first | omega | (subst_vars; omega)) fun r1 hr1 => ?_
      conv => cbv
      refine r_leq m.sX (fun h2 => ?_) (fun h2 => ?_) <;> conv => cbv
      · have g2 : many * 1 ≤ many * x1 := Int.mul_le_mul_of_nonneg_left w1.1 k1.1
        refine r_index m.sX (by omega) (by omega) fun x2 hx2 => ?_
        conv => cbv
        have mx2 := get_mem hx2
        have vx2 := nth_some hx2
        obtain rfl : x1 = x2 := Option.some.inj (hx1.symm.trans hx2)
        refine r_mulf m.sX (by first | omega | (subst_vars; omega)) (by first | omega | (subst_vars; omega)) fun r2 hr2 => ?_
        conv => cbv
        refine r_subf m.sX (by omega) (by omega) fun r3 hr3 => ?_
        conv => cbv
        refine r_index m.sX (by omega) (by omega) fun x3 hx3 => ?_
        conv => cbv
        have mx3 := get_mem hx3
        have vx3 := nth_some hx3
        have e3 : x3 = fewP others (n - many * x1) := by rw [← vx3, er, rowP_nth (by omega), Int.toNat_of_nonneg (by omega), hr3, hr2]
        refine r_geq m.sX (fun h3 => ?_) (fun h3 => ?_) <;> conv => cbv
        · refine hF _ _ ?_
          conv => cbv
          exact hQ (.tup [.int .i64 many, .bool true]) (Eq.trans (by first | rfl | (simp only [lb, lbI, rows_cons, rows_nil, unnilT, unnil, unnilTI, unnilI]; done) | (simp only [lb, lbI, rows_cons, rows_nil, unnilT, unnil, unnilTI, unnilI]; rfl)) (congrArg (ib) (show (many, true) = thinF kinds n from by rw [thinF, thin_at k1.1 ((th many).2 (by rw [← e3]; omega)) uq, h1, decide_eq_true k1.1]; rfl)))   -- leaf 1
        · refine r_addf m.sX (by omega) (by omega) fun many_2 hmany_2 => ?_
          conv => cbv
          refine hE _ many_2 ?_ ?_ ⟨(by (try dsimp only) <;> first | omega | rfl | (simp [*]; done) | (rw [k1]; simp [*]; done)), (by (try dsimp only) <;> (intro j j1 j2 ht; rcases Int.lt_or_le j many with j3 | j3; exact uq j j1 j3 ht; have := (th j).1 ht; rw [show j = many by omega, ← e3] at this; omega))⟩ (by first | omega | (dsimp only; omega))
          · cbv
          · cbv
      · refine hF _ _ ?_
        conv => cbv
        exact hQ (.tup [.int .i64 0, .bool false]) (Eq.trans (by first | rfl | (simp only [lb, lbI, rows_cons, rows_nil, unnilT, unnil, unnilTI, unnilI]; done) | (simp only [lb, lbI, rows_cons, rows_nil, unnilT, unnil, unnilTI, unnilI]; rfl)) (congrArg (ib) (show (0, false) = thinF kinds n from by have tn := thin_none (ks := kinds) (n := n) (fun j j1 ht => by rcases Int.lt_or_le j many with j3 | j3; exact uq j j1 j3 ht; have g3 : many * x1 ≤ j * x1 := Int.mul_le_mul_of_nonneg_right j3 (by omega); have := (th j).1 ht; rw [fewP_neg bo1 (show n - j * x1 < 0 by omega)] at this; omega); rw [thinF, h1, decide_eq_false (show ¬ 0 ≤ minOf (Thin kinds n) by omega)]; rfl)))   -- leaf 2
    · exact hQ (.tup [.int .i64 0, .bool false]) (Eq.trans (by first | rfl | (simp only [lb, lbI, rows_cons, rows_nil, unnilT, unnil, unnilTI, unnilI]; done) | (simp only [lb, lbI, rows_cons, rows_nil, unnilT, unnil, unnilTI, unnilI]; rfl)) (congrArg (ib) (show (0, false) = thinF kinds n from by rw [thinF, h1]; rfl)))   -- leaf 3

theorem specThinnestNeeded_ok (kinds : List Int) (n : Int)  : OkA Tryd.prog 60 [.isl 1 (rows cInt kinds), .int .i64 n] (· = ib (thinF kinds n)) :=
  fn_intro envOk fieldsOk mixed Tryd.func60 rfl fun κ X Y L Q m hQ => by
    conv => cbv
    refine r_callB m.sX (wsAsked_ok kinds n) (fun h1 => ?_) (fun h1 => ?_) <;> conv => cbv
    · obtain ⟨b1, b2, b3⟩ := okF_spec h1
      refine r_islice' (i := 1) m.sX (by omega) (by omega) fun zs1 hzs1 => ?_   -- zs1 = kinds[1:None]
      have lzs1 : (zs1.length : Int) = kinds.length - 1 := by rw [hzs1]; first | done | (simp; done) | (simp; omega)
      have bo : ∀ k ∈ zs1, 1 ≤ k ∧ k ≤ 54 := fun k hk => b2 k (by rw [hzs1] at hk; exact List.mem_of_mem_drop hk)
      have bo1 : ∀ k ∈ zs1, 1 ≤ k := fun k hk => (bo k hk).1
      have lo_ : zs1.length ≤ 1000 := by rw [hzs1, List.length_drop]; omega
      conv => cbv
      refine r_callF (fun l => PV.fr _ _ (rows _ l)) m.sX (wsFew_ok zs1 n (by first | rfl | assumption | omega | (simp only [List.length_append, List.length_cons, List.length_nil] at *; omega)) (by first | rfl | assumption | omega | (simp only [List.length_append, List.length_cons, List.length_nil] at *; omega)) (by first | rfl | assumption | omega | (simp only [List.length_append, List.length_cons, List.length_nil] at *; omega))) fun few hfew => ?_
      conv => cbv
      have lr_ : (few.length : Int) = n + 1 := by rw [hfew, rowP_length]; omega
      refine r_loopF (α := Int) m 37 [0, 1, 7] [⟨6, 49, 3, 1, 0⟩] (fun σ => [(0, .isl 1 (rows cInt kinds)), (1, .int .i64 n), (6, .osl 49 0), (7, .int .i64 σ)]) (fun σ => [(49, 0, .row 3 1 (rows cInt few))])
        (fun σ => (0 ≤ σ ∧ σ ≤ n + 1) ∧ (∀ j, 0 ≤ j → j < σ → ¬ Thin kinds n j)) (fun σ => (n + 1 - σ).toNat) 0 ?_ ?_ ?_ ?_
      · cbv
      · cbv
      · exact ⟨(by (try dsimp only) <;> first | omega | rfl | (simp [*]; done)), (by (try dsimp only) <;> (intro j j1 j2; omega))⟩
      rintro count ⟨k1, uq⟩ E hE F hF
      conv => cbv
      refine r_index m.sX (by omega) (by omega) fun x1 hx1 => ?_
      conv => cbv
      have mx1 := get_mem hx1
      have vx1 := nth_some hx1
      have w1 := b2 _ mx1
      have th : ∀ j, Thin kinds n j ↔ 0 ≤ fewP zs1 (n - j * x1) := fun j => by show 0 ≤ fewP (kinds.drop 1) (n - j * nth kinds 0) ↔ _; rw [show kinds.drop 1 = zs1 from hzs1.symm, show nth kinds 0 = x1 from nth_some hx1]
      have g1 := mul_bound k1.1 (show count ≤ 401 by omega) (show 0 ≤ x1 by omega) w1.2
      refine r_mulf m.sX (by first | omega | (subst_vars; omega)) (by first | omega | (subst_vars; omega)) fun r1 hr1 => ?_
      conv => cbv
      refine r_leq m.sX (fun h2 => ?_) (fun h2 => ?_) <;> conv => cbv
      · have g2 : count * 1 ≤ count * x1 := Int.mul_le_mul_of_nonneg_left w1.1 k1.1
        refine r_index m.sX (by omega) (by omega) fun x2 hx2 => ?_
        conv => cbv
        have mx2 := get_mem hx2
        have vx2 := nth_some hx2
        obtain rfl : x1 = x2 := Option.some.inj (hx1.symm.trans hx2)
        refine r_mulf m.sX (by first | omega | (subst_vars; omega)) (by first | omega | (subst_vars; omega)) fun r2 hr2 => ?_
        conv => cbv
        refine r_subf m.sX (by omega) (by omega) fun r3 hr3 => ?_
        conv => cbv
        refine r_oindex m.sX (by omega) (by omega) ?_
        conv => cbv
        obtain ⟨x3, hx3⟩ := get_ex (xs := few) (i := Int.toNat r3) (by omega)
        have mx3 := get_mem hx3
        have vx3 := nth_some hx3
        have e3 : x3 = fewP zs1 (n - count * x1) := by rw [← nth_some hx3, hfew, rowP_nth (by omega), Int.toNat_of_nonneg (by omega), hr3, hr2]
        refine r_oload m.sX hx3 (Nat.le_of_ble_eq_true rfl) ?_
        conv => cbv
        refine r_geq m.sX (fun h3 => ?_) (fun h3 => ?_) <;> conv => cbv
        · refine hF _ _ ?_
          conv => cbv
          exact hQ (.tup [.int .i64 count, .bool true]) (Eq.trans (by first | rfl | (simp only [lb, lbI, rows_cons, rows_nil, unnilT, unnil, unnilTI, unnilI]; done) | (simp only [lb, lbI, rows_cons, rows_nil, unnilT, unnil, unnilTI, unnilI]; rfl)) (congrArg (ib) (show (count, true) = thinF kinds n from by rw [thinF, thin_at k1.1 ((th count).2 (by rw [← e3]; omega)) uq, h1, decide_eq_true k1.1]; rfl)))   -- leaf 1
        · refine r_addf m.sX (by omega) (by omega) fun count_2 hcount_2 => ?_
          conv => cbv
          refine hE _ count_2 ?_ ?_ ⟨(by (try dsimp only) <;> first | omega | rfl | (simp [*]; done) | (rw [k1]; simp [*]; done)), (by (try dsimp only) <;> (intro j j1 j2 ht; rcases Int.lt_or_le j count with j3 | j3; exact uq j j1 j3 ht; have := (th j).1 ht; rw [show j = count by omega, ← e3] at this; omega))⟩ (by first | omega | (dsimp only; omega))
          · cbv
          · cbv
      · refine hF _ _ ?_
        conv => cbv
        exact hQ (.tup [.int .i64 0, .bool false]) (Eq.trans (by first | rfl | (simp only [lb, lbI, rows_cons, rows_nil, unnilT, unnil, unnilTI, unnilI]; done) | (simp only [lb, lbI, rows_cons, rows_nil, unnilT, unnil, unnilTI, unnilI]; rfl)) (congrArg (ib) (show (0, false) = thinF kinds n from by have tn := thin_none (ks := kinds) (n := n) (fun j j1 ht => by rcases Int.lt_or_le j count with j3 | j3; exact uq j j1 j3 ht; have g3 : count * x1 ≤ j * x1 := Int.mul_le_mul_of_nonneg_right j3 (by omega); have := (th j).1 ht; rw [fewP_neg bo1 (show n - j * x1 < 0 by omega)] at this; omega); rw [thinF, h1, decide_eq_false (show ¬ 0 ≤ minOf (Thin kinds n) by omega)]; rfl)))   -- leaf 2
    · exact hQ (.tup [.int .i64 0, .bool false]) (Eq.trans (by first | rfl | (simp only [lb, lbI, rows_cons, rows_nil, unnilT, unnil, unnilTI, unnilI]; done) | (simp only [lb, lbI, rows_cons, rows_nil, unnilT, unnil, unnilTI, unnilI]; rfl)) (congrArg (ib) (show (0, false) = thinF kinds n from by rw [thinF, h1]; rfl)))   -- leaf 3

theorem SpacesText_ok (kinds : List Int) (counts : List Int)  : OkA Tryd.prog 63 [.isl 1 (rows cInt kinds), .isl 1 (rows cInt counts)] (· = sb (stxF kinds counts)) :=
  fn_intro envOk fieldsOk mixed Tryd.func63 rfl fun κ X Y L Q m hQ => by
    conv => cbv
    refine r_callB m.sX (areSpaceCounts_ok kinds counts) (fun h1 => ?_) (fun h1 => ?_) <;> conv => cbv
    · obtain ⟨s1_, s2_⟩ := okCn_spec h1
      have kk : (∀ k ∈ kinds, 1 ≤ k ∧ k ≤ 54) ∧ (kinds.length : Int) ≤ 6 := okCn_kinds h1
      refine r_lenR m.sX fun n1 hn1 mn1 => ?_
      conv => cbv
      refine r_subf m.sX (by omega) (by omega) fun i hi => ?_
      conv => cbv
      refine r_loopF (α := List UInt8 × Int) m 45 [0, 1, 6, 7] [] (fun σ => [(0, .isl 1 (rows cInt kinds)), (1, .isl 1 (rows cInt counts)), (6, .str σ.1), (7, .int .i64 σ.2)]) (fun σ => [])
        (fun σ => (-1 ≤ σ.2 ∧ σ.2 ≤ (kinds.length : Int) - 1) ∧ (TxtSt kinds counts (σ.2 + 1).toNat σ.1) ∧ ((σ.1.length : Int) ≤ 50 * ((kinds.length : Int) - 1 - σ.2))) (fun σ => (σ.2 + 1).toNat) (([] : List UInt8), i) ?_ ?_ ?_ ?_
      · cbv
      · cbv
      · exact ⟨(by (try dsimp only) <;> first | omega | rfl | (simp [*]; done)), (by (try dsimp only) <;> (exact txt_start (by omega))), (by (try dsimp only) <;> first | omega | rfl | (simp [*]; done))⟩
      rintro ⟨text, i_2⟩ ⟨k1, q, tl⟩ E hE F hF
      dsimp only at k1 q tl
      conv => cbv
      refine r_geq m.sX (fun h2 => ?_) (fun h2 => ?_) <;> conv => cbv
      · refine r_index m.sX (by omega) (by omega) fun x1 hx1 => ?_
        conv => cbv
        have mx1 := get_mem hx1
        have vx1 := nth_some hx1
        have w1 := s1_ _ mx1
        obtain ⟨kx, hkx⟩ := get_ex (xs := kinds) (i := Int.toNat i_2) (by omega)
        refine r_eql m.sX (fun h3 => ?_) (fun h3 => ?_) <;> conv => cbv
        · refine r_subf m.sX (by omega) (by omega) fun i_3 hi_3 => ?_
          conv => cbv
          refine hE _ (text, i_3) ?_ ?_ ⟨(by (try dsimp only) <;> first | omega | rfl | (simp [*]; done) | (rw [k1]; simp [*]; done)), (by (try dsimp only) <;> (first | exact txt_zero hkx hx1 (by omega) (by omega) (by omega) q | exact txt_more hkx hx1 (by omega) (by omega) (by omega) q h4 (by rw [htext_3, htext_2, hs2, hs1, hv1, hv2, ek]) | exact txt_first hkx hx1 (by omega) (by omega) (by omega) q h4 (by rw [htext_4, hs4, hs3, hv3, hv4, ek]))), (by (try dsimp only) <;> first | omega | rfl | (simp [*]; done) | (rw [tl]; simp [*]; done))⟩ (by first | omega | (dsimp only; omega))
          · cbv
          · cbv
        · refine r_sneq m.sX (fun h4 => ?_) (fun h4 => ?_) <;> conv => cbv
          · refine r_scat (u := text) (v := ([43] : List UInt8)) m.sX (by first | omega | (simp only [List.length_cons, List.length_nil]; omega) | (simp; omega)) fun text_2 htext_2 => ?_   -- text_2 = text ++ ([43] : List UInt8)
            have ltext_2 : (text_2.length : Int) = text.length + ([43] : List UInt8).length := by rw [htext_2, List.length_append, Int.natCast_add]
            try simp only [List.length_cons, List.length_nil] at ltext_2
            conv => cbv
            refine r_draw m (by kernel_rfl) ?_
            conv => cbv
            refine r_index m.sY (by omega) (by omega) fun x2 hx2 => ?_
            conv => cbv
            have mx2 := get_mem hx2
            have vx2 := nth_some hx2
            obtain rfl : x1 = x2 := Option.some.inj (hx1.symm.trans hx2)
            refine r_callFS .str m.sY (itoa_ok x1 (by omega) (by omega)) trivial fun v1 hv1 => ?_
            conv => cbv
            have lv1 : v1.length ≤ 21 := by rw [hv1]; exact Lib.itoa_length_le _ (by omega) (by omega)
            refine r_scat (u := v1) (v := ([120] : List UInt8)) m.sY (by first | omega | (simp only [List.length_cons, List.length_nil]; omega) | (simp; omega)) fun s1 hs1 => ?_   -- s1 = v1 ++ ([120] : List UInt8)
            have ls1 : (s1.length : Int) = v1.length + ([120] : List UInt8).length := by rw [hs1, List.length_append, Int.natCast_add]
            try simp only [List.length_cons, List.length_nil] at ls1
            conv => cbv
            refine r_index m.sY (by omega) (by omega) fun x3 hx3 => ?_
            conv => cbv
            have mx3 := get_mem hx3
            have vx3 := nth_some hx3
            have ek := Option.some.inj (hkx.symm.trans hx3)
            have wk := kk.1 _ mx3
            refine r_callFS .str m.sY (itoa_ok x3 (by omega) (by omega)) trivial fun v2 hv2 => ?_
            conv => cbv
            have lv2 : v2.length ≤ 21 := by rw [hv2]; exact Lib.itoa_length_le _ (by omega) (by omega)
            refine r_scat (u := s1) (v := v2) m.sY (by first | omega | (simp only [List.length_cons, List.length_nil]; omega) | (simp; omega)) fun s2 hs2 => ?_   -- s2 = s1 ++ v2
            have ls2 : (s2.length : Int) = s1.length + v2.length := by rw [hs2, List.length_append, Int.natCast_add]
            try simp only [List.length_cons, List.length_nil] at ls2
            conv => cbv
            refine r_scat (u := text_2) (v := s2) m.sY (by first | omega | (simp only [List.length_cons, List.length_nil]; omega) | (simp; omega)) fun text_3 htext_3 => ?_   -- text_3 = text_2 ++ s2
            have ltext_3 : (text_3.length : Int) = text_2.length + s2.length := by rw [htext_3, List.length_append, Int.natCast_add]
            try simp only [List.length_cons, List.length_nil] at ltext_3
            conv => cbv
            refine r_subf m.sX (by omega) (by omega) fun i_4 hi_4 => ?_
            conv => cbv
            refine hE _ (text_3, i_4) ?_ ?_ ⟨(by (try dsimp only) <;> first | omega | rfl | (simp [*]; done) | (rw [k1]; simp [*]; done)), (by (try dsimp only) <;> (first | exact txt_zero hkx hx1 (by omega) (by omega) (by omega) q | exact txt_more hkx hx1 (by omega) (by omega) (by omega) q h4 (by rw [htext_3, htext_2, hs2, hs1, hv1, hv2, ek]) | exact txt_first hkx hx1 (by omega) (by omega) (by omega) q h4 (by rw [htext_4, hs4, hs3, hv3, hv4, ek]))), (by (try dsimp only) <;> first | omega | rfl | (simp [*]; done) | (rw [tl]; simp [*]; done))⟩ (by first | omega | (dsimp only; omega))
            · cbv
            · cbv
          · refine r_draw m (by kernel_rfl) ?_
            conv => cbv
            refine r_index m.sY (by omega) (by omega) fun x4 hx4 => ?_
            conv => cbv
            have mx4 := get_mem hx4
            have vx4 := nth_some hx4
            obtain rfl : x1 = x4 := Option.some.inj (hx1.symm.trans hx4)
            refine r_callFS .str m.sY (itoa_ok x1 (by omega) (by omega)) trivial fun v3 hv3 => ?_
            conv => cbv
            have lv3 : v3.length ≤ 21 := by rw [hv3]; exact Lib.itoa_length_le _ (by omega) (by omega)
            refine r_scat (u := v3) (v := ([120] : List UInt8)) m.sY (by first | omega | (simp only [List.length_cons, List.length_nil]; omega) | (simp; omega)) fun s3 hs3 => ?_   -- s3 = v3 ++ ([120] : List UInt8)
            have ls3 : (s3.length : Int) = v3.length + ([120] : List UInt8).length := by rw [hs3, List.length_append, Int.natCast_add]
            try simp only [List.length_cons, List.length_nil] at ls3
            conv => cbv
            refine r_index m.sY (by omega) (by omega) fun x5 hx5 => ?_
            conv => cbv
            have mx5 := get_mem hx5
            have vx5 := nth_some hx5
            have ek := Option.some.inj (hkx.symm.trans hx5)
            have wk := kk.1 _ mx5
            refine r_callFS .str m.sY (itoa_ok x5 (by omega) (by omega)) trivial fun v4 hv4 => ?_
            conv => cbv
            have lv4 : v4.length ≤ 21 := by rw [hv4]; exact Lib.itoa_length_le _ (by omega) (by omega)
            refine r_scat (u := s3) (v := v4) m.sY (by first | omega | (simp only [List.length_cons, List.length_nil]; omega) | (simp; omega)) fun s4 hs4 => ?_   -- s4 = s3 ++ v4
            have ls4 : (s4.length : Int) = s3.length + v4.length := by rw [hs4, List.length_append, Int.natCast_add]
            try simp only [List.length_cons, List.length_nil] at ls4
            conv => cbv
            refine r_scat (u := text) (v := s4) m.sY (by first | omega | (simp only [List.length_cons, List.length_nil]; omega) | (simp; omega)) fun text_4 htext_4 => ?_   -- text_4 = text ++ s4
            have ltext_4 : (text_4.length : Int) = text.length + s4.length := by rw [htext_4, List.length_append, Int.natCast_add]
            try simp only [List.length_cons, List.length_nil] at ltext_4
            conv => cbv
            refine r_subf m.sX (by omega) (by omega) fun i_5 hi_5 => ?_
            conv => cbv
            refine hE _ (text_4, i_5) ?_ ?_ ⟨(by (try dsimp only) <;> first | omega | rfl | (simp [*]; done) | (rw [k1]; simp [*]; done)), (by (try dsimp only) <;> (first | exact txt_zero hkx hx1 (by omega) (by omega) (by omega) q | exact txt_more hkx hx1 (by omega) (by omega) (by omega) q h4 (by rw [htext_3, htext_2, hs2, hs1, hv1, hv2, ek]) | exact txt_first hkx hx1 (by omega) (by omega) (by omega) q h4 (by rw [htext_4, hs4, hs3, hv3, hv4, ek]))), (by (try dsimp only) <;> first | omega | rfl | (simp [*]; done) | (rw [tl]; simp [*]; done))⟩ (by first | omega | (dsimp only; omega))
            · cbv
            · cbv
      · refine hF _ _ ?_
        conv => cbv
        refine r_seql m.sX (fun h5 => ?_) (fun h5 => ?_) <;> conv => cbv
        · exact hQ (.tup [.str ([48] : List UInt8), .bool true]) (Eq.trans (by first | rfl | (simp only [lb, lbI, rows_cons, rows_nil, unnilT, unnil, unnilTI, unnilI]; done) | (simp only [lb, lbI, rows_cons, rows_nil, unnilT, unnil, unnilTI, unnilI]; rfl)) (congrArg (sb) (show (([48] : List UInt8), true) = stxF kinds counts from by rw [txt_end (by omega) q h1, if_pos h5])))   -- leaf 1
        · exact hQ (.tup [.str text, .bool true]) (Eq.trans (by first | rfl | (simp only [lb, lbI, rows_cons, rows_nil, unnilT, unnil, unnilTI, unnilI]; done) | (simp only [lb, lbI, rows_cons, rows_nil, unnilT, unnil, unnilTI, unnilI]; rfl)) (congrArg (sb) (show (text, true) = stxF kinds counts from by rw [txt_end (by omega) q h1, if_neg h5])))   -- leaf 2
    · exact hQ (.tup [.str ([] : List UInt8), .bool false]) (Eq.trans (by first | rfl | (simp only [lb, lbI, rows_cons, rows_nil, unnilT, unnil, unnilTI, unnilI]; done) | (simp only [lb, lbI, rows_cons, rows_nil, unnilT, unnil, unnilTI, unnilI]; rfl)) (congrArg (sb) (show (([] : List UInt8), false) = stxF kinds counts from by rw [stxF, h1]; rfl)))   -- leaf 3

theorem specSpacesText_ok (kinds : List Int) (counts : List Int)  : OkA Tryd.prog 64 [.isl 1 (rows cInt kinds), .isl 1 (rows cInt counts)] (· = sb (stxF kinds counts)) :=
  fn_intro envOk fieldsOk mixed Tryd.func64 rfl fun κ X Y L Q m hQ => by
    conv => cbv
    refine r_callB m.sX (wsKinds_ok kinds) (fun h1 => ?_) (fun h1 => ?_) <;> conv => cbv
    · refine r_callB m.sX (wsCounts_ok kinds counts) (fun h2 => ?_) (fun h2 => ?_) <;> conv => cbv
      · have ok_ : okCn kinds counts = true := by rw [okCn, h1, Bool.and_comm (allB counts 0 400), h2]; rfl
        obtain ⟨s1_, s2_⟩ := okCn_spec ok_
        have kk : (∀ k ∈ kinds, 1 ≤ k ∧ k ≤ 54) ∧ (kinds.length : Int) ≤ 6 := okCn_kinds ok_
        refine r_lenR m.sX fun n1 hn1 mn1 => ?_
        conv => cbv
        refine r_subf m.sX (by omega) (by omega) fun k hk => ?_
        conv => cbv
        refine r_loopF (α := List UInt8 × Int) m 48 [0, 1, 6, 7] [] (fun σ => [(0, .isl 1 (rows cInt kinds)), (1, .isl 1 (rows cInt counts)), (6, .str σ.1), (7, .int .i64 σ.2)]) (fun σ => [])
          (fun σ => (-1 ≤ σ.2 ∧ σ.2 ≤ (kinds.length : Int) - 1) ∧ (StxSt kinds counts (σ.2 + 1).toNat σ.1) ∧ ((σ.1.length : Int) ≤ 50 * ((kinds.length : Int) - 1 - σ.2))) (fun σ => (σ.2 + 1).toNat) (([] : List UInt8), k) ?_ ?_ ?_ ?_
        · cbv
        · cbv
        · exact ⟨(by (try dsimp only) <;> first | omega | rfl | (simp [*]; done)), (by (try dsimp only) <;> (exact stx_start (by omega))), (by (try dsimp only) <;> first | omega | rfl | (simp [*]; done))⟩
        rintro ⟨s_, k_2⟩ ⟨k1, q, tl⟩ E hE F hF
        dsimp only at k1 q tl
        conv => cbv
        refine r_geq m.sX (fun h3 => ?_) (fun h3 => ?_) <;> conv => cbv
        · refine r_index m.sX (by omega) (by omega) fun x1 hx1 => ?_
          conv => cbv
          have mx1 := get_mem hx1
          have vx1 := nth_some hx1
          have w1 := s1_ _ mx1
          obtain ⟨kx, hkx⟩ := get_ex (xs := kinds) (i := Int.toNat k_2) (by omega)
          refine r_gtr m.sX (fun h4 => ?_) (fun h4 => ?_) <;> conv => cbv
          · refine r_draw m (by kernel_rfl) ?_
            conv => cbv
            refine r_index m.sY (by omega) (by omega) fun x2 hx2 => ?_
            conv => cbv
            have mx2 := get_mem hx2
            have vx2 := nth_some hx2
            obtain rfl : x1 = x2 := Option.some.inj (hx1.symm.trans hx2)
            refine r_callFS .str m.sY (l1Num_ok x1 (by omega) (by omega)) trivial fun v1 hv1 => ?_
            conv => cbv
            have lv1 : v1.length ≤ 20 := by rw [hv1]; exact decDigits_le (by omega)
            refine r_scat (u := ([43] : List UInt8)) (v := v1) m.sY (by first | omega | (simp only [List.length_cons, List.length_nil]; omega) | (simp; omega)) fun s1 hs1 => ?_   -- s1 = ([43] : List UInt8) ++ v1
            have ls1 : (s1.length : Int) = ([43] : List UInt8).length + v1.length := by rw [hs1, List.length_append, Int.natCast_add]
            try simp only [List.length_cons, List.length_nil] at ls1
            conv => cbv
            refine r_scat (u := s1) (v := ([120] : List UInt8)) m.sY (by first | omega | (simp only [List.length_cons, List.length_nil]; omega) | (simp; omega)) fun s2 hs2 => ?_   -- s2 = s1 ++ ([120] : List UInt8)
            have ls2 : (s2.length : Int) = s1.length + ([120] : List UInt8).length := by rw [hs2, List.length_append, Int.natCast_add]
            try simp only [List.length_cons, List.length_nil] at ls2
            conv => cbv
            refine r_index m.sY (by omega) (by omega) fun x3 hx3 => ?_
            conv => cbv
            have mx3 := get_mem hx3
            have vx3 := nth_some hx3
            have ek := Option.some.inj (hkx.symm.trans hx3)
            have wk := kk.1 _ mx3
            refine r_callFS .str m.sY (l1Num_ok x3 (by omega) (by omega)) trivial fun v2 hv2 => ?_
            conv => cbv
            have lv2 : v2.length ≤ 20 := by rw [hv2]; exact decDigits_le (by omega)
            refine r_scat (u := s2) (v := v2) m.sY (by first | omega | (simp only [List.length_cons, List.length_nil]; omega) | (simp; omega)) fun s3 hs3 => ?_   -- s3 = s2 ++ v2
            have ls3 : (s3.length : Int) = s2.length + v2.length := by rw [hs3, List.length_append, Int.natCast_add]
            try simp only [List.length_cons, List.length_nil] at ls3
            conv => cbv
            refine r_scat (u := s_) (v := s3) m.sY (by first | omega | (simp only [List.length_cons, List.length_nil]; omega) | (simp; omega)) fun s__2 hs__2 => ?_   -- s__2 = s_ ++ s3
            have ls__2 : (s__2.length : Int) = s_.length + s3.length := by rw [hs__2, List.length_append, Int.natCast_add]
            try simp only [List.length_cons, List.length_nil] at ls__2
            conv => cbv
            refine r_subf m.sX (by omega) (by omega) fun k_3 hk_3 => ?_
            conv => cbv
            refine hE _ (s__2, k_3) ?_ ?_ ⟨(by (try dsimp only) <;> first | omega | rfl | (simp [*]; done) | (rw [k1]; simp [*]; done)), (by (try dsimp only) <;> (first | exact stx_zero hkx hx1 (by omega) (by omega) (by omega) q | exact stx_more hkx hx1 (by omega) (by omega) (by omega) q (by rw [hs__2, hs3, hs2, hs1, hv1, hv2, ek, itoa_nn (by omega), itoa_nn (by omega)]))), (by (try dsimp only) <;> first | omega | rfl | (simp [*]; done) | (rw [tl]; simp [*]; done))⟩ (by first | omega | (dsimp only; omega))
            · cbv
            · cbv
          · refine r_subf m.sX (by omega) (by omega) fun k_4 hk_4 => ?_
            conv => cbv
            refine hE _ (s_, k_4) ?_ ?_ ⟨(by (try dsimp only) <;> first | omega | rfl | (simp [*]; done) | (rw [k1]; simp [*]; done)), (by (try dsimp only) <;> (first | exact stx_zero hkx hx1 (by omega) (by omega) (by omega) q | exact stx_more hkx hx1 (by omega) (by omega) (by omega) q (by rw [hs__2, hs3, hs2, hs1, hv1, hv2, ek, itoa_nn (by omega), itoa_nn (by omega)]))), (by (try dsimp only) <;> first | omega | rfl | (simp [*]; done) | (rw [tl]; simp [*]; done))⟩ (by first | omega | (dsimp only; omega))
            · cbv
            · cbv
        · refine hF _ _ ?_
          conv => cbv
          refine r_seql m.sX (fun h5 => ?_) (fun h5 => ?_) <;> conv => cbv
          · exact hQ (.tup [.str ([48] : List UInt8), .bool true]) (Eq.trans (by first | rfl | (simp only [lb, lbI, rows_cons, rows_nil, unnilT, unnil, unnilTI, unnilI]; done) | (simp only [lb, lbI, rows_cons, rows_nil, unnilT, unnil, unnilTI, unnilI]; rfl)) (congrArg (sb) (show (([48] : List UInt8), true) = stxF kinds counts from by rw [stx_end (by omega) q ok_, if_pos h5])))   -- leaf 1
          · have lz_ : 1 ≤ s_.length := List.length_pos_iff.2 h5
            refine r_sslice' (u := s_) (i := 1) m.sX (by omega) (by first | omega | (simp only [List.length_cons, List.length_nil]; omega) | (simp; omega)) fun s4 hs4 => ?_   -- s4 = s_[1:]
            have ls4 : (s4.length : Int) = s_.length - 1 := by rw [hs4]; first | done | (simp; done) | (simp; omega)
            conv => cbv
            exact hQ (.tup [.str s4, .bool true]) (Eq.trans (by first | rfl | (simp only [lb, lbI, rows_cons, rows_nil, unnilT, unnil, unnilTI, unnilI]; done) | (simp only [lb, lbI, rows_cons, rows_nil, unnilT, unnil, unnilTI, unnilI]; rfl)) (congrArg (sb) (show (s4, true) = stxF kinds counts from by rw [stx_end (by omega) q ok_, if_neg h5, hs4]; rfl)))   -- leaf 2
      · exact hQ (.tup [.str ([] : List UInt8), .bool false]) (Eq.trans (by first | rfl | (simp only [lb, lbI, rows_cons, rows_nil, unnilT, unnil, unnilTI, unnilI]; done) | (simp only [lb, lbI, rows_cons, rows_nil, unnilT, unnil, unnilTI, unnilI]; rfl)) (congrArg (sb) (show (([] : List UInt8), false) = stxF kinds counts from by rw [stxF, okCn, h1, Bool.and_comm (allB counts 0 400), h2]; rfl)))   -- leaf 3
    · exact hQ (.tup [.str ([] : List UInt8), .bool false]) (Eq.trans (by first | rfl | (simp only [lb, lbI, rows_cons, rows_nil, unnilT, unnil, unnilTI, unnilI]; done) | (simp only [lb, lbI, rows_cons, rows_nil, unnilT, unnil, unnilTI, unnilI]; rfl)) (congrArg (sb) (show (([] : List UInt8), false) = stxF kinds counts from by rw [stxF, okCn, h1]; rfl)))   -- leaf 4

end Go.Proofs.YtbamclepgabciaaDoor.Ai
