/- Contracts of the functions that fill a width with pieces. -/
import Derived.Test.YtbamclepgabciaaDoorPayLaw2
namespace Go.Proofs.YtbamclepgabciaaDoor.Ai
open Go Go.Proofs
set_option linter.unusedSimpArgs false
set_option maxRecDepth 10000
set_option maxHeartbeats 4000000
set_option linter.unusedVariables false

theorem fewest_ok (kinds : List Int) (stock : List Int) (n : Int) (hk : ∀ k ∈ kinds, 1 ≤ k ∧ k ≤ 10000) (hs : stock.length = kinds.length) (hs0 : ∀ k ∈ stock, 0 ≤ k ∧ k ≤ 10000) (hn : 0 ≤ n ∧ n ≤ 10000) (hl : kinds.length ≤ 1000) : OkA Tryd.prog 127 [.isl 1 (rows cInt kinds), .isl 1 (rows cInt stock), .int .i64 n] (· = .fr 26 1 (rows (cSl 1 cInt) (tabC kinds stock n))) :=
  OkA.unnil 26 1 (fn_intro envOk fieldsOk mixed Tryd.func127 rfl fun κ X Y L Q m hQ => by
    conv => cbv
    refine r_addf m.sX (by omega) (by omega) fun r1 hr1 => ?_
    conv => cbv
    refine r_make cInt 0 m.sX rfl (by omega) (by omega) (by dsimp only; omega) (by omega) fun first hfirst => ?_   -- first = replicate r1
    have lfirst : (first.length : Int) = r1 := by rw [hfirst]; first | done | (simp; done) | (simp; omega)
    conv => cbv
    refine r_loopF (α := List Int × Int) m 105 [0, 1, 2, 8] [⟨7, 57, 3, 1, 0⟩] (fun σ => [(0, .isl 1 (rows cInt kinds)), (1, .isl 1 (rows cInt stock)), (2, .int .i64 n), (7, .osl 57 0), (8, .int .i64 σ.2)]) (fun σ => [(57, 0, .row 3 1 (rows cInt σ.1))])
      (fun σ => (1 ≤ σ.2 ∧ σ.2 ≤ n + 1) ∧ (σ.1 = rowC [] (σ.2 - 1) ++ List.replicate (n + 1 - σ.2).toNat 0)) (fun σ => (n + 1 - σ.2).toNat) (first, 1) ?_ ?_ ?_ ?_
    · cbv
    · cbv
    · exact ⟨(by (try dsimp only) <;> first | omega | rfl | (simp [*]; done)), (by (try dsimp only) <;> (rw [hfirst, show Int.toNat r1 = Int.toNat n + 1 by omega, List.replicate_succ, show n + 1 - 1 = n by omega]; exact rowC_first _))⟩
    rintro ⟨first_2, k⟩ ⟨k1, q⟩ E hE F hF
    dsimp only at k1 q
    have ll : (first_2.length : Int) = n + 1 := by rw [q]; simp only [List.length_append, rowC_length, List.length_replicate]; omega
    conv => cbv
    refine r_leq m.sX (fun h1 => ?_) (fun h1 => ?_) <;> conv => cbv
    · refine r_oindex m.sX (by omega) (by omega) ?_
      conv => cbv
      obtain ⟨y1, hy1⟩ := get_ex (xs := first_2) (i := Int.toNat k) (by omega)
      refine r_ostore (l := Int.toNat k) (-1) m.sX hy1 (Nat.le_of_ble_eq_true rfl) rfl fun first_3 hfirst_3 => ?_   -- first_3 = first_2.set k -1
      have lfirst_3 : (first_3.length : Int) = first_2.length := by rw [hfirst_3]; first | done | (simp; done) | (simp; omega)
      conv => cbv
      refine r_addf m.sX (by omega) (by omega) fun k_2 hk_2 => ?_
      conv => cbv
      refine hE _ (first_3, k_2) ?_ ?_ ⟨(by (try dsimp only) <;> first | omega | rfl | (simp [*]; done) | (rw [k1]; simp [*]; done)), (by (try dsimp only) <;> (rw [hfirst_3, q, rowC_mid (by omega) (by omega), show n + 1 - k_2 = n - k by omega]; exact rowC_next (by omega) hk_2 (by rw [fewC_nil, if_neg (by omega)])))⟩ (by first | omega | (dsimp only; omega))
      · cbv
      · cbv
    · refine hF _ _ ?_
      conv => cbv
      refine r_lenR m.sX fun n1 hn1 mn1 => ?_
      conv => cbv
      refine r_loopF (α := List (List Int) × Int) m 105 [1, 2, 29, 30, 31] [⟨9, 73, 26, 1, 0⟩] (fun σ => [(1, .isl 1 (rows cInt stock)), (2, .int .i64 n), (9, .osl 73 0), (29, .isl 1 (rows cInt kinds)), (30, .int .i64 n1), (31, .int .i64 σ.2)]) (fun σ => [(73, 0, .row 26 1 (rows (cSl 1 cInt) σ.1))])
        (fun σ => (0 ≤ σ.2) ∧ (σ.2 ≤ n1) ∧ (σ.1 = (List.range (σ.2.toNat + 1)).map fun j => rowC (pre kinds stock j) n) ∧ ((σ.1.length : Int) = σ.2 + 1)) (fun σ => (n1 - σ.2).toNat) ([first_2], 0) ?_ ?_ ?_ ?_
      · cbv
      · (try dsimp only); simp only [rows_cons, rows_nil]; cbv
      · exact ⟨(by (try dsimp only); first | omega | (simp only [List.length_nil]; omega)), (by (try dsimp only); first | omega | (simp only [List.length_nil]; omega)), (by (try dsimp only) <;> (rw [q, show k = n + 1 by omega, show n + 1 - 1 = n by omega, show Int.toNat (n + 1 - (n + 1)) = 0 by omega]; simp [pre])), (by (try dsimp only) <;> first | omega | rfl | (simp [*]; done))⟩
      rintro ⟨table, i1⟩ ⟨lo2, hi2, q, ln⟩ E hE F hF
      dsimp only at lo2 hi2 q ln
      conv => cbv
      refine r_lss m.sX (fun h2 => ?_) (fun h2 => ?_) <;> conv => cbv
      · refine r_index m.sX (by omega) (by omega) fun width hwidth => ?_
        conv => cbv
        have mwidth := get_mem hwidth
        have dwidth := drop_cons hwidth
        have kwidth := take_snoc hwidth
        have jwidth : (i1 + 1).toNat = Int.toNat i1 + 1 := by omega
        have vwidth := nth_some hwidth
        obtain ⟨sw, hsw⟩ := get_ex (xs := stock) (i := Int.toNat i1) (by omega)
        have ss := hs0 _ (get_mem hsw)
        have ww := hk _ mwidth
        have lk : ∀ p ∈ pre kinds stock (Int.toNat i1), 1 ≤ p.1 := fun p hp => (hk p.1 (pre_mem hp).1).1
        refine r_addf m.sX (by omega) (by omega) fun r2 hr2 => ?_
        conv => cbv
        refine r_make cInt 0 m.sX rfl (by omega) (by omega) (by dsimp only; omega) (by omega) fun row hrow => ?_   -- row = replicate r2
        have lrow : (row.length : Int) = r2 := by rw [hrow]; first | done | (simp; done) | (simp; omega)
        conv => cbv
        refine r_lenR m.sX fun n2 hn2 mn2 => ?_
        conv => cbv
        refine r_loopF (α := List Int × Int) m 105 [1, 2, 10, 11, 29, 30, 31, 40, 41] [⟨9, 73, 26, 1, 0⟩, ⟨12, 97, 3, 1, 0⟩] (fun σ => [(1, .isl 1 (rows cInt stock)), (2, .int .i64 n), (9, .osl 73 0), (10, .int .i64 i1), (11, .int .i64 width), (12, .osl 97 0), (29, .isl 1 (rows cInt kinds)), (30, .int .i64 n1), (31, .int .i64 i1), (40, .int .i64 n2), (41, .int .i64 σ.2)]) (fun σ => [(73, 0, .row 26 1 (rows (cSl 1 cInt) table)), (97, 0, .row 3 1 (rows cInt σ.1))])
          (fun σ => (0 ≤ σ.2) ∧ (σ.2 ≤ n2) ∧ (σ.1 = rowC (pre kinds stock (Int.toNat i1 + 1)) (σ.2 - 1) ++ List.replicate (n + 1 - σ.2).toNat 0)) (fun σ => (n2 - σ.2).toNat) (row, 0) ?_ ?_ ?_ ?_
        · cbv
        · cbv
        · exact ⟨(by (try dsimp only); first | omega | (simp only [List.length_nil]; omega)), (by (try dsimp only); first | omega | (simp only [List.length_nil]; omega)), (by (try dsimp only) <;> (rw [hrow, show r2 = n + 1 - 0 by omega]; exact rowC_zeros _ _))⟩
        rintro ⟨row_2, i2⟩ ⟨lo3, hi3, q3⟩ E2 hE2 F2 hF2
        dsimp only at lo3 hi3 q3
        have l3 : (row_2.length : Int) = n + 1 := by rw [q3]; simp only [List.length_append, rowC_length, List.length_replicate]; omega
        conv => cbv
        refine r_lss m.sX (fun h3 => ?_) (fun h3 => ?_) <;> conv => cbv
        · refine r_oindex m.sX (by omega) (by omega) ?_
          conv => cbv
          obtain ⟨y2, hy2⟩ := get_ex (xs := row_2) (i := Int.toNat i2) (by omega)
          refine r_ostore (l := Int.toNat i2) (-1) m.sX hy2 (Nat.le_of_ble_eq_true rfl) rfl fun row_3 hrow_3 => ?_   -- row_3 = row_2.set i2 -1
          have lrow_3 : (row_3.length : Int) = row_2.length := by rw [hrow_3]; first | done | (simp; done) | (simp; omega)
          have e3 : row_3 = rowC (pre kinds stock (Int.toNat i1 + 1)) (i2 - 1) ++ -1 :: List.replicate (n - i2).toNat 0 := by rw [hrow_3, q3]; exact rowC_mid lo3 (by omega)
          have n3 : nth row_3 (Int.toNat i2) = -1 := by rw [e3]; exact nth_mid (by rw [rowC_length]; omega)
          conv => cbv
          refine r_loopF (α := List Int × Int) m 105 [1, 2, 10, 11, 13, 14, 29, 30, 31, 40, 41] [⟨9, 73, 26, 1, 0⟩, ⟨12, 97, 3, 1, 0⟩] (fun σ => [(1, .isl 1 (rows cInt stock)), (2, .int .i64 n), (9, .osl 73 0), (10, .int .i64 i1), (11, .int .i64 width), (12, .osl 97 0), (13, .int .i64 i2), (14, .int .i64 σ.2), (29, .isl 1 (rows cInt kinds)), (30, .int .i64 n1), (31, .int .i64 i1), (40, .int .i64 n2), (41, .int .i64 i2)]) (fun σ => [(73, 0, .row 26 1 (rows (cSl 1 cInt) table)), (97, 0, .row 3 1 (rows cInt σ.1))])
            (fun σ => (0 ≤ σ.2 ∧ σ.2 ≤ i2 + 1) ∧ (σ.1 = rowC (pre kinds stock (Int.toNat i1 + 1)) (i2 - 1) ++ nth σ.1 (Int.toNat i2) :: List.replicate (n - i2).toNat 0) ∧ (IsMin (Cand (pre kinds stock (Int.toNat i1)) width sw i2 σ.2) (nth σ.1 (Int.toNat i2)))) (fun σ => (i2 + 1 - σ.2).toNat) (row_3, 0) ?_ ?_ ?_ ?_
          · cbv
          · cbv
          · exact ⟨(by (try dsimp only) <;> first | omega | rfl | (simp [*]; done)), (by (try dsimp only) <;> (rw [n3]; exact e3)), (by (try dsimp only) <;> (rw [n3]; exact cand_zero _ _ _ _))⟩
          rintro ⟨row_4, many⟩ ⟨mb, e, c⟩ E3 hE3 F3 hF3
          dsimp only at mb e c
          have l4 : (row_4.length : Int) = n + 1 := by rw [e]; simp only [List.length_append, rowC_length, List.length_cons, List.length_replicate]; omega
          have cb := c.ge
          have g1 := mul_bound mb.1 (show many ≤ 10001 by omega) (show 0 ≤ width by omega) ww.2
          conv => cbv
          refine r_index m.sX (by omega) (by omega) fun x1 hx1 => ?_
          conv => cbv
          have mx1 := get_mem hx1
          have dx1 := drop_cons hx1
          have kx1 := take_snoc hx1
          have jx1 : (i1 + 1).toNat = Int.toNat i1 + 1 := by omega
          have vx1 := nth_some hx1
          have es1 := Option.some.inj (hsw.symm.trans hx1)
          refine r_leq m.sX (fun h4 => ?_) (fun h4 => ?_) <;> conv => cbv
          · refine r_mulf m.sX (by first | omega | (subst_vars; omega)) (by first | omega | (subst_vars; omega)) fun r3 hr3 => ?_
            conv => cbv
            refine r_leq m.sX (fun h5 => ?_) (fun h5 => ?_) <;> conv => cbv
            · have g2 : many * 1 ≤ many * width := Int.mul_le_mul_of_nonneg_left ww.1 mb.1
              refine r_oindex m.sX (by omega) (by omega) ?_
              conv => cbv
              obtain ⟨x2, hx2⟩ := get_ex (xs := table) (i := Int.toNat i1) (by omega)
              have mx2 := get_mem hx2
              have dx2 := drop_cons hx2
              have kx2 := take_snoc hx2
              have jx2 : (i1 + 1).toNat = Int.toNat i1 + 1 := by omega
              have ex2 : x2 = rowC (pre kinds stock (Int.toNat i1)) n := by rw [q] at hx2; exact (Option.some.inj ((tabC_get (by omega)).symm.trans hx2)).symm
              have l5 : (x2.length : Int) = n + 1 := by rw [ex2, rowC_length]; omega
              refine r_oload m.sX hx2 (Nat.le_of_ble_eq_true rfl) ?_
              conv => cbv
              refine r_mulf m.sX (by first | omega | (subst_vars; omega)) (by first | omega | (subst_vars; omega)) fun r4 hr4 => ?_
              conv => cbv
              refine r_subf m.sX (by omega) (by omega) fun r5 hr5 => ?_
              conv => cbv
              refine r_index m.sX (by omega) (by omega) fun rest hrest => ?_
              conv => cbv
              have mrest := get_mem hrest
              have vrest := nth_some hrest
              have er : rest = fewC (pre kinds stock (Int.toNat i1)) (i2 - many * width) := by rw [← vrest, ex2, rowC_nth (by omega), Int.toNat_of_nonneg (by omega), hr5, hr4]
              have fb := fewC_bound lk (n := i2 - many * width) (by omega)
              refine r_geq m.sX (fun h6 => ?_) (fun h6 => ?_) <;> conv => cbv
              · refine r_oindex m.sX (by omega) (by omega) ?_
                conv => cbv
                obtain ⟨x3, hx3⟩ := get_ex (xs := row_4) (i := Int.toNat i2) (by omega)
                have mx3 := get_mem hx3
                have dx3 := drop_cons hx3
                have kx3 := take_snoc hx3
                have jx3 : (i2 + 1).toNat = Int.toNat i2 + 1 := by omega
                have vx3 := nth_some hx3
                refine r_oload m.sX hx3 (Nat.le_of_ble_eq_true rfl) ?_
                conv => cbv
                refine r_lss m.sX (fun h7 => ?_) (fun h7 => ?_) <;> conv => cbv
                · refine r_addf m.sX (by omega) (by omega) fun r6 hr6 => ?_
                  conv => cbv
                  refine r_oindex m.sX (by omega) (by omega) ?_
                  conv => cbv
                  obtain ⟨y3, hy3⟩ := get_ex (xs := row_4) (i := Int.toNat i2) (by omega)
                  refine r_ostore (l := Int.toNat i2) r6 m.sX hy3 (Nat.le_of_ble_eq_true rfl) rfl fun row_5 hrow_5 => ?_   -- row_5 = row_4.set i2 r6
                  have lrow_5 : (row_5.length : Int) = row_4.length := by rw [hrow_5]; first | done | (simp; done) | (simp; omega)
                  have e5 : row_5 = rowC (pre kinds stock (Int.toNat i1 + 1)) (i2 - 1) ++ r6 :: List.replicate (n - i2).toNat 0 := by rw [hrow_5]; exact (congrArg (fun z => List.set z (Int.toNat i2) r6) e).trans (set_mid (by rw [rowC_length]; omega))
                  have n5 : nth row_5 (Int.toNat i2) = r6 := by rw [e5]; exact nth_mid (by rw [rowC_length]; omega)
                  conv => cbv
                  refine r_addf m.sX (by omega) (by omega) fun many_2 hmany_2 => ?_
                  conv => cbv
                  refine hE3 _ (row_5, many_2) ?_ ?_ ⟨(by (try dsimp only) <;> first | omega | rfl | (simp [*]; done) | (rw [mb]; simp [*]; done)), (by (try dsimp only) <;> (first | exact e | (rw [n5]; exact e5))), (by (try dsimp only) <;> (first | (rw [hmany_2]; exact cand_skip c (by omega)) | (have ct := cand_take c (by omega) (by omega); rw [hmany_2]; first | (rw [if_pos (by omega)] at ct; rw [n5]; refine cast ?_ ct; congr 1; omega) | (rw [if_neg (by omega)] at ct; exact ct))))⟩ (by first | omega | (dsimp only; omega))
                  · cbv
                  · cbv
                · refine r_addf m.sX (by omega) (by omega) fun r7 hr7 => ?_
                  conv => cbv
                  refine r_oindex m.sX (by omega) (by omega) ?_
                  conv => cbv
                  obtain ⟨x4, hx4⟩ := get_ex (xs := row_4) (i := Int.toNat i2) (by omega)
                  have mx4 := get_mem hx4
                  have dx4 := drop_cons hx4
                  have kx4 := take_snoc hx4
                  have jx4 : (i2 + 1).toNat = Int.toNat i2 + 1 := by omega
                  have vx4 := nth_some hx4
                  refine r_oload m.sX hx4 (Nat.le_of_ble_eq_true rfl) ?_
                  conv => cbv
                  refine r_lss m.sX (fun h8 => ?_) (fun h8 => ?_) <;> conv => cbv
                  · refine r_addf m.sX (by omega) (by omega) fun r8 hr8 => ?_
                    conv => cbv
                    refine r_oindex m.sX (by omega) (by omega) ?_
                    conv => cbv
                    obtain ⟨y4, hy4⟩ := get_ex (xs := row_4) (i := Int.toNat i2) (by omega)
                    refine r_ostore (l := Int.toNat i2) r8 m.sX hy4 (Nat.le_of_ble_eq_true rfl) rfl fun row_6 hrow_6 => ?_   -- row_6 = row_4.set i2 r8
                    have lrow_6 : (row_6.length : Int) = row_4.length := by rw [hrow_6]; first | done | (simp; done) | (simp; omega)
                    have e5 : row_6 = rowC (pre kinds stock (Int.toNat i1 + 1)) (i2 - 1) ++ r8 :: List.replicate (n - i2).toNat 0 := by rw [hrow_6]; exact (congrArg (fun z => List.set z (Int.toNat i2) r8) e).trans (set_mid (by rw [rowC_length]; omega))
                    have n5 : nth row_6 (Int.toNat i2) = r8 := by rw [e5]; exact nth_mid (by rw [rowC_length]; omega)
                    conv => cbv
                    refine r_addf m.sX (by omega) (by omega) fun many_3 hmany_3 => ?_
                    conv => cbv
                    refine hE3 _ (row_6, many_3) ?_ ?_ ⟨(by (try dsimp only) <;> first | omega | rfl | (simp [*]; done) | (rw [mb]; simp [*]; done)), (by (try dsimp only) <;> (first | exact e | (rw [n5]; exact e5))), (by (try dsimp only) <;> (first | (rw [hmany_3]; exact cand_skip c (by omega)) | (have ct := cand_take c (by omega) (by omega); rw [hmany_3]; first | (rw [if_pos (by omega)] at ct; rw [n5]; refine cast ?_ ct; congr 1; omega) | (rw [if_neg (by omega)] at ct; exact ct))))⟩ (by first | omega | (dsimp only; omega))
                    · cbv
                    · cbv
                  · refine r_addf m.sX (by omega) (by omega) fun many_4 hmany_4 => ?_
                    conv => cbv
                    refine hE3 _ (row_4, many_4) ?_ ?_ ⟨(by (try dsimp only) <;> first | omega | rfl | (simp [*]; done) | (rw [mb]; simp [*]; done)), (by (try dsimp only) <;> (first | exact e | (rw [n5]; exact e5))), (by (try dsimp only) <;> (first | (rw [hmany_4]; exact cand_skip c (by omega)) | (have ct := cand_take c (by omega) (by omega); rw [hmany_4]; first | (rw [if_pos (by omega)] at ct; rw [n5]; refine cast ?_ ct; congr 1; omega) | (rw [if_neg (by omega)] at ct; exact ct))))⟩ (by first | omega | (dsimp only; omega))
                    · cbv
                    · cbv
              · refine r_addf m.sX (by omega) (by omega) fun many_5 hmany_5 => ?_
                conv => cbv
                refine hE3 _ (row_4, many_5) ?_ ?_ ⟨(by (try dsimp only) <;> first | omega | rfl | (simp [*]; done) | (rw [mb]; simp [*]; done)), (by (try dsimp only) <;> (first | exact e | (rw [n5]; exact e5))), (by (try dsimp only) <;> (first | (rw [hmany_5]; exact cand_skip c (by omega)) | (have ct := cand_take c (by omega) (by omega); rw [hmany_5]; first | (rw [if_pos (by omega)] at ct; rw [n5]; refine cast ?_ ct; congr 1; omega) | (rw [if_neg (by omega)] at ct; exact ct))))⟩ (by first | omega | (dsimp only; omega))
                · cbv
                · cbv
            · refine hF3 _ _ ?_
              conv => cbv
              refine r_addf m.sX (by omega) (by omega) fun r9 hr9 => ?_
              conv => cbv
              have tr9 : Int.toNat r9 = Int.toNat i2 + 1 := by omega
              refine hE2 _ (row_4, r9) ?_ ?_ ⟨(by (try dsimp only); first | omega | (simp only [List.length_nil]; omega)), (by (try dsimp only); first | omega | (simp only [List.length_nil]; omega)), (by (try dsimp only) <;> (rw [show n + 1 - r9 = n - i2 by omega]; exact e.trans (rowC_next lo3 hr9 (by rw [pre_succ hwidth hsw]; exact fewC_cons lk ww.1 (by omega) c))))⟩ (by first | omega | (dsimp only; omega))
              · cbv
              · cbv
          · refine hF3 _ _ ?_
            conv => cbv
            refine r_addf m.sX (by omega) (by omega) fun r10 hr10 => ?_
            conv => cbv
            have tr10 : Int.toNat r10 = Int.toNat i2 + 1 := by omega
            refine hE2 _ (row_4, r10) ?_ ?_ ⟨(by (try dsimp only); first | omega | (simp only [List.length_nil]; omega)), (by (try dsimp only); first | omega | (simp only [List.length_nil]; omega)), (by (try dsimp only) <;> (rw [show n + 1 - r10 = n - i2 by omega]; exact e.trans (rowC_next lo3 hr10 (by rw [pre_succ hwidth hsw]; exact fewC_cons lk ww.1 (by omega) c))))⟩ (by first | omega | (dsimp only; omega))
            · cbv
            · cbv
        · have dz_i2 := drop_end (xs := row) (i := Int.toNat i2) (by omega)
          have tz_i2 := take_end (xs := row) (i := Int.toNat i2) (by omega)
          refine hF2 _ _ ?_
          conv => cbv
          refine r_append1 (row_2) m.sX rfl (by first | omega | (dsimp only; omega)) (by first | omega | (dsimp only; omega)) fun table_2 htable_2 => ?_
          conv => cbv
          have ltable_2 : (table_2.length : Int) = table.length + 1 := by rw [htable_2]; first | done | (simp; done) | (simp; omega)
          refine r_addf m.sX (by omega) (by omega) fun r11 hr11 => ?_
          conv => cbv
          have tr11 : Int.toNat r11 = Int.toNat i1 + 1 := by omega
          refine hE _ (table_2, r11) ?_ ?_ ⟨(by (try dsimp only); first | omega | (simp only [List.length_nil]; omega)), (by (try dsimp only); first | omega | (simp only [List.length_nil]; omega)), (by (try dsimp only) <;> (rw [htable_2, q, q3, show i2 = n + 1 by omega, show n + 1 - 1 = n by omega, show Int.toNat (n + 1 - (n + 1)) = 0 by omega, List.replicate_zero, List.append_nil]; exact tabC_next lo2 hr11)), (by (try dsimp only) <;> first | omega | rfl | (simp [*]; done) | (rw [ln]; simp [*]; done))⟩ (by first | omega | (dsimp only; omega))
          · cbv
          · cbv
      · have dz_i1 := drop_end (xs := kinds) (i := Int.toNat i1) (by omega)
        have tz_i1 := take_end (xs := kinds) (i := Int.toNat i1) (by omega)
        refine hF _ _ ?_
        conv => cbv
        exact hQ (.fr 26 1 (rows (cSl 1 cInt) table)) (Eq.trans (by first | rfl | (simp only [lb, lbI, rows_cons, rows_nil, unnilT, unnil, unnilTI, unnilI]; done) | (simp only [lb, lbI, rows_cons, rows_nil, unnilT, unnil, unnilTI, unnilI]; rfl)) (congrArg (fun l => PV.fr 26 1 (rows (cSl 1 cInt) l)) (show table = tabC kinds stock n from by rw [q, show Int.toNat i1 = kinds.length by omega]; rfl))))   -- leaf 1

end Go.Proofs.YtbamclepgabciaaDoor.Ai
