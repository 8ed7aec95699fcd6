/- Contracts of the functions on register marks. -/
import Derived.Test.YtkcbhjnkpbeigaaRegLaw
import Derived.Test.YtkcbhjnkpbeigaaStr
namespace Go.Proofs.Ytkcbhjnkpbeigaa.Ai
open Go Go.Proofs
set_option maxRecDepth 10000
set_option maxHeartbeats 4000000
set_option linter.unusedVariables false

theorem areMarksOf_ok (l : List Int)  : OkA Try.prog 113 [.isl 1 (rows cInt l)] (· = .bool (okMarks l)) :=
  fn_intro envOk fieldsOk mixed Try.func113 rfl fun κ X Y L Q m hQ => by
    conv => cbv
    refine r_lenR m.sX fun n1 hn1 mn1 => ?_
    conv => cbv
    refine r_loopF (α := Int) m 18 [0, 5, 6, 7] [] (fun σ => [(0, .isl 1 (rows cInt l)), (5, .isl 1 (rows cInt l)), (6, .int .i64 n1), (7, .int .i64 σ)]) (fun σ => [])
      (fun σ => (0 ≤ σ) ∧ (σ ≤ n1) ∧ (allB l 0 1000 = allB (l.drop σ.toNat) 0 1000)) (fun σ => (n1 - σ).toNat) 0 ?_ ?_ ?_ ?_
    · cbv
    · cbv
    · exact ⟨(by (try dsimp only); first | omega | (simp only [List.length_nil]; omega)), (by (try dsimp only); first | omega | (simp only [List.length_nil]; omega)), (by (try dsimp only) <;> first | omega | rfl | (simp [*]; done))⟩
    rintro i1 ⟨lo1, hi1, q⟩ E hE F hF
    conv => cbv
    refine r_lss m.sX (fun h1 => ?_) (fun h1 => ?_) <;> conv => cbv
    · refine r_index m.sX (by omega) (by omega) fun n hn => ?_
      conv => cbv
      have mn := get_mem hn
      have dn := drop_cons hn
      have kn := take_snoc hn
      have jn : (i1 + 1).toNat = Int.toNat i1 + 1 := by omega
      have vn := nth_some hn
      refine r_callB m.sX (within_ok n 0 1000) (fun h2 => ?_) (fun h2 => ?_) <;> conv => cbv
      · refine r_addf m.sX (by omega) (by omega) fun r1 hr1 => ?_
        conv => cbv
        have tr1 : Int.toNat r1 = Int.toNat i1 + 1 := by omega
        refine hE _ r1 ?_ ?_ ⟨(by (try dsimp only); first | omega | (simp only [List.length_nil]; omega)), (by (try dsimp only); first | omega | (simp only [List.length_nil]; omega)), (by (try dsimp only) <;> (rw [q, dn, allB_cons, h2, Bool.true_and, tr1]))⟩ (by first | omega | (dsimp only; omega))
        · cbv
        · cbv
      · refine hF _ _ ?_
        conv => cbv
        exact hQ _ (congrArg PV.bool (by rw [okMarks, q, dn, allB_cons, h2]; rfl))   -- leaf 1
    · have dz_i1 := drop_end (xs := l) (i := Int.toNat i1) (by omega)
      have tz_i1 := take_end (xs := l) (i := Int.toNat i1) (by omega)
      refine hF _ _ ?_
      conv => cbv
      refine r_lenR m.sX fun n2 hn2 mn2 => ?_
      conv => cbv
      refine r_callB m.sX (within_ok n2 1 8) (fun h3 => ?_) (fun h3 => ?_) <;> conv => cbv
      · exact hQ _ (congrArg PV.bool (by rw [okMarks, q, dz_i1, allB_nil, ← hn2, h3]; rfl))   -- leaf 2
      · exact hQ _ (congrArg PV.bool (by rw [okMarks, q, dz_i1, allB_nil, ← hn2, h3]; rfl))   -- leaf 3

theorem abs_ok (n : Int) (hn : -9000000000000000000 ≤ n ∧ n ≤ 9000000000000000000) : OkA Try.prog 115 [.int .i64 n] (· = .int .i64 (absI n)) :=
  fn_intro envOk fieldsOk mixed Try.func115 rfl fun κ X Y L Q m hQ => by
    conv => cbv
    refine r_neg m.sX fun r1 hr1 => ?_   -- r1 = wrap (-n)
    conv => cbv
    refine r_max m.sX fun r2 hr2 => ?_
    conv => cbv
    exact hQ (.int .i64 r2) (Eq.trans (by first | rfl | (simp only [lb, lbI, rows_cons, rows_nil, unnilT, unnil, unnilTI, unnilI]; done) | (simp only [lb, lbI, rows_cons, rows_nil, unnilT, unnil, unnilTI, unnilI]; rfl)) (congrArg (PV.int .i64) (show r2 = absI n from by rw [hr2, hr1, wrap64 (by omega) (by omega)]; rfl)))   -- leaf 1

theorem RegisterShift_ok (black : List Int) (red : List Int) (most : Int)  : OkA Try.prog 36 [.isl 1 (rows cInt black), .isl 1 (rows cInt red), .int .i64 most] (· = ib (regA black red most)) :=
  fn_intro envOk fieldsOk mixed Try.func36 rfl fun κ X Y L Q m hQ => by
    conv => cbv
    refine r_callB m.sX (areMarksOf_ok black) (fun h1 => ?_) (fun h1 => ?_) <;> conv => cbv
    · have b1 := okMarks_spec h1
      refine r_callB m.sX (areMarksOf_ok red) (fun h2 => ?_) (fun h2 => ?_) <;> conv => cbv
      · have b2 := okMarks_spec h2
        refine r_lenR m.sX fun n1 hn1 mn1 => ?_
        conv => cbv
        refine r_lenR m.sX fun n2 hn2 mn2 => ?_
        conv => cbv
        refine r_neq m.sX (fun h3 => ?_) (fun h3 => ?_) <;> conv => cbv
        · exact hQ (.tup [.int .i64 0, .bool false]) (Eq.trans (by first | rfl | (simp only [lb, lbI, rows_cons, rows_nil, unnilT, unnil, unnilTI, unnilI]; done) | (simp only [lb, lbI, rows_cons, rows_nil, unnilT, unnil, unnilTI, unnilI]; rfl)) (congrArg (ib) (show (0, false) = regA black red most from by rw [regA, okReg, h1, h2, decide_eq_false (by omega)]; rfl)))   -- leaf 1
        · refine r_callB m.sX (within_ok most 0 20) (fun h4 => ?_) (fun h4 => ?_) <;> conv => cbv
          · have b4 := inB_spec h4
            have ok1 : okReg black red most = true := by rw [okReg, h1, h2, decide_eq_true (by omega), h4]; rfl
            refine r_loopF (α := Int × Int × Int) m 80 [0, 1, 2, 8, 9, 10] [] (fun σ => [(0, .isl 1 (rows cInt black)), (1, .isl 1 (rows cInt red)), (2, .int .i64 most), (8, .int .i64 σ.1), (9, .int .i64 σ.2.1), (10, .int .i64 σ.2.2)]) (fun σ => [])
              (fun σ => (runP (apartL black red) (most + 1 - 0).toNat 0 (0, -1) = runP (apartL black red) (most + 1 - σ.2.2).toNat σ.2.2 (σ.1, σ.2.1)) ∧ (0 ≤ σ.2.2 ∧ σ.2.2 ≤ most + 1)) (fun σ => (most + 1 - σ.2.2).toNat) (0, -1, 0) ?_ ?_ ?_ ?_
            · cbv
            · cbv
            · exact ⟨(by (try dsimp only) <;> (rfl)), (by (try dsimp only) <;> first | omega | rfl | (simp [*]; done))⟩
            rintro ⟨best, least, size⟩ ⟨q, bz⟩ E hE F hF
            dsimp only at q bz
            conv => cbv
            refine r_leq m.sX (fun h5 => ?_) (fun h5 => ?_) <;> conv => cbv
            · refine r_neg m.sX fun r1 hr1 => ?_   -- r1 = wrap (-size)
              have e1 : r1 = -size := by rw [hr1]; exact wrap64 (by omega) (by omega)
              conv => cbv
              refine r_lenN 2 m.sX rfl (by omega) fun n3 hn3 => ?_   -- n3 = length of [r1, size]
              conv => cbv
              refine r_loopF (α := Int × Int × List Int × Int) m 80 [0, 1, 2, 8, 9, 10, 45, 46] [⟨44, 353, 3, 1, 0⟩] (fun σ => [(0, .isl 1 (rows cInt black)), (1, .isl 1 (rows cInt red)), (2, .int .i64 most), (8, .int .i64 σ.1), (9, .int .i64 σ.2.1), (10, .int .i64 size), (44, .osl 353 0), (45, .int .i64 n3), (46, .int .i64 σ.2.2.2)]) (fun σ => [(353, 0, .row 3 1 (rows cInt σ.2.2.1))])
                (fun σ => (0 ≤ σ.2.2.2) ∧ (σ.2.2.2 ≤ n3) ∧ ([-size, size].foldl (stp (apartL black red)) (best, least) = ([-size, size].drop σ.2.2.2.toNat).foldl (stp (apartL black red)) (σ.1, σ.2.1)) ∧ (σ.2.2.1 = [r1, size])) (fun σ => (n3 - σ.2.2.2).toNat) (best, least, [r1, size], 0) ?_ ?_ ?_ ?_
              · cbv
              · (try dsimp only); simp only [rows_cons, rows_nil]; cbv
              · exact ⟨(by (try dsimp only); first | omega | (simp only [List.length_nil]; omega)), (by (try dsimp only); first | omega | (simp only [List.length_nil]; omega)), (by (try dsimp only) <;> (rfl)), (by (try dsimp only) <;> (rfl))⟩
              rintro ⟨best_2, least_2, ys1, i1⟩ ⟨lo2, hi2, q2, y2⟩ E2 hE2 F2 hF2
              dsimp only at lo2 hi2 q2 y2
              have yl : (ys1.length : Int) = 2 := by rw [y2]; rfl
              conv => cbv
              refine r_lss m.sX (fun h6 => ?_) (fun h6 => ?_) <;> conv => cbv
              · refine r_oindex m.sX (by omega) (by omega) ?_
                conv => cbv
                obtain ⟨shift, hshift⟩ := get_ex (xs := ys1) (i := Int.toNat i1) (by omega)
                have mshift := get_mem hshift
                have dshift := drop_cons hshift
                have kshift := take_snoc hshift
                have jshift : (i1 + 1).toNat = Int.toNat i1 + 1 := by omega
                have vshift := nth_some hshift
                have bs : -20 ≤ shift ∧ shift ≤ 20 := by rw [y2] at mshift; rcases List.mem_cons.1 mshift with h_ | h_; omega; have h_ := List.mem_singleton.1 h_; omega
                have hs1 : [-size, size][i1.toNat]? = some shift := by rw [← e1, ← y2]; exact hshift
                refine r_oload m.sX hshift (Nat.le_of_ble_eq_true rfl) ?_
                conv => cbv
                refine r_lenR m.sX fun n4 hn4 mn4 => ?_
                conv => cbv
                refine r_loopF (α := Int × Int) m 80 [0, 1, 2, 8, 9, 10, 12, 13, 45, 46, 50, 51, 52] [⟨44, 353, 3, 1, 0⟩] (fun σ => [(0, .isl 1 (rows cInt black)), (1, .isl 1 (rows cInt red)), (2, .int .i64 most), (8, .int .i64 best_2), (9, .int .i64 least_2), (10, .int .i64 size), (12, .int .i64 shift), (13, .int .i64 σ.1), (44, .osl 353 0), (45, .int .i64 n3), (46, .int .i64 i1), (50, .isl 1 (rows cInt red)), (51, .int .i64 n4), (52, .int .i64 σ.2)]) (fun σ => [(353, 0, .row 3 1 (rows cInt ys1))])
                  (fun σ => (0 ≤ σ.2) ∧ (σ.2 ≤ n4) ∧ (apartL black red shift = σ.1 + apartL (black.drop σ.2.toNat) (red.drop σ.2.toNat) shift) ∧ (0 ≤ σ.1 ∧ σ.1 ≤ 3000 * σ.2)) (fun σ => (n4 - σ.2).toNat) (0, 0) ?_ ?_ ?_ ?_
                · cbv
                · cbv
                · exact ⟨(by (try dsimp only); first | omega | (simp only [List.length_nil]; omega)), (by (try dsimp only); first | omega | (simp only [List.length_nil]; omega)), (by (try dsimp only) <;> (simp)), (by (try dsimp only) <;> first | omega | rfl | (simp [*]; done))⟩
                rintro ⟨n, i2⟩ ⟨lo3, hi3, qn, bn⟩ E3 hE3 F3 hF3
                dsimp only at lo3 hi3 qn bn
                conv => cbv
                refine r_lss m.sX (fun h7 => ?_) (fun h7 => ?_) <;> conv => cbv
                · refine r_index m.sX (by omega) (by omega) fun at_ hat_ => ?_
                  conv => cbv
                  have mat_ := get_mem hat_
                  have dat_ := drop_cons hat_
                  have kat_ := take_snoc hat_
                  have jat_ : (i2 + 1).toNat = Int.toNat i2 + 1 := by omega
                  have vat_ := nth_some hat_
                  have ba := b2.1 _ mat_
                  refine r_addf m.sX (by omega) (by omega) fun r2 hr2 => ?_
                  conv => cbv
                  refine r_index m.sX (by omega) (by omega) fun x1 hx1 => ?_
                  conv => cbv
                  have mx1 := get_mem hx1
                  have dx1 := drop_cons hx1
                  have kx1 := take_snoc hx1
                  have jx1 : (i2 + 1).toNat = Int.toNat i2 + 1 := by omega
                  have vx1 := nth_some hx1
                  have bx := b1.1 _ mx1
                  refine r_subf m.sX (by omega) (by omega) fun r3 hr3 => ?_
                  conv => cbv
                  refine r_callF (PV.int .i64) m.sX (abs_ok r3 (by first | rfl | assumption | omega | (simp only [List.length_append, List.length_cons, List.length_nil] at *; omega))) fun r4 hr4 => ?_
                  conv => cbv
                  have b5 : 0 ≤ r4 ∧ r4 ≤ 3000 := by rw [hr4]; exact absI_bound (by omega)
                  have e4 : absI (x1 - at_ - shift) = r4 := by rw [hr4]; simp only [absI]; omega
                  refine r_addf m.sX (by omega) (by omega) fun n_2 hn_2 => ?_
                  conv => cbv
                  refine r_addf m.sX (by omega) (by omega) fun r5 hr5 => ?_
                  conv => cbv
                  have tr5 : Int.toNat r5 = Int.toNat i2 + 1 := by omega
                  refine hE3 _ (n_2, r5) ?_ ?_ ⟨(by (try dsimp only); first | omega | (simp only [List.length_nil]; omega)), (by (try dsimp only); first | omega | (simp only [List.length_nil]; omega)), (by (try dsimp only) <;> (rw [qn, apartL_drop shift hx1 hat_, tr5]; omega)), (by (try dsimp only) <;> (omega))⟩ (by first | omega | (dsimp only; omega))
                  · cbv
                  · cbv
                · have nA : apartL black red shift = n := by rw [qn, apartL_end shift (.inr (by omega))]; omega
                  have dz_i2 := drop_end (xs := red) (i := Int.toNat i2) (by omega)
                  have tz_i2 := take_end (xs := red) (i := Int.toNat i2) (by omega)
                  refine hF3 _ _ ?_
                  conv => cbv
                  refine r_lss m.sX (fun h8 => ?_) (fun h8 => ?_) <;> conv => cbv
                  · have sp : stp (apartL black red) (best_2, least_2) shift = (shift, n) := by rw [stp, if_pos (.inl h8), nA]
                    refine r_addf m.sX (by omega) (by omega) fun r6 hr6 => ?_
                    conv => cbv
                    have tr6 : Int.toNat r6 = Int.toNat i1 + 1 := by omega
                    refine hE2 _ (shift, n, ys1, r6) ?_ ?_ ⟨(by (try dsimp only); first | omega | (simp only [List.length_nil]; omega)), (by (try dsimp only); first | omega | (simp only [List.length_nil]; omega)), (by (try dsimp only) <;> (rw [q2, foldl_drop _ _ hs1, tr6, sp])), (by (try dsimp only) <;> (exact y2))⟩ (by first | omega | (dsimp only; omega))
                    · cbv
                    · cbv
                  · refine r_lss m.sX (fun h9 => ?_) (fun h9 => ?_) <;> conv => cbv
                    · have sp : stp (apartL black red) (best_2, least_2) shift = (shift, n) := by rw [stp, if_pos (.inr (by rw [nA]; exact h9)), nA]
                      refine r_addf m.sX (by omega) (by omega) fun r7 hr7 => ?_
                      conv => cbv
                      have tr7 : Int.toNat r7 = Int.toNat i1 + 1 := by omega
                      refine hE2 _ (shift, n, ys1, r7) ?_ ?_ ⟨(by (try dsimp only); first | omega | (simp only [List.length_nil]; omega)), (by (try dsimp only); first | omega | (simp only [List.length_nil]; omega)), (by (try dsimp only) <;> (rw [q2, foldl_drop _ _ hs1, tr7, sp])), (by (try dsimp only) <;> (exact y2))⟩ (by first | omega | (dsimp only; omega))
                      · cbv
                      · cbv
                    · have sp : stp (apartL black red) (best_2, least_2) shift = (best_2, least_2) := by rw [stp, if_neg (by rw [nA]; simp only; omega)]
                      refine r_addf m.sX (by omega) (by omega) fun r8 hr8 => ?_
                      conv => cbv
                      have tr8 : Int.toNat r8 = Int.toNat i1 + 1 := by omega
                      refine hE2 _ (best_2, least_2, ys1, r8) ?_ ?_ ⟨(by (try dsimp only); first | omega | (simp only [List.length_nil]; omega)), (by (try dsimp only); first | omega | (simp only [List.length_nil]; omega)), (by (try dsimp only) <;> (rw [q2, foldl_drop _ _ hs1, tr8, sp])), (by (try dsimp only) <;> (exact y2))⟩ (by first | omega | (dsimp only; omega))
                      · cbv
                      · cbv
              · have q3 : [-size, size].foldl (stp (apartL black red)) (best, least) = (best_2, least_2) := by rw [q2, List.drop_of_length_le (by simp only [List.length_cons, List.length_nil]; omega)]; rfl
                have dz_i1 := drop_end (xs := [r1, size]) (i := Int.toNat i1) (by simp only [List.length_cons, List.length_nil]; omega)
                have tz_i1 := take_end (xs := [r1, size]) (i := Int.toNat i1) (by simp only [List.length_cons, List.length_nil]; omega)
                refine hF2 _ _ ?_
                conv => cbv
                refine r_addf m.sX (by omega) (by omega) fun size_2 hsize_2 => ?_
                conv => cbv
                refine hE _ (best_2, least_2, size_2) ?_ ?_ ⟨(by (try dsimp only) <;> (rw [q, show (most + 1 - size).toNat = (most + 1 - size_2).toNat + 1 by omega, runP, q3, show size_2 = size + 1 by omega])), (by (try dsimp only) <;> first | omega | rfl | (simp [*]; done) | (rw [bz]; simp [*]; done))⟩ (by first | omega | (dsimp only; omega))
                · cbv
                · cbv
            · refine hF _ _ ?_
              conv => cbv
              exact hQ (.tup [.int .i64 best, .bool true]) (Eq.trans (by first | rfl | (simp only [lb, lbI, rows_cons, rows_nil, unnilT, unnil, unnilTI, unnilI]; done) | (simp only [lb, lbI, rows_cons, rows_nil, unnilT, unnil, unnilTI, unnilI]; rfl)) (congrArg (ib) (show (best, true) = regA black red most from by rw [regA, if_pos ok1, reg_fin (apartL_nonneg black red) (least := least) (best := best) (q.trans (by rw [show (most + 1 - size).toNat = 0 by omega, runP])) (by omega)])))   -- leaf 2
          · exact hQ (.tup [.int .i64 0, .bool false]) (Eq.trans (by first | rfl | (simp only [lb, lbI, rows_cons, rows_nil, unnilT, unnil, unnilTI, unnilI]; done) | (simp only [lb, lbI, rows_cons, rows_nil, unnilT, unnil, unnilTI, unnilI]; rfl)) (congrArg (ib) (show (0, false) = regA black red most from by rw [regA, okReg, h1, h2, decide_eq_true (by omega), h4]; rfl)))   -- leaf 3
      · exact hQ (.tup [.int .i64 0, .bool false]) (Eq.trans (by first | rfl | (simp only [lb, lbI, rows_cons, rows_nil, unnilT, unnil, unnilTI, unnilI]; done) | (simp only [lb, lbI, rows_cons, rows_nil, unnilT, unnil, unnilTI, unnilI]; rfl)) (congrArg (ib) (show (0, false) = regA black red most from by rw [regA, okReg, h1, h2]; rfl)))   -- leaf 4
    · exact hQ (.tup [.int .i64 0, .bool false]) (Eq.trans (by first | rfl | (simp only [lb, lbI, rows_cons, rows_nil, unnilT, unnil, unnilTI, unnilI]; done) | (simp only [lb, lbI, rows_cons, rows_nil, unnilT, unnil, unnilTI, unnilI]; rfl)) (congrArg (ib) (show (0, false) = regA black red most from by rw [regA, okReg, h1]; rfl)))   -- leaf 5

theorem l1Abs_ok (n : Int) (hn : -9000000000000000000 ≤ n ∧ n ≤ 9000000000000000000) : OkA Try.prog 159 [.int .i64 n] (· = .int .i64 (absI n)) :=
  fn_intro envOk fieldsOk mixed Try.func159 rfl fun κ X Y L Q m hQ => by
    conv => cbv
    refine r_neg m.sX fun r1 hr1 => ?_   -- r1 = wrap (-n)
    have e1 : r1 = -n := by rw [hr1]; exact wrap64 (by omega) (by omega)
    conv => cbv
    refine r_callF (PV.int .i64) m.sX (l1Most_ok n r1) fun r2 hr2 => ?_
    conv => cbv
    exact hQ (.int .i64 r2) (Eq.trans (by first | rfl | (simp only [lb, lbI, rows_cons, rows_nil, unnilT, unnil, unnilTI, unnilI]; done) | (simp only [lb, lbI, rows_cons, rows_nil, unnilT, unnil, unnilTI, unnilI]; rfl)) (congrArg (PV.int .i64) (show r2 = absI n from by rw [hr2, hr1, wrap64 (by omega) (by omega)]; rfl)))   -- leaf 1

theorem coApart_ok (black : List Int) (red : List Int) (shift : Int) (hb : ∀ x ∈ black, 0 ≤ x ∧ x ≤ 1000) (hr : ∀ x ∈ red, 0 ≤ x ∧ x ≤ 1000) (hl : red.length = black.length) (hf : black.length ≤ 8) (hs : -20 ≤ shift ∧ shift ≤ 20) : OkA Try.prog 118 [.isl 1 (rows cInt black), .isl 1 (rows cInt red), .int .i64 shift] (· = .int .i64 (apartL black red shift)) :=
  fn_intro envOk fieldsOk mixed Try.func118 rfl fun κ X Y L Q m hQ => by
    conv => cbv
    refine r_lenR m.sX fun n1 hn1 mn1 => ?_
    conv => cbv
    refine r_loopF (α := Int × Int) m 30 [1, 2, 7, 10, 11, 12] [] (fun σ => [(1, .isl 1 (rows cInt red)), (2, .int .i64 shift), (7, .int .i64 σ.1), (10, .isl 1 (rows cInt black)), (11, .int .i64 n1), (12, .int .i64 σ.2)]) (fun σ => [])
      (fun σ => (0 ≤ σ.2) ∧ (σ.2 ≤ n1) ∧ (apartL black red shift = σ.1 + apartL (black.drop σ.2.toNat) (red.drop σ.2.toNat) shift) ∧ (0 ≤ σ.1 ∧ σ.1 ≤ 3000 * σ.2)) (fun σ => (n1 - σ.2).toNat) (0, 0) ?_ ?_ ?_ ?_
    · cbv
    · cbv
    · exact ⟨(by (try dsimp only); first | omega | (simp only [List.length_nil]; omega)), (by (try dsimp only); first | omega | (simp only [List.length_nil]; omega)), (by (try dsimp only) <;> (simp)), (by (try dsimp only) <;> first | omega | rfl | (simp [*]; done))⟩
    rintro ⟨sum, i1⟩ ⟨lo1, hi1, q, bn⟩ E hE F hF
    dsimp only at lo1 hi1 q bn
    conv => cbv
    refine r_lss m.sX (fun h1 => ?_) (fun h1 => ?_) <;> conv => cbv
    · refine r_index m.sX (by omega) (by omega) fun n hn => ?_
      conv => cbv
      have mn := get_mem hn
      have dn := drop_cons hn
      have kn := take_snoc hn
      have jn : (i1 + 1).toNat = Int.toNat i1 + 1 := by omega
      have vn := nth_some hn
      have ba := hb _ mn
      refine r_index m.sX (by omega) (by omega) fun x1 hx1 => ?_
      conv => cbv
      have mx1 := get_mem hx1
      have dx1 := drop_cons hx1
      have kx1 := take_snoc hx1
      have jx1 : (i1 + 1).toNat = Int.toNat i1 + 1 := by omega
      have vx1 := nth_some hx1
      have bx := hr _ mx1
      refine r_subf m.sX (by omega) (by omega) fun r1 hr1 => ?_
      conv => cbv
      refine r_subf m.sX (by omega) (by omega) fun r2 hr2 => ?_
      conv => cbv
      refine r_callF (PV.int .i64) m.sX (l1Abs_ok r2 (by first | rfl | assumption | omega | (simp only [List.length_append, List.length_cons, List.length_nil] at *; omega))) fun r3 hr3 => ?_
      conv => cbv
      have b5 : 0 ≤ r3 ∧ r3 ≤ 3000 := by rw [hr3]; exact absI_bound (by omega)
      refine r_addf m.sX (by omega) (by omega) fun sum_2 hsum_2 => ?_
      conv => cbv
      refine r_addf m.sX (by omega) (by omega) fun r4 hr4 => ?_
      conv => cbv
      have tr4 : Int.toNat r4 = Int.toNat i1 + 1 := by omega
      refine hE _ (sum_2, r4) ?_ ?_ ⟨(by (try dsimp only); first | omega | (simp only [List.length_nil]; omega)), (by (try dsimp only); first | omega | (simp only [List.length_nil]; omega)), (by (try dsimp only) <;> (rw [q, apartL_drop shift hn hx1, tr4, ← hr1, ← hr2, ← hr3]; omega)), (by (try dsimp only) <;> (omega))⟩ (by first | omega | (dsimp only; omega))
      · cbv
      · cbv
    · have dz_i1 := drop_end (xs := black) (i := Int.toNat i1) (by omega)
      have tz_i1 := take_end (xs := black) (i := Int.toNat i1) (by omega)
      refine hF _ _ ?_
      conv => cbv
      exact hQ (.int .i64 sum) (Eq.trans (by first | rfl | (simp only [lb, lbI, rows_cons, rows_nil, unnilT, unnil, unnilTI, unnilI]; done) | (simp only [lb, lbI, rows_cons, rows_nil, unnilT, unnil, unnilTI, unnilI]; rfl)) (congrArg (PV.int .i64) (show sum = apartL black red shift from by rw [q, apartL_end shift (.inl (by omega))]; omega)))   -- leaf 1

theorem specRegisterShift_ok (black : List Int) (red : List Int) (most : Int)  : OkA Try.prog 37 [.isl 1 (rows cInt black), .isl 1 (rows cInt red), .int .i64 most] (· = ib (regA black red most)) :=
  fn_intro envOk fieldsOk mixed Try.func37 rfl fun κ X Y L Q m hQ => by
    conv => cbv
    refine r_lenR m.sX fun n1 hn1 mn1 => ?_
    conv => cbv
    refine r_callB m.sX (l1In_ok n1 1 8) (fun h1 => ?_) (fun h1 => ?_) <;> conv => cbv
    · refine r_lenR m.sX fun n2 hn2 mn2 => ?_
      conv => cbv
      refine r_lenR m.sX fun n3 hn3 mn3 => ?_
      conv => cbv
      refine r_neq m.sX (fun h2 => ?_) (fun h2 => ?_) <;> conv => cbv
      · exact hQ (.tup [.int .i64 0, .bool false]) (Eq.trans (by first | rfl | (simp only [lb, lbI, rows_cons, rows_nil, unnilT, unnil, unnilTI, unnilI]; done) | (simp only [lb, lbI, rows_cons, rows_nil, unnilT, unnil, unnilTI, unnilI]; rfl)) (congrArg (ib) (show (0, false) = regA black red most from by rw [regA, okReg_alt, ← hn1, h1, decide_eq_false (by omega)]; rfl)))   -- leaf 1
      · refine r_callB m.sX (l1All_ok black 0 1000) (fun h3 => ?_) (fun h3 => ?_) <;> conv => cbv
        · refine r_callB m.sX (l1All_ok red 0 1000) (fun h4 => ?_) (fun h4 => ?_) <;> conv => cbv
          · refine r_callB m.sX (l1In_ok most 0 20) (fun h5 => ?_) (fun h5 => ?_) <;> conv => cbv
            · have b5 := inB_spec h5
              have b1 := allB_mem h3
              have b2 := allB_mem h4
              have b0 := inB_spec h1
              have ok1 : okReg black red most = true := by rw [okReg_alt, ← hn1, h1, decide_eq_true (by omega), h3, h4, h5]; rfl
              refine r_loopF (α := Int × Int) m 64 [0, 1, 2, 8, 9] [] (fun σ => [(0, .isl 1 (rows cInt black)), (1, .isl 1 (rows cInt red)), (2, .int .i64 most), (8, .int .i64 σ.1), (9, .int .i64 σ.2)]) (fun σ => [])
                (fun σ => (bestR (apartL black red) most.toNat 1 0 = bestR (apartL black red) (most + 1 - σ.2).toNat σ.2 σ.1) ∧ (1 ≤ σ.2 ∧ σ.2 ≤ most + 1) ∧ (-20 ≤ σ.1 ∧ σ.1 ≤ 20)) (fun σ => (most + 1 - σ.2).toNat) (0, 1) ?_ ?_ ?_ ?_
              · cbv
              · cbv
              · exact ⟨(by (try dsimp only) <;> (rw [show (most + 1 - 1).toNat = most.toNat by omega])), (by (try dsimp only) <;> first | omega | rfl | (simp [*]; done)), (by (try dsimp only) <;> first | omega | rfl | (simp [*]; done))⟩
              rintro ⟨best, n⟩ ⟨q, bz, bb⟩ E hE F hF
              dsimp only at q bz bb
              conv => cbv
              refine r_leq m.sX (fun h6 => ?_) (fun h6 => ?_) <;> conv => cbv
              · refine r_neg m.sX fun r1 hr1 => ?_   -- r1 = wrap (-n)
                have e1 : r1 = -n := by rw [hr1]; exact wrap64 (by omega) (by omega)
                conv => cbv
                refine r_lenN 2 m.sX rfl (by omega) fun n4 hn4 => ?_   -- n4 = length of [r1, n]
                conv => cbv
                refine r_loopF (α := Int × List Int × Int) m 64 [0, 1, 2, 8, 9, 47, 48] [⟨46, 369, 3, 1, 0⟩] (fun σ => [(0, .isl 1 (rows cInt black)), (1, .isl 1 (rows cInt red)), (2, .int .i64 most), (8, .int .i64 σ.1), (9, .int .i64 n), (46, .osl 369 0), (47, .int .i64 n4), (48, .int .i64 σ.2.2)]) (fun σ => [(369, 0, .row 3 1 (rows cInt σ.2.1))])
                  (fun σ => (0 ≤ σ.2.2) ∧ (σ.2.2 ≤ n4) ∧ ([-n, n].foldl (stB (apartL black red)) best = ([-n, n].drop σ.2.2.toNat).foldl (stB (apartL black red)) σ.1) ∧ (σ.2.1 = [r1, n]) ∧ (-20 ≤ σ.1 ∧ σ.1 ≤ 20)) (fun σ => (n4 - σ.2.2).toNat) (best, [r1, n], 0) ?_ ?_ ?_ ?_
                · cbv
                · (try dsimp only); simp only [rows_cons, rows_nil]; cbv
                · exact ⟨(by (try dsimp only); first | omega | (simp only [List.length_nil]; omega)), (by (try dsimp only); first | omega | (simp only [List.length_nil]; omega)), (by (try dsimp only) <;> (rfl)), (by (try dsimp only) <;> (rfl)), (by (try dsimp only) <;> first | omega | rfl | (simp [*]; done))⟩
                rintro ⟨best_2, ys1, i1⟩ ⟨lo2, hi2, q2, y2, bb2⟩ E2 hE2 F2 hF2
                dsimp only at lo2 hi2 q2 y2 bb2
                have yl : (ys1.length : Int) = 2 := by rw [y2]; rfl
                conv => cbv
                refine r_lss m.sX (fun h7 => ?_) (fun h7 => ?_) <;> conv => cbv
                · refine r_oindex m.sX (by omega) (by omega) ?_
                  conv => cbv
                  obtain ⟨shift, hshift⟩ := get_ex (xs := ys1) (i := Int.toNat i1) (by omega)
                  have mshift := get_mem hshift
                  have dshift := drop_cons hshift
                  have kshift := take_snoc hshift
                  have jshift : (i1 + 1).toNat = Int.toNat i1 + 1 := by omega
                  have vshift := nth_some hshift
                  have bs : -20 ≤ shift ∧ shift ≤ 20 := by rw [y2] at mshift; rcases List.mem_cons.1 mshift with h_ | h_; omega; have h_ := List.mem_singleton.1 h_; omega
                  have hs1 : [-n, n][i1.toNat]? = some shift := by rw [← e1, ← y2]; exact hshift
                  refine r_oload m.sX hshift (Nat.le_of_ble_eq_true rfl) ?_
                  conv => cbv
                  refine r_callF (PV.int .i64) m.sX (coApart_ok black red shift (by first | rfl | assumption | omega | (simp only [List.length_append, List.length_cons, List.length_nil] at *; omega)) (by first | rfl | assumption | omega | (simp only [List.length_append, List.length_cons, List.length_nil] at *; omega)) (by first | rfl | assumption | omega | (simp only [List.length_append, List.length_cons, List.length_nil] at *; omega)) (by first | rfl | assumption | omega | (simp only [List.length_append, List.length_cons, List.length_nil] at *; omega)) (by first | rfl | assumption | omega | (simp only [List.length_append, List.length_cons, List.length_nil] at *; omega))) fun r2 hr2 => ?_
                  conv => cbv
                  refine r_callF (PV.int .i64) m.sX (coApart_ok black red best_2 (by first | rfl | assumption | omega | (simp only [List.length_append, List.length_cons, List.length_nil] at *; omega)) (by first | rfl | assumption | omega | (simp only [List.length_append, List.length_cons, List.length_nil] at *; omega)) (by first | rfl | assumption | omega | (simp only [List.length_append, List.length_cons, List.length_nil] at *; omega)) (by first | rfl | assumption | omega | (simp only [List.length_append, List.length_cons, List.length_nil] at *; omega)) (by first | rfl | assumption | omega | (simp only [List.length_append, List.length_cons, List.length_nil] at *; omega))) fun r3 hr3 => ?_
                  conv => cbv
                  refine r_lss m.sX (fun h8 => ?_) (fun h8 => ?_) <;> conv => cbv
                  · have sp : stB (apartL black red) best_2 shift = shift := by rw [stB, if_pos (by rw [← hr2, ← hr3]; exact h8)]
                    refine r_addf m.sX (by omega) (by omega) fun r4 hr4 => ?_
                    conv => cbv
                    have tr4 : Int.toNat r4 = Int.toNat i1 + 1 := by omega
                    refine hE2 _ (shift, ys1, r4) ?_ ?_ ⟨(by (try dsimp only); first | omega | (simp only [List.length_nil]; omega)), (by (try dsimp only); first | omega | (simp only [List.length_nil]; omega)), (by (try dsimp only) <;> (rw [q2, foldl_drop _ _ hs1, tr4, sp])), (by (try dsimp only) <;> (exact y2)), (by (try dsimp only) <;> first | omega | rfl | (simp [*]; done) | (rw [bb2]; simp [*]; done))⟩ (by first | omega | (dsimp only; omega))
                    · cbv
                    · cbv
                  · have sp : stB (apartL black red) best_2 shift = best_2 := by rw [stB, if_neg (by rw [← hr2, ← hr3]; omega)]
                    refine r_addf m.sX (by omega) (by omega) fun r5 hr5 => ?_
                    conv => cbv
                    have tr5 : Int.toNat r5 = Int.toNat i1 + 1 := by omega
                    refine hE2 _ (best_2, ys1, r5) ?_ ?_ ⟨(by (try dsimp only); first | omega | (simp only [List.length_nil]; omega)), (by (try dsimp only); first | omega | (simp only [List.length_nil]; omega)), (by (try dsimp only) <;> (rw [q2, foldl_drop _ _ hs1, tr5, sp])), (by (try dsimp only) <;> (exact y2)), (by (try dsimp only) <;> first | omega | rfl | (simp [*]; done) | (rw [bb2]; simp [*]; done))⟩ (by first | omega | (dsimp only; omega))
                    · cbv
                    · cbv
                · have q3 : [-n, n].foldl (stB (apartL black red)) best = best_2 := by rw [q2, List.drop_of_length_le (by simp only [List.length_cons, List.length_nil]; omega)]; rfl
                  have dz_i1 := drop_end (xs := [r1, n]) (i := Int.toNat i1) (by simp only [List.length_cons, List.length_nil]; omega)
                  have tz_i1 := take_end (xs := [r1, n]) (i := Int.toNat i1) (by simp only [List.length_cons, List.length_nil]; omega)
                  refine hF2 _ _ ?_
                  conv => cbv
                  refine r_addf m.sX (by omega) (by omega) fun n_2 hn_2 => ?_
                  conv => cbv
                  refine hE _ (best_2, n_2) ?_ ?_ ⟨(by (try dsimp only) <;> (rw [q, show (most + 1 - n).toNat = (most + 1 - n_2).toNat + 1 by omega, bestR, q3, show n_2 = n + 1 by omega])), (by (try dsimp only) <;> first | omega | rfl | (simp [*]; done) | (rw [bz]; simp [*]; done)), (by (try dsimp only) <;> first | omega | rfl | (simp [*]; done) | (rw [bb]; simp [*]; done))⟩ (by first | omega | (dsimp only; omega))
                  · cbv
                  · cbv
              · refine hF _ _ ?_
                conv => cbv
                exact hQ (.tup [.int .i64 best, .bool true]) (Eq.trans (by first | rfl | (simp only [lb, lbI, rows_cons, rows_nil, unnilT, unnil, unnilTI, unnilI]; done) | (simp only [lb, lbI, rows_cons, rows_nil, unnilT, unnil, unnilTI, unnilI]; rfl)) (congrArg (ib) (show (best, true) = regA black red most from by rw [regA, if_pos ok1, q, show (most + 1 - n).toNat = 0 by omega, bestR])))   -- leaf 2
            · exact hQ (.tup [.int .i64 0, .bool false]) (Eq.trans (by first | rfl | (simp only [lb, lbI, rows_cons, rows_nil, unnilT, unnil, unnilTI, unnilI]; done) | (simp only [lb, lbI, rows_cons, rows_nil, unnilT, unnil, unnilTI, unnilI]; rfl)) (congrArg (ib) (show (0, false) = regA black red most from by rw [regA, okReg_alt, ← hn1, h1, decide_eq_true (by omega), h3, h4, h5]; rfl)))   -- leaf 3
          · exact hQ (.tup [.int .i64 0, .bool false]) (Eq.trans (by first | rfl | (simp only [lb, lbI, rows_cons, rows_nil, unnilT, unnil, unnilTI, unnilI]; done) | (simp only [lb, lbI, rows_cons, rows_nil, unnilT, unnil, unnilTI, unnilI]; rfl)) (congrArg (ib) (show (0, false) = regA black red most from by rw [regA, okReg_alt, ← hn1, h1, decide_eq_true (by omega), h3, h4]; rfl)))   -- leaf 4
        · exact hQ (.tup [.int .i64 0, .bool false]) (Eq.trans (by first | rfl | (simp only [lb, lbI, rows_cons, rows_nil, unnilT, unnil, unnilTI, unnilI]; done) | (simp only [lb, lbI, rows_cons, rows_nil, unnilT, unnil, unnilTI, unnilI]; rfl)) (congrArg (ib) (show (0, false) = regA black red most from by rw [regA, okReg_alt, ← hn1, h1, decide_eq_true (by omega), h3]; rfl)))   -- leaf 5
    · exact hQ (.tup [.int .i64 0, .bool false]) (Eq.trans (by first | rfl | (simp only [lb, lbI, rows_cons, rows_nil, unnilT, unnil, unnilTI, unnilI]; done) | (simp only [lb, lbI, rows_cons, rows_nil, unnilT, unnil, unnilTI, unnilI]; rfl)) (congrArg (ib) (show (0, false) = regA black red most from by rw [regA, okReg_alt, ← hn1, h1]; rfl)))   -- leaf 6

theorem qAway_ok (n : Int) (hn : -9000000000000000000 ≤ n ∧ n ≤ 9000000000000000000) : OkA Try.prog 38 [.int .i64 n] (· = .int .i64 (absI n)) :=
  fn_intro envOk fieldsOk mixed Try.func38 rfl fun κ X Y L Q m hQ => by
    conv => cbv
    refine r_lss m.sX (fun h1 => ?_) (fun h1 => ?_) <;> conv => cbv
    · refine r_neg m.sX fun r1 hr1 => ?_   -- r1 = wrap (-n)
      conv => cbv
      exact hQ (.int .i64 r1) (Eq.trans (by first | rfl | (simp only [lb, lbI, rows_cons, rows_nil, unnilT, unnil, unnilTI, unnilI]; done) | (simp only [lb, lbI, rows_cons, rows_nil, unnilT, unnil, unnilTI, unnilI]; rfl)) (congrArg (PV.int .i64) (show r1 = absI n from by rw [hr1, wrap64 (by omega) (by omega)]; simp only [absI]; omega)))   -- leaf 1
    · exact hQ (.int .i64 n) (Eq.trans (by first | rfl | (simp only [lb, lbI, rows_cons, rows_nil, unnilT, unnil, unnilTI, unnilI]; done) | (simp only [lb, lbI, rows_cons, rows_nil, unnilT, unnil, unnilTI, unnilI]; rfl)) (congrArg (PV.int .i64) (show n = absI n from by simp only [absI]; omega)))   -- leaf 2

end Go.Proofs.Ytkcbhjnkpbeigaa.Ai
