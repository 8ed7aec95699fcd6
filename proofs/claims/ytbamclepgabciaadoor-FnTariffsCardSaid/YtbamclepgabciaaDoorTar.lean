/- Contracts behind the law on tariffs. -/
import Derived.Test.YtbamclepgabciaaDoorTarLaw
import Derived.Test.YtbamclepgabciaaDoorPound
namespace Go.Proofs.YtbamclepgabciaaDoor.Ai
open Go Go.Proofs
set_option linter.unusedSimpArgs false
set_option maxRecDepth 10000
set_option maxHeartbeats 4000000
set_option linter.unusedVariables false
theorem PriceOfCorrections_ok (t : Tariff) (marks : List Int)  : OkA Tryd.prog 45 [.agg (cTariff t), .isl 1 (rows cInt marks)] (· = ib (corrB t marks)) := by
  obtain ⟨tA, tB, tC, tD⟩ := t
  try dsimp only at *
  exact fn_intro envOk fieldsOk mixed Tryd.func45 rfl fun κ X Y L Q m hQ => by
    conv => cbv
    refine r_lenR m.sX fun n1 hn1 mn1 => ?_
    conv => cbv
    refine r_loopF (α := Int) m 30 [1, 8, 9, 10] [⟨2, 17, 0, 0, 0⟩] (fun σ => [(1, .isl 1 (rows cInt marks)), (2, .optr 17 0 4 0 0), (8, .isl 1 (rows cInt marks)), (9, .int .i64 n1), (10, .int .i64 σ)]) (fun σ => [(17, 0, .box [.int .i64 tA, .int .i64 tB, .int .i64 tC, .int .i64 tD])])
      (fun σ => (0 ≤ σ) ∧ (σ ≤ n1) ∧ (allB marks 0 600 = allB (marks.drop σ.toNat) 0 600)) (fun σ => (n1 - σ).toNat) 0 ?_ ?_ ?_ ?_
    · cbv
    · cbv
    · exact ⟨(by (try dsimp only); first | omega | (simp only [List.length_nil]; omega) | (simp only [List.length_cons, List.length_nil]; omega)), (by (try dsimp only); first | omega | (simp only [List.length_nil]; omega) | (simp only [List.length_cons, List.length_nil]; omega)), (by (try dsimp only) <;> (rfl))⟩
    rintro i1 ⟨lo1, hi1, q⟩ E hE F hF
    conv => cbv
    refine r_lss m.sX (fun h1 => ?_) (fun h1 => ?_) <;> conv => cbv
    · refine r_index m.sX (by omega) (by omega) fun n hn => ?_
      conv => cbv
      have mn := get_mem hn
      have dn := drop_cons hn
      have kn := take_snoc hn
      have jn : (i1 + 1).toNat = Int.toNat i1 + 1 := by omega
      have vn := nth_some hn
      refine r_callB m.sX (within_ok n 0 600) (fun h2 => ?_) (fun h2 => ?_) <;> conv => cbv
      · refine r_addf m.sX (by omega) (by omega) fun r1 hr1 => ?_
        conv => cbv
        try have tr1 : Int.toNat r1 = Int.toNat i1 + 1 := by omega
        refine hE _ r1 ?_ ?_ ⟨(by (try dsimp only); first | omega | (simp only [List.length_nil]; omega) | (simp only [List.length_cons, List.length_nil]; omega)), (by (try dsimp only); first | omega | (simp only [List.length_nil]; omega) | (simp only [List.length_cons, List.length_nil]; omega)), (by (try dsimp only) <;> (rw [q, dn, allB_cons, h2, Bool.true_and, tr1]))⟩ (by first | omega | (dsimp only; omega))
        · cbv
        · cbv
      · refine hF _ _ ?_
        conv => cbv
        exact hQ (.tup [.int .i64 0, .bool false]) (Eq.trans (by first | rfl | (simp only [lb, lbI, rows_cons, rows_nil, unnilT, unnil, unnilTI, unnilI]; done) | (simp only [lb, lbI, rows_cons, rows_nil, unnilT, unnil, unnilTI, unnilI]; rfl)) (congrArg (ib) (show (0, false) = corrB (tA, tB, tC, tD) marks from by rw [corrB, q, dn, allB_cons, h2]; simp)))   -- leaf 1
    · have dz_i1 := drop_end (xs := marks) (i := Int.toNat i1) (by omega)
      have tz_i1 := take_end (xs := marks) (i := Int.toNat i1) (by omega)
      refine hF _ _ ?_
      conv => cbv
      refine r_callB m.sX (IsTariffT_ok (tA, tB, tC, tD)) (fun h3 => ?_) (fun h3 => ?_) <;> conv => cbv
      · have gb := goodT_spec h3
        try dsimp only at gb
        refine r_lenR m.sX fun n2 hn2 mn2 => ?_
        conv => cbv
        refine r_gtr m.sX (fun h4 => ?_) (fun h4 => ?_) <;> conv => cbv
        · exact hQ (.tup [.int .i64 0, .bool false]) (Eq.trans (by first | rfl | (simp only [lb, lbI, rows_cons, rows_nil, unnilT, unnil, unnilTI, unnilI]; done) | (simp only [lb, lbI, rows_cons, rows_nil, unnilT, unnil, unnilTI, unnilI]; rfl)) (congrArg (ib) (show (0, false) = corrB (tA, tB, tC, tD) marks from by rw [corrB, decide_eq_false (by omega), h3]; rfl)))   -- leaf 2
        · have qa : allB marks 0 600 = true := by rw [q, dz_i1]; rfl
          have qf := allB_fits qa (by omega)
          try dsimp only at qf
          have qs := allB_sum qa
          try dsimp only at qs
          refine r_draw m (by kernel_rfl) ?_
          conv => cbv
          refine r_callFS (PV.int .i64) m.sY (sum_ok marks (by first | rfl | assumption | omega | (simp only [List.length_append, List.length_cons, List.length_nil] at *; omega))) trivial fun r2 hr2 => ?_
          conv => cbv
          try dsimp only at hr2
          refine r_callFS (PV.int .i64) m.sY (correctionPriceT_ok (tA, tB, tC, tD) r2 gb.2.2.1 (by omega)) trivial fun r3 hr3 => ?_
          conv => cbv
          try dsimp only at hr3
          exact hQ (.tup [.int .i64 r3, .bool true]) (Eq.trans (by first | rfl | (simp only [lb, lbI, rows_cons, rows_nil, unnilT, unnil, unnilTI, unnilI]; done) | (simp only [lb, lbI, rows_cons, rows_nil, unnilT, unnil, unnilTI, unnilI]; rfl)) (congrArg (ib) (show (r3, true) = corrB (tA, tB, tC, tD) marks from by rw [corrB, decide_eq_true (by omega), h3, qa, hr3, hr2]; rfl)))   -- leaf 3
      · exact hQ (.tup [.int .i64 0, .bool false]) (Eq.trans (by first | rfl | (simp only [lb, lbI, rows_cons, rows_nil, unnilT, unnil, unnilTI, unnilI]; done) | (simp only [lb, lbI, rows_cons, rows_nil, unnilT, unnil, unnilTI, unnilI]; rfl)) (congrArg (ib) (show (0, false) = corrB (tA, tB, tC, tD) marks from by rw [corrB, h3]; rfl)))   -- leaf 4

theorem juSum_ok (words : List Int) (hf : SumFits words) : OkA Tryd.prog 114 [.isl 1 (rows cInt words)] (· = .int .i64 (words.sum)) :=
  fn_intro envOk fieldsOk mixed Tryd.func114 rfl fun κ X Y L Q m hQ => by
    conv => cbv
    refine r_lenR m.sX fun n1 hn1 mn1 => ?_
    conv => cbv
    refine r_loopF (α := Int × Int) m 17 [3, 6, 7, 8] [] (fun σ => [(3, .int .i64 σ.1), (6, .isl 1 (rows cInt words)), (7, .int .i64 n1), (8, .int .i64 σ.2)]) (fun σ => [])
      (fun σ => (0 ≤ σ.2) ∧ (σ.2 ≤ n1) ∧ (σ.1 = (words.take σ.2.toNat).sum)) (fun σ => (n1 - σ.2).toNat) (0, 0) ?_ ?_ ?_ ?_
    · cbv
    · cbv
    · exact ⟨(by (try dsimp only); first | omega | (simp only [List.length_nil]; omega) | (simp only [List.length_cons, List.length_nil]; omega)), (by (try dsimp only); first | omega | (simp only [List.length_nil]; omega) | (simp only [List.length_cons, List.length_nil]; omega)), (by (try dsimp only) <;> first | omega | rfl | (simp [*]; done))⟩
    rintro ⟨sum, i1⟩ ⟨lo1, hi1, q⟩ E hE F hF
    dsimp only at lo1 hi1 q
    have bq := hf i1.toNat
    conv => cbv
    refine r_lss m.sX (fun h1 => ?_) (fun h1 => ?_) <;> conv => cbv
    · refine r_index m.sX (by omega) (by omega) fun n hn => ?_
      conv => cbv
      have mn := get_mem hn
      have dn := drop_cons hn
      have kn := take_snoc hn
      have jn : (i1 + 1).toNat = Int.toNat i1 + 1 := by omega
      have vn := nth_some hn
      have bn := hf (i1.toNat + 1)
      rw [sum_take hn] at bn
      refine r_addf m.sX (by omega) (by omega) fun sum_2 hsum_2 => ?_
      conv => cbv
      refine r_addf m.sX (by omega) (by omega) fun r1 hr1 => ?_
      conv => cbv
      try have tr1 : Int.toNat r1 = Int.toNat i1 + 1 := by omega
      refine hE _ (sum_2, r1) ?_ ?_ ⟨(by (try dsimp only); first | omega | (simp only [List.length_nil]; omega) | (simp only [List.length_cons, List.length_nil]; omega)), (by (try dsimp only); first | omega | (simp only [List.length_nil]; omega) | (simp only [List.length_cons, List.length_nil]; omega)), (by (try dsimp only) <;> (rw [tr1, sum_take hn]; omega))⟩ (by first | omega | (dsimp only; omega))
      · cbv
      · cbv
    · have dz_i1 := drop_end (xs := words) (i := Int.toNat i1) (by omega)
      have tz_i1 := take_end (xs := words) (i := Int.toNat i1) (by omega)
      refine hF _ _ ?_
      conv => cbv
      exact hQ (.int .i64 sum) (Eq.trans (by first | rfl | (simp only [lb, lbI, rows_cons, rows_nil, unnilT, unnil, unnilTI, unnilI]; done) | (simp only [lb, lbI, rows_cons, rows_nil, unnilT, unnil, unnilTI, unnilI]; rfl)) (congrArg (PV.int .i64) (show sum = words.sum from by rw [q, tz_i1])))   -- leaf 1

theorem specPriceOfCorrections_ok (t : Tariff) (marks : List Int)  : OkA Tryd.prog 46 [.agg (cTariff t), .isl 1 (rows cInt marks)] (· = ib (corrB t marks)) := by
  obtain ⟨tA, tB, tC, tD⟩ := t
  try dsimp only at *
  exact fn_intro envOk fieldsOk mixed Tryd.func46 rfl fun κ X Y L Q m hQ => by
    conv => cbv
    refine r_callB m.sX (esTariffT_ok (tA, tB, tC, tD)) (fun h1 => ?_) (fun h1 => ?_) <;> conv => cbv
    · have gb := goodT_spec h1
      try dsimp only at gb
      refine r_lenR m.sX fun n1 hn1 mn1 => ?_
      conv => cbv
      refine r_gtr m.sX (fun h2 => ?_) (fun h2 => ?_) <;> conv => cbv
      · exact hQ (.tup [.int .i64 0, .bool false]) (Eq.trans (by first | rfl | (simp only [lb, lbI, rows_cons, rows_nil, unnilT, unnil, unnilTI, unnilI]; done) | (simp only [lb, lbI, rows_cons, rows_nil, unnilT, unnil, unnilTI, unnilI]; rfl)) (congrArg (ib) (show (0, false) = corrB (tA, tB, tC, tD) marks from by rw [corrB, decide_eq_false (by omega), h1]; rfl)))   -- leaf 1
      · refine r_callB m.sX (l1All_ok marks 0 600) (fun h3 => ?_) (fun h3 => ?_) <;> conv => cbv
        · have qf := allB_fits h3 (by omega)
          try dsimp only at qf
          have qs := allB_sum h3
          try dsimp only at qs
          refine r_draw m (by kernel_rfl) ?_
          conv => cbv
          refine r_callFS (PV.int .i64) m.sY (juSum_ok marks (by first | rfl | assumption | omega | (simp only [List.length_append, List.length_cons, List.length_nil] at *; omega))) trivial fun r1 hr1 => ?_
          conv => cbv
          try dsimp only at hr1
          refine r_callFS (PV.int .i64) m.sY (esMinutesT_ok (tA, tB, tC, tD) r1 gb.2.2.1 (by omega)) trivial fun r2 hr2 => ?_
          conv => cbv
          try dsimp only at hr2
          exact hQ (.tup [.int .i64 r2, .bool true]) (Eq.trans (by first | rfl | (simp only [lb, lbI, rows_cons, rows_nil, unnilT, unnil, unnilTI, unnilI]; done) | (simp only [lb, lbI, rows_cons, rows_nil, unnilT, unnil, unnilTI, unnilI]; rfl)) (congrArg (ib) (show (r2, true) = corrB (tA, tB, tC, tD) marks from by rw [corrB, decide_eq_true (by omega), h1, h3, hr2, hr1]; rfl)))   -- leaf 2
        · exact hQ (.tup [.int .i64 0, .bool false]) (Eq.trans (by first | rfl | (simp only [lb, lbI, rows_cons, rows_nil, unnilT, unnil, unnilTI, unnilI]; done) | (simp only [lb, lbI, rows_cons, rows_nil, unnilT, unnil, unnilTI, unnilI]; rfl)) (congrArg (ib) (show (0, false) = corrB (tA, tB, tC, tD) marks from by rw [corrB, h1, h3]; simp)))   -- leaf 3
    · exact hQ (.tup [.int .i64 0, .bool false]) (Eq.trans (by first | rfl | (simp only [lb, lbI, rows_cons, rows_nil, unnilT, unnil, unnilTI, unnilI]; done) | (simp only [lb, lbI, rows_cons, rows_nil, unnilT, unnil, unnilTI, unnilI]; rfl)) (congrArg (ib) (show (0, false) = corrB (tA, tB, tC, tD) marks from by rw [corrB, h1]; rfl)))   -- leaf 4

theorem PagesForLines_ok (lines : Int) (depth : Int) (body : Int) (lead : Int)  : OkA Tryd.prog 48 [.int .i64 lines, .int .i64 depth, .int .i64 body, .int .i64 lead] (· = ib (pagesB lines depth body lead)) :=
  fn_intro envOk fieldsOk mixed Tryd.func48 rfl fun κ X Y L Q m hQ => by
    conv => cbv
    refine r_callB m.sX (isCopyCount_ok lines) (fun h1 => ?_) (fun h1 => ?_) <;> conv => cbv
    · have b1 := inB_spec h1
      refine r_callB m.sX (within_ok depth 40 2000) (fun h2 => ?_) (fun h2 => ?_) <;> conv => cbv
      · have b2 := inB_spec h2
        refine r_callB m.sX (within_ok body 4 72) (fun h3 => ?_) (fun h3 => ?_) <;> conv => cbv
        · have b3 := inB_spec h3
          refine r_callB m.sX (within_ok lead 0 20) (fun h4 => ?_) (fun h4 => ?_) <;> conv => cbv
          · have b4 := inB_spec h4
            refine r_gtr m.sX (fun h5 => ?_) (fun h5 => ?_) <;> conv => cbv
            · exact hQ (.tup [.int .i64 0, .bool false]) (Eq.trans (by first | rfl | (simp only [lb, lbI, rows_cons, rows_nil, unnilT, unnil, unnilTI, unnilI]; done) | (simp only [lb, lbI, rows_cons, rows_nil, unnilT, unnil, unnilTI, unnilI]; rfl)) (congrArg (ib) (show (0, false) = pagesB lines depth body lead from by rw [pagesB, h1, h2, h3, h4, decide_eq_false (by omega)]; rfl)))   -- leaf 1
            · refine r_addf m.sX (by omega) (by omega) fun r1 hr1 => ?_
              conv => cbv
              refine r_addf m.sX (by omega) (by omega) fun r2 hr2 => ?_
              conv => cbv
              first | refine r_divf m.sX (by omega) (by omega) fun r3 hr3 br3 => ?_ | refine r_tdivf m.sX (by omega) (by omega) fun r3 hr3 br3 => ?_
              conv => cbv
              have fg := fit_ge (depth := depth) (body := body) (lead := lead) (by omega) (by omega) (by omega)
              rw [← hr1, ← hr2, ← hr3] at fg
              refine r_callF (PV.int .i64) m.sX (up_ok lines r3 (by omega) (by omega) (by omega)) fun r4 hr4 => ?_
              conv => cbv
              exact hQ (.tup [.int .i64 r4, .bool true]) (Eq.trans (by first | rfl | (simp only [lb, lbI, rows_cons, rows_nil, unnilT, unnil, unnilTI, unnilI]; done) | (simp only [lb, lbI, rows_cons, rows_nil, unnilT, unnil, unnilTI, unnilI]; rfl)) (congrArg (ib) (show (r4, true) = pagesB lines depth body lead from by rw [pagesB, h1, h2, h3, h4, decide_eq_true (by omega), hr4, hr3, hr2, hr1]; rfl)))   -- leaf 2
          · exact hQ (.tup [.int .i64 0, .bool false]) (Eq.trans (by first | rfl | (simp only [lb, lbI, rows_cons, rows_nil, unnilT, unnil, unnilTI, unnilI]; done) | (simp only [lb, lbI, rows_cons, rows_nil, unnilT, unnil, unnilTI, unnilI]; rfl)) (congrArg (ib) (show (0, false) = pagesB lines depth body lead from by rw [pagesB, h1, h2, h3, h4]; rfl)))   -- leaf 3
        · exact hQ (.tup [.int .i64 0, .bool false]) (Eq.trans (by first | rfl | (simp only [lb, lbI, rows_cons, rows_nil, unnilT, unnil, unnilTI, unnilI]; done) | (simp only [lb, lbI, rows_cons, rows_nil, unnilT, unnil, unnilTI, unnilI]; rfl)) (congrArg (ib) (show (0, false) = pagesB lines depth body lead from by rw [pagesB, h1, h2, h3]; rfl)))   -- leaf 4
      · exact hQ (.tup [.int .i64 0, .bool false]) (Eq.trans (by first | rfl | (simp only [lb, lbI, rows_cons, rows_nil, unnilT, unnil, unnilTI, unnilI]; done) | (simp only [lb, lbI, rows_cons, rows_nil, unnilT, unnil, unnilTI, unnilI]; rfl)) (congrArg (ib) (show (0, false) = pagesB lines depth body lead from by rw [pagesB, h1, h2]; rfl)))   -- leaf 5
    · exact hQ (.tup [.int .i64 0, .bool false]) (Eq.trans (by first | rfl | (simp only [lb, lbI, rows_cons, rows_nil, unnilT, unnil, unnilTI, unnilI]; done) | (simp only [lb, lbI, rows_cons, rows_nil, unnilT, unnil, unnilTI, unnilI]; rfl)) (congrArg (ib) (show (0, false) = pagesB lines depth body lead from by rw [pagesB, h1]; rfl)))   -- leaf 6

theorem specPagesForLines_ok (lines : Int) (depth : Int) (body : Int) (lead : Int)  : OkA Tryd.prog 49 [.int .i64 lines, .int .i64 depth, .int .i64 body, .int .i64 lead] (· = ib (pagesB lines depth body lead)) :=
  fn_intro envOk fieldsOk mixed Tryd.func49 rfl fun κ X Y L Q m hQ => by
    conv => cbv
    refine r_callB m.sX (l1In_ok lines 0 1000000) (fun h1 => ?_) (fun h1 => ?_) <;> conv => cbv
    · have b1 := inB_spec h1
      refine r_callB m.sX (l1In_ok depth 40 2000) (fun h2 => ?_) (fun h2 => ?_) <;> conv => cbv
      · have b2 := inB_spec h2
        refine r_callB m.sX (l1In_ok body 4 72) (fun h3 => ?_) (fun h3 => ?_) <;> conv => cbv
        · have b3 := inB_spec h3
          refine r_callB m.sX (l1In_ok lead 0 20) (fun h4 => ?_) (fun h4 => ?_) <;> conv => cbv
          · have b4 := inB_spec h4
            refine r_gtr m.sX (fun h5 => ?_) (fun h5 => ?_) <;> conv => cbv
            · exact hQ (.tup [.int .i64 0, .bool false]) (Eq.trans (by first | rfl | (simp only [lb, lbI, rows_cons, rows_nil, unnilT, unnil, unnilTI, unnilI]; done) | (simp only [lb, lbI, rows_cons, rows_nil, unnilT, unnil, unnilTI, unnilI]; rfl)) (congrArg (ib) (show (0, false) = pagesB lines depth body lead from by rw [pagesB, h1, h2, h3, h4, decide_eq_false (by omega)]; rfl)))   -- leaf 1
            · refine r_addf m.sX (by omega) (by omega) fun r1 hr1 => ?_
              conv => cbv
              refine r_addf m.sX (by omega) (by omega) fun r2 hr2 => ?_
              conv => cbv
              first | refine r_divf m.sX (by omega) (by omega) fun r3 hr3 br3 => ?_ | refine r_tdivf m.sX (by omega) (by omega) fun r3 hr3 br3 => ?_
              conv => cbv
              have fg := fit_ge (depth := depth) (body := body) (lead := lead) (by omega) (by omega) (by omega)
              rw [← hr1, ← hr2, ← hr3] at fg
              refine r_callF (PV.int .i64) m.sX (esUp_ok lines r3 (by omega) (by omega) (by omega)) fun r4 hr4 => ?_
              conv => cbv
              exact hQ (.tup [.int .i64 r4, .bool true]) (Eq.trans (by first | rfl | (simp only [lb, lbI, rows_cons, rows_nil, unnilT, unnil, unnilTI, unnilI]; done) | (simp only [lb, lbI, rows_cons, rows_nil, unnilT, unnil, unnilTI, unnilI]; rfl)) (congrArg (ib) (show (r4, true) = pagesB lines depth body lead from by rw [pagesB, h1, h2, h3, h4, decide_eq_true (by omega), hr4, hr3, hr2, hr1]; rfl)))   -- leaf 2
          · exact hQ (.tup [.int .i64 0, .bool false]) (Eq.trans (by first | rfl | (simp only [lb, lbI, rows_cons, rows_nil, unnilT, unnil, unnilTI, unnilI]; done) | (simp only [lb, lbI, rows_cons, rows_nil, unnilT, unnil, unnilTI, unnilI]; rfl)) (congrArg (ib) (show (0, false) = pagesB lines depth body lead from by rw [pagesB, h1, h2, h3, h4]; rfl)))   -- leaf 3
        · exact hQ (.tup [.int .i64 0, .bool false]) (Eq.trans (by first | rfl | (simp only [lb, lbI, rows_cons, rows_nil, unnilT, unnil, unnilTI, unnilI]; done) | (simp only [lb, lbI, rows_cons, rows_nil, unnilT, unnil, unnilTI, unnilI]; rfl)) (congrArg (ib) (show (0, false) = pagesB lines depth body lead from by rw [pagesB, h1, h2, h3]; rfl)))   -- leaf 4
      · exact hQ (.tup [.int .i64 0, .bool false]) (Eq.trans (by first | rfl | (simp only [lb, lbI, rows_cons, rows_nil, unnilT, unnil, unnilTI, unnilI]; done) | (simp only [lb, lbI, rows_cons, rows_nil, unnilT, unnil, unnilTI, unnilI]; rfl)) (congrArg (ib) (show (0, false) = pagesB lines depth body lead from by rw [pagesB, h1, h2]; rfl)))   -- leaf 5
    · exact hQ (.tup [.int .i64 0, .bool false]) (Eq.trans (by first | rfl | (simp only [lb, lbI, rows_cons, rows_nil, unnilT, unnil, unnilTI, unnilI]; done) | (simp only [lb, lbI, rows_cons, rows_nil, unnilT, unnil, unnilTI, unnilI]; rfl)) (congrArg (ib) (show (0, false) = pagesB lines depth body lead from by rw [pagesB, h1]; rfl)))   -- leaf 6

theorem specIsTariff_ok (t : Tariff)  : OkA Tryd.prog 55 [.agg (cTariff t)] (· = .bool (goodT t)) := by
  obtain ⟨tA, tB, tC, tD⟩ := t
  try dsimp only at *
  exact fn_intro envOk fieldsOk mixed Tryd.func55 rfl fun κ X Y L Q m hQ => by
    conv => cbv
    refine r_callB m.sX (esTariffT_ok (tA, tB, tC, tD)) (fun h1 => ?_) (fun h1 => ?_) <;> conv => cbv
    · exact hQ _ (congrArg PV.bool (by exact h1.symm))   -- leaf 1
    · exact hQ _ (congrArg PV.bool (by exact h1.symm))   -- leaf 2

theorem cTariff2_ok (code : List Int) (b0 t0 : Int)  (h : CurIn code) (h0 : 0 ≤ b0) (hk : b0 ≤ 899999999999980000)  : OkM Tryd.prog 101 (cCur code b0 t0) [] (fun r cs => ∃ (q : Tariff), r = .agg (cTariff q) ∧ CurTo code b0 20 cs) :=
  fnM_intro envOk fieldsOk mixed Tryd.func101 rfl fun κ X Y L Q m hQ => by
    conv => cbv
    refine r_mcall m.sX (cPick_ok code b0 t0 100 h (by omega) (by omega)) ?_
    rintro _ _ ⟨q1, rfl, ⟨a1, s1, rfl, ea1, fa1⟩, bq1, cq1, dq1⟩
    conv => cbv
    refine r_addf m.sX (by omega) (by omega) fun r1 hr1 => ?_
    conv => cbv
    refine r_mcall m.sX (cPick_ok code a1 s1 60 h (by omega) (by omega)) ?_
    rintro _ _ ⟨q2, rfl, ⟨a2, s2, rfl, ea2, fa2⟩, bq2, cq2, dq2⟩
    conv => cbv
    refine r_mcall m.sX (cPick_ok code a2 s2 60 h (by omega) (by omega)) ?_
    rintro _ _ ⟨q3, rfl, ⟨a3, s3, rfl, ea3, fa3⟩, bq3, cq3, dq3⟩
    conv => cbv
    refine r_addf m.sX (by omega) (by omega) fun r2 hr2 => ?_
    conv => cbv
    refine r_mcall m.sX (cPick_ok code a3 s3 300 h (by omega) (by omega)) ?_
    rintro _ _ ⟨q4, rfl, ⟨a4, s4, rfl, ea4, fa4⟩, bq4, cq4, dq4⟩
    conv => cbv
    refine r_mcall m.sX (cOne_ok code a4 s4 16 h (by omega) (by omega)) ?_
    rintro _ _ ⟨q5, rfl, ⟨a5, s5, rfl, ea5, fa5⟩⟩
    conv => cbv
    rcases Bool.eq_false_or_eq_true q5 with rfl | rfl <;> conv => cbv
    · refine r_mcall m.sX (cAmong_ok code a5 s5 ([0, 100000, 100001, -1]) (by simp) h (by omega) (by omega)) ?_
      rintro _ _ ⟨n, rfl, ⟨a6, s6, rfl, ea6, fa6⟩, bn⟩
      simp only [List.mem_cons, List.not_mem_nil, or_false] at bn
      conv => cbv
      refine r_mcall m.sX (cPick_ok code a6 s6 4 h (by omega) (by omega)) ?_
      rintro _ _ ⟨q6, rfl, ⟨a7, s7, rfl, ea7, fa7⟩, bq6, cq6, dq6⟩
      conv => cbv
      refine r_eql m.sX (fun h1 => ?_) (fun h1 => ?_) <;> conv => cbv
      · exact hQ (.agg [.int .i64 n, .int .i64 q2, .int .i64 r2, .int .i64 q4]) (cCur code a7 s7) ⟨(n, q2, r2, q4), rfl, ⟨a7, s7, rfl, by omega, by omega⟩⟩   -- leaf 1
      · refine r_eql m.sX (fun h2 => ?_) (fun h2 => ?_) <;> conv => cbv
        · exact hQ (.agg [.int .i64 r1, .int .i64 n, .int .i64 r2, .int .i64 q4]) (cCur code a7 s7) ⟨(r1, n, r2, q4), rfl, ⟨a7, s7, rfl, by omega, by omega⟩⟩   -- leaf 2
        · refine r_eql m.sX (fun h3 => ?_) (fun h3 => ?_) <;> conv => cbv
          · exact hQ (.agg [.int .i64 r1, .int .i64 q2, .int .i64 n, .int .i64 q4]) (cCur code a7 s7) ⟨(r1, q2, n, q4), rfl, ⟨a7, s7, rfl, by omega, by omega⟩⟩   -- leaf 3
          · exact hQ (.agg [.int .i64 r1, .int .i64 q2, .int .i64 r2, .int .i64 n]) (cCur code a7 s7) ⟨(r1, q2, r2, n), rfl, ⟨a7, s7, rfl, by omega, by omega⟩⟩   -- leaf 4
    · exact hQ (.agg [.int .i64 r1, .int .i64 q2, .int .i64 r2, .int .i64 q4]) (cCur code a5 s5) ⟨(r1, q2, r2, q4), rfl, ⟨a5, s5, rfl, by omega, by omega⟩⟩   -- leaf 5

theorem cTariff2_ex (code : List Int) (b0 t0 : Int) : ∃ r cs, (∃ (q : Tariff), r = PV.agg (cTariff q) ∧ CurTo code b0 20 cs) :=
  ⟨_, _, (0, 0, 0, 0), rfl, ⟨b0, t0, rfl, by omega, by omega⟩⟩

theorem cEns2_ok (code : List Int) (b0 t0 : Int)  (h : CurIn code) (h0 : 0 ≤ b0) (hk : b0 ≤ 899999999999980000)  : OkM Tryd.prog 102 (cCur code b0 t0) [] (fun r cs => ∃ (q : Int), r = .int .i64 q ∧ CurTo code b0 20 cs) :=
  fnM_intro envOk fieldsOk mixed Tryd.func102 rfl fun κ X Y L Q m hQ => by
    conv => cbv
    refine r_mcall m.sX (cAmong_ok code b0 t0 ([77, -1, 3000001]) (by simp) h (by omega) (by omega)) ?_
    rintro _ _ ⟨q1, rfl, ⟨a1, s1, rfl, ea1, fa1⟩, bq1⟩
    simp only [List.mem_cons, List.not_mem_nil, or_false] at bq1
    conv => cbv
    refine r_mcall m.sX (cAmong_ok code a1 s1 ([0, 1, 999, 1000, 1500, 20000, 3000000, q1]) (by simp) h (by omega) (by omega)) ?_
    rintro _ _ ⟨q2, rfl, ⟨a2, s2, rfl, ea2, fa2⟩, bq2⟩
    simp only [List.mem_cons, List.not_mem_nil, or_false] at bq2
    conv => cbv
    exact hQ (.int .i64 q2) (cCur code a2 s2) ⟨q2, rfl, ⟨a2, s2, rfl, by omega, by omega⟩⟩   -- leaf 1

theorem cEns2_ex (code : List Int) (b0 t0 : Int) : ∃ r cs, (∃ (q : Int), r = PV.int .i64 q ∧ CurTo code b0 20 cs) :=
  ⟨_, _, 0, rfl, ⟨b0, t0, rfl, by omega, by omega⟩⟩

theorem drawCheapestTariff_ok (code : List Int) (h : CurIn code) : OkA Tryd.prog 40 [.isl 1 (rows cU8 code)] (fun r => ∃ (q1 : List Tariff) (q2 : Int) (q3 : Int) (q4 : Int), r = .tup [.fr 58 4 (rows cTariff q1), .int .i64 q2, .int .i64 q3, .int .i64 q4] ∧ ((q1.length : Int) ≤ 11)) :=
  fn_intro envOk fieldsOk mixed Tryd.func40 rfl fun κ X Y L Q m hQ => by
    conv => cbv
    refine r_mcall m.sX (cPick_ok code 0 0 4 h (by omega) (by omega)) ?_
    rintro _ _ ⟨q1, rfl, ⟨a1, s1, rfl, ea1, fa1⟩, bq1, cq1, dq1⟩
    conv => cbv
    refine r_addf m.sX (by omega) (by omega) fun n hn => ?_
    conv => cbv
    refine r_mcall m.sX (cOne_ok code a1 s1 12 h (by omega) (by omega)) ?_
    rintro _ _ ⟨q2, rfl, ⟨a2, s2, rfl, ea2, fa2⟩⟩
    conv => cbv
    rcases Bool.eq_false_or_eq_true q2 with rfl | rfl <;> conv => cbv
    · refine r_mcall m.sX (cAmong_ok code a2 s2 ([0, 10, 11]) (by simp) h (by omega) (by omega)) ?_
      rintro _ _ ⟨n_2, rfl, ⟨a3, s3, rfl, ea3, fa3⟩, bn_2⟩
      simp only [List.mem_cons, List.not_mem_nil, or_false] at bn_2
      conv => cbv
      refine r_loopF (α := Int × Int × List Tariff) m 36 [8] [⟨6, 49, 0, 0, 0⟩, ⟨7, 57, 58, 4, 0⟩] (fun σ => [(6, .optr 49 0 3 0 0), (7, .osl 57 0), (8, .int .i64 n_2)]) (fun σ => [(49, 0, .box (cCur code σ.1 σ.2.1)), (57, 0, .row 58 4 (rows cTariff σ.2.2))])
        (fun σ => ((σ.2.2.length : Int) ≤ n_2) ∧ (a3 ≤ σ.1 ∧ σ.1 ≤ a3 + 24 * (σ.2.2.length : Int))) (fun σ => (n_2 - (σ.2.2.length : Int)).toNat) (a3, s3, []) ?_ ?_ ?_ ?_
      · cbv
      · (try dsimp only); (try simp only [rows_cons, rows_nil]); cbv
      · exact ⟨(by (try dsimp only); first | omega | (simp only [List.length_nil]; omega) | (simp only [List.length_cons, List.length_nil]; omega)), (by (try dsimp only); first | omega | (simp only [List.length_nil]; omega) | (simp only [List.length_cons, List.length_nil]; omega))⟩
      rintro ⟨a4, s4, list⟩ ⟨ll1, cl1⟩ E hE F hF
      dsimp only at ll1 cl1
      conv => cbv
      refine r_lenR m.sX fun n1 hn1 mn1 => ?_
      conv => cbv
      refine r_lss m.sX (fun h1 => ?_) (fun h1 => ?_) <;> conv => cbv
      · refine r_mcall m.sX (cTariff2_ok code a4 s4 h (by omega) (by omega)) ?_
        rintro _ _ ⟨⟨q3A, q3B, q3C, q3D⟩, rfl, ⟨a5, s5, rfl, ea5, fa5⟩⟩
        conv => cbv
        refine r_append1 ((q3A, q3B, q3C, q3D)) m.sX rfl (by first | omega | (dsimp only; omega)) (by first | omega | (dsimp only; omega)) fun list_2 hlist_2 => ?_
        conv => cbv
        have llist_2 : (list_2.length : Int) = list.length + 1 := by rw [hlist_2]; first | done | (simp; done) | (simp; omega)
        refine hE _ (a5, s5, list_2) ?_ ?_ ⟨(by (try dsimp only); first | omega | (simp only [List.length_nil]; omega) | (simp only [List.length_cons, List.length_nil]; omega)), (by (try dsimp only); first | omega | (simp only [List.length_nil]; omega) | (simp only [List.length_cons, List.length_nil]; omega))⟩ (by first | omega | (dsimp only; omega))
        · cbv
        · cbv
      · refine hF _ _ ?_
        conv => cbv
        refine r_mcall m.sX (cEns2_ok code a4 s4 h (by omega) (by omega)) ?_
        rintro _ _ ⟨q4, rfl, ⟨a6, s6, rfl, ea6, fa6⟩⟩
        conv => cbv
        refine r_mcall m.sX (cPick_ok code a6 s6 40 h (by omega) (by omega)) ?_
        rintro _ _ ⟨q5, rfl, ⟨a7, s7, rfl, ea7, fa7⟩, bq5, cq5, dq5⟩
        conv => cbv
        refine r_mcall m.sX (cPick_ok code a7 s7 200 h (by omega) (by omega)) ?_
        rintro _ _ ⟨q6, rfl, ⟨a8, s8, rfl, ea8, fa8⟩, bq6, cq6, dq6⟩
        conv => cbv
        exact hQ (.tup [.fr 58 4 (rows cTariff list), .int .i64 q4, .int .i64 q5, .int .i64 q6]) ⟨list, q4, q5, q6, rfl, (by first | omega | assumption | (simp; done) | (simp [*]; done) | (simp at *; omega))⟩   -- leaf 1
    · refine r_loopF (α := Int × Int × List Tariff) m 36 [8] [⟨6, 49, 0, 0, 0⟩, ⟨7, 57, 58, 4, 0⟩] (fun σ => [(6, .optr 49 0 3 0 0), (7, .osl 57 0), (8, .int .i64 n)]) (fun σ => [(49, 0, .box (cCur code σ.1 σ.2.1)), (57, 0, .row 58 4 (rows cTariff σ.2.2))])
        (fun σ => ((σ.2.2.length : Int) ≤ n) ∧ (a2 ≤ σ.1 ∧ σ.1 ≤ a2 + 24 * (σ.2.2.length : Int))) (fun σ => (n - (σ.2.2.length : Int)).toNat) (a2, s2, []) ?_ ?_ ?_ ?_
      · cbv
      · (try dsimp only); (try simp only [rows_cons, rows_nil]); cbv
      · exact ⟨(by (try dsimp only); first | omega | (simp only [List.length_nil]; omega) | (simp only [List.length_cons, List.length_nil]; omega)), (by (try dsimp only); first | omega | (simp only [List.length_nil]; omega) | (simp only [List.length_cons, List.length_nil]; omega))⟩
      rintro ⟨a9, s9, list_3⟩ ⟨ll2, cl2⟩ E hE F hF
      dsimp only at ll2 cl2
      conv => cbv
      refine r_lenR m.sX fun n2 hn2 mn2 => ?_
      conv => cbv
      refine r_lss m.sX (fun h2 => ?_) (fun h2 => ?_) <;> conv => cbv
      · refine r_mcall m.sX (cTariff2_ok code a9 s9 h (by omega) (by omega)) ?_
        rintro _ _ ⟨⟨q7A, q7B, q7C, q7D⟩, rfl, ⟨a10, s10, rfl, ea10, fa10⟩⟩
        conv => cbv
        refine r_append1 ((q7A, q7B, q7C, q7D)) m.sX rfl (by first | omega | (dsimp only; omega)) (by first | omega | (dsimp only; omega)) fun list_4 hlist_4 => ?_
        conv => cbv
        have llist_4 : (list_4.length : Int) = list_3.length + 1 := by rw [hlist_4]; first | done | (simp; done) | (simp; omega)
        refine hE _ (a10, s10, list_4) ?_ ?_ ⟨(by (try dsimp only); first | omega | (simp only [List.length_nil]; omega) | (simp only [List.length_cons, List.length_nil]; omega)), (by (try dsimp only); first | omega | (simp only [List.length_nil]; omega) | (simp only [List.length_cons, List.length_nil]; omega))⟩ (by first | omega | (dsimp only; omega))
        · cbv
        · cbv
      · refine hF _ _ ?_
        conv => cbv
        refine r_mcall m.sX (cEns2_ok code a9 s9 h (by omega) (by omega)) ?_
        rintro _ _ ⟨q8, rfl, ⟨a11, s11, rfl, ea11, fa11⟩⟩
        conv => cbv
        refine r_mcall m.sX (cPick_ok code a11 s11 40 h (by omega) (by omega)) ?_
        rintro _ _ ⟨q9, rfl, ⟨a12, s12, rfl, ea12, fa12⟩, bq9, cq9, dq9⟩
        conv => cbv
        refine r_mcall m.sX (cPick_ok code a12 s12 200 h (by omega) (by omega)) ?_
        rintro _ _ ⟨q10, rfl, ⟨a13, s13, rfl, ea13, fa13⟩, bq10, cq10, dq10⟩
        conv => cbv
        exact hQ (.tup [.fr 58 4 (rows cTariff list_3), .int .i64 q8, .int .i64 q9, .int .i64 q10]) ⟨list_3, q8, q9, q10, rfl, (by first | omega | assumption | (simp; done) | (simp [*]; done) | (simp at *; omega))⟩   -- leaf 2

theorem drawPriceOfCorrections_ok (code : List Int) (h : CurIn code) : OkA Tryd.prog 44 [.isl 1 (rows cU8 code)] (fun r => ∃ (q1 : Tariff) (q2 : List Int), r = .tup [.agg (cTariff q1), .fr 3 1 (rows cInt q2)] ∧ ((q2.length : Int) ≤ 41)) :=
  fn_intro envOk fieldsOk mixed Tryd.func44 rfl fun κ X Y L Q m hQ => by
    conv => cbv
    refine r_mcall m.sX (cPick_ok code 0 0 6 h (by omega) (by omega)) ?_
    rintro _ _ ⟨n, rfl, ⟨a1, s1, rfl, ea1, fa1⟩, bn, cn, dn⟩
    conv => cbv
    refine r_mcall m.sX (cOne_ok code a1 s1 12 h (by omega) (by omega)) ?_
    rintro _ _ ⟨q1, rfl, ⟨a2, s2, rfl, ea2, fa2⟩⟩
    conv => cbv
    rcases Bool.eq_false_or_eq_true q1 with rfl | rfl <;> conv => cbv
    · refine r_mcall m.sX (cPick_ok code a2 s2 2 h (by omega) (by omega)) ?_
      rintro _ _ ⟨q2, rfl, ⟨a3, s3, rfl, ea3, fa3⟩, bq2, cq2, dq2⟩
      conv => cbv
      refine r_addf m.sX (by omega) (by omega) fun n_2 hn_2 => ?_
      conv => cbv
      refine r_loopF (α := Int × Int × List Int) m 44 [6] [⟨2, 17, 0, 0, 0⟩, ⟨4, 33, 0, 0, 0⟩, ⟨5, 41, 3, 1, 0⟩] (fun σ => [(2, .optr 17 0 4 0 0), (4, .optr 33 0 3 0 0), (5, .osl 41 0), (6, .int .i64 n_2)]) (fun σ => [(17, 0, .box [.int .i64 0, .int .i64 0, .int .i64 0, .int .i64 0]), (33, 0, .box (cCur code σ.1 σ.2.1)), (41, 0, .row 3 1 (rows cInt σ.2.2))])
        (fun σ => ((σ.2.2.length : Int) ≤ n_2) ∧ (a3 ≤ σ.1 ∧ σ.1 ≤ a3 + 4 * (σ.2.2.length : Int))) (fun σ => (n_2 - (σ.2.2.length : Int)).toNat) (a3, s3, []) ?_ ?_ ?_ ?_
      · cbv
      · (try dsimp only); (try simp only [rows_cons, rows_nil]); cbv
      · exact ⟨(by (try dsimp only); first | omega | (simp only [List.length_nil]; omega) | (simp only [List.length_cons, List.length_nil]; omega)), (by (try dsimp only); first | omega | (simp only [List.length_nil]; omega) | (simp only [List.length_cons, List.length_nil]; omega))⟩
      rintro ⟨a4, s4, l⟩ ⟨ll1, cl1⟩ E hE F hF
      dsimp only at ll1 cl1
      conv => cbv
      refine r_lenR m.sX fun n1 hn1 mn1 => ?_
      conv => cbv
      refine r_lss m.sX (fun h1 => ?_) (fun h1 => ?_) <;> conv => cbv
      · refine r_mcall m.sX (cAmong_ok code a4 s4 ([0, 1, 5, 10, 14, 15, 16, 600]) (by simp) h (by omega) (by omega)) ?_
        rintro _ _ ⟨q3, rfl, ⟨a5, s5, rfl, ea5, fa5⟩, bq3⟩
        simp only [List.mem_cons, List.not_mem_nil, or_false] at bq3
        conv => cbv
        refine r_append1 (q3) m.sX rfl (by first | omega | (dsimp only; omega)) (by first | omega | (dsimp only; omega)) fun l_2 hl_2 => ?_
        conv => cbv
        have ll_2 : (l_2.length : Int) = l.length + 1 := by rw [hl_2]; first | done | (simp; done) | (simp; omega)
        refine hE _ (a5, s5, l_2) ?_ ?_ ⟨(by (try dsimp only); first | omega | (simp only [List.length_nil]; omega) | (simp only [List.length_cons, List.length_nil]; omega)), (by (try dsimp only); first | omega | (simp only [List.length_nil]; omega) | (simp only [List.length_cons, List.length_nil]; omega))⟩ (by first | omega | (dsimp only; omega))
        · cbv
        · cbv
      · refine hF _ _ ?_
        conv => cbv
        refine r_gtr m.sX (fun h2 => ?_) (fun h2 => ?_) <;> conv => cbv
        · refine r_mcall m.sX (cOne_ok code a4 s4 16 h (by omega) (by omega)) ?_
          rintro _ _ ⟨q4, rfl, ⟨a6, s6, rfl, ea6, fa6⟩⟩
          conv => cbv
          rcases Bool.eq_false_or_eq_true q4 with rfl | rfl <;> conv => cbv
          · refine r_mcall m.sX (cPick_ok code a6 s6 n_2 h (by omega) (by omega)) ?_
            rintro _ _ ⟨q5, rfl, ⟨a7, s7, rfl, ea7, fa7⟩, bq5, cq5, dq5⟩
            conv => cbv
            refine r_mcall m.sX (cAmong_ok code a7 s7 ([-1, 601]) (by simp) h (by omega) (by omega)) ?_
            rintro _ _ ⟨q6, rfl, ⟨a8, s8, rfl, ea8, fa8⟩, bq6⟩
            simp only [List.mem_cons, List.not_mem_nil, or_false] at bq6
            conv => cbv
            refine r_oindex m.sX (by omega) (by omega) ?_
            conv => cbv
            obtain ⟨y1, hy1⟩ := get_ex (xs := l) (i := Int.toNat q5) (by omega)
            refine r_ostore (l := Int.toNat q5) q6 m.sX hy1 (Nat.le_of_ble_eq_true rfl) rfl fun l_3 hl_3 => ?_   -- l_3 = l.set q5 q6
            have ll_3 : (l_3.length : Int) = l.length := by rw [hl_3]; first | done | (simp; done) | (simp; omega)
            conv => cbv
            refine r_mcall m.sX (cTariff2_ok code a8 s8 h (by omega) (by omega)) ?_
            rintro _ _ ⟨⟨q7A, q7B, q7C, q7D⟩, rfl, ⟨a9, s9, rfl, ea9, fa9⟩⟩
            conv => cbv
            exact hQ (.tup [.agg [.int .i64 q7A, .int .i64 q7B, .int .i64 q7C, .int .i64 q7D], .fr 3 1 (rows cInt l_3)]) ⟨(q7A, q7B, q7C, q7D), l_3, rfl, (by first | omega | assumption | (simp; done) | (simp [*]; done) | (simp at *; omega))⟩   -- leaf 1
          · refine r_mcall m.sX (cTariff2_ok code a6 s6 h (by omega) (by omega)) ?_
            rintro _ _ ⟨⟨q8A, q8B, q8C, q8D⟩, rfl, ⟨a10, s10, rfl, ea10, fa10⟩⟩
            conv => cbv
            exact hQ (.tup [.agg [.int .i64 q8A, .int .i64 q8B, .int .i64 q8C, .int .i64 q8D], .fr 3 1 (rows cInt l)]) ⟨(q8A, q8B, q8C, q8D), l, rfl, (by first | omega | assumption | (simp; done) | (simp [*]; done) | (simp at *; omega))⟩   -- leaf 2
        · refine r_mcall m.sX (cTariff2_ok code a4 s4 h (by omega) (by omega)) ?_
          rintro _ _ ⟨⟨q9A, q9B, q9C, q9D⟩, rfl, ⟨a11, s11, rfl, ea11, fa11⟩⟩
          conv => cbv
          exact hQ (.tup [.agg [.int .i64 q9A, .int .i64 q9B, .int .i64 q9C, .int .i64 q9D], .fr 3 1 (rows cInt l)]) ⟨(q9A, q9B, q9C, q9D), l, rfl, (by first | omega | assumption | (simp; done) | (simp [*]; done) | (simp at *; omega))⟩   -- leaf 3
    · refine r_loopF (α := Int × Int × List Int) m 44 [6] [⟨2, 17, 0, 0, 0⟩, ⟨4, 33, 0, 0, 0⟩, ⟨5, 41, 3, 1, 0⟩] (fun σ => [(2, .optr 17 0 4 0 0), (4, .optr 33 0 3 0 0), (5, .osl 41 0), (6, .int .i64 n)]) (fun σ => [(17, 0, .box [.int .i64 0, .int .i64 0, .int .i64 0, .int .i64 0]), (33, 0, .box (cCur code σ.1 σ.2.1)), (41, 0, .row 3 1 (rows cInt σ.2.2))])
        (fun σ => ((σ.2.2.length : Int) ≤ n) ∧ (a2 ≤ σ.1 ∧ σ.1 ≤ a2 + 4 * (σ.2.2.length : Int))) (fun σ => (n - (σ.2.2.length : Int)).toNat) (a2, s2, []) ?_ ?_ ?_ ?_
      · cbv
      · (try dsimp only); (try simp only [rows_cons, rows_nil]); cbv
      · exact ⟨(by (try dsimp only); first | omega | (simp only [List.length_nil]; omega) | (simp only [List.length_cons, List.length_nil]; omega)), (by (try dsimp only); first | omega | (simp only [List.length_nil]; omega) | (simp only [List.length_cons, List.length_nil]; omega))⟩
      rintro ⟨a12, s12, l_4⟩ ⟨ll2, cl2⟩ E hE F hF
      dsimp only at ll2 cl2
      conv => cbv
      refine r_lenR m.sX fun n2 hn2 mn2 => ?_
      conv => cbv
      refine r_lss m.sX (fun h3 => ?_) (fun h3 => ?_) <;> conv => cbv
      · refine r_mcall m.sX (cAmong_ok code a12 s12 ([0, 1, 5, 10, 14, 15, 16, 600]) (by simp) h (by omega) (by omega)) ?_
        rintro _ _ ⟨q10, rfl, ⟨a13, s13, rfl, ea13, fa13⟩, bq10⟩
        simp only [List.mem_cons, List.not_mem_nil, or_false] at bq10
        conv => cbv
        refine r_append1 (q10) m.sX rfl (by first | omega | (dsimp only; omega)) (by first | omega | (dsimp only; omega)) fun l_5 hl_5 => ?_
        conv => cbv
        have ll_5 : (l_5.length : Int) = l_4.length + 1 := by rw [hl_5]; first | done | (simp; done) | (simp; omega)
        refine hE _ (a13, s13, l_5) ?_ ?_ ⟨(by (try dsimp only); first | omega | (simp only [List.length_nil]; omega) | (simp only [List.length_cons, List.length_nil]; omega)), (by (try dsimp only); first | omega | (simp only [List.length_nil]; omega) | (simp only [List.length_cons, List.length_nil]; omega))⟩ (by first | omega | (dsimp only; omega))
        · cbv
        · cbv
      · refine hF _ _ ?_
        conv => cbv
        refine r_gtr m.sX (fun h4 => ?_) (fun h4 => ?_) <;> conv => cbv
        · refine r_mcall m.sX (cOne_ok code a12 s12 16 h (by omega) (by omega)) ?_
          rintro _ _ ⟨q11, rfl, ⟨a14, s14, rfl, ea14, fa14⟩⟩
          conv => cbv
          rcases Bool.eq_false_or_eq_true q11 with rfl | rfl <;> conv => cbv
          · refine r_mcall m.sX (cPick_ok code a14 s14 n h (by omega) (by omega)) ?_
            rintro _ _ ⟨q12, rfl, ⟨a15, s15, rfl, ea15, fa15⟩, bq12, cq12, dq12⟩
            conv => cbv
            refine r_mcall m.sX (cAmong_ok code a15 s15 ([-1, 601]) (by simp) h (by omega) (by omega)) ?_
            rintro _ _ ⟨q13, rfl, ⟨a16, s16, rfl, ea16, fa16⟩, bq13⟩
            simp only [List.mem_cons, List.not_mem_nil, or_false] at bq13
            conv => cbv
            refine r_oindex m.sX (by omega) (by omega) ?_
            conv => cbv
            obtain ⟨y2, hy2⟩ := get_ex (xs := l_4) (i := Int.toNat q12) (by omega)
            refine r_ostore (l := Int.toNat q12) q13 m.sX hy2 (Nat.le_of_ble_eq_true rfl) rfl fun l_6 hl_6 => ?_   -- l_6 = l_4.set q12 q13
            have ll_6 : (l_6.length : Int) = l_4.length := by rw [hl_6]; first | done | (simp; done) | (simp; omega)
            conv => cbv
            refine r_mcall m.sX (cTariff2_ok code a16 s16 h (by omega) (by omega)) ?_
            rintro _ _ ⟨⟨q14A, q14B, q14C, q14D⟩, rfl, ⟨a17, s17, rfl, ea17, fa17⟩⟩
            conv => cbv
            exact hQ (.tup [.agg [.int .i64 q14A, .int .i64 q14B, .int .i64 q14C, .int .i64 q14D], .fr 3 1 (rows cInt l_6)]) ⟨(q14A, q14B, q14C, q14D), l_6, rfl, (by first | omega | assumption | (simp; done) | (simp [*]; done) | (simp at *; omega))⟩   -- leaf 4
          · refine r_mcall m.sX (cTariff2_ok code a14 s14 h (by omega) (by omega)) ?_
            rintro _ _ ⟨⟨q15A, q15B, q15C, q15D⟩, rfl, ⟨a18, s18, rfl, ea18, fa18⟩⟩
            conv => cbv
            exact hQ (.tup [.agg [.int .i64 q15A, .int .i64 q15B, .int .i64 q15C, .int .i64 q15D], .fr 3 1 (rows cInt l_4)]) ⟨(q15A, q15B, q15C, q15D), l_4, rfl, (by first | omega | assumption | (simp; done) | (simp [*]; done) | (simp at *; omega))⟩   -- leaf 5
        · refine r_mcall m.sX (cTariff2_ok code a12 s12 h (by omega) (by omega)) ?_
          rintro _ _ ⟨⟨q16A, q16B, q16C, q16D⟩, rfl, ⟨a19, s19, rfl, ea19, fa19⟩⟩
          conv => cbv
          exact hQ (.tup [.agg [.int .i64 q16A, .int .i64 q16B, .int .i64 q16C, .int .i64 q16D], .fr 3 1 (rows cInt l_4)]) ⟨(q16A, q16B, q16C, q16D), l_4, rfl, (by first | omega | assumption | (simp; done) | (simp [*]; done) | (simp at *; omega))⟩   -- leaf 6

theorem drawPagesForLines_ok (code : List Int) (h : CurIn code) : OkA Tryd.prog 47 [.isl 1 (rows cU8 code)] (fun r => ∃ (q1 : Int) (q2 : Int) (q3 : Int) (q4 : Int), r = .tup [.int .i64 q1, .int .i64 q2, .int .i64 q3, .int .i64 q4]) :=
  fn_intro envOk fieldsOk mixed Tryd.func47 rfl fun κ X Y L Q m hQ => by
    conv => cbv
    refine r_mcall m.sX (cAmong_ok code 0 0 ([7, -1, 1000001]) (by simp) h (by omega) (by omega)) ?_
    rintro _ _ ⟨q1, rfl, ⟨a1, s1, rfl, ea1, fa1⟩, bq1⟩
    simp only [List.mem_cons, List.not_mem_nil, or_false] at bq1
    conv => cbv
    refine r_mcall m.sX (cAmong_ok code a1 s1 ([0, 1, 40, 41, 500, 1000000, q1]) (by simp) h (by omega) (by omega)) ?_
    rintro _ _ ⟨q2, rfl, ⟨a2, s2, rfl, ea2, fa2⟩, bq2⟩
    simp only [List.mem_cons, List.not_mem_nil, or_false] at bq2
    conv => cbv
    refine r_mcall m.sX (cAmong_ok code a2 s2 ([60, 39, 2001]) (by simp) h (by omega) (by omega)) ?_
    rintro _ _ ⟨q3, rfl, ⟨a3, s3, rfl, ea3, fa3⟩, bq3⟩
    simp only [List.mem_cons, List.not_mem_nil, or_false] at bq3
    conv => cbv
    refine r_mcall m.sX (cAmong_ok code a3 s3 ([40, 100, 500, 2000, q3]) (by simp) h (by omega) (by omega)) ?_
    rintro _ _ ⟨q4, rfl, ⟨a4, s4, rfl, ea4, fa4⟩, bq4⟩
    simp only [List.mem_cons, List.not_mem_nil, or_false] at bq4
    conv => cbv
    refine r_mcall m.sX (cAmong_ok code a4 s4 ([8, 3, 73]) (by simp) h (by omega) (by omega)) ?_
    rintro _ _ ⟨q5, rfl, ⟨a5, s5, rfl, ea5, fa5⟩, bq5⟩
    simp only [List.mem_cons, List.not_mem_nil, or_false] at bq5
    conv => cbv
    refine r_mcall m.sX (cAmong_ok code a5 s5 ([4, 10, 12, 40, 72, q5]) (by simp) h (by omega) (by omega)) ?_
    rintro _ _ ⟨q6, rfl, ⟨a6, s6, rfl, ea6, fa6⟩, bq6⟩
    simp only [List.mem_cons, List.not_mem_nil, or_false] at bq6
    conv => cbv
    refine r_mcall m.sX (cAmong_ok code a6 s6 ([3, -1, 21]) (by simp) h (by omega) (by omega)) ?_
    rintro _ _ ⟨q7, rfl, ⟨a7, s7, rfl, ea7, fa7⟩, bq7⟩
    simp only [List.mem_cons, List.not_mem_nil, or_false] at bq7
    conv => cbv
    refine r_mcall m.sX (cAmong_ok code a7 s7 ([0, 1, 2, 20, q7]) (by simp) h (by omega) (by omega)) ?_
    rintro _ _ ⟨q8, rfl, ⟨a8, s8, rfl, ea8, fa8⟩, bq8⟩
    simp only [List.mem_cons, List.not_mem_nil, or_false] at bq8
    conv => cbv
    exact hQ (.tup [.int .i64 q2, .int .i64 q4, .int .i64 q6, .int .i64 q8]) ⟨q2, q4, q6, q8, rfl⟩   -- leaf 1

theorem drawPoundsText_ok (code : List Int) (h : CurIn code) : OkA Tryd.prog 50 [.isl 1 (rows cU8 code)] (fun r => ∃ (q : Int), r = .int .i64 q) :=
  fn_intro envOk fieldsOk mixed Tryd.func50 rfl fun κ X Y L Q m hQ => by
    conv => cbv
    refine r_mcall m.sX (cPick_ok code 0 0 2000 h (by omega) (by omega)) ?_
    rintro _ _ ⟨q1, rfl, ⟨a1, s1, rfl, ea1, fa1⟩, bq1, cq1, dq1⟩
    conv => cbv
    refine r_mcall m.sX (cAmong_ok code a1 s1 ([7, -1, 1000000001]) (by simp) h (by omega) (by omega)) ?_
    rintro _ _ ⟨q2, rfl, ⟨a2, s2, rfl, ea2, fa2⟩, bq2⟩
    simp only [List.mem_cons, List.not_mem_nil, or_false] at bq2
    conv => cbv
    refine r_mcall m.sX (cAmong_ok code a2 s2 ([0, 11, 12, 150, 239, 240, 1000000000, q1, q2]) (by simp) h (by omega) (by omega)) ?_
    rintro _ _ ⟨q3, rfl, ⟨a3, s3, rfl, ea3, fa3⟩, bq3⟩
    simp only [List.mem_cons, List.not_mem_nil, or_false] at bq3
    conv => cbv
    exact hQ (.int .i64 q3) ⟨q3, rfl⟩   -- leaf 1

theorem drawIsTariff_ok (code : List Int) (h : CurIn code) : OkA Tryd.prog 53 [.isl 1 (rows cU8 code)] (fun r => ∃ (q : Tariff), r = .agg (cTariff q)) :=
  fn_intro envOk fieldsOk mixed Tryd.func53 rfl fun κ X Y L Q m hQ => by
    conv => cbv
    refine r_mcall m.sX (cTariff2_ok code 0 0 h (by omega) (by omega)) ?_
    rintro _ _ ⟨⟨q1A, q1B, q1C, q1D⟩, rfl, ⟨a1, s1, rfl, ea1, fa1⟩⟩
    conv => cbv
    exact hQ (.agg [.int .i64 q1A, .int .i64 q1B, .int .i64 q1C, .int .i64 q1D]) ⟨(q1A, q1B, q1C, q1D), rfl⟩   -- leaf 1

