/- Contracts of the functions on the measures of lines beside cut-ins. -/
import Derived.Test.YtnanackogloioaaLineLaw
import Derived.Test.YtnanackogloioaaCut2
namespace Go.Proofs.Ytnanackogloioaa.Ai
open Go Go.Proofs
set_option maxRecDepth 10000
set_option maxHeartbeats 4000000
set_option linter.unusedVariables false


theorem LineMeasures_ok (measure : Int) (l : List CutIn) (n : Int) (hm : -1000000 ≤ measure ∧ measure ≤ 1000000) (hl : l.length ≤ 900) : OkA Try.prog 70 [.int .i64 measure, .isl 4 (rows cCutIn l), .int .i64 n] (· = (lb 3 1 cInt) (lineAns measure l n)) :=
  OkA.unnil 3 1 (fn_intro envOk fieldsOk mixed Try.func70 rfl fun κ X Y L Q m hQ => by
    conv => cbv
    refine r_callB m.sX (AreCutIns_ok measure l (by omega) (by omega) (by omega)) (fun h1 => ?_) (fun h1 => ?_) <;> conv => cbv
    · have gs := goodC_spec h1
      have hc := okFrom_mem gs.1
      refine r_callB m.sX (isLineNumber_ok n) (fun h2 => ?_) (fun h2 => ?_) <;> conv => cbv
      · have nb := inB_spec h2
        refine r_loopF (α := List Int × Int) m 34 [0, 1, 2, 9] [⟨8, 65, 3, 1, 0⟩] (fun σ => [(0, .int .i64 measure), (1, .isl 4 (rows cCutIn l)), (2, .int .i64 n), (8, .osl 65 0), (9, .int .i64 σ.2)]) (fun σ => [(65, 0, .row 3 1 (rows cInt σ.1))])
          (fun σ => (0 ≤ σ.2) ∧ (σ.2 ≤ n) ∧ (σ.1 = measL measure l σ.2)) (fun σ => (n - σ.2).toNat) ([], 0) ?_ ?_ ?_ ?_
        · cbv
        · (try dsimp only); simp only [rows_cons, rows_nil]; cbv
        · exact ⟨(by (try dsimp only); first | omega | (simp only [List.length_nil]; omega)), (by (try dsimp only); first | omega | (simp only [List.length_nil]; omega)), (by (try dsimp only) <;> (rfl))⟩
        rintro ⟨list, line⟩ ⟨lo1, hi1, q⟩ E hE F hF
        dsimp only at lo1 hi1 q
        have ll : (list.length : Int) = line := by rw [q]; exact measL_len lo1
        conv => cbv
        refine r_lss m.sX (fun h3 => ?_) (fun h3 => ?_) <;> conv => cbv
        · refine r_callF (PV.int .i64) m.sX (measureAt_ok measure l line (by omega) (by omega) (by omega) (by assumption)) fun r1 hr1 => ?_
          conv => cbv
          refine r_append1 (r1) m.sX rfl (by first | omega | (dsimp only; omega)) (by first | omega | (dsimp only; omega)) fun list_2 hlist_2 => ?_
          conv => cbv
          have llist_2 : (list_2.length : Int) = list.length + 1 := by rw [hlist_2]; first | done | (simp; done) | (simp; omega)
          refine r_addf m.sX (by omega) (by omega) fun line_2 hline_2 => ?_
          conv => cbv
          have tline_2 : Int.toNat line_2 = Int.toNat line + 1 := by omega
          refine hE _ (list_2, line_2) ?_ ?_ ⟨(by (try dsimp only); first | omega | (simp only [List.length_nil]; omega)), (by (try dsimp only); first | omega | (simp only [List.length_nil]; omega)), (by (try dsimp only) <;> (rw [hlist_2, q, show line_2 = line + 1 by omega, measL_next lo1, hr1]))⟩ (by first | omega | (dsimp only; omega))
          · cbv
          · cbv
        · refine hF _ _ ?_
          conv => cbv
          exact hQ (.tup [.fr 3 1 (rows cInt list), .bool true]) (Eq.trans (by first | rfl | (simp only [lb, lbI, rows_cons, rows_nil, unnilT, unnil, unnilTI, unnilI]; done) | (simp only [lb, lbI, rows_cons, rows_nil, unnilT, unnil, unnilTI, unnilI]; rfl)) (congrArg ((lb 3 1 cInt)) (show (list, true) = lineAns measure l n from by rw [lineAns, h1, h2, q, show line = n by omega]; rfl)))   -- leaf 1
      · exact hQ (.tup [.fr 3 1 [], .bool false]) (Eq.trans (by first | rfl | (simp only [lb, lbI, rows_cons, rows_nil, unnilT, unnil, unnilTI, unnilI]; done) | (simp only [lb, lbI, rows_cons, rows_nil, unnilT, unnil, unnilTI, unnilI]; rfl)) (congrArg ((lb 3 1 cInt)) (show ([], false) = lineAns measure l n from by rw [lineAns, h1, h2]; rfl)))   -- leaf 2
    · exact hQ (.tup [.fr 3 1 [], .bool false]) (Eq.trans (by first | rfl | (simp only [lb, lbI, rows_cons, rows_nil, unnilT, unnil, unnilTI, unnilI]; done) | (simp only [lb, lbI, rows_cons, rows_nil, unnilT, unnil, unnilTI, unnilI]; rfl)) (congrArg ((lb 3 1 cInt)) (show ([], false) = lineAns measure l n from by rw [lineAns, h1]; rfl))))   -- leaf 3

theorem inAll_ok (measure : Int) (l : List CutIn) (n : Int) (hm : -1000000 ≤ measure ∧ measure ≤ 1000000) (hl : l.length ≤ 900) (hc : ∀ x ∈ l, isCut x = true) (hn : 0 ≤ n ∧ n ≤ 300) : OkA Try.prog 176 [.int .i64 measure, .isl 4 (rows cCutIn l), .int .i64 n] (· = .fr 3 1 (rows cInt (measL measure l n))) :=
  OkA.unnil 3 1 (fn_intro envOk fieldsOk mixed Try.func176 rfl fun κ X Y L Q m hQ => by
    conv => cbv
    refine r_loopF (α := List Int × Int) m 22 [0, 1, 2, 8] [⟨7, 57, 3, 1, 0⟩] (fun σ => [(0, .int .i64 measure), (1, .isl 4 (rows cCutIn l)), (2, .int .i64 n), (7, .osl 57 0), (8, .int .i64 σ.2)]) (fun σ => [(57, 0, .row 3 1 (rows cInt σ.1))])
      (fun σ => (0 ≤ σ.2) ∧ (σ.2 ≤ n) ∧ (σ.1 = measL measure l σ.2)) (fun σ => (n - σ.2).toNat) ([], 0) ?_ ?_ ?_ ?_
    · cbv
    · (try dsimp only); simp only [rows_cons, rows_nil]; cbv
    · exact ⟨(by (try dsimp only); first | omega | (simp only [List.length_nil]; omega)), (by (try dsimp only); first | omega | (simp only [List.length_nil]; omega)), (by (try dsimp only) <;> (rfl))⟩
    rintro ⟨out, line⟩ ⟨lo1, hi1, q⟩ E hE F hF
    dsimp only at lo1 hi1 q
    have ll : (out.length : Int) = line := by rw [q]; exact measL_len lo1
    conv => cbv
    refine r_lss m.sX (fun h1 => ?_) (fun h1 => ?_) <;> conv => cbv
    · refine r_callF (PV.int .i64) m.sX (inMeasure_ok measure l line (by omega) (by omega) (by omega) (by assumption)) fun r1 hr1 => ?_
      conv => cbv
      refine r_append1 (r1) m.sX rfl (by first | omega | (dsimp only; omega)) (by first | omega | (dsimp only; omega)) fun out_2 hout_2 => ?_
      conv => cbv
      have lout_2 : (out_2.length : Int) = out.length + 1 := by rw [hout_2]; first | done | (simp; done) | (simp; omega)
      refine r_addf m.sX (by omega) (by omega) fun line_2 hline_2 => ?_
      conv => cbv
      have tline_2 : Int.toNat line_2 = Int.toNat line + 1 := by omega
      refine hE _ (out_2, line_2) ?_ ?_ ⟨(by (try dsimp only); first | omega | (simp only [List.length_nil]; omega)), (by (try dsimp only); first | omega | (simp only [List.length_nil]; omega)), (by (try dsimp only) <;> (rw [hout_2, q, show line_2 = line + 1 by omega, measL_next lo1, hr1]))⟩ (by first | omega | (dsimp only; omega))
      · cbv
      · cbv
    · refine hF _ _ ?_
      conv => cbv
      exact hQ (.fr 3 1 (rows cInt out)) (Eq.trans (by first | rfl | (simp only [lb, lbI, rows_cons, rows_nil, unnilT, unnil, unnilTI, unnilI]; done) | (simp only [lb, lbI, rows_cons, rows_nil, unnilT, unnil, unnilTI, unnilI]; rfl)) (congrArg (fun l => PV.fr 3 1 (rows cInt l)) (show out = measL measure l n from by rw [q, show line = n by omega]))))   -- leaf 1

theorem specLineMeasures_ok (measure : Int) (l : List CutIn) (n : Int) (hm : -1000000 ≤ measure ∧ measure ≤ 1000000) (hl : l.length ≤ 900) : OkA Try.prog 71 [.int .i64 measure, .isl 4 (rows cCutIn l), .int .i64 n] (· = (lb 3 1 cInt) (lineAns measure l n)) :=
  OkA.unnil 3 1 (fn_intro envOk fieldsOk mixed Try.func71 rfl fun κ X Y L Q m hQ => by
    conv => cbv
    refine r_callB m.sX (inGood_ok measure l (by omega) (by omega) (by omega)) (fun h1 => ?_) (fun h1 => ?_) <;> conv => cbv
    · have gs := goodC_spec h1
      have hc := okFrom_mem gs.1
      refine r_callB m.sX (inNumber_ok n) (fun h2 => ?_) (fun h2 => ?_) <;> conv => cbv
      · have nb := inB_spec h2
        refine r_callF (fun l => PV.fr _ _ (rows _ l)) m.sX (inAll_ok measure l n (by first | rfl | assumption | omega | (simp only [List.length_append, List.length_cons, List.length_nil] at *; omega)) (by first | rfl | assumption | omega | (simp only [List.length_append, List.length_cons, List.length_nil] at *; omega)) (by first | rfl | assumption | omega | (simp only [List.length_append, List.length_cons, List.length_nil] at *; omega)) (by first | rfl | assumption | omega | (simp only [List.length_append, List.length_cons, List.length_nil] at *; omega))) fun v1 hv1 => ?_
        conv => cbv
        exact hQ (.tup [.fr 3 1 (rows cInt v1), .bool true]) (Eq.trans (by first | rfl | (simp only [lb, lbI, rows_cons, rows_nil, unnilT, unnil, unnilTI, unnilI]; done) | (simp only [lb, lbI, rows_cons, rows_nil, unnilT, unnil, unnilTI, unnilI]; rfl)) (congrArg ((lb 3 1 cInt)) (show (v1, true) = lineAns measure l n from by rw [lineAns, h1, h2, hv1]; rfl)))   -- leaf 1
      · exact hQ (.tup [.nil, .bool false]) (Eq.trans (by first | rfl | (simp only [lb, lbI, rows_cons, rows_nil, unnilT, unnil, unnilTI, unnilI]; done) | (simp only [lb, lbI, rows_cons, rows_nil, unnilT, unnil, unnilTI, unnilI]; rfl)) (congrArg ((lb 3 1 cInt)) (show ([], false) = lineAns measure l n from by rw [lineAns, h1, h2]; rfl)))   -- leaf 2
    · exact hQ (.tup [.nil, .bool false]) (Eq.trans (by first | rfl | (simp only [lb, lbI, rows_cons, rows_nil, unnilT, unnil, unnilTI, unnilI]; done) | (simp only [lb, lbI, rows_cons, rows_nil, unnilT, unnil, unnilTI, unnilI]; rfl)) (congrArg ((lb 3 1 cInt)) (show ([], false) = lineAns measure l n from by rw [lineAns, h1]; rfl))))   -- leaf 3

theorem IndentsOf_ok (measure : Int) (l : List CutIn) (n : Int) (hm : -1000000 ≤ measure ∧ measure ≤ 1000000) (hl : l.length ≤ 900) : OkA Try.prog 72 [.int .i64 measure, .isl 4 (rows cCutIn l), .int .i64 n] (· = (lb 3 1 cInt) (indAns measure l n)) :=
  OkA.unnil 3 1 (fn_intro envOk fieldsOk mixed Try.func72 rfl fun κ X Y L Q m hQ => by
    conv => cbv
    refine r_callB m.sX (AreCutIns_ok measure l (by omega) (by omega) (by omega)) (fun h1 => ?_) (fun h1 => ?_) <;> conv => cbv
    · have gs := goodC_spec h1
      have hc := okFrom_mem gs.1
      refine r_callB m.sX (isLineNumber_ok n) (fun h2 => ?_) (fun h2 => ?_) <;> conv => cbv
      · have nb := inB_spec h2
        refine r_make cInt 0 m.sX rfl (by omega) (by omega) (by dsimp only; omega) (by omega) fun list hlist => ?_   -- list = replicate n
        have llist : (list.length : Int) = n := by rw [hlist]; first | done | (simp; done) | (simp; omega)
        conv => cbv
        refine r_lenR m.sX fun n1 hn1 mn1 => ?_
        conv => cbv
        have en : n1 = n := by omega
        refine r_loopF (α := List Int × Int) m 51 [1, 25, 26] [⟨8, 65, 3, 1, 0⟩] (fun σ => [(1, .isl 4 (rows cCutIn l)), (8, .osl 65 0), (25, .int .i64 n1), (26, .int .i64 σ.2)]) (fun σ => [(65, 0, .row 3 1 (rows cInt σ.1))])
          (fun σ => (0 ≤ σ.2) ∧ (σ.2 ≤ n1) ∧ (σ.1 = indL l σ.2 ++ List.replicate (n - σ.2).toNat 0)) (fun σ => (n1 - σ.2).toNat) (list, 0) ?_ ?_ ?_ ?_
        · cbv
        · cbv
        · exact ⟨(by (try dsimp only); first | omega | (simp only [List.length_nil]; omega)), (by (try dsimp only); first | omega | (simp only [List.length_nil]; omega)), (by (try dsimp only) <;> (rw [hlist, Int.sub_zero]; rfl))⟩
        rintro ⟨list_2, i1⟩ ⟨lo1, hi1, q⟩ E hE F hF
        dsimp only at lo1 hi1 q
        have ln := indL_len (l := l) lo1
        conv => cbv
        refine r_lss m.sX (fun h3 => ?_) (fun h3 => ?_) <;> conv => cbv
        · refine r_lenR m.sX fun n2 hn2 mn2 => ?_
          conv => cbv
          refine r_loopF (α := List Int × Int) m 51 [1, 9, 25, 26, 29, 30, 31] [⟨8, 65, 3, 1, 0⟩] (fun σ => [(1, .isl 4 (rows cCutIn l)), (8, .osl 65 0), (9, .int .i64 i1), (25, .int .i64 n1), (26, .int .i64 i1), (29, .isl 4 (rows cCutIn l)), (30, .int .i64 n2), (31, .int .i64 σ.2)]) (fun σ => [(65, 0, .row 3 1 (rows cInt σ.1))])
            (fun σ => (0 ≤ σ.2) ∧ (σ.2 ≤ n2) ∧ (σ.1 = indL l i1 ++ indR i1 0 (l.take σ.2.toNat) :: List.replicate (n - i1 - 1).toNat 0)) (fun σ => (n2 - σ.2).toNat) (list_2, 0) ?_ ?_ ?_ ?_
          · cbv
          · cbv
          · exact ⟨(by (try dsimp only); first | omega | (simp only [List.length_nil]; omega)), (by (try dsimp only); first | omega | (simp only [List.length_nil]; omega)), (by (try dsimp only) <;> (rw [q, show (n - i1).toNat = (n - i1 - 1).toNat + 1 by omega, List.replicate_succ]; rfl))⟩
          rintro ⟨list_3, i2⟩ ⟨lo2, hi2, q2⟩ E2 hE2 F2 hF2
          dsimp only at lo2 hi2 q2
          have l3 : (list_3.length : Int) = n := by rw [q2]; simp only [List.length_append, List.length_cons, List.length_replicate]; omega
          conv => cbv
          refine r_lss m.sX (fun h4 => ?_) (fun h4 => ?_) <;> conv => cbv
          · refine r_index m.sX (by omega) (by omega) fun v hxA => ?_
            obtain ⟨xA, xB, xC, xD⟩ := v
            conv => cbv
            have hx := hxA
            have mx := get_mem hx
            have dx := drop_cons hx
            have kx := take_snoc hx
            have jx : (i2 + 1).toNat = Int.toNat i2 + 1 := by omega
            have hcx := hc _ mx
            try dsimp only at hcx
            refine r_eql m.sX (fun h5 => ?_) (fun h5 => ?_) <;> conv => cbv
            · refine r_callB m.sX (isBeside_ok (xA, xB, xC, xD) i1 (by assumption)) (fun h6 => ?_) (fun h6 => ?_) <;> conv => cbv
              · refine r_oindex m.sX (by omega) (by omega) ?_
                conv => cbv
                obtain ⟨y1, hy1⟩ := get_ex (xs := list_3) (i := Int.toNat i1) (by omega)
                refine r_ostore (l := Int.toNat i1) xC m.sX hy1 (Nat.le_of_ble_eq_true rfl) rfl fun list_4 hlist_4 => ?_   -- list_4 = list_3.set i1 xC
                have llist_4 : (list_4.length : Int) = list_3.length := by rw [hlist_4]; first | done | (simp; done) | (simp; omega)
                conv => cbv
                refine r_addf m.sX (by omega) (by omega) fun r1 hr1 => ?_
                conv => cbv
                have tr1 : Int.toNat r1 = Int.toNat i2 + 1 := by omega
                refine hE2 _ (list_4, r1) ?_ ?_ ⟨(by (try dsimp only); first | omega | (simp only [List.length_nil]; omega)), (by (try dsimp only); first | omega | (simp only [List.length_nil]; omega)), (by (try dsimp only) <;> (first | (rw [hlist_4, q2, set_mid (by omega), tr1, kx, indR_snoc, if_pos (by rw [isLeft, h6, decide_eq_true h5]; rfl)]; done) | (rw [q2, tr1, kx, indR_snoc, if_neg (by rw [isLeft, h6]; simp)]; done) | (rw [q2, tr1, kx, indR_snoc, if_neg (by rw [isLeft, decide_eq_false h5]; simp)]; done)))⟩ (by first | omega | (dsimp only; omega))
                · cbv
                · cbv
              · refine r_addf m.sX (by omega) (by omega) fun r2 hr2 => ?_
                conv => cbv
                have tr2 : Int.toNat r2 = Int.toNat i2 + 1 := by omega
                refine hE2 _ (list_3, r2) ?_ ?_ ⟨(by (try dsimp only); first | omega | (simp only [List.length_nil]; omega)), (by (try dsimp only); first | omega | (simp only [List.length_nil]; omega)), (by (try dsimp only) <;> (first | (rw [hlist_4, q2, set_mid (by omega), tr2, kx, indR_snoc, if_pos (by rw [isLeft, h6, decide_eq_true h5]; rfl)]; done) | (rw [q2, tr2, kx, indR_snoc, if_neg (by rw [isLeft, h6]; simp)]; done) | (rw [q2, tr2, kx, indR_snoc, if_neg (by rw [isLeft, decide_eq_false h5]; simp)]; done)))⟩ (by first | omega | (dsimp only; omega))
                · cbv
                · cbv
            · refine r_addf m.sX (by omega) (by omega) fun r3 hr3 => ?_
              conv => cbv
              have tr3 : Int.toNat r3 = Int.toNat i2 + 1 := by omega
              refine hE2 _ (list_3, r3) ?_ ?_ ⟨(by (try dsimp only); first | omega | (simp only [List.length_nil]; omega)), (by (try dsimp only); first | omega | (simp only [List.length_nil]; omega)), (by (try dsimp only) <;> (first | (rw [hlist_4, q2, set_mid (by omega), tr3, kx, indR_snoc, if_pos (by rw [isLeft, h6, decide_eq_true h5]; rfl)]; done) | (rw [q2, tr3, kx, indR_snoc, if_neg (by rw [isLeft, h6]; simp)]; done) | (rw [q2, tr3, kx, indR_snoc, if_neg (by rw [isLeft, decide_eq_false h5]; simp)]; done)))⟩ (by first | omega | (dsimp only; omega))
              · cbv
              · cbv
          · have dz_i2 := drop_end (xs := l) (i := Int.toNat i2) (by omega)
            have tz_i2 := take_end (xs := l) (i := Int.toNat i2) (by omega)
            refine hF2 _ _ ?_
            conv => cbv
            refine r_addf m.sX (by omega) (by omega) fun r4 hr4 => ?_
            conv => cbv
            have tr4 : Int.toNat r4 = Int.toNat i1 + 1 := by omega
            refine hE _ (list_3, r4) ?_ ?_ ⟨(by (try dsimp only); first | omega | (simp only [List.length_nil]; omega)), (by (try dsimp only); first | omega | (simp only [List.length_nil]; omega)), (by (try dsimp only) <;> (rw [q2, tz_i2, ind_good h1, show r4 = i1 + 1 by omega, indL_next lo1, show n - (i1 + 1) = n - i1 - 1 by omega]; simp))⟩ (by first | omega | (dsimp only; omega))
            · cbv
            · cbv
        · have dz_i1 := drop_end (xs := list) (i := Int.toNat i1) (by omega)
          have tz_i1 := take_end (xs := list) (i := Int.toNat i1) (by omega)
          refine hF _ _ ?_
          conv => cbv
          exact hQ (.tup [.fr 3 1 (rows cInt list_2), .bool true]) (Eq.trans (by first | rfl | (simp only [lb, lbI, rows_cons, rows_nil, unnilT, unnil, unnilTI, unnilI]; done) | (simp only [lb, lbI, rows_cons, rows_nil, unnilT, unnil, unnilTI, unnilI]; rfl)) (congrArg ((lb 3 1 cInt)) (show (list_2, true) = indAns measure l n from by rw [indAns, h1, h2, q, show i1 = n by omega, Int.sub_self]; simp)))   -- leaf 1
      · exact hQ (.tup [.fr 3 1 [], .bool false]) (Eq.trans (by first | rfl | (simp only [lb, lbI, rows_cons, rows_nil, unnilT, unnil, unnilTI, unnilI]; done) | (simp only [lb, lbI, rows_cons, rows_nil, unnilT, unnil, unnilTI, unnilI]; rfl)) (congrArg ((lb 3 1 cInt)) (show ([], false) = indAns measure l n from by rw [indAns, h1, h2]; rfl)))   -- leaf 2
    · exact hQ (.tup [.fr 3 1 [], .bool false]) (Eq.trans (by first | rfl | (simp only [lb, lbI, rows_cons, rows_nil, unnilT, unnil, unnilTI, unnilI]; done) | (simp only [lb, lbI, rows_cons, rows_nil, unnilT, unnil, unnilTI, unnilI]; rfl)) (congrArg ((lb 3 1 cInt)) (show ([], false) = indAns measure l n from by rw [indAns, h1]; rfl))))   -- leaf 3

theorem specIndentsOf_ok (measure : Int) (l : List CutIn) (n : Int) (hm : -1000000 ≤ measure ∧ measure ≤ 1000000) (hl : l.length ≤ 900) : OkA Try.prog 73 [.int .i64 measure, .isl 4 (rows cCutIn l), .int .i64 n] (· = (lb 3 1 cInt) (indAns measure l n)) :=
  OkA.unnil 3 1 (fn_intro envOk fieldsOk mixed Try.func73 rfl fun κ X Y L Q m hQ => by
    conv => cbv
    refine r_callB m.sX (inGood_ok measure l (by omega) (by omega) (by omega)) (fun h1 => ?_) (fun h1 => ?_) <;> conv => cbv
    · have gs := goodC_spec h1
      have hc := okFrom_mem gs.1
      refine r_callB m.sX (inNumber_ok n) (fun h2 => ?_) (fun h2 => ?_) <;> conv => cbv
      · have nb := inB_spec h2
        refine r_loopF (α := List Int × Int) m 42 [1, 2, 9] [⟨8, 65, 3, 1, 0⟩] (fun σ => [(1, .isl 4 (rows cCutIn l)), (2, .int .i64 n), (8, .osl 65 0), (9, .int .i64 σ.2)]) (fun σ => [(65, 0, .row 3 1 (rows cInt σ.1))])
          (fun σ => (0 ≤ σ.2) ∧ (σ.2 ≤ n) ∧ (σ.1 = indL l σ.2)) (fun σ => (n - σ.2).toNat) ([], 0) ?_ ?_ ?_ ?_
        · cbv
        · (try dsimp only); simp only [rows_cons, rows_nil]; cbv
        · exact ⟨(by (try dsimp only); first | omega | (simp only [List.length_nil]; omega)), (by (try dsimp only); first | omega | (simp only [List.length_nil]; omega)), (by (try dsimp only) <;> (rfl))⟩
        rintro ⟨out, line⟩ ⟨lo1, hi1, q⟩ E hE F hF
        dsimp only at lo1 hi1 q
        have ll : (out.length : Int) = line := by rw [q]; exact indL_len lo1
        conv => cbv
        refine r_lss m.sX (fun h3 => ?_) (fun h3 => ?_) <;> conv => cbv
        · refine r_callF (PV.int .i64) m.sX (inAt_ok l line 0 (by assumption)) fun i hi => ?_
          conv => cbv
          refine r_geq m.sX (fun h4 => ?_) (fun h4 => ?_) <;> conv => cbv
          · obtain ⟨a1, a2⟩ := at_some hi h4
            refine r_index m.sX (by omega) (by omega) fun v hx1A => ?_
            obtain ⟨x1A, x1B, x1C, x1D⟩ := v
            conv => cbv
            have hx1 := hx1A
            have mx1 := get_mem hx1
            refine r_append1 (x1C) m.sX rfl (by first | omega | (dsimp only; omega)) (by first | omega | (dsimp only; omega)) fun out_2 hout_2 => ?_
            conv => cbv
            have lout_2 : (out_2.length : Int) = out.length + 1 := by rw [hout_2]; first | done | (simp; done) | (simp; omega)
            refine r_addf m.sX (by omega) (by omega) fun line_2 hline_2 => ?_
            conv => cbv
            have tline_2 : Int.toNat line_2 = Int.toNat line + 1 := by omega
            refine hE _ (out_2, line_2) ?_ ?_ ⟨(by (try dsimp only); first | omega | (simp only [List.length_nil]; omega)), (by (try dsimp only); first | omega | (simp only [List.length_nil]; omega)), (by (try dsimp only) <;> (first | (rw [hout_2, q, show line_2 = line + 1 by omega, indL_next lo1, a2 _ hx1]; done) | (rw [hout_2, q, show line_2 = line + 1 by omega, indL_next lo1, a3]; done)))⟩ (by first | omega | (dsimp only; omega))
            · cbv
            · cbv
          · have a3 := at_none hi h4
            try dsimp only at a3
            refine r_append1 (0) m.sX rfl (by first | omega | (dsimp only; omega)) (by first | omega | (dsimp only; omega)) fun out_3 hout_3 => ?_
            conv => cbv
            have lout_3 : (out_3.length : Int) = out.length + 1 := by rw [hout_3]; first | done | (simp; done) | (simp; omega)
            refine r_addf m.sX (by omega) (by omega) fun line_3 hline_3 => ?_
            conv => cbv
            have tline_3 : Int.toNat line_3 = Int.toNat line + 1 := by omega
            refine hE _ (out_3, line_3) ?_ ?_ ⟨(by (try dsimp only); first | omega | (simp only [List.length_nil]; omega)), (by (try dsimp only); first | omega | (simp only [List.length_nil]; omega)), (by (try dsimp only) <;> (first | (rw [hout_3, q, show line_3 = line + 1 by omega, indL_next lo1, a2 _ hx1]; done) | (rw [hout_3, q, show line_3 = line + 1 by omega, indL_next lo1, a3]; done)))⟩ (by first | omega | (dsimp only; omega))
            · cbv
            · cbv
        · refine hF _ _ ?_
          conv => cbv
          exact hQ (.tup [.fr 3 1 (rows cInt out), .bool true]) (Eq.trans (by first | rfl | (simp only [lb, lbI, rows_cons, rows_nil, unnilT, unnil, unnilTI, unnilI]; done) | (simp only [lb, lbI, rows_cons, rows_nil, unnilT, unnil, unnilTI, unnilI]; rfl)) (congrArg ((lb 3 1 cInt)) (show (out, true) = indAns measure l n from by rw [indAns, h1, h2, q, show line = n by omega]; rfl)))   -- leaf 1
      · exact hQ (.tup [.nil, .bool false]) (Eq.trans (by first | rfl | (simp only [lb, lbI, rows_cons, rows_nil, unnilT, unnil, unnilTI, unnilI]; done) | (simp only [lb, lbI, rows_cons, rows_nil, unnilT, unnil, unnilTI, unnilI]; rfl)) (congrArg ((lb 3 1 cInt)) (show ([], false) = indAns measure l n from by rw [indAns, h1, h2]; rfl)))   -- leaf 2
    · exact hQ (.tup [.nil, .bool false]) (Eq.trans (by first | rfl | (simp only [lb, lbI, rows_cons, rows_nil, unnilT, unnil, unnilTI, unnilI]; done) | (simp only [lb, lbI, rows_cons, rows_nil, unnilT, unnil, unnilTI, unnilI]; rfl)) (congrArg ((lb 3 1 cInt)) (show ([], false) = indAns measure l n from by rw [indAns, h1]; rfl))))   -- leaf 3

theorem RoomBeside_ok (measure : Int) (l : List CutIn) (n : Int) (hm : -1000000 ≤ measure ∧ measure ≤ 1000000) (hl : l.length ≤ 900) : OkA Try.prog 74 [.int .i64 measure, .isl 4 (rows cCutIn l), .int .i64 n] (· = ib (roomAns measure l n)) :=
  fn_intro envOk fieldsOk mixed Try.func74 rfl fun κ X Y L Q m hQ => by
    conv => cbv
    refine r_callB m.sX (AreCutIns_ok measure l (by omega) (by omega) (by omega)) (fun h1 => ?_) (fun h1 => ?_) <;> conv => cbv
    · have gs := goodC_spec h1
      have hc := okFrom_mem gs.1
      refine r_callB m.sX (isLineNumber_ok n) (fun h2 => ?_) (fun h2 => ?_) <;> conv => cbv
      · have nb := inB_spec h2
        refine r_loopF (α := Int × Int) m 36 [0, 1, 2, 8, 9] [] (fun σ => [(0, .int .i64 measure), (1, .isl 4 (rows cCutIn l)), (2, .int .i64 n), (8, .int .i64 σ.1), (9, .int .i64 σ.2)]) (fun σ => [])
          (fun σ => (0 ≤ σ.2) ∧ (σ.2 ≤ n) ∧ (σ.1 = roomS measure (measL measure l σ.2))) (fun σ => (n - σ.2).toNat) (0, 0) ?_ ?_ ?_ ?_
        · cbv
        · cbv
        · exact ⟨(by (try dsimp only); first | omega | (simp only [List.length_nil]; omega)), (by (try dsimp only); first | omega | (simp only [List.length_nil]; omega)), (by (try dsimp only) <;> (rfl))⟩
        rintro ⟨room, line⟩ ⟨lo1, hi1, q⟩ E hE F hF
        dsimp only at lo1 hi1 q
        have rb := roomS_bound (me := measure) (ms := measL measure l line) fun m hm => by have := measL_mem h1 hm; omega
        have ll := measL_len (me := measure) (l := l) lo1
        conv => cbv
        refine r_lss m.sX (fun h3 => ?_) (fun h3 => ?_) <;> conv => cbv
        · refine r_callF (PV.int .i64) m.sX (measureAt_ok measure l line (by omega) (by omega) (by omega) (by assumption)) fun m_ hm_ => ?_
          conv => cbv
          have mb := meas_bound (k := line) h1 lo1
          refine r_lss m.sX (fun h4 => ?_) (fun h4 => ?_) <;> conv => cbv
          · refine r_addf m.sX (by omega) (by omega) fun room_2 hroom_2 => ?_
            conv => cbv
            refine r_addf m.sX (by omega) (by omega) fun line_2 hline_2 => ?_
            conv => cbv
            have tline_2 : Int.toNat line_2 = Int.toNat line + 1 := by omega
            refine hE _ (room_2, line_2) ?_ ?_ ⟨(by (try dsimp only); first | omega | (simp only [List.length_nil]; omega)), (by (try dsimp only); first | omega | (simp only [List.length_nil]; omega)), (by (try dsimp only) <;> (first | (rw [show line_2 = line + 1 by omega, measL_next lo1, roomS_snoc, ← hm_, if_pos h4]; omega) | (rw [show line_2 = line + 1 by omega, measL_next lo1, roomS_snoc, ← hm_, if_neg (by omega)]; omega)))⟩ (by first | omega | (dsimp only; omega))
            · cbv
            · cbv
          · refine r_addf m.sX (by omega) (by omega) fun line_3 hline_3 => ?_
            conv => cbv
            have tline_3 : Int.toNat line_3 = Int.toNat line + 1 := by omega
            refine hE _ (room, line_3) ?_ ?_ ⟨(by (try dsimp only); first | omega | (simp only [List.length_nil]; omega)), (by (try dsimp only); first | omega | (simp only [List.length_nil]; omega)), (by (try dsimp only) <;> (first | (rw [show line_3 = line + 1 by omega, measL_next lo1, roomS_snoc, ← hm_, if_pos h4]; omega) | (rw [show line_3 = line + 1 by omega, measL_next lo1, roomS_snoc, ← hm_, if_neg (by omega)]; omega)))⟩ (by first | omega | (dsimp only; omega))
            · cbv
            · cbv
        · refine hF _ _ ?_
          conv => cbv
          exact hQ (.tup [.int .i64 room, .bool true]) (Eq.trans (by first | rfl | (simp only [lb, lbI, rows_cons, rows_nil, unnilT, unnil, unnilTI, unnilI]; done) | (simp only [lb, lbI, rows_cons, rows_nil, unnilT, unnil, unnilTI, unnilI]; rfl)) (congrArg (ib) (show (room, true) = roomAns measure l n from by rw [roomAns, h1, h2, q, show line = n by omega]; rfl)))   -- leaf 1
      · exact hQ (.tup [.int .i64 0, .bool false]) (Eq.trans (by first | rfl | (simp only [lb, lbI, rows_cons, rows_nil, unnilT, unnil, unnilTI, unnilI]; done) | (simp only [lb, lbI, rows_cons, rows_nil, unnilT, unnil, unnilTI, unnilI]; rfl)) (congrArg (ib) (show (0, false) = roomAns measure l n from by rw [roomAns, h1, h2]; rfl)))   -- leaf 2
    · exact hQ (.tup [.int .i64 0, .bool false]) (Eq.trans (by first | rfl | (simp only [lb, lbI, rows_cons, rows_nil, unnilT, unnil, unnilTI, unnilI]; done) | (simp only [lb, lbI, rows_cons, rows_nil, unnilT, unnil, unnilTI, unnilI]; rfl)) (congrArg (ib) (show (0, false) = roomAns measure l n from by rw [roomAns, h1]; rfl)))   -- leaf 3

theorem specRoomBeside_ok (measure : Int) (l : List CutIn) (n : Int) (hm : -1000000 ≤ measure ∧ measure ≤ 1000000) (hl : l.length ≤ 900) : OkA Try.prog 75 [.int .i64 measure, .isl 4 (rows cCutIn l), .int .i64 n] (· = ib (roomAns measure l n)) :=
  fn_intro envOk fieldsOk mixed Try.func75 rfl fun κ X Y L Q m hQ => by
    conv => cbv
    refine r_callB m.sX (inGood_ok measure l (by omega) (by omega) (by omega)) (fun h1 => ?_) (fun h1 => ?_) <;> conv => cbv
    · have gs := goodC_spec h1
      have hc := okFrom_mem gs.1
      refine r_callB m.sX (inNumber_ok n) (fun h2 => ?_) (fun h2 => ?_) <;> conv => cbv
      · have nb := inB_spec h2
        refine r_callF (fun l => PV.fr _ _ (rows _ l)) m.sX (inAll_ok measure l n (by first | rfl | assumption | omega | (simp only [List.length_append, List.length_cons, List.length_nil] at *; omega)) (by first | rfl | assumption | omega | (simp only [List.length_append, List.length_cons, List.length_nil] at *; omega)) (by first | rfl | assumption | omega | (simp only [List.length_append, List.length_cons, List.length_nil] at *; omega)) (by first | rfl | assumption | omega | (simp only [List.length_append, List.length_cons, List.length_nil] at *; omega))) fun v1 hv1 => ?_
        conv => cbv
        have lv : (v1.length : Int) = n := by rw [hv1]; exact measL_len nb.1
        have bv : ∀ m ∈ v1, 0 ≤ m ∧ m ≤ 600 := fun m hm => by have := measL_mem h1 (hv1 ▸ hm); omega
        refine r_lenR m.sX fun n1 hn1 mn1 => ?_
        conv => cbv
        refine r_loopF (α := Int × Int) m 37 [0, 8, 24, 25] [⟨23, 185, 3, 1, 0⟩] (fun σ => [(0, .int .i64 measure), (8, .int .i64 σ.1), (23, .osl 185 0), (24, .int .i64 n1), (25, .int .i64 σ.2)]) (fun σ => [(185, 0, .row 3 1 (rows cInt v1))])
          (fun σ => (0 ≤ σ.2) ∧ (σ.2 ≤ n1) ∧ (σ.1 = roomS measure (v1.take σ.2.toNat))) (fun σ => (n1 - σ.2).toNat) (0, 0) ?_ ?_ ?_ ?_
        · cbv
        · cbv
        · exact ⟨(by (try dsimp only); first | omega | (simp only [List.length_nil]; omega)), (by (try dsimp only); first | omega | (simp only [List.length_nil]; omega)), (by (try dsimp only) <;> (rfl))⟩
        rintro ⟨sum, i1⟩ ⟨lo1, hi1, q⟩ E hE F hF
        dsimp only at lo1 hi1 q
        have rb := roomS_bound (me := measure) (ms := v1.take i1.toNat) fun m hm => bv m (List.mem_of_mem_take hm)
        have lt : ((v1.take i1.toNat).length : Int) ≤ n := by rw [List.length_take]; omega
        conv => cbv
        refine r_lss m.sX (fun h3 => ?_) (fun h3 => ?_) <;> conv => cbv
        · refine r_oindex m.sX (by omega) (by omega) ?_
          conv => cbv
          obtain ⟨m_, hm_⟩ := get_ex (xs := v1) (i := Int.toNat i1) (by omega)
          have mm_ := get_mem hm_
          have dm_ := drop_cons hm_
          have km_ := take_snoc hm_
          have jm_ : (i1 + 1).toNat = Int.toNat i1 + 1 := by omega
          have vm_ := nth_some hm_
          have mb := bv _ mm_
          refine r_oload m.sX hm_ (Nat.le_of_ble_eq_true rfl) ?_
          conv => cbv
          refine r_lss m.sX (fun h4 => ?_) (fun h4 => ?_) <;> conv => cbv
          · refine r_addf m.sX (by omega) (by omega) fun sum_2 hsum_2 => ?_
            conv => cbv
            refine r_addf m.sX (by omega) (by omega) fun r1 hr1 => ?_
            conv => cbv
            have tr1 : Int.toNat r1 = Int.toNat i1 + 1 := by omega
            refine hE _ (sum_2, r1) ?_ ?_ ⟨(by (try dsimp only); first | omega | (simp only [List.length_nil]; omega)), (by (try dsimp only); first | omega | (simp only [List.length_nil]; omega)), (by (try dsimp only) <;> (first | (rw [tr1, km_, roomS_snoc, ← q, if_pos h4]; omega) | (rw [tr1, km_, roomS_snoc, ← q, if_neg (by omega)]; omega)))⟩ (by first | omega | (dsimp only; omega))
            · cbv
            · cbv
          · refine r_addf m.sX (by omega) (by omega) fun r2 hr2 => ?_
            conv => cbv
            have tr2 : Int.toNat r2 = Int.toNat i1 + 1 := by omega
            refine hE _ (sum, r2) ?_ ?_ ⟨(by (try dsimp only); first | omega | (simp only [List.length_nil]; omega)), (by (try dsimp only); first | omega | (simp only [List.length_nil]; omega)), (by (try dsimp only) <;> (first | (rw [tr2, km_, roomS_snoc, ← q, if_pos h4]; omega) | (rw [tr2, km_, roomS_snoc, ← q, if_neg (by omega)]; omega)))⟩ (by first | omega | (dsimp only; omega))
            · cbv
            · cbv
        · have dz_i1 := drop_end (xs := v1) (i := Int.toNat i1) (by omega)
          have tz_i1 := take_end (xs := v1) (i := Int.toNat i1) (by omega)
          refine hF _ _ ?_
          conv => cbv
          exact hQ (.tup [.int .i64 sum, .bool true]) (Eq.trans (by first | rfl | (simp only [lb, lbI, rows_cons, rows_nil, unnilT, unnil, unnilTI, unnilI]; done) | (simp only [lb, lbI, rows_cons, rows_nil, unnilT, unnil, unnilTI, unnilI]; rfl)) (congrArg (ib) (show (sum, true) = roomAns measure l n from by rw [roomAns, h1, h2, q, tz_i1, hv1]; rfl)))   -- leaf 1
      · exact hQ (.tup [.int .i64 0, .bool false]) (Eq.trans (by first | rfl | (simp only [lb, lbI, rows_cons, rows_nil, unnilT, unnil, unnilTI, unnilI]; done) | (simp only [lb, lbI, rows_cons, rows_nil, unnilT, unnil, unnilTI, unnilI]; rfl)) (congrArg (ib) (show (0, false) = roomAns measure l n from by rw [roomAns, h1, h2]; rfl)))   -- leaf 2
    · exact hQ (.tup [.int .i64 0, .bool false]) (Eq.trans (by first | rfl | (simp only [lb, lbI, rows_cons, rows_nil, unnilT, unnil, unnilTI, unnilI]; done) | (simp only [lb, lbI, rows_cons, rows_nil, unnilT, unnil, unnilTI, unnilI]; rfl)) (congrArg (ib) (show (0, false) = roomAns measure l n from by rw [roomAns, h1]; rfl)))   -- leaf 3

theorem LinesFor_ok (measure : Int) (l : List CutIn) (sum : Int) (hm : -1000000 ≤ measure ∧ measure ≤ 1000000) (hl : l.length ≤ 900) : OkA Try.prog 78 [.int .i64 measure, .isl 4 (rows cCutIn l), .int .i64 sum] (· = ib (needAns measure l sum)) :=
  fn_intro envOk fieldsOk mixed Try.func78 rfl fun κ X Y L Q m hQ => by
    conv => cbv
    refine r_callB m.sX (AreCutIns_ok measure l (by omega) (by omega) (by omega)) (fun h1 => ?_) (fun h1 => ?_) <;> conv => cbv
    · have gs := goodC_spec h1
      have hc := okFrom_mem gs.1
      refine r_callB m.sX (within_ok sum 0 100000) (fun h2 => ?_) (fun h2 => ?_) <;> conv => cbv
      · have sb := inB_spec h2
        refine r_loopF (α := Int × Int) m 31 [0, 1, 2, 8] [] (fun σ => [(0, .int .i64 measure), (1, .isl 4 (rows cCutIn l)), (2, .int .i64 σ.1), (8, .int .i64 σ.2)]) (fun σ => [])
          (fun σ => (0 ≤ σ.2 ∧ σ.2 ≤ 2500) ∧ (σ.1 = sum - (measL measure l σ.2).sum) ∧ (-600 ≤ σ.1) ∧ (∀ j, 0 ≤ j → j < σ.2 → (measL measure l j).sum < sum)) (fun σ => σ.1.toNat) (sum, 0) ?_ ?_ ?_ ?_
        · cbv
        · cbv
        · exact ⟨(by (try dsimp only) <;> first | omega | rfl | (simp [*]; done)), (by (try dsimp only) <;> (simp [measL])), (by (try dsimp only) <;> first | omega | rfl | (simp [*]; done)), (by (try dsimp only) <;> (intro j j1 j2; omega))⟩
        rintro ⟨sum_2, n⟩ ⟨b, q, c, mn⟩ E hE F hF
        dsimp only at b q c mn
        have ss := measL_sums h1 n.toNat
        rw [Int.toNat_of_nonneg b.1] at ss
        conv => cbv
        refine r_gtr m.sX (fun h3 => ?_) (fun h3 => ?_) <;> conv => cbv
        · refine r_callF (PV.int .i64) m.sX (measureAt_ok measure l n (by omega) (by omega) (by omega) (by assumption)) fun r1 hr1 => ?_
          conv => cbv
          have mb := meas_bound (k := n) h1 b.1
          refine r_subf m.sX (by omega) (by omega) fun sum_3 hsum_3 => ?_
          conv => cbv
          refine r_addf m.sX (by omega) (by omega) fun n_2 hn_2 => ?_
          conv => cbv
          refine hE _ (sum_3, n_2) ?_ ?_ ⟨(by (try dsimp only) <;> first | omega | rfl | (simp [*]; done) | (rw [b]; simp [*]; done)), (by (try dsimp only) <;> (rw [show n_2 = n + 1 by omega, measL_sum b.1]; omega)), (by (try dsimp only) <;> first | omega | rfl | (simp [*]; done) | (rw [c]; simp [*]; done)), (by (try dsimp only) <;> (intro j j1 j2; rcases Int.lt_or_le j n with hh | hh; exact mn j j1 hh; rw [show j = n by omega]; omega))⟩ (by first | omega | (dsimp only; omega))
          · cbv
          · cbv
        · refine hF _ _ ?_
          conv => cbv
          refine r_gtr m.sX (fun h4 => ?_) (fun h4 => ?_) <;> conv => cbv
          · exact hQ (.tup [.int .i64 0, .bool false]) (Eq.trans (by first | rfl | (simp only [lb, lbI, rows_cons, rows_nil, unnilT, unnil, unnilTI, unnilI]; done) | (simp only [lb, lbI, rows_cons, rows_nil, unnilT, unnil, unnilTI, unnilI]; rfl)) (congrArg (ib) (show (0, false) = needAns measure l sum from by have e := firstN_eq (me := measure) (l := l) (want := sum) (m := n) (by omega) 301 0 b.1 mn; rw [needAns, h1, h2, if_pos (show (true && true) = true from rfl), if_neg (by rw [e]; split <;> omega)])))   -- leaf 1
          · exact hQ (.tup [.int .i64 n, .bool true]) (Eq.trans (by first | rfl | (simp only [lb, lbI, rows_cons, rows_nil, unnilT, unnil, unnilTI, unnilI]; done) | (simp only [lb, lbI, rows_cons, rows_nil, unnilT, unnil, unnilTI, unnilI]; rfl)) (congrArg (ib) (show (n, true) = needAns measure l sum from by have e := firstN_eq (me := measure) (l := l) (want := sum) (m := n) (by omega) 301 0 b.1 mn; rw [if_pos (by omega)] at e; rw [needAns, h1, h2, if_pos (show (true && true) = true from rfl), e, if_pos h4])))   -- leaf 2
      · exact hQ (.tup [.int .i64 0, .bool false]) (Eq.trans (by first | rfl | (simp only [lb, lbI, rows_cons, rows_nil, unnilT, unnil, unnilTI, unnilI]; done) | (simp only [lb, lbI, rows_cons, rows_nil, unnilT, unnil, unnilTI, unnilI]; rfl)) (congrArg (ib) (show (0, false) = needAns measure l sum from by rw [needAns, h1, h2]; rfl)))   -- leaf 3
    · exact hQ (.tup [.int .i64 0, .bool false]) (Eq.trans (by first | rfl | (simp only [lb, lbI, rows_cons, rows_nil, unnilT, unnil, unnilTI, unnilI]; done) | (simp only [lb, lbI, rows_cons, rows_nil, unnilT, unnil, unnilTI, unnilI]; rfl)) (congrArg (ib) (show (0, false) = needAns measure l sum from by rw [needAns, h1]; rfl)))   -- leaf 4

theorem specLinesFor_ok (measure : Int) (l : List CutIn) (sum : Int) (hm : -1000000 ≤ measure ∧ measure ≤ 1000000) (hl : l.length ≤ 900) : OkA Try.prog 79 [.int .i64 measure, .isl 4 (rows cCutIn l), .int .i64 sum] (· = ib (needAns measure l sum)) :=
  fn_intro envOk fieldsOk mixed Try.func79 rfl fun κ X Y L Q m hQ => by
    conv => cbv
    refine r_callB m.sX (inGood_ok measure l (by omega) (by omega) (by omega)) (fun h1 => ?_) (fun h1 => ?_) <;> conv => cbv
    · have gs := goodC_spec h1
      have hc := okFrom_mem gs.1
      refine r_callB m.sX (l1In_ok sum 0 100000) (fun h2 => ?_) (fun h2 => ?_) <;> conv => cbv
      · have sb := inB_spec h2
        refine r_loopF (α := Int × Int) m 31 [0, 1, 2, 8] [] (fun σ => [(0, .int .i64 measure), (1, .isl 4 (rows cCutIn l)), (2, .int .i64 σ.1), (8, .int .i64 σ.2)]) (fun σ => [])
          (fun σ => (0 ≤ σ.2 ∧ σ.2 ≤ 301) ∧ (σ.1 = sum - (measL measure l σ.2).sum) ∧ (∀ j, 0 ≤ j → j < σ.2 → (measL measure l j).sum < sum)) (fun σ => (301 - σ.2).toNat) (sum, 0) ?_ ?_ ?_ ?_
        · cbv
        · cbv
        · exact ⟨(by (try dsimp only) <;> first | omega | rfl | (simp [*]; done)), (by (try dsimp only) <;> (simp [measL])), (by (try dsimp only) <;> (intro j j1 j2; omega))⟩
        rintro ⟨sum_2, n⟩ ⟨b, q, mn⟩ E hE F hF
        dsimp only at b q mn
        have ss := measL_sums h1 n.toNat
        rw [Int.toNat_of_nonneg b.1] at ss
        conv => cbv
        refine r_leq m.sX (fun h3 => ?_) (fun h3 => ?_) <;> conv => cbv
        · refine r_leq m.sX (fun h4 => ?_) (fun h4 => ?_) <;> conv => cbv
          · refine hF _ _ ?_
            conv => cbv
            exact hQ (.tup [.int .i64 n, .bool true]) (Eq.trans (by first | rfl | (simp only [lb, lbI, rows_cons, rows_nil, unnilT, unnil, unnilTI, unnilI]; done) | (simp only [lb, lbI, rows_cons, rows_nil, unnilT, unnil, unnilTI, unnilI]; rfl)) (congrArg (ib) (show (n, true) = needAns measure l sum from by have e := firstN_eq (me := measure) (l := l) (want := sum) (m := n) (by omega) 301 0 b.1 mn; rw [if_pos (by omega)] at e; rw [needAns, h1, h2, if_pos (show (true && true) = true from rfl), e, if_pos h3])))   -- leaf 1
          · refine r_callF (PV.int .i64) m.sX (inMeasure_ok measure l n (by omega) (by omega) (by omega) (by assumption)) fun r1 hr1 => ?_
            conv => cbv
            have mb := meas_bound (k := n) h1 b.1
            refine r_subf m.sX (by omega) (by omega) fun sum_3 hsum_3 => ?_
            conv => cbv
            refine r_addf m.sX (by omega) (by omega) fun n_2 hn_2 => ?_
            conv => cbv
            refine hE _ (sum_3, n_2) ?_ ?_ ⟨(by (try dsimp only) <;> first | omega | rfl | (simp [*]; done) | (rw [b]; simp [*]; done)), (by (try dsimp only) <;> (rw [show n_2 = n + 1 by omega, measL_sum b.1]; omega)), (by (try dsimp only) <;> (intro j j1 j2; rcases Int.lt_or_le j n with hh | hh; exact mn j j1 hh; rw [show j = n by omega]; omega))⟩ (by first | omega | (dsimp only; omega))
            · cbv
            · cbv
        · refine hF _ _ ?_
          conv => cbv
          exact hQ (.tup [.int .i64 0, .bool false]) (Eq.trans (by first | rfl | (simp only [lb, lbI, rows_cons, rows_nil, unnilT, unnil, unnilTI, unnilI]; done) | (simp only [lb, lbI, rows_cons, rows_nil, unnilT, unnil, unnilTI, unnilI]; rfl)) (congrArg (ib) (show (0, false) = needAns measure l sum from by obtain ⟨f1, f2, f3, f4⟩ := firstN_low (me := measure) (l := l) (want := sum) 301 0; rw [needAns, h1, h2, if_pos (show (true && true) = true from rfl), if_neg (fun hh => by have x1 := f3 (by omega); have x2 := mn _ f1 (by omega); omega)])))   -- leaf 2
      · exact hQ (.tup [.int .i64 0, .bool false]) (Eq.trans (by first | rfl | (simp only [lb, lbI, rows_cons, rows_nil, unnilT, unnil, unnilTI, unnilI]; done) | (simp only [lb, lbI, rows_cons, rows_nil, unnilT, unnil, unnilTI, unnilI]; rfl)) (congrArg (ib) (show (0, false) = needAns measure l sum from by rw [needAns, h1, h2]; rfl)))   -- leaf 3
    · exact hQ (.tup [.int .i64 0, .bool false]) (Eq.trans (by first | rfl | (simp only [lb, lbI, rows_cons, rows_nil, unnilT, unnil, unnilTI, unnilI]; done) | (simp only [lb, lbI, rows_cons, rows_nil, unnilT, unnil, unnilTI, unnilI]; rfl)) (congrArg (ib) (show (0, false) = needAns measure l sum from by rw [needAns, h1]; rfl)))   -- leaf 4

theorem isBody_ok (n : Int)  : OkA Try.prog 184 [.int .i64 n] (· = .bool (inB n 1 72)) :=
  fn_intro envOk fieldsOk mixed Try.func184 rfl fun κ X Y L Q m hQ => by
    conv => cbv
    refine r_callB m.sX (within_ok n 1 72) (fun h1 => ?_) (fun h1 => ?_) <;> conv => cbv
    · exact hQ _ (congrArg PV.bool (by exact h1.symm))   -- leaf 1
    · exact hQ _ (congrArg PV.bool (by exact h1.symm))   -- leaf 2

theorem LinesOfInitial_ok (size : Int) (body : Int) (lead : Int)  : OkA Try.prog 81 [.int .i64 size, .int .i64 body, .int .i64 lead] (· = iib (iniAns size body lead)) :=
  fn_intro envOk fieldsOk mixed Try.func81 rfl fun κ X Y L Q m hQ => by
    conv => cbv
    refine r_callB m.sX (within_ok size 1 1000) (fun h1 => ?_) (fun h1 => ?_) <;> conv => cbv
    · have b1 := inB_spec h1
      refine r_callB m.sX (isBody_ok body) (fun h2 => ?_) (fun h2 => ?_) <;> conv => cbv
      · have b2 := inB_spec h2
        refine r_callB m.sX (within_ok lead 0 36) (fun h3 => ?_) (fun h3 => ?_) <;> conv => cbv
        · have b3 := inB_spec h3
          refine r_loopF (α := Int × Int) m 39 [0, 1, 2, 9, 10] [] (fun σ => [(0, .int .i64 size), (1, .int .i64 body), (2, .int .i64 lead), (9, .int .i64 σ.1), (10, .int .i64 σ.2)]) (fun σ => [])
            (fun σ => (1 ≤ σ.1 ∧ σ.1 ≤ σ.2 ∧ σ.2 ≤ 1200) ∧ (σ.2 = σ.1 * (body + lead) - lead) ∧ (σ.1 = 1 ∨ σ.2 - (body + lead) < size)) (fun σ => (size - σ.2).toNat) (1, body) ?_ ?_ ?_ ?_
          · cbv
          · cbv
          · exact ⟨(by (try dsimp only) <;> first | omega | rfl | (simp [*]; done)), (by (try dsimp only) <;> (rw [Int.one_mul]; omega)), (by (try dsimp only) <;> first | omega | rfl | (simp [*]; done))⟩
          rintro ⟨n, high⟩ ⟨b, q, p⟩ E hE F hF
          dsimp only at b q p
          conv => cbv
          refine r_lss m.sX (fun h4 => ?_) (fun h4 => ?_) <;> conv => cbv
          · refine r_addf m.sX (by omega) (by omega) fun n_2 hn_2 => ?_
            conv => cbv
            refine r_addf m.sX (by omega) (by omega) fun r1 hr1 => ?_
            conv => cbv
            refine r_addf m.sX (by omega) (by omega) fun high_2 hhigh_2 => ?_
            conv => cbv
            refine hE _ (n_2, high_2) ?_ ?_ ⟨(by (try dsimp only) <;> first | omega | rfl | (simp [*]; done) | (rw [b]; simp [*]; done)), (by (try dsimp only) <;> (rw [show n_2 = n + 1 by omega, Int.add_mul, Int.one_mul]; omega)), (by (try dsimp only) <;> first | omega | rfl | (simp [*]; done) | (rw [p]; simp [*]; done))⟩ (by first | omega | (dsimp only; omega))
            · cbv
            · cbv
          · refine hF _ _ ?_
            conv => cbv
            refine r_subf m.sX (by omega) (by omega) fun r2 hr2 => ?_
            conv => cbv
            exact hQ (.tup [.int .i64 n, .int .i64 r2, .bool true]) (Eq.trans (by first | rfl | (simp only [lb, lbI, rows_cons, rows_nil, unnilT, unnil, unnilTI, unnilI]; done) | (simp only [lb, lbI, rows_cons, rows_nil, unnilT, unnil, unnilTI, unnilI]; rfl)) (congrArg (iib) (show (n, r2, true) = iniAns size body lead from by have e := ini_eq (size := size) (body := body) (lead := lead) (n := n) (high := high) (by omega) (by omega) b.1 q (by omega) (by omega); rw [iniAns, h1, h2, h3, e, hr2, q]; rfl)))   -- leaf 1
        · exact hQ (.tup [.int .i64 0, .int .i64 0, .bool false]) (Eq.trans (by first | rfl | (simp only [lb, lbI, rows_cons, rows_nil, unnilT, unnil, unnilTI, unnilI]; done) | (simp only [lb, lbI, rows_cons, rows_nil, unnilT, unnil, unnilTI, unnilI]; rfl)) (congrArg (iib) (show (0, 0, false) = iniAns size body lead from by rw [iniAns, h1, h2, h3]; rfl)))   -- leaf 2
      · exact hQ (.tup [.int .i64 0, .int .i64 0, .bool false]) (Eq.trans (by first | rfl | (simp only [lb, lbI, rows_cons, rows_nil, unnilT, unnil, unnilTI, unnilI]; done) | (simp only [lb, lbI, rows_cons, rows_nil, unnilT, unnil, unnilTI, unnilI]; rfl)) (congrArg (iib) (show (0, 0, false) = iniAns size body lead from by rw [iniAns, h1, h2]; rfl)))   -- leaf 3
    · exact hQ (.tup [.int .i64 0, .int .i64 0, .bool false]) (Eq.trans (by first | rfl | (simp only [lb, lbI, rows_cons, rows_nil, unnilT, unnil, unnilTI, unnilI]; done) | (simp only [lb, lbI, rows_cons, rows_nil, unnilT, unnil, unnilTI, unnilI]; rfl)) (congrArg (iib) (show (0, 0, false) = iniAns size body lead from by rw [iniAns, h1]; rfl)))   -- leaf 4

theorem specLinesOfInitial_ok (size : Int) (body : Int) (lead : Int)  : OkA Try.prog 82 [.int .i64 size, .int .i64 body, .int .i64 lead] (· = iib (iniAns size body lead)) :=
  fn_intro envOk fieldsOk mixed Try.func82 rfl fun κ X Y L Q m hQ => by
    conv => cbv
    refine r_callB m.sX (l1In_ok size 1 1000) (fun h1 => ?_) (fun h1 => ?_) <;> conv => cbv
    · have b1 := inB_spec h1
      refine r_callB m.sX (l1In_ok body 1 72) (fun h2 => ?_) (fun h2 => ?_) <;> conv => cbv
      · have b2 := inB_spec h2
        refine r_callB m.sX (l1In_ok lead 0 36) (fun h3 => ?_) (fun h3 => ?_) <;> conv => cbv
        · have b3 := inB_spec h3
          refine r_addf m.sX (by omega) (by omega) fun r1 hr1 => ?_
          conv => cbv
          refine r_addf m.sX (by omega) (by omega) fun r2 hr2 => ?_
          conv => cbv
          refine r_addf m.sX (by omega) (by omega) fun r3 hr3 => ?_
          conv => cbv
          refine r_subf m.sX (by omega) (by omega) fun r4 hr4 => ?_
          conv => cbv
          refine r_addf m.sX (by omega) (by omega) fun r5 hr5 => ?_
          conv => cbv
          refine r_divf m.sX (by omega) (by omega) fun n hn bn => ?_
          conv => cbv
          have d0 : 0 ≤ n := by rw [hn]; exact Int.ediv_nonneg (by omega) (by omega)
          have d1 : n * r5 ≤ r4 := by rw [hn]; exact Int.ediv_mul_le r4 (by omega)
          have d2 := Int.mul_nonneg d0 (show 0 ≤ r5 by omega)
          refine r_addf m.sX (by omega) (by omega) fun r6 hr6 => ?_
          conv => cbv
          have e6 : r6 = r5 := by omega
          rw [← e6] at d1 d2
          refine r_mulf m.sX (by omega) (by omega) fun r7 hr7 => ?_
          conv => cbv
          refine r_subf m.sX (by omega) (by omega) fun r8 hr8 => ?_
          conv => cbv
          refine r_subf m.sX (by omega) (by omega) fun r9 hr9 => ?_
          conv => cbv
          exact hQ (.tup [.int .i64 n, .int .i64 r9, .bool true]) (Eq.trans (by first | rfl | (simp only [lb, lbI, rows_cons, rows_nil, unnilT, unnil, unnilTI, unnilI]; done) | (simp only [lb, lbI, rows_cons, rows_nil, unnilT, unnil, unnilTI, unnilI]; rfl)) (congrArg (iib) (show (n, r9, true) = iniAns size body lead from by rw [iniAns, h1, h2, h3, hr9, hr8, hr7, hn, hr6, hr5, hr4, hr3, hr2, hr1]; rfl)))   -- leaf 1
        · exact hQ (.tup [.int .i64 0, .int .i64 0, .bool false]) (Eq.trans (by first | rfl | (simp only [lb, lbI, rows_cons, rows_nil, unnilT, unnil, unnilTI, unnilI]; done) | (simp only [lb, lbI, rows_cons, rows_nil, unnilT, unnil, unnilTI, unnilI]; rfl)) (congrArg (iib) (show (0, 0, false) = iniAns size body lead from by rw [iniAns, h1, h2, h3]; rfl)))   -- leaf 2
      · exact hQ (.tup [.int .i64 0, .int .i64 0, .bool false]) (Eq.trans (by first | rfl | (simp only [lb, lbI, rows_cons, rows_nil, unnilT, unnil, unnilTI, unnilI]; done) | (simp only [lb, lbI, rows_cons, rows_nil, unnilT, unnil, unnilTI, unnilI]; rfl)) (congrArg (iib) (show (0, 0, false) = iniAns size body lead from by rw [iniAns, h1, h2]; rfl)))   -- leaf 3
    · exact hQ (.tup [.int .i64 0, .int .i64 0, .bool false]) (Eq.trans (by first | rfl | (simp only [lb, lbI, rows_cons, rows_nil, unnilT, unnil, unnilTI, unnilI]; done) | (simp only [lb, lbI, rows_cons, rows_nil, unnilT, unnil, unnilTI, unnilI]; rfl)) (congrArg (iib) (show (0, 0, false) = iniAns size body lead from by rw [iniAns, h1]; rfl)))   -- leaf 4

end Go.Proofs.Ytnanackogloioaa.Ai
