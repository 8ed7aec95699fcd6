/- Contracts behind FnCopies: the earliest state, mixed copies, counts. -/
import Derived.Test.YtifkjlpkhfldoaaCopy
namespace Go.Proofs.Ytifkjlpkhfldoaa.Ai
open Go Go.Proofs
set_option maxRecDepth 10000
set_option maxHeartbeats 4000000
set_option linter.unusedVariables false
theorem linesAns_len (l : List (List Tx)) (p : List Tx) : (linesAns l p).1.length ≤ 12 := by
  unfold linesAns
  split
  · rename_i h
    show (linesF l p).length ≤ 12
    rw [linesF_len]; exact (bothB_spec h).2.2
  · simp
theorem lines_yes {l : List (List Tx)} {p : List Tx} {zs : List Int} (h : (zs, true) = linesAns l p) : bothB l p = true ∧ zs = linesF l p := by
  unfold linesAns at h
  split at h
  · rename_i hc; exact ⟨hc, (Prod.mk.inj h).1⟩
  · cases (Prod.mk.inj h).2
theorem lines_no {l : List (List Tx)} {p : List Tx} {zs : List Int} (h : (zs, false) = linesAns l p) : bothB l p = false := by
  unfold linesAns at h
  split at h
  · cases (Prod.mk.inj h).2
  · rename_i hc; simpa using hc
theorem earl_yes {l : List (List Tx)} {p : List Tx} {v : Int} (h : (v, true) = earlAns l p) : (bothB l p && !decide (-1 ∈ linesF l p)) = true := by
  unfold earlAns at h
  split at h
  · rename_i hc; exact hc
  · cases (Prod.mk.inj h).2
theorem earl_no {l : List (List Tx)} {p : List Tx} {v : Int} (h : (v, false) = earlAns l p) : (bothB l p && !decide (-1 ∈ linesF l p)) = false := by
  unfold earlAns at h
  split at h
  · cases (Prod.mk.inj h).2
  · rename_i hc; exact Bool.eq_false_iff.2 hc
theorem statesB_small {l : List (List Tx)} (h : statesB l = true) : ∀ q ∈ l, q.length ≤ 1000000 := fun q hq => by
  have := proofB_len ((statesB_spec h).1 q hq).1
  omega
theorem copiesB_len {cs : List (List Tx)} (h : copiesB cs = true) : (∀ q ∈ cs, proofB q = true) ∧ cs.length ≤ 10 := by
  simp only [copiesB, Bool.and_eq_true, decide_eq_true_eq] at h
  exact ⟨fun q hq => List.all_eq_true.1 h.1 q hq, by omega⟩
def countT (l cs : List (List Tx)) (n : Nat) : List Int := (cs.take n).foldl (countS l) (List.replicate l.length 0)
theorem countT_step {l cs : List (List Tx)} {n : Nat} {c : List Tx} (h : cs[n]? = some c) : countT l cs (n + 1) = countS l (countT l cs n) c := by
  unfold countT
  rw [List.take_add_one, h, Option.toList_some, List.foldl_append]; rfl
theorem countT_all {l cs : List (List Tx)} {n : Nat} (h : cs.length ≤ n) : countT l cs n = countF l cs := by
  unfold countT countF; rw [List.take_of_length_le h]
theorem countS_pos {l : List (List Tx)} {zs : List Int} {c : List Tx} {i x : Int} (hi : i = stateF l c) (h0 : 0 ≤ i) (hx : zs[i.toNat]? = some x) : countS l zs c = zs.set i.toNat (x + 1) := by
  unfold countS
  rw [← hi, if_pos h0, List.getD_eq_getElem?_getD, hx]; rfl
theorem countS_neg {l : List (List Tx)} {zs : List Int} {c : List Tx} {i : Int} (hi : i = stateF l c) (h0 : i < 0) : countS l zs c = zs := by
  unfold countS
  rw [← hi, if_neg (by omega)]
theorem set_bd {zs : List Int} {k : Nat} {x n : Int} (h : ∀ z ∈ zs, 0 ≤ z ∧ z ≤ n) (hx : 0 ≤ x ∧ x ≤ n + 1) : ∀ z ∈ zs.set k x, 0 ≤ z ∧ z ≤ n + 1 := fun z hz => by
  rcases List.mem_or_eq_of_mem_set hz with hz | rfl
  · have := h z hz; omega
  · exact hx
theorem EarliestFor_ok (l : List (List (List UInt8))) (lines : List (List UInt8))  : OkA Try.prog 33 [.isl 1 (rows (cSl 1 cStr) l), .isl 1 (rows cStr lines)] (· = ib (earlAns l lines)) :=
  fn_intro envOk fieldsOk mixed Try.func33 rfl fun κ X Y L Q m hQ => by
    conv => cbv
    refine r_callF (lb 3 1 cInt) m.sX (StatesOfLines_ok l lines) fun v hlist => ?_
    obtain ⟨list, ok⟩ := v
    conv => cbv
    rcases Bool.eq_false_or_eq_true ok with rfl | rfl <;> conv => cbv
    · refine .inl (r_callBO m.sX ((hasNumber_ok list (-1)).ok flat_bool) (fun h1 => ?_) (fun h1 => ?_)) <;> conv => cbv
      · exact hQ (.tup [.int .i64 0, .bool false]) (Eq.trans (by first | rfl | (simp only [lb, lbI, rows_cons, rows_nil, unnilT, unnil, unnilTI, unnilI]; done) | (simp only [lb, lbI, rows_cons, rows_nil, unnilT, unnil, unnilTI, unnilI]; rfl)) (congrArg (ib) (show (0, false) = earlAns l lines from by rw [earlAns, (lines_yes hlist).1, ← (lines_yes hlist).2, h1]; rfl)))   -- leaf 1
      · refine .inl (r_callFO intPV m.sX ((greatest_ok list).ok flat_int) fun r1 hr1 => ?_)
        conv => cbv
        exact hQ (.tup [.int .i64 r1, .bool true]) (Eq.trans (by first | rfl | (simp only [lb, lbI, rows_cons, rows_nil, unnilT, unnil, unnilTI, unnilI]; done) | (simp only [lb, lbI, rows_cons, rows_nil, unnilT, unnil, unnilTI, unnilI]; rfl)) (congrArg (ib) (show (r1, true) = earlAns l lines from by rw [earlAns, (lines_yes hlist).1, ← (lines_yes hlist).2, h1, hr1]; rfl)))   -- leaf 2
    · exact hQ (.tup [.int .i64 0, .bool false]) (Eq.trans (by first | rfl | (simp only [lb, lbI, rows_cons, rows_nil, unnilT, unnil, unnilTI, unnilI]; done) | (simp only [lb, lbI, rows_cons, rows_nil, unnilT, unnil, unnilTI, unnilI]; rfl)) (congrArg (ib) (show (0, false) = earlAns l lines from by rw [earlAns, lines_no hlist]; rfl)))   -- leaf 3

theorem specEarliestFor_ok (l : List (List (List UInt8))) (lines : List (List UInt8))  : OkA Try.prog 34 [.isl 1 (rows (cSl 1 cStr) l), .isl 1 (rows cStr lines)] (· = ib (earlAns l lines)) :=
  fn_intro envOk fieldsOk mixed Try.func34 rfl fun κ X Y L Q m hQ => by
    conv => cbv
    refine r_callB m.sX (rvBoth_ok l lines) (fun h1 => ?_) (fun h1 => ?_) <;> conv => cbv
    · obtain ⟨w1, w2, w3⟩ := bothB_spec h1
      refine r_callF (fun l => PV.fr _ _ (rows _ l)) m.sX (rvLines_ok l lines (by first | rfl | assumption | omega | (simp only [List.length_append, List.length_cons, List.length_nil] at *; omega)) (by first | rfl | assumption | omega | (simp only [List.length_append, List.length_cons, List.length_nil] at *; omega)) (by first | rfl | assumption | omega | (simp only [List.length_append, List.length_cons, List.length_nil] at *; omega))) fun v1 hv1 => ?_
      conv => cbv
      refine r_lenR m.sX fun n1 hn1 mn1 => ?_
      conv => cbv
      refine r_loopF (α := Int × Int) m 28 [6, 16, 17] [⟨15, 121, 3, 1, 0⟩] (fun σ => [(6, .int .i64 σ.1), (15, .osl 121 0), (16, .int .i64 n1), (17, .int .i64 σ.2)]) (fun σ => [(121, 0, .row 3 1 (rows cInt v1))])
        (fun σ => (0 ≤ σ.2) ∧ (σ.2 ≤ n1) ∧ (σ.1 = maxL (v1.take σ.2.toNat)) ∧ (∀ z ∈ v1.take σ.2.toNat, 0 ≤ z)) (fun σ => (n1 - σ.2).toNat) (0, 0) ?_ ?_ ?_ ?_
      · cbv
      · cbv
      · exact ⟨(by (try dsimp only); first | omega | (simp only [List.length_nil]; omega) | (simp only [List.length_cons, List.length_nil]; omega)), (by (try dsimp only); first | omega | (simp only [List.length_nil]; omega) | (simp only [List.length_cons, List.length_nil]; omega)), (by (try dsimp only) <;> (rfl)), (by (try dsimp only) <;> (intro z hz; simp at hz))⟩
      rintro ⟨most, i1⟩ ⟨lo1, hi1, q, np⟩ E hE F hF
      dsimp only at lo1 hi1 q np
      conv => cbv
      refine r_lss m.sX (fun h2 => ?_) (fun h2 => ?_) <;> conv => cbv
      · refine r_oindex m.sX (by omega) (by omega) ?_
        conv => cbv
        obtain ⟨i, hi⟩ := get_ex (xs := v1) (i := Int.toNat i1) (by omega)
        have mi := get_mem hi
        have di := drop_cons hi
        have ki := take_snoc hi
        have ji : (i1 + 1).toNat = Int.toNat i1 + 1 := by omega
        have vi := nth_some hi
        refine r_oload m.sX hi (Nat.le_of_ble_eq_true rfl) ?_
        conv => cbv
        refine r_lss m.sX (fun h3 => ?_) (fun h3 => ?_) <;> conv => cbv
        · refine hF _ _ ?_
          conv => cbv
          exact hQ (.tup [.int .i64 0, .bool false]) (Eq.trans (by first | rfl | (simp only [lb, lbI, rows_cons, rows_nil, unnilT, unnil, unnilTI, unnilI]; done) | (simp only [lb, lbI, rows_cons, rows_nil, unnilT, unnil, unnilTI, unnilI]; rfl)) (congrArg (ib) (show (0, false) = earlAns l lines from by rw [earlAns, h1, ← hv1, decide_eq_true (show -1 ∈ v1 from by have e := linesF_in l lines i (by rw [← hv1]; exact mi); have e2 : i = -1 := (by omega); rw [← e2]; exact mi)]; rfl)))   -- leaf 1
        · refine r_callF (PV.int .i64) m.sX (l1Most_ok most i) fun most_2 hmost_2 => ?_
          conv => cbv
          refine r_addf m.sX (by omega) (by omega) fun r1 hr1 => ?_
          conv => cbv
          try have tr1 : Int.toNat r1 = Int.toNat i1 + 1 := by omega
          refine hE _ (most_2, r1) ?_ ?_ ⟨(by (try dsimp only); first | omega | (simp only [List.length_nil]; omega) | (simp only [List.length_cons, List.length_nil]; omega)), (by (try dsimp only); first | omega | (simp only [List.length_nil]; omega) | (simp only [List.length_cons, List.length_nil]; omega)), (by (try dsimp only) <;> (rw [hmost_2, q, tr1, maxL_take hi])), (by (try dsimp only) <;> (intro z hz; rw [tr1, List.take_add_one, hi] at hz; simp only [Option.toList_some, List.mem_append, List.mem_singleton] at hz; rcases hz with hz | hz; (exact np z hz); omega))⟩ (by first | omega | (dsimp only; omega))
          · cbv
          · cbv
      · have dz_i1 := drop_end (xs := v1) (i := Int.toNat i1) (by omega)
        have tz_i1 := take_end (xs := v1) (i := Int.toNat i1) (by omega)
        refine hF _ _ ?_
        conv => cbv
        exact hQ (.tup [.int .i64 most, .bool true]) (Eq.trans (by first | rfl | (simp only [lb, lbI, rows_cons, rows_nil, unnilT, unnil, unnilTI, unnilI]; done) | (simp only [lb, lbI, rows_cons, rows_nil, unnilT, unnil, unnilTI, unnilI]; rfl)) (congrArg (ib) (show (most, true) = earlAns l lines from by rw [earlAns, h1, ← hv1, decide_eq_false (show ¬ (-1 ∈ v1) from fun hm => by rw [tz_i1] at np; have := np _ hm; omega), q, tz_i1]; rfl)))   -- leaf 2
    · exact hQ (.tup [.int .i64 0, .bool false]) (Eq.trans (by first | rfl | (simp only [lb, lbI, rows_cons, rows_nil, unnilT, unnil, unnilTI, unnilI]; done) | (simp only [lb, lbI, rows_cons, rows_nil, unnilT, unnil, unnilTI, unnilI]; rfl)) (congrArg (ib) (show (0, false) = earlAns l lines from by rw [earlAns, h1]; rfl)))   -- leaf 3

theorem IsMixedCopy_ok (l : List (List (List UInt8))) (lines : List (List UInt8))  : OkA Try.prog 37 [.isl 1 (rows (cSl 1 cStr) l), .isl 1 (rows cStr lines)] (· = bb (mixAns l lines)) :=
  fn_intro envOk fieldsOk mixed Try.func37 rfl fun κ X Y L Q m hQ => by
    conv => cbv
    refine r_callB m.sX (isCopyOf_ok l lines) (fun h1 => ?_) (fun h1 => ?_) <;> conv => cbv
    · have hw := copyB_small h1
      refine r_callF ib m.sX (EarliestFor_ok l lines) fun v hv1 => ?_
      obtain ⟨v1, ok⟩ := v
      conv => cbv
      rcases Bool.eq_false_or_eq_true ok with rfl | rfl <;> conv => cbv
      · refine r_callF (PV.int .i64) m.sX (stateOf_ok l lines (by first | rfl | assumption | omega | (simp only [List.length_append, List.length_cons, List.length_nil] at *; omega))) fun r1 hr1 => ?_
        conv => cbv
        refine r_lss m.sX (fun h2 => ?_) (fun h2 => ?_) <;> conv => cbv
        · exact hQ (.tup [.bool true, .bool true]) (Eq.trans (by first | rfl | (simp only [lb, lbI, rows_cons, rows_nil, unnilT, unnil, unnilTI, unnilI]; done) | (simp only [lb, lbI, rows_cons, rows_nil, unnilT, unnil, unnilTI, unnilI]; rfl)) (congrArg (bb) (show (true, true) = mixAns l lines from by rw [mixAns, if_pos h1, earl_yes hv1, ← hr1, decide_eq_true h2]; rfl)))   -- leaf 1
        · exact hQ (.tup [.bool false, .bool true]) (Eq.trans (by first | rfl | (simp only [lb, lbI, rows_cons, rows_nil, unnilT, unnil, unnilTI, unnilI]; done) | (simp only [lb, lbI, rows_cons, rows_nil, unnilT, unnil, unnilTI, unnilI]; rfl)) (congrArg (bb) (show (false, true) = mixAns l lines from by rw [mixAns, if_pos h1, earl_yes hv1, ← hr1, decide_eq_false (show ¬ r1 < 0 by omega)]; rfl)))   -- leaf 2
      · exact hQ (.tup [.bool false, .bool true]) (Eq.trans (by first | rfl | (simp only [lb, lbI, rows_cons, rows_nil, unnilT, unnil, unnilTI, unnilI]; done) | (simp only [lb, lbI, rows_cons, rows_nil, unnilT, unnil, unnilTI, unnilI]; rfl)) (congrArg (bb) (show (false, true) = mixAns l lines from by rw [mixAns, if_pos h1, earl_no hv1]; rfl)))   -- leaf 3
    · exact hQ (.tup [.bool false, .bool false]) (Eq.trans (by first | rfl | (simp only [lb, lbI, rows_cons, rows_nil, unnilT, unnil, unnilTI, unnilI]; done) | (simp only [lb, lbI, rows_cons, rows_nil, unnilT, unnil, unnilTI, unnilI]; rfl)) (congrArg (bb) (show (false, false) = mixAns l lines from by rw [mixAns, if_neg (by rw [h1]; simp)])))   -- leaf 4

theorem specIsMixedCopy_ok (l : List (List (List UInt8))) (lines : List (List UInt8))  : OkA Try.prog 38 [.isl 1 (rows (cSl 1 cStr) l), .isl 1 (rows cStr lines)] (· = bb (mixAns l lines)) :=
  fn_intro envOk fieldsOk mixed Try.func38 rfl fun κ X Y L Q m hQ => by
    conv => cbv
    refine r_callB m.sX (rvGood_ok l) (fun h1 => ?_) (fun h1 => ?_) <;> conv => cbv
    · refine r_callB m.sX (pfGood_ok lines) (fun h2 => ?_) (fun h2 => ?_) <;> conv => cbv
      · have cb : copyB l lines = true := (by rw [copyB, h1, h2]; rfl)
        have sl := (copyB_spec cb).2.1
        refine r_lenR m.sX fun n1 hn1 mn1 => ?_
        conv => cbv
        refine r_index m.sX (by omega) (by omega) fun x1 hx1 => ?_
        conv => cbv
        have mx1 := get_mem hx1
        have hl := headLen_some hx1
        refine r_lenR m.sX fun n2 hn2 mn2 => ?_
        conv => cbv
        refine r_neq m.sX (fun h3 => ?_) (fun h3 => ?_) <;> conv => cbv
        · exact hQ (.tup [.bool false, .bool true]) (Eq.trans (by first | rfl | (simp only [lb, lbI, rows_cons, rows_nil, unnilT, unnil, unnilTI, unnilI]; done) | (simp only [lb, lbI, rows_cons, rows_nil, unnilT, unnil, unnilTI, unnilI]; rfl)) (congrArg (bb) (show (false, true) = mixAns l lines from by rw [mixAns, if_pos cb, bothB, cb, decide_eq_false (show ¬ (lines.length : Int) = headLen l by omega)]; rfl)))   -- leaf 1
        · refine r_callF (PV.int .i64) m.sX (rvState_ok l lines) fun r1 hr1 => ?_
          conv => cbv
          refine r_geq m.sX (fun h4 => ?_) (fun h4 => ?_) <;> conv => cbv
          · exact hQ (.tup [.bool false, .bool true]) (Eq.trans (by first | rfl | (simp only [lb, lbI, rows_cons, rows_nil, unnilT, unnil, unnilTI, unnilI]; done) | (simp only [lb, lbI, rows_cons, rows_nil, unnilT, unnil, unnilTI, unnilI]; rfl)) (congrArg (bb) (show (false, true) = mixAns l lines from by rw [mixAns, if_pos cb, ← hr1, decide_eq_false (show ¬ r1 < 0 by omega), Bool.and_false])))   -- leaf 2
          · have bo : bothB l lines = true := (by rw [bothB, cb, decide_eq_true (show (lines.length : Int) = headLen l by omega)]; rfl)
            obtain ⟨w1, w2, w3⟩ := bothB_spec bo
            refine r_callF (fun l => PV.fr _ _ (rows _ l)) m.sX (rvLines_ok l lines (by first | rfl | assumption | omega | (simp only [List.length_append, List.length_cons, List.length_nil] at *; omega)) (by first | rfl | assumption | omega | (simp only [List.length_append, List.length_cons, List.length_nil] at *; omega)) (by first | rfl | assumption | omega | (simp only [List.length_append, List.length_cons, List.length_nil] at *; omega))) fun v1 hv1 => ?_
            conv => cbv
            refine .inl (r_callBO m.sX ((l1Has_ok v1 (-1)).ok flat_bool) (fun h5 => ?_) (fun h5 => ?_)) <;> conv => cbv
            · exact hQ (.tup [.bool false, .bool true]) (Eq.trans (by first | rfl | (simp only [lb, lbI, rows_cons, rows_nil, unnilT, unnil, unnilTI, unnilI]; done) | (simp only [lb, lbI, rows_cons, rows_nil, unnilT, unnil, unnilTI, unnilI]; rfl)) (congrArg (bb) (show (false, true) = mixAns l lines from by rw [mixAns, if_pos cb, bo, ← hv1, h5]; rfl)))   -- leaf 3
            · exact hQ (.tup [.bool true, .bool true]) (Eq.trans (by first | rfl | (simp only [lb, lbI, rows_cons, rows_nil, unnilT, unnil, unnilTI, unnilI]; done) | (simp only [lb, lbI, rows_cons, rows_nil, unnilT, unnil, unnilTI, unnilI]; rfl)) (congrArg (bb) (show (true, true) = mixAns l lines from by rw [mixAns, if_pos cb, bo, ← hv1, h5, ← hr1, decide_eq_true (show r1 < 0 by omega)]; rfl)))   -- leaf 4
      · exact hQ (.tup [.bool false, .bool false]) (Eq.trans (by first | rfl | (simp only [lb, lbI, rows_cons, rows_nil, unnilT, unnil, unnilTI, unnilI]; done) | (simp only [lb, lbI, rows_cons, rows_nil, unnilT, unnil, unnilTI, unnilI]; rfl)) (congrArg (bb) (show (false, false) = mixAns l lines from by rw [mixAns, copyB, h1, h2]; rfl)))   -- leaf 5
    · exact hQ (.tup [.bool false, .bool false]) (Eq.trans (by first | rfl | (simp only [lb, lbI, rows_cons, rows_nil, unnilT, unnil, unnilTI, unnilI]; done) | (simp only [lb, lbI, rows_cons, rows_nil, unnilT, unnil, unnilTI, unnilI]; rfl)) (congrArg (bb) (show (false, false) = mixAns l lines from by rw [mixAns, copyB, h1]; rfl)))   -- leaf 6

theorem areCopies_ok (copies : List (List (List UInt8)))  : OkA Try.prog 113 [.isl 1 (rows (cSl 1 cStr) copies)] (· = .bool (copiesB copies)) :=
  fn_intro envOk fieldsOk mixed Try.func113 rfl fun κ X Y L Q m hQ => by
    conv => cbv
    refine r_lenR m.sX fun n1 hn1 mn1 => ?_
    conv => cbv
    refine r_loopF (α := Int) m 18 [0, 5, 6, 7] [] (fun σ => [(0, .isl 1 (rows (cSl 1 cStr) copies)), (5, .isl 1 (rows (cSl 1 cStr) copies)), (6, .int .i64 n1), (7, .int .i64 σ)]) (fun σ => [])
      (fun σ => (0 ≤ σ) ∧ (σ ≤ n1) ∧ (copies.all proofB = (copies.drop σ.toNat).all proofB)) (fun σ => (n1 - σ).toNat) 0 ?_ ?_ ?_ ?_
    · cbv
    · cbv
    · exact ⟨(by (try dsimp only); first | omega | (simp only [List.length_nil]; omega) | (simp only [List.length_cons, List.length_nil]; omega)), (by (try dsimp only); first | omega | (simp only [List.length_nil]; omega) | (simp only [List.length_cons, List.length_nil]; omega)), (by (try dsimp only) <;> (rfl))⟩
    rintro i1 ⟨lo1, hi1, q⟩ E hE F hF
    conv => cbv
    refine r_lss m.sX (fun h1 => ?_) (fun h1 => ?_) <;> conv => cbv
    · refine r_index m.sX (by omega) (by omega) fun c hc => ?_
      conv => cbv
      have mc := get_mem hc
      have dc := drop_cons hc
      have kc := take_snoc hc
      have jc : (i1 + 1).toNat = Int.toNat i1 + 1 := by omega
      refine r_callB m.sX (IsProof_ok c) (fun h2 => ?_) (fun h2 => ?_) <;> conv => cbv
      · refine r_addf m.sX (by omega) (by omega) fun r1 hr1 => ?_
        conv => cbv
        try have tr1 : Int.toNat r1 = Int.toNat i1 + 1 := by omega
        refine hE _ r1 ?_ ?_ ⟨(by (try dsimp only); first | omega | (simp only [List.length_nil]; omega) | (simp only [List.length_cons, List.length_nil]; omega)), (by (try dsimp only); first | omega | (simp only [List.length_nil]; omega) | (simp only [List.length_cons, List.length_nil]; omega)), (by (try dsimp only) <;> (rw [q, allP_drop hc, h2, Bool.true_and, tr1]))⟩ (by first | omega | (dsimp only; omega))
        · cbv
        · cbv
      · refine hF _ _ ?_
        conv => cbv
        exact hQ _ (congrArg PV.bool (by rw [copiesB, q, allP_drop hc, h2]; rfl))   -- leaf 1
    · have dz_i1 := drop_end (xs := copies) (i := Int.toNat i1) (by omega)
      have tz_i1 := take_end (xs := copies) (i := Int.toNat i1) (by omega)
      refine hF _ _ ?_
      conv => cbv
      refine r_lenR m.sX fun n2 hn2 mn2 => ?_
      conv => cbv
      refine r_leq m.sX (fun h3 => ?_) (fun h3 => ?_) <;> conv => cbv
      · exact hQ _ (congrArg PV.bool (by rw [copiesB, q, dz_i1, decide_eq_true (by omega)]; rfl))   -- leaf 2
      · exact hQ _ (congrArg PV.bool (by rw [copiesB, q, dz_i1, decide_eq_false (by omega)]; rfl))   -- leaf 3

theorem rvCopies_ok (copies : List (List (List UInt8)))  : OkA Try.prog 114 [.isl 1 (rows (cSl 1 cStr) copies)] (· = .bool (copiesB copies)) :=
  fn_intro envOk fieldsOk mixed Try.func114 rfl fun κ X Y L Q m hQ => by
    conv => cbv
    refine r_lenR m.sX fun n1 hn1 mn1 => ?_
    conv => cbv
    refine r_loopF (α := Int) m 18 [0, 5, 6, 7] [] (fun σ => [(0, .isl 1 (rows (cSl 1 cStr) copies)), (5, .isl 1 (rows (cSl 1 cStr) copies)), (6, .int .i64 n1), (7, .int .i64 σ)]) (fun σ => [])
      (fun σ => (0 ≤ σ) ∧ (σ ≤ n1) ∧ (copies.all proofB = (copies.drop σ.toNat).all proofB)) (fun σ => (n1 - σ).toNat) 0 ?_ ?_ ?_ ?_
    · cbv
    · cbv
    · exact ⟨(by (try dsimp only); first | omega | (simp only [List.length_nil]; omega) | (simp only [List.length_cons, List.length_nil]; omega)), (by (try dsimp only); first | omega | (simp only [List.length_nil]; omega) | (simp only [List.length_cons, List.length_nil]; omega)), (by (try dsimp only) <;> (rfl))⟩
    rintro i1 ⟨lo1, hi1, q⟩ E hE F hF
    conv => cbv
    refine r_lss m.sX (fun h1 => ?_) (fun h1 => ?_) <;> conv => cbv
    · refine r_index m.sX (by omega) (by omega) fun lines hlines => ?_
      conv => cbv
      have mlines := get_mem hlines
      have dlines := drop_cons hlines
      have klines := take_snoc hlines
      have jlines : (i1 + 1).toNat = Int.toNat i1 + 1 := by omega
      refine r_callB m.sX (pfGood_ok lines) (fun h2 => ?_) (fun h2 => ?_) <;> conv => cbv
      · refine r_addf m.sX (by omega) (by omega) fun r1 hr1 => ?_
        conv => cbv
        try have tr1 : Int.toNat r1 = Int.toNat i1 + 1 := by omega
        refine hE _ r1 ?_ ?_ ⟨(by (try dsimp only); first | omega | (simp only [List.length_nil]; omega) | (simp only [List.length_cons, List.length_nil]; omega)), (by (try dsimp only); first | omega | (simp only [List.length_nil]; omega) | (simp only [List.length_cons, List.length_nil]; omega)), (by (try dsimp only) <;> (rw [q, allP_drop hlines, h2, Bool.true_and, tr1]))⟩ (by first | omega | (dsimp only; omega))
        · cbv
        · cbv
      · refine hF _ _ ?_
        conv => cbv
        exact hQ _ (congrArg PV.bool (by rw [copiesB, q, allP_drop hlines, h2]; rfl))   -- leaf 1
    · have dz_i1 := drop_end (xs := copies) (i := Int.toNat i1) (by omega)
      have tz_i1 := take_end (xs := copies) (i := Int.toNat i1) (by omega)
      refine hF _ _ ?_
      conv => cbv
      refine r_lenR m.sX fun n2 hn2 mn2 => ?_
      conv => cbv
      refine r_leq m.sX (fun h3 => ?_) (fun h3 => ?_) <;> conv => cbv
      · exact hQ _ (congrArg PV.bool (by rw [copiesB, q, dz_i1, decide_eq_true (by omega)]; rfl))   -- leaf 2
      · exact hQ _ (congrArg PV.bool (by rw [copiesB, q, dz_i1, decide_eq_false (by omega)]; rfl))   -- leaf 3

theorem CountInState_ok (l : List (List (List UInt8))) (copies : List (List (List UInt8)))  : OkA Try.prog 41 [.isl 1 (rows (cSl 1 cStr) l), .isl 1 (rows (cSl 1 cStr) copies)] (· = (lb 3 1 cInt) (countAns l copies)) :=
  OkA.unnil 3 1 (fn_intro envOk fieldsOk mixed Try.func41 rfl fun κ X Y L Q m hQ => by
    conv => cbv
    refine r_callB m.sX (AreStates_ok l) (fun h1 => ?_) (fun h1 => ?_) <;> conv => cbv
    · have hw := statesB_small h1
      have hsl := (statesB_spec h1).2
      refine r_callB m.sX (areCopies_ok copies) (fun h2 => ?_) (fun h2 => ?_) <;> conv => cbv
      · have hcl := copiesB_len h2
        refine r_lenR m.sX fun n1 hn1 mn1 => ?_
        conv => cbv
        refine r_make cInt 0 m.sX rfl (by omega) (by omega) (by dsimp only; omega) (by omega) fun counts hcounts => ?_   -- counts = replicate n1
        have lcounts : (counts.length : Int) = n1 := by rw [hcounts]; first | done | (simp; done) | (simp; omega)
        conv => cbv
        refine r_lenR m.sX fun n2 hn2 mn2 => ?_
        conv => cbv
        refine r_loopF (α := List Int × Int) m 41 [0, 22, 23, 24] [⟨6, 49, 3, 1, 0⟩] (fun σ => [(0, .isl 1 (rows (cSl 1 cStr) l)), (6, .osl 49 0), (22, .isl 1 (rows (cSl 1 cStr) copies)), (23, .int .i64 n2), (24, .int .i64 σ.2)]) (fun σ => [(49, 0, .row 3 1 (rows cInt σ.1))])
          (fun σ => (0 ≤ σ.2) ∧ (σ.2 ≤ n2) ∧ (σ.1 = countT l copies σ.2.toNat) ∧ ((σ.1.length : Int) = l.length) ∧ (∀ z ∈ σ.1, 0 ≤ z ∧ z ≤ σ.2)) (fun σ => (n2 - σ.2).toNat) (counts, 0) ?_ ?_ ?_ ?_
        · cbv
        · cbv
        · exact ⟨(by (try dsimp only); first | omega | (simp only [List.length_nil]; omega) | (simp only [List.length_cons, List.length_nil]; omega)), (by (try dsimp only); first | omega | (simp only [List.length_nil]; omega) | (simp only [List.length_cons, List.length_nil]; omega)), (by (try dsimp only) <;> (rw [hcounts, show n1.toNat = l.length by omega]; rfl)), (by (try dsimp only) <;> first | omega | rfl | (simp [*]; done)), (by (try dsimp only) <;> (intro z hz; rw [hcounts] at hz; have := List.eq_of_mem_replicate hz; omega))⟩
        rintro ⟨counts_2, i1⟩ ⟨lo1, hi1, q, ll, bd⟩ E hE F hF
        dsimp only at lo1 hi1 q ll bd
        conv => cbv
        refine r_lss m.sX (fun h3 => ?_) (fun h3 => ?_) <;> conv => cbv
        · refine r_index m.sX (by omega) (by omega) fun c hc => ?_
          conv => cbv
          have mc := get_mem hc
          have dc := drop_cons hc
          have kc := take_snoc hc
          have jc : (i1 + 1).toNat = Int.toNat i1 + 1 := by omega
          refine r_callF (PV.int .i64) m.sX (stateOf_ok l c (by first | rfl | assumption | omega | (simp only [List.length_append, List.length_cons, List.length_nil] at *; omega))) fun i hi => ?_
          conv => cbv
          have ib := stateF_in l c
          refine r_geq m.sX (fun h4 => ?_) (fun h4 => ?_) <;> conv => cbv
          · refine r_oindex m.sX (by omega) (by omega) ?_
            conv => cbv
            obtain ⟨x1, hx1⟩ := get_ex (xs := counts_2) (i := Int.toNat i) (by omega)
            have mx1 := get_mem hx1
            have vx1 := nth_some hx1
            have bx := bd x1 mx1
            refine r_oload m.sX hx1 (Nat.le_of_ble_eq_true rfl) ?_
            conv => cbv
            refine r_addf m.sX (by omega) (by omega) fun r1 hr1 => ?_
            conv => cbv
            refine r_oindex m.sX (by omega) (by omega) ?_
            conv => cbv
            obtain ⟨y1, hy1⟩ := get_ex (xs := counts_2) (i := Int.toNat i) (by omega)
            refine r_ostore (l := Int.toNat i) r1 m.sX hy1 (Nat.le_of_ble_eq_true rfl) rfl fun counts_3 hcounts_3 => ?_   -- counts_3 = counts_2.set i r1
            have lcounts_3 : (counts_3.length : Int) = counts_2.length := by rw [hcounts_3]; first | done | (simp; done) | (simp; omega)
            conv => cbv
            refine r_addf m.sX (by omega) (by omega) fun r2 hr2 => ?_
            conv => cbv
            try have tr2 : Int.toNat r2 = Int.toNat i1 + 1 := by omega
            refine hE _ (counts_3, r2) ?_ ?_ ⟨(by (try dsimp only); first | omega | (simp only [List.length_nil]; omega) | (simp only [List.length_cons, List.length_nil]; omega)), (by (try dsimp only); first | omega | (simp only [List.length_nil]; omega) | (simp only [List.length_cons, List.length_nil]; omega)), (by (try dsimp only) <;> (first | (rw [hcounts_3, tr2, countT_step hc, ← q, countS_pos hi (by omega) hx1]; simp [*]; done) | (rw [tr2, countT_step hc, ← q, countS_neg hi (by omega)]; done))), (by (try dsimp only) <;> first | omega | rfl | (simp [*]; done) | (rw [ll]; simp [*]; done)), (by (try dsimp only) <;> (first | (rw [hcounts_3, show r2 = i1 + 1 by omega]; exact set_bd bd (by omega)) | (intro z hz; have := bd z hz; omega)))⟩ (by first | omega | (dsimp only; omega))
            · cbv
            · cbv
          · refine r_addf m.sX (by omega) (by omega) fun r3 hr3 => ?_
            conv => cbv
            try have tr3 : Int.toNat r3 = Int.toNat i1 + 1 := by omega
            refine hE _ (counts_2, r3) ?_ ?_ ⟨(by (try dsimp only); first | omega | (simp only [List.length_nil]; omega) | (simp only [List.length_cons, List.length_nil]; omega)), (by (try dsimp only); first | omega | (simp only [List.length_nil]; omega) | (simp only [List.length_cons, List.length_nil]; omega)), (by (try dsimp only) <;> (first | (rw [hcounts_3, tr3, countT_step hc, ← q, countS_pos hi (by omega) hx1]; simp [*]; done) | (rw [tr3, countT_step hc, ← q, countS_neg hi (by omega)]; done))), (by (try dsimp only) <;> first | omega | rfl | (simp [*]; done) | (rw [ll]; simp [*]; done)), (by (try dsimp only) <;> (first | (rw [hcounts_3, show r3 = i1 + 1 by omega]; exact set_bd bd (by omega)) | (intro z hz; have := bd z hz; omega)))⟩ (by first | omega | (dsimp only; omega))
            · cbv
            · cbv
        · have dz_i1 := drop_end (xs := copies) (i := Int.toNat i1) (by omega)
          have tz_i1 := take_end (xs := copies) (i := Int.toNat i1) (by omega)
          refine hF _ _ ?_
          conv => cbv
          exact hQ (.tup [.fr 3 1 (rows cInt counts_2), .bool true]) (Eq.trans (by first | rfl | (simp only [lb, lbI, rows_cons, rows_nil, unnilT, unnil, unnilTI, unnilI]; done) | (simp only [lb, lbI, rows_cons, rows_nil, unnilT, unnil, unnilTI, unnilI]; rfl)) (congrArg ((lb 3 1 cInt)) (show (counts_2, true) = countAns l copies from by rw [countAns, h1, h2, q, countT_all (by omega)]; rfl)))   -- leaf 1
      · exact hQ (.tup [.fr 3 1 [], .bool false]) (Eq.trans (by first | rfl | (simp only [lb, lbI, rows_cons, rows_nil, unnilT, unnil, unnilTI, unnilI]; done) | (simp only [lb, lbI, rows_cons, rows_nil, unnilT, unnil, unnilTI, unnilI]; rfl)) (congrArg ((lb 3 1 cInt)) (show ([], false) = countAns l copies from by rw [countAns, h1, h2]; rfl)))   -- leaf 2
    · exact hQ (.tup [.fr 3 1 [], .bool false]) (Eq.trans (by first | rfl | (simp only [lb, lbI, rows_cons, rows_nil, unnilT, unnil, unnilTI, unnilI]; done) | (simp only [lb, lbI, rows_cons, rows_nil, unnilT, unnil, unnilTI, unnilI]; rfl)) (congrArg ((lb 3 1 cInt)) (show ([], false) = countAns l copies from by rw [countAns, h1]; rfl))))   -- leaf 3

theorem specCountInState_ok (l : List (List (List UInt8))) (copies : List (List (List UInt8)))  : OkA Try.prog 42 [.isl 1 (rows (cSl 1 cStr) l), .isl 1 (rows (cSl 1 cStr) copies)] (· = (lb 3 1 cInt) (countAns l copies)) :=
  OkA.unnil 3 1 (fn_intro envOk fieldsOk mixed Try.func42 rfl fun κ X Y L Q m hQ => by
    conv => cbv
    refine r_callB m.sX (rvGood_ok l) (fun h1 => ?_) (fun h1 => ?_) <;> conv => cbv
    · have hw := statesB_small h1
      have hsl := (statesB_spec h1).2
      refine r_callB m.sX (rvCopies_ok copies) (fun h2 => ?_) (fun h2 => ?_) <;> conv => cbv
      · have hcl := copiesB_len h2
        refine r_lenR m.sX fun n1 hn1 mn1 => ?_
        conv => cbv
        refine r_make cInt 0 m.sX rfl (by omega) (by omega) (by dsimp only; omega) (by omega) fun out hout => ?_   -- out = replicate n1
        have lout : (out.length : Int) = n1 := by rw [hout]; first | done | (simp; done) | (simp; omega)
        conv => cbv
        refine r_lenR m.sX fun n2 hn2 mn2 => ?_
        conv => cbv
        refine r_loopF (α := List Int × Int) m 40 [0, 21, 22, 23] [⟨6, 49, 3, 1, 0⟩] (fun σ => [(0, .isl 1 (rows (cSl 1 cStr) l)), (6, .osl 49 0), (21, .isl 1 (rows (cSl 1 cStr) copies)), (22, .int .i64 n2), (23, .int .i64 σ.2)]) (fun σ => [(49, 0, .row 3 1 (rows cInt σ.1))])
          (fun σ => (0 ≤ σ.2) ∧ (σ.2 ≤ n2) ∧ (σ.1 = countT l copies σ.2.toNat) ∧ ((σ.1.length : Int) = l.length) ∧ (∀ z ∈ σ.1, 0 ≤ z ∧ z ≤ σ.2)) (fun σ => (n2 - σ.2).toNat) (out, 0) ?_ ?_ ?_ ?_
        · cbv
        · cbv
        · exact ⟨(by (try dsimp only); first | omega | (simp only [List.length_nil]; omega) | (simp only [List.length_cons, List.length_nil]; omega)), (by (try dsimp only); first | omega | (simp only [List.length_nil]; omega) | (simp only [List.length_cons, List.length_nil]; omega)), (by (try dsimp only) <;> (rw [hout, show n1.toNat = l.length by omega]; rfl)), (by (try dsimp only) <;> first | omega | rfl | (simp [*]; done)), (by (try dsimp only) <;> (intro z hz; rw [hout] at hz; have := List.eq_of_mem_replicate hz; omega))⟩
        rintro ⟨out_2, i1⟩ ⟨lo1, hi1, q, ll, bd⟩ E hE F hF
        dsimp only at lo1 hi1 q ll bd
        conv => cbv
        refine r_lss m.sX (fun h3 => ?_) (fun h3 => ?_) <;> conv => cbv
        · refine r_index m.sX (by omega) (by omega) fun lines hlines => ?_
          conv => cbv
          have mlines := get_mem hlines
          have dlines := drop_cons hlines
          have klines := take_snoc hlines
          have jlines : (i1 + 1).toNat = Int.toNat i1 + 1 := by omega
          refine r_callF (PV.int .i64) m.sX (rvState_ok l lines) fun i hi => ?_
          conv => cbv
          have ib := stateF_in l lines
          refine r_geq m.sX (fun h4 => ?_) (fun h4 => ?_) <;> conv => cbv
          · refine r_oindex m.sX (by omega) (by omega) ?_
            conv => cbv
            obtain ⟨x1, hx1⟩ := get_ex (xs := out_2) (i := Int.toNat i) (by omega)
            have mx1 := get_mem hx1
            have vx1 := nth_some hx1
            have bx := bd x1 mx1
            refine r_oload m.sX hx1 (Nat.le_of_ble_eq_true rfl) ?_
            conv => cbv
            refine r_addf m.sX (by omega) (by omega) fun r1 hr1 => ?_
            conv => cbv
            refine r_oindex m.sX (by omega) (by omega) ?_
            conv => cbv
            obtain ⟨y1, hy1⟩ := get_ex (xs := out_2) (i := Int.toNat i) (by omega)
            refine r_ostore (l := Int.toNat i) r1 m.sX hy1 (Nat.le_of_ble_eq_true rfl) rfl fun out_3 hout_3 => ?_   -- out_3 = out_2.set i r1
            have lout_3 : (out_3.length : Int) = out_2.length := by rw [hout_3]; first | done | (simp; done) | (simp; omega)
            conv => cbv
            refine r_addf m.sX (by omega) (by omega) fun r2 hr2 => ?_
            conv => cbv
            try have tr2 : Int.toNat r2 = Int.toNat i1 + 1 := by omega
            refine hE _ (out_3, r2) ?_ ?_ ⟨(by (try dsimp only); first | omega | (simp only [List.length_nil]; omega) | (simp only [List.length_cons, List.length_nil]; omega)), (by (try dsimp only); first | omega | (simp only [List.length_nil]; omega) | (simp only [List.length_cons, List.length_nil]; omega)), (by (try dsimp only) <;> (first | (rw [hout_3, tr2, countT_step hlines, ← q, countS_pos hi (by omega) hx1]; simp [*]; done) | (rw [tr2, countT_step hlines, ← q, countS_neg hi (by omega)]; done))), (by (try dsimp only) <;> first | omega | rfl | (simp [*]; done) | (rw [ll]; simp [*]; done)), (by (try dsimp only) <;> (first | (rw [hout_3, show r2 = i1 + 1 by omega]; exact set_bd bd (by omega)) | (intro z hz; have := bd z hz; omega)))⟩ (by first | omega | (dsimp only; omega))
            · cbv
            · cbv
          · refine r_addf m.sX (by omega) (by omega) fun r3 hr3 => ?_
            conv => cbv
            try have tr3 : Int.toNat r3 = Int.toNat i1 + 1 := by omega
            refine hE _ (out_2, r3) ?_ ?_ ⟨(by (try dsimp only); first | omega | (simp only [List.length_nil]; omega) | (simp only [List.length_cons, List.length_nil]; omega)), (by (try dsimp only); first | omega | (simp only [List.length_nil]; omega) | (simp only [List.length_cons, List.length_nil]; omega)), (by (try dsimp only) <;> (first | (rw [hout_3, tr3, countT_step hlines, ← q, countS_pos hi (by omega) hx1]; simp [*]; done) | (rw [tr3, countT_step hlines, ← q, countS_neg hi (by omega)]; done))), (by (try dsimp only) <;> first | omega | rfl | (simp [*]; done) | (rw [ll]; simp [*]; done)), (by (try dsimp only) <;> (first | (rw [hout_3, show r3 = i1 + 1 by omega]; exact set_bd bd (by omega)) | (intro z hz; have := bd z hz; omega)))⟩ (by first | omega | (dsimp only; omega))
            · cbv
            · cbv
        · have dz_i1 := drop_end (xs := copies) (i := Int.toNat i1) (by omega)
          have tz_i1 := take_end (xs := copies) (i := Int.toNat i1) (by omega)
          refine hF _ _ ?_
          conv => cbv
          exact hQ (.tup [.fr 3 1 (rows cInt out_2), .bool true]) (Eq.trans (by first | rfl | (simp only [lb, lbI, rows_cons, rows_nil, unnilT, unnil, unnilTI, unnilI]; done) | (simp only [lb, lbI, rows_cons, rows_nil, unnilT, unnil, unnilTI, unnilI]; rfl)) (congrArg ((lb 3 1 cInt)) (show (out_2, true) = countAns l copies from by rw [countAns, h1, h2, q, countT_all (by omega)]; rfl)))   -- leaf 1
      · exact hQ (.tup [.nil, .bool false]) (Eq.trans (by first | rfl | (simp only [lb, lbI, rows_cons, rows_nil, unnilT, unnil, unnilTI, unnilI]; done) | (simp only [lb, lbI, rows_cons, rows_nil, unnilT, unnil, unnilTI, unnilI]; rfl)) (congrArg ((lb 3 1 cInt)) (show ([], false) = countAns l copies from by rw [countAns, h1, h2]; rfl)))   -- leaf 2
    · exact hQ (.tup [.nil, .bool false]) (Eq.trans (by first | rfl | (simp only [lb, lbI, rows_cons, rows_nil, unnilT, unnil, unnilTI, unnilI]; done) | (simp only [lb, lbI, rows_cons, rows_nil, unnilT, unnil, unnilTI, unnilI]; rfl)) (congrArg ((lb 3 1 cInt)) (show ([], false) = countAns l copies from by rw [countAns, h1]; rfl))))   -- leaf 3

end Go.Proofs.Ytifkjlpkhfldoaa.Ai
