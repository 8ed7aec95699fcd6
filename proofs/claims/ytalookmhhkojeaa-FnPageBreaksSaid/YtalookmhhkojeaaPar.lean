/- Contracts of the functions on parallel columns. -/
import Derived.Test.YtalookmhhkojeaaParLaw
import Derived.Test.YtalookmhhkojeaaLit
namespace Go.Proofs.Ytalookmhhkojeaa.Ai
open Go Go.Proofs
set_option linter.unusedSimpArgs false
set_option maxRecDepth 10000
set_option maxHeartbeats 4000000
set_option linter.unusedVariables false
theorem allR_drop {p : List Int → Bool} {l : List (List Int)} {i : Nat} {x : List Int} (h : l[i]? = some x) : (l.drop i).all p = (p x && (l.drop (i + 1)).all p) := by
  have hi := (List.getElem?_eq_some_iff.1 h).1
  rw [List.drop_eq_getElem_cons hi, List.all_cons, (List.getElem?_eq_some_iff.1 h).2]
theorem headP_some {l : List (List Int)} {x : List Int} (h : l[(0 : Int).toNat]? = some x) : headP l = x.length := by
  unfold headP
  cases l with
  | nil => simp at h
  | cons a r => obtain rfl : a = x := by simpa using h
                rfl
theorem rowB_yes {n : Int} {r : List Int} (h1 : (r.length : Int) = n) (h2 : inB r.length 1 6 = true) (h3 : allB r 0 200 = true) : rowB n r = true := by
  unfold rowB; rw [decide_eq_true h1, h2, h3]; rfl
theorem rowB_no {n : Int} {r : List Int} (h : (r.length : Int) ≠ n ∨ inB r.length 1 6 = false ∨ allB r 0 200 = false) : rowB n r = false := by
  unfold rowB
  rcases h with h | h | h
  · rw [decide_eq_false h]; rfl
  · rw [h, Bool.and_false, Bool.false_and]
  · rw [h, Bool.and_false]
theorem parB_no {l : List (List Int)} {i : Nat} {r : List Int} (h : l[i]? = some r) (hr : rowB (headP l) r = false) : false = parB l := by
  unfold parB
  have e : l.all (rowB (headP l)) = false := Bool.eq_false_iff.2 fun e => by have := List.all_eq_true.1 e r (List.mem_of_getElem? h); rw [hr] at this; cases this
  rw [e]; rfl
theorem parB_end {l : List (List Int)} {i : Nat} (q : l.all (rowB (headP l)) = (l.drop i).all (rowB (headP l))) (dz : l.drop i = []) : parB l = decide ((l.length : Int) ≤ 24) := by
  unfold parB; rw [q, dz]; rfl
theorem parB_long {l : List (List Int)} (h : ¬ (l.length : Int) ≤ 24) : false = parB l := by
  unfold parB; rw [decide_eq_false h, Bool.and_false]
theorem rowAt_some {l : List (List Int)} {i : Nat} {x : List Int} (h : l[i]? = some x) : rowAt l i = x := by rw [rowAt, List.getD_eq_getElem?_getD, h]; rfl
theorem addR_step {a b : List Int} {i : Nat} {x y : Int} (hx : a[i]? = some x) (hy : b[i]? = some y) : addR (a.take (i + 1)) (b.take (i + 1)) = addR (a.take i) (b.take i) ++ [x + y] := by
  have h1 := (List.getElem?_eq_some_iff.1 hx).1
  have h2 := (List.getElem?_eq_some_iff.1 hy).1
  unfold addR
  rw [List.take_add_one, List.take_add_one, hx, hy, Option.toList_some, Option.toList_some, List.zipWith_append (by simp; omega)]; rfl
theorem hiF_take {r : List Int} {i : Nat} {x : Int} (h : r[i]? = some x) : hiF (r.take (i + 1)) = max (hiF (r.take i)) x := by
  unfold hiF; rw [List.take_add_one, h, Option.toList_some, List.foldl_append]; rfl
theorem heights_take {l : List (List Int)} {i : Nat} {x : List Int} (h : l[i]? = some x) : heightsF (l.take (i + 1)) = heightsF (l.take i) ++ [hiF x] := by
  unfold heightsF; rw [List.take_add_one, h, Option.toList_some, List.map_append]; rfl
theorem total_take {l : List (List Int)} {i : Nat} {x : List Int} (h : l[i]? = some x) : totalF (l.take (i + 1)) = totalF (l.take i) + hiF x := by
  unfold totalF; rw [heights_take h, List.sum_append]; simp
theorem total_bound {l : List (List Int)} (hb : ∀ r ∈ l, ∀ z ∈ r, z ≤ 4000) (k : Nat) : 0 ≤ totalF (l.take k) ∧ totalF (l.take k) ≤ 4000 * l.length := by
  have := sum_bound (ws := heightsF (l.take k)) (B := 4000) (by omega) fun n hn => by
    obtain ⟨r, hr, rfl⟩ := List.mem_map.1 hn
    exact ⟨(hiF_ge r).1, hiF_le (by omega) (hb r (List.mem_of_mem_take hr))⟩
  have e : (heightsF (l.take k)).length ≤ l.length := by simp [heightsF]; omega
  unfold totalF
  omega
theorem AreParallel_ok (l : List (List Int))  : OkA Try.prog 59 [.isl 1 (rows (cSl 1 cInt) l)] (· = .bool (parB l)) :=
  fn_intro envOk fieldsOk mixed Try.func59 rfl fun κ X Y L Q m hQ => by
    conv => cbv
    refine r_lenR m.sX fun n1 hn1 mn1 => ?_
    conv => cbv
    refine r_loopF (α := Int) m 40 [0, 7, 8, 9] [] (fun σ => [(0, .isl 1 (rows (cSl 1 cInt) l)), (7, .isl 1 (rows (cSl 1 cInt) l)), (8, .int .i64 n1), (9, .int .i64 σ)]) (fun σ => [])
      (fun σ => (0 ≤ σ) ∧ (σ ≤ n1) ∧ (l.all (rowB (headP l)) = (l.drop σ.toNat).all (rowB (headP l)))) (fun σ => (n1 - σ).toNat) 0 ?_ ?_ ?_ ?_
    · cbv
    · cbv
    · exact ⟨(by (try dsimp only); first | omega | (simp only [List.length_nil]; omega) | (simp only [List.length_cons, List.length_nil]; omega)), (by (try dsimp only); first | omega | (simp only [List.length_nil]; omega) | (simp only [List.length_cons, List.length_nil]; omega)), (by (try dsimp only) <;> (rfl))⟩
    rintro i1 ⟨lo1, hi1, q⟩ E hE F hF
    conv => cbv
    refine r_lss m.sX (fun h1 => ?_) (fun h1 => ?_) <;> conv => cbv
    · refine r_index m.sX (by omega) (by omega) fun row hrow => ?_
      conv => cbv
      have mrow := get_mem hrow
      have drow := drop_cons hrow
      have krow := take_snoc hrow
      have jrow : (i1 + 1).toNat = Int.toNat i1 + 1 := by omega
      have ad := allR_drop (p := rowB (headP l)) hrow
      refine r_lenR m.sX fun n2 hn2 mn2 => ?_
      conv => cbv
      refine r_index m.sX (by omega) (by omega) fun x1 hx1 => ?_
      conv => cbv
      have mx1 := get_mem hx1
      have hl := headP_some hx1
      refine r_lenR m.sX fun n3 hn3 mn3 => ?_
      conv => cbv
      refine r_neq m.sX (fun h2 => ?_) (fun h2 => ?_) <;> conv => cbv
      · refine hF _ _ ?_
        conv => cbv
        exact hQ _ (congrArg PV.bool (by exact parB_no hrow (rowB_no (.inl (by omega)))))   -- leaf 1
      · refine r_lenR m.sX fun n4 hn4 mn4 => ?_
        conv => cbv
        refine r_callB m.sX (within_ok n4 1 6) (fun h3 => ?_) (fun h3 => ?_) <;> conv => cbv
        · refine r_lenR m.sX fun n5 hn5 mn5 => ?_
          conv => cbv
          refine r_loopF (α := Int) m 40 [0, 7, 8, 9, 26, 27, 28] [] (fun σ => [(0, .isl 1 (rows (cSl 1 cInt) l)), (7, .isl 1 (rows (cSl 1 cInt) l)), (8, .int .i64 n1), (9, .int .i64 i1), (26, .isl 1 (rows cInt row)), (27, .int .i64 n5), (28, .int .i64 σ)]) (fun σ => [])
            (fun σ => (0 ≤ σ) ∧ (σ ≤ n5) ∧ (allB row 0 200 = allB (row.drop σ.toNat) 0 200)) (fun σ => (n5 - σ).toNat) 0 ?_ ?_ ?_ ?_
          · cbv
          · cbv
          · exact ⟨(by (try dsimp only); first | omega | (simp only [List.length_nil]; omega) | (simp only [List.length_cons, List.length_nil]; omega)), (by (try dsimp only); first | omega | (simp only [List.length_nil]; omega) | (simp only [List.length_cons, List.length_nil]; omega)), (by (try dsimp only) <;> (rfl))⟩
          rintro i2 ⟨lo2, hi2, q2⟩ E2 hE2 F2 hF2
          conv => cbv
          refine r_lss m.sX (fun h4 => ?_) (fun h4 => ?_) <;> conv => cbv
          · refine r_index m.sX (by omega) (by omega) fun n hn => ?_
            conv => cbv
            have mn := get_mem hn
            have dn := drop_cons hn
            have kn := take_snoc hn
            have jn : (i2 + 1).toNat = Int.toNat i2 + 1 := by omega
            have vn := nth_some hn
            refine r_callB m.sX (within_ok n 0 200) (fun h5 => ?_) (fun h5 => ?_) <;> conv => cbv
            · refine r_addf m.sX (by omega) (by omega) fun r1 hr1 => ?_
              conv => cbv
              try have tr1 : Int.toNat r1 = Int.toNat i2 + 1 := by omega
              refine hE2 _ r1 ?_ ?_ ⟨(by (try dsimp only); first | omega | (simp only [List.length_nil]; omega) | (simp only [List.length_cons, List.length_nil]; omega)), (by (try dsimp only); first | omega | (simp only [List.length_nil]; omega) | (simp only [List.length_cons, List.length_nil]; omega)), (by (try dsimp only) <;> (rw [q2, dn, allB_cons, h5, Bool.true_and, tr1]))⟩ (by first | omega | (dsimp only; omega))
              · cbv
              · cbv
            · refine hF2 _ _ ?_
              conv => cbv
              refine hF _ _ ?_
              conv => cbv
              exact hQ _ (congrArg PV.bool (by exact parB_no hrow (rowB_no (.inr (.inr (by rw [q2, dn, allB_cons, h5]; rfl))))))   -- leaf 2
          · have dz_i2 := drop_end (xs := row) (i := Int.toNat i2) (by omega)
            have tz_i2 := take_end (xs := row) (i := Int.toNat i2) (by omega)
            refine hF2 _ _ ?_
            conv => cbv
            refine r_addf m.sX (by omega) (by omega) fun r2 hr2 => ?_
            conv => cbv
            try have tr2 : Int.toNat r2 = Int.toNat i1 + 1 := by omega
            refine hE _ r2 ?_ ?_ ⟨(by (try dsimp only); first | omega | (simp only [List.length_nil]; omega) | (simp only [List.length_cons, List.length_nil]; omega)), (by (try dsimp only); first | omega | (simp only [List.length_nil]; omega) | (simp only [List.length_cons, List.length_nil]; omega)), (by (try dsimp only) <;> (rw [q, ad, rowB_yes (by omega) (by rw [← hn4]; assumption) (by rw [q2, dz_i2]; rfl), Bool.true_and, tr2]))⟩ (by first | omega | (dsimp only; omega))
            · cbv
            · cbv
        · refine hF _ _ ?_
          conv => cbv
          exact hQ _ (congrArg PV.bool (by exact parB_no hrow (rowB_no (.inr (.inl (by rw [← hn4]; assumption))))))   -- leaf 3
    · have dz_i1 := drop_end (xs := l) (i := Int.toNat i1) (by omega)
      have tz_i1 := take_end (xs := l) (i := Int.toNat i1) (by omega)
      refine hF _ _ ?_
      conv => cbv
      refine r_lenR m.sX fun n6 hn6 mn6 => ?_
      conv => cbv
      refine r_leq m.sX (fun h6 => ?_) (fun h6 => ?_) <;> conv => cbv
      · exact hQ _ (congrArg PV.bool (by rw [parB_end q dz_i1, decide_eq_true (by omega)]))   -- leaf 4
      · exact hQ _ (congrArg PV.bool (by rw [parB_end q dz_i1, decide_eq_false (by omega)]))   -- leaf 5

theorem isMark_ok (l : List (List Int)) (i : Int)  : OkA Try.prog 68 [.isl 1 (rows (cSl 1 cInt) l), .int .i64 i] (· = .bool (markB l i)) :=
  fn_intro envOk fieldsOk mixed Try.func68 rfl fun κ X Y L Q m hQ => by
    conv => cbv
    refine r_callB m.sX (AreParallel_ok l) (fun h1 => ?_) (fun h1 => ?_) <;> conv => cbv
    · refine r_lenR m.sX fun n1 hn1 mn1 => ?_
      conv => cbv
      refine r_subf m.sX (by omega) (by omega) fun r1 hr1 => ?_
      conv => cbv
      refine r_callB m.sX (within_ok i 0 r1) (fun h2 => ?_) (fun h2 => ?_) <;> conv => cbv
      · exact hQ _ (congrArg PV.bool (by first | (rw [markB, h1, ← hn1, ← hr1, h2]; rfl) | (rw [markB, h1]; rfl)))   -- leaf 1
      · exact hQ _ (congrArg PV.bool (by first | (rw [markB, h1, ← hn1, ← hr1, h2]; rfl) | (rw [markB, h1]; rfl)))   -- leaf 2
    · exact hQ _ (congrArg PV.bool (by first | (rw [markB, h1, ← hn1, ← hr1, h2]; rfl) | (rw [markB, h1]; rfl)))   -- leaf 3

theorem greatest_ok (row : List Int)  : OkA Try.prog 102 [.isl 1 (rows cInt row)] (· = .int .i64 (hiF row)) :=
  fn_intro envOk fieldsOk mixed Try.func102 rfl fun κ X Y L Q m hQ => by
    conv => cbv
    refine r_lenR m.sX fun n1 hn1 mn1 => ?_
    conv => cbv
    refine r_loopF (α := Int × Int) m 17 [3, 6, 7, 8] [] (fun σ => [(3, .int .i64 σ.1), (6, .isl 1 (rows cInt row)), (7, .int .i64 n1), (8, .int .i64 σ.2)]) (fun σ => [])
      (fun σ => (0 ≤ σ.2) ∧ (σ.2 ≤ n1) ∧ (σ.1 = hiF (row.take σ.2.toNat))) (fun σ => (n1 - σ.2).toNat) (0, 0) ?_ ?_ ?_ ?_
    · cbv
    · cbv
    · exact ⟨(by (try dsimp only); first | omega | (simp only [List.length_nil]; omega) | (simp only [List.length_cons, List.length_nil]; omega)), (by (try dsimp only); first | omega | (simp only [List.length_nil]; omega) | (simp only [List.length_cons, List.length_nil]; omega)), (by (try dsimp only) <;> (rfl))⟩
    rintro ⟨most, i1⟩ ⟨lo1, hi1, q⟩ E hE F hF
    dsimp only at lo1 hi1 q
    conv => cbv
    refine r_lss m.sX (fun h1 => ?_) (fun h1 => ?_) <;> conv => cbv
    · refine r_index m.sX (by omega) (by omega) fun n hn => ?_
      conv => cbv
      have mn := get_mem hn
      have dn := drop_cons hn
      have kn := take_snoc hn
      have jn : (i1 + 1).toNat = Int.toNat i1 + 1 := by omega
      have vn := nth_some hn
      refine r_max m.sX fun most_2 hmost_2 => ?_
      conv => cbv
      refine r_addf m.sX (by omega) (by omega) fun r1 hr1 => ?_
      conv => cbv
      try have tr1 : Int.toNat r1 = Int.toNat i1 + 1 := by omega
      refine hE _ (most_2, r1) ?_ ?_ ⟨(by (try dsimp only); first | omega | (simp only [List.length_nil]; omega) | (simp only [List.length_cons, List.length_nil]; omega)), (by (try dsimp only); first | omega | (simp only [List.length_nil]; omega) | (simp only [List.length_cons, List.length_nil]; omega)), (by (try dsimp only) <;> (rw [hmost_2, q, tr1, hiF_take hn]))⟩ (by first | omega | (dsimp only; omega))
      · cbv
      · cbv
    · have dz_i1 := drop_end (xs := row) (i := Int.toNat i1) (by omega)
      have tz_i1 := take_end (xs := row) (i := Int.toNat i1) (by omega)
      refine hF _ _ ?_
      conv => cbv
      exact hQ (.int .i64 most) (Eq.trans (by first | rfl | (simp only [lb, lbI, rows_cons, rows_nil, unnilT, unnil, unnilTI, unnilI]; done) | (simp only [lb, lbI, rows_cons, rows_nil, unnilT, unnil, unnilTI, unnilI]; rfl)) (congrArg (PV.int .i64) (show most = hiF row from by rw [q, tz_i1])))   -- leaf 1

theorem plHigh_ok (row : List Int)  : OkA Try.prog 103 [.isl 1 (rows cInt row)] (· = .int .i64 (hiF row)) :=
  fn_intro envOk fieldsOk mixed Try.func103 rfl fun κ X Y L Q m hQ => by
    conv => cbv
    refine r_lenR m.sX fun n1 hn1 mn1 => ?_
    conv => cbv
    refine r_loopF (α := Int × Int) m 17 [3, 6, 7, 8] [] (fun σ => [(3, .int .i64 σ.1), (6, .isl 1 (rows cInt row)), (7, .int .i64 n1), (8, .int .i64 σ.2)]) (fun σ => [])
      (fun σ => (0 ≤ σ.2) ∧ (σ.2 ≤ n1) ∧ (σ.1 = hiF (row.take σ.2.toNat))) (fun σ => (n1 - σ.2).toNat) (0, 0) ?_ ?_ ?_ ?_
    · cbv
    · cbv
    · exact ⟨(by (try dsimp only); first | omega | (simp only [List.length_nil]; omega) | (simp only [List.length_cons, List.length_nil]; omega)), (by (try dsimp only); first | omega | (simp only [List.length_nil]; omega) | (simp only [List.length_cons, List.length_nil]; omega)), (by (try dsimp only) <;> (rfl))⟩
    rintro ⟨most, i1⟩ ⟨lo1, hi1, q⟩ E hE F hF
    dsimp only at lo1 hi1 q
    conv => cbv
    refine r_lss m.sX (fun h1 => ?_) (fun h1 => ?_) <;> conv => cbv
    · refine r_index m.sX (by omega) (by omega) fun n hn => ?_
      conv => cbv
      have mn := get_mem hn
      have dn := drop_cons hn
      have kn := take_snoc hn
      have jn : (i1 + 1).toNat = Int.toNat i1 + 1 := by omega
      have vn := nth_some hn
      refine r_callF (PV.int .i64) m.sX (l1Most_ok most n) fun most_2 hmost_2 => ?_
      conv => cbv
      refine r_addf m.sX (by omega) (by omega) fun r1 hr1 => ?_
      conv => cbv
      try have tr1 : Int.toNat r1 = Int.toNat i1 + 1 := by omega
      refine hE _ (most_2, r1) ?_ ?_ ⟨(by (try dsimp only); first | omega | (simp only [List.length_nil]; omega) | (simp only [List.length_cons, List.length_nil]; omega)), (by (try dsimp only); first | omega | (simp only [List.length_nil]; omega) | (simp only [List.length_cons, List.length_nil]; omega)), (by (try dsimp only) <;> (rw [hmost_2, q, tr1, hiF_take hn]))⟩ (by first | omega | (dsimp only; omega))
      · cbv
      · cbv
    · have dz_i1 := drop_end (xs := row) (i := Int.toNat i1) (by omega)
      have tz_i1 := take_end (xs := row) (i := Int.toNat i1) (by omega)
      refine hF _ _ ?_
      conv => cbv
      exact hQ (.int .i64 most) (Eq.trans (by first | rfl | (simp only [lb, lbI, rows_cons, rows_nil, unnilT, unnil, unnilTI, unnilI]; done) | (simp only [lb, lbI, rows_cons, rows_nil, unnilT, unnil, unnilTI, unnilI]; rfl)) (congrArg (PV.int .i64) (show most = hiF row from by rw [q, tz_i1])))   -- leaf 1

theorem joined_ok (a : List Int) (b : List Int) (hl : a.length = b.length) (hm : a.length ≤ 1000) (ha : ∀ z ∈ a, 0 ≤ z ∧ z ≤ 100000) (hb : ∀ z ∈ b, 0 ≤ z ∧ z ≤ 100000) : OkA Try.prog 105 [.isl 1 (rows cInt a), .isl 1 (rows cInt b)] (· = .fr 3 1 (rows cInt (addR a b))) :=
  OkA.unnil 3 1 (fn_intro envOk fieldsOk mixed Try.func105 rfl fun κ X Y L Q m hQ => by
    conv => cbv
    refine r_lenR m.sX fun n1 hn1 mn1 => ?_
    conv => cbv
    refine r_loopF (α := List Int × Int) m 27 [1, 9, 10, 11] [⟨5, 41, 3, 1, 0⟩] (fun σ => [(1, .isl 1 (rows cInt b)), (5, .osl 41 0), (9, .isl 1 (rows cInt a)), (10, .int .i64 n1), (11, .int .i64 σ.2)]) (fun σ => [(41, 0, .row 3 1 (rows cInt σ.1))])
      (fun σ => (0 ≤ σ.2) ∧ (σ.2 ≤ n1) ∧ (σ.1 = addR (a.take σ.2.toNat) (b.take σ.2.toNat)) ∧ ((σ.1.length : Int) ≤ σ.2)) (fun σ => (n1 - σ.2).toNat) ([], 0) ?_ ?_ ?_ ?_
    · cbv
    · (try dsimp only); (try simp only [rows_cons, rows_nil]); cbv
    · exact ⟨(by (try dsimp only); first | omega | (simp only [List.length_nil]; omega) | (simp only [List.length_cons, List.length_nil]; omega)), (by (try dsimp only); first | omega | (simp only [List.length_nil]; omega) | (simp only [List.length_cons, List.length_nil]; omega)), (by (try dsimp only) <;> (rfl)), (by (try dsimp only) <;> first | omega | rfl | (simp [*]; done))⟩
    rintro ⟨row, i1⟩ ⟨lo1, hi1, q, ll⟩ E hE F hF
    dsimp only at lo1 hi1 q ll
    conv => cbv
    refine r_lss m.sX (fun h1 => ?_) (fun h1 => ?_) <;> conv => cbv
    · refine r_index m.sX (by omega) (by omega) fun n hn => ?_
      conv => cbv
      have mn := get_mem hn
      have dn := drop_cons hn
      have kn := take_snoc hn
      have jn : (i1 + 1).toNat = Int.toNat i1 + 1 := by omega
      have vn := nth_some hn
      have bn := ha n mn
      refine r_index m.sX (by omega) (by omega) fun x1 hx1 => ?_
      conv => cbv
      have mx1 := get_mem hx1
      have dx1 := drop_cons hx1
      have kx1 := take_snoc hx1
      have jx1 : (i1 + 1).toNat = Int.toNat i1 + 1 := by omega
      have vx1 := nth_some hx1
      have bx := hb x1 mx1
      refine r_addf m.sX (by omega) (by omega) fun r1 hr1 => ?_
      conv => cbv
      refine r_append1 (r1) m.sX rfl (by first | omega | (dsimp only; omega)) (by first | omega | (dsimp only; omega)) fun row_2 hrow_2 => ?_
      conv => cbv
      have lrow_2 : (row_2.length : Int) = row.length + 1 := by rw [hrow_2]; first | done | (simp; done) | (simp; omega)
      refine r_addf m.sX (by omega) (by omega) fun r2 hr2 => ?_
      conv => cbv
      try have tr2 : Int.toNat r2 = Int.toNat i1 + 1 := by omega
      refine hE _ (row_2, r2) ?_ ?_ ⟨(by (try dsimp only); first | omega | (simp only [List.length_nil]; omega) | (simp only [List.length_cons, List.length_nil]; omega)), (by (try dsimp only); first | omega | (simp only [List.length_nil]; omega) | (simp only [List.length_cons, List.length_nil]; omega)), (by (try dsimp only) <;> (rw [hrow_2, q, tr2, addR_step hn hx1, hr1])), (by (try dsimp only) <;> first | omega | rfl | (simp [*]; done) | (rw [ll]; simp [*]; done))⟩ (by first | omega | (dsimp only; omega))
      · cbv
      · cbv
    · have dz_i1 := drop_end (xs := a) (i := Int.toNat i1) (by omega)
      have tz_i1 := take_end (xs := a) (i := Int.toNat i1) (by omega)
      refine hF _ _ ?_
      conv => cbv
      exact hQ (.fr 3 1 (rows cInt row)) (Eq.trans (by first | rfl | (simp only [lb, lbI, rows_cons, rows_nil, unnilT, unnil, unnilTI, unnilI]; done) | (simp only [lb, lbI, rows_cons, rows_nil, unnilT, unnil, unnilTI, unnilI]; rfl)) (congrArg (fun l => PV.fr 3 1 (rows cInt l)) (show row = addR a b from by rw [q, tz_i1, List.take_of_length_le (by omega)]))))   -- leaf 1

theorem heights_ok (l : List (List Int)) (hn : l.length ≤ 1000) : OkA Try.prog 52 [.isl 1 (rows (cSl 1 cInt) l)] (· = .fr 3 1 (rows cInt (heightsF l))) :=
  OkA.unnil 3 1 (fn_intro envOk fieldsOk mixed Try.func52 rfl fun κ X Y L Q m hQ => by
    conv => cbv
    refine r_lenR m.sX fun n1 hn1 mn1 => ?_
    conv => cbv
    refine r_loopF (α := List Int × Int) m 20 [7, 8, 9] [⟨3, 25, 3, 1, 0⟩] (fun σ => [(3, .osl 25 0), (7, .isl 1 (rows (cSl 1 cInt) l)), (8, .int .i64 n1), (9, .int .i64 σ.2)]) (fun σ => [(25, 0, .row 3 1 (rows cInt σ.1))])
      (fun σ => (0 ≤ σ.2) ∧ (σ.2 ≤ n1) ∧ (σ.1 = heightsF (l.take σ.2.toNat)) ∧ ((σ.1.length : Int) ≤ σ.2)) (fun σ => (n1 - σ.2).toNat) ([], 0) ?_ ?_ ?_ ?_
    · cbv
    · (try dsimp only); (try simp only [rows_cons, rows_nil]); cbv
    · exact ⟨(by (try dsimp only); first | omega | (simp only [List.length_nil]; omega) | (simp only [List.length_cons, List.length_nil]; omega)), (by (try dsimp only); first | omega | (simp only [List.length_nil]; omega) | (simp only [List.length_cons, List.length_nil]; omega)), (by (try dsimp only) <;> (rfl)), (by (try dsimp only) <;> first | omega | rfl | (simp [*]; done))⟩
    rintro ⟨list, i1⟩ ⟨lo1, hi1, q, ll⟩ E hE F hF
    dsimp only at lo1 hi1 q ll
    conv => cbv
    refine r_lss m.sX (fun h1 => ?_) (fun h1 => ?_) <;> conv => cbv
    · refine r_index m.sX (by omega) (by omega) fun row hrow => ?_
      conv => cbv
      have mrow := get_mem hrow
      have drow := drop_cons hrow
      have krow := take_snoc hrow
      have jrow : (i1 + 1).toNat = Int.toNat i1 + 1 := by omega
      refine r_callF (PV.int .i64) m.sX (greatest_ok row) fun r1 hr1 => ?_
      conv => cbv
      refine r_append1 (r1) m.sX rfl (by first | omega | (dsimp only; omega)) (by first | omega | (dsimp only; omega)) fun list_2 hlist_2 => ?_
      conv => cbv
      have llist_2 : (list_2.length : Int) = list.length + 1 := by rw [hlist_2]; first | done | (simp; done) | (simp; omega)
      refine r_addf m.sX (by omega) (by omega) fun r2 hr2 => ?_
      conv => cbv
      try have tr2 : Int.toNat r2 = Int.toNat i1 + 1 := by omega
      refine hE _ (list_2, r2) ?_ ?_ ⟨(by (try dsimp only); first | omega | (simp only [List.length_nil]; omega) | (simp only [List.length_cons, List.length_nil]; omega)), (by (try dsimp only); first | omega | (simp only [List.length_nil]; omega) | (simp only [List.length_cons, List.length_nil]; omega)), (by (try dsimp only) <;> (rw [hlist_2, q, tr2, heights_take hrow]; simp [*])), (by (try dsimp only) <;> first | omega | rfl | (simp [*]; done) | (rw [ll]; simp [*]; done))⟩ (by first | omega | (dsimp only; omega))
      · cbv
      · cbv
    · have dz_i1 := drop_end (xs := l) (i := Int.toNat i1) (by omega)
      have tz_i1 := take_end (xs := l) (i := Int.toNat i1) (by omega)
      refine hF _ _ ?_
      conv => cbv
      exact hQ (.fr 3 1 (rows cInt list)) (Eq.trans (by first | rfl | (simp only [lb, lbI, rows_cons, rows_nil, unnilT, unnil, unnilTI, unnilI]; done) | (simp only [lb, lbI, rows_cons, rows_nil, unnilT, unnil, unnilTI, unnilI]; rfl)) (congrArg (fun l => PV.fr 3 1 (rows cInt l)) (show list = heightsF l from by rw [q, tz_i1]))))   -- leaf 1

theorem plHeights_ok (l : List (List Int)) (hn : l.length ≤ 1000) : OkA Try.prog 55 [.isl 1 (rows (cSl 1 cInt) l)] (· = .fr 3 1 (rows cInt (heightsF l))) :=
  OkA.unnil 3 1 (fn_intro envOk fieldsOk mixed Try.func55 rfl fun κ X Y L Q m hQ => by
    conv => cbv
    refine r_lenR m.sX fun n1 hn1 mn1 => ?_
    conv => cbv
    refine r_loopF (α := List Int × Int) m 19 [6, 7, 8] [⟨3, 25, 3, 1, 0⟩] (fun σ => [(3, .osl 25 0), (6, .isl 1 (rows (cSl 1 cInt) l)), (7, .int .i64 n1), (8, .int .i64 σ.2)]) (fun σ => [(25, 0, .row 3 1 (rows cInt σ.1))])
      (fun σ => (0 ≤ σ.2) ∧ (σ.2 ≤ n1) ∧ (σ.1 = heightsF (l.take σ.2.toNat)) ∧ ((σ.1.length : Int) ≤ σ.2)) (fun σ => (n1 - σ.2).toNat) ([], 0) ?_ ?_ ?_ ?_
    · cbv
    · (try dsimp only); (try simp only [rows_cons, rows_nil]); cbv
    · exact ⟨(by (try dsimp only); first | omega | (simp only [List.length_nil]; omega) | (simp only [List.length_cons, List.length_nil]; omega)), (by (try dsimp only); first | omega | (simp only [List.length_nil]; omega) | (simp only [List.length_cons, List.length_nil]; omega)), (by (try dsimp only) <;> (rfl)), (by (try dsimp only) <;> first | omega | rfl | (simp [*]; done))⟩
    rintro ⟨out, i1⟩ ⟨lo1, hi1, q, ll⟩ E hE F hF
    dsimp only at lo1 hi1 q ll
    conv => cbv
    refine r_lss m.sX (fun h1 => ?_) (fun h1 => ?_) <;> conv => cbv
    · refine r_index m.sX (by omega) (by omega) fun row hrow => ?_
      conv => cbv
      have mrow := get_mem hrow
      have drow := drop_cons hrow
      have krow := take_snoc hrow
      have jrow : (i1 + 1).toNat = Int.toNat i1 + 1 := by omega
      refine r_callF (PV.int .i64) m.sX (plHigh_ok row) fun r1 hr1 => ?_
      conv => cbv
      refine r_append1 (r1) m.sX rfl (by first | omega | (dsimp only; omega)) (by first | omega | (dsimp only; omega)) fun out_2 hout_2 => ?_
      conv => cbv
      have lout_2 : (out_2.length : Int) = out.length + 1 := by rw [hout_2]; first | done | (simp; done) | (simp; omega)
      refine r_addf m.sX (by omega) (by omega) fun r2 hr2 => ?_
      conv => cbv
      try have tr2 : Int.toNat r2 = Int.toNat i1 + 1 := by omega
      refine hE _ (out_2, r2) ?_ ?_ ⟨(by (try dsimp only); first | omega | (simp only [List.length_nil]; omega) | (simp only [List.length_cons, List.length_nil]; omega)), (by (try dsimp only); first | omega | (simp only [List.length_nil]; omega) | (simp only [List.length_cons, List.length_nil]; omega)), (by (try dsimp only) <;> (rw [hout_2, q, tr2, heights_take hrow]; simp [*])), (by (try dsimp only) <;> first | omega | rfl | (simp [*]; done) | (rw [ll]; simp [*]; done))⟩ (by first | omega | (dsimp only; omega))
      · cbv
      · cbv
    · have dz_i1 := drop_end (xs := l) (i := Int.toNat i1) (by omega)
      have tz_i1 := take_end (xs := l) (i := Int.toNat i1) (by omega)
      refine hF _ _ ?_
      conv => cbv
      exact hQ (.fr 3 1 (rows cInt out)) (Eq.trans (by first | rfl | (simp only [lb, lbI, rows_cons, rows_nil, unnilT, unnil, unnilTI, unnilI]; done) | (simp only [lb, lbI, rows_cons, rows_nil, unnilT, unnil, unnilTI, unnilI]; rfl)) (congrArg (fun l => PV.fr 3 1 (rows cInt l)) (show out = heightsF l from by rw [q, tz_i1]))))   -- leaf 1

theorem plTotal_ok (l : List (List Int)) (hb : ∀ r ∈ l, ∀ z ∈ r, z ≤ 4000) (hn : l.length ≤ 1000) : OkA Try.prog 129 [.isl 1 (rows (cSl 1 cInt) l)] (· = .int .i64 (totalF l)) :=
  fn_intro envOk fieldsOk mixed Try.func129 rfl fun κ X Y L Q m hQ => by
    conv => cbv
    refine r_lenR m.sX fun n1 hn1 mn1 => ?_
    conv => cbv
    refine r_loopF (α := Int × Int) m 18 [3, 6, 7, 8] [] (fun σ => [(3, .int .i64 σ.1), (6, .isl 1 (rows (cSl 1 cInt) l)), (7, .int .i64 n1), (8, .int .i64 σ.2)]) (fun σ => [])
      (fun σ => (0 ≤ σ.2) ∧ (σ.2 ≤ n1) ∧ (σ.1 = totalF (l.take σ.2.toNat))) (fun σ => (n1 - σ.2).toNat) (0, 0) ?_ ?_ ?_ ?_
    · cbv
    · cbv
    · exact ⟨(by (try dsimp only); first | omega | (simp only [List.length_nil]; omega) | (simp only [List.length_cons, List.length_nil]; omega)), (by (try dsimp only); first | omega | (simp only [List.length_nil]; omega) | (simp only [List.length_cons, List.length_nil]; omega)), (by (try dsimp only) <;> (rfl))⟩
    rintro ⟨sum, i1⟩ ⟨lo1, hi1, q⟩ E hE F hF
    dsimp only at lo1 hi1 q
    have b0 := total_bound hb i1.toNat
    conv => cbv
    refine r_lss m.sX (fun h1 => ?_) (fun h1 => ?_) <;> conv => cbv
    · refine r_index m.sX (by omega) (by omega) fun row hrow => ?_
      conv => cbv
      have mrow := get_mem hrow
      have drow := drop_cons hrow
      have krow := take_snoc hrow
      have jrow : (i1 + 1).toNat = Int.toNat i1 + 1 := by omega
      have b1 := total_bound hb (i1.toNat + 1)
      rw [total_take hrow] at b1
      refine r_callF (PV.int .i64) m.sX (plHigh_ok row) fun r1 hr1 => ?_
      conv => cbv
      refine r_addf m.sX (by omega) (by omega) fun sum_2 hsum_2 => ?_
      conv => cbv
      refine r_addf m.sX (by omega) (by omega) fun r2 hr2 => ?_
      conv => cbv
      try have tr2 : Int.toNat r2 = Int.toNat i1 + 1 := by omega
      refine hE _ (sum_2, r2) ?_ ?_ ⟨(by (try dsimp only); first | omega | (simp only [List.length_nil]; omega) | (simp only [List.length_cons, List.length_nil]; omega)), (by (try dsimp only); first | omega | (simp only [List.length_nil]; omega) | (simp only [List.length_cons, List.length_nil]; omega)), (by (try dsimp only) <;> (rw [tr2, total_take hrow]; omega))⟩ (by first | omega | (dsimp only; omega))
      · cbv
      · cbv
    · have dz_i1 := drop_end (xs := l) (i := Int.toNat i1) (by omega)
      have tz_i1 := take_end (xs := l) (i := Int.toNat i1) (by omega)
      refine hF _ _ ?_
      conv => cbv
      exact hQ (.int .i64 sum) (Eq.trans (by first | rfl | (simp only [lb, lbI, rows_cons, rows_nil, unnilT, unnil, unnilTI, unnilI]; done) | (simp only [lb, lbI, rows_cons, rows_nil, unnilT, unnil, unnilTI, unnilI]; rfl)) (congrArg (PV.int .i64) (show sum = totalF l from by rw [q, tz_i1])))   -- leaf 1

theorem plGood_ok (l : List (List Int))  : OkA Try.prog 60 [.isl 1 (rows (cSl 1 cInt) l)] (· = .bool (parB l)) :=
  fn_intro envOk fieldsOk mixed Try.func60 rfl fun κ X Y L Q m hQ => by
    conv => cbv
    refine r_lenR m.sX fun n1 hn1 mn1 => ?_
    conv => cbv
    refine r_gtr m.sX (fun h1 => ?_) (fun h1 => ?_) <;> conv => cbv
    · exact hQ _ (congrArg PV.bool (by exact parB_long (by omega)))   -- leaf 1
    · refine r_lenR m.sX fun n2 hn2 mn2 => ?_
      conv => cbv
      refine r_loopF (α := Int) m 33 [0, 8, 9, 10] [] (fun σ => [(0, .isl 1 (rows (cSl 1 cInt) l)), (8, .isl 1 (rows (cSl 1 cInt) l)), (9, .int .i64 n2), (10, .int .i64 σ)]) (fun σ => [])
        (fun σ => (0 ≤ σ) ∧ (σ ≤ n2) ∧ (l.all (rowB (headP l)) = (l.drop σ.toNat).all (rowB (headP l)))) (fun σ => (n2 - σ).toNat) 0 ?_ ?_ ?_ ?_
      · cbv
      · cbv
      · exact ⟨(by (try dsimp only); first | omega | (simp only [List.length_nil]; omega) | (simp only [List.length_cons, List.length_nil]; omega)), (by (try dsimp only); first | omega | (simp only [List.length_nil]; omega) | (simp only [List.length_cons, List.length_nil]; omega)), (by (try dsimp only) <;> (rfl))⟩
      rintro i1 ⟨lo1, hi1, q⟩ E hE F hF
      conv => cbv
      refine r_lss m.sX (fun h2 => ?_) (fun h2 => ?_) <;> conv => cbv
      · refine r_index m.sX (by omega) (by omega) fun row hrow => ?_
        conv => cbv
        have mrow := get_mem hrow
        have drow := drop_cons hrow
        have krow := take_snoc hrow
        have jrow : (i1 + 1).toNat = Int.toNat i1 + 1 := by omega
        have ad := allR_drop (p := rowB (headP l)) hrow
        refine r_lenR m.sX fun n3 hn3 mn3 => ?_
        conv => cbv
        refine r_callB m.sX (l1In_ok n3 1 6) (fun h3 => ?_) (fun h3 => ?_) <;> conv => cbv
        · refine r_lenR m.sX fun n4 hn4 mn4 => ?_
          conv => cbv
          refine r_index m.sX (by omega) (by omega) fun x1 hx1 => ?_
          conv => cbv
          have mx1 := get_mem hx1
          have hl := headP_some hx1
          refine r_lenR m.sX fun n5 hn5 mn5 => ?_
          conv => cbv
          refine r_neq m.sX (fun h4 => ?_) (fun h4 => ?_) <;> conv => cbv
          · refine hF _ _ ?_
            conv => cbv
            exact hQ _ (congrArg PV.bool (by exact parB_no hrow (rowB_no (.inl (by omega)))))   -- leaf 2
          · refine r_callB m.sX (l1All_ok row 0 200) (fun h5 => ?_) (fun h5 => ?_) <;> conv => cbv
            · refine r_addf m.sX (by omega) (by omega) fun r1 hr1 => ?_
              conv => cbv
              try have tr1 : Int.toNat r1 = Int.toNat i1 + 1 := by omega
              refine hE _ r1 ?_ ?_ ⟨(by (try dsimp only); first | omega | (simp only [List.length_nil]; omega) | (simp only [List.length_cons, List.length_nil]; omega)), (by (try dsimp only); first | omega | (simp only [List.length_nil]; omega) | (simp only [List.length_cons, List.length_nil]; omega)), (by (try dsimp only) <;> (rw [q, ad, rowB_yes (by omega) (by rw [← hn3]; assumption) h5, Bool.true_and, tr1]))⟩ (by first | omega | (dsimp only; omega))
              · cbv
              · cbv
            · refine hF _ _ ?_
              conv => cbv
              exact hQ _ (congrArg PV.bool (by exact parB_no hrow (rowB_no (.inr (.inr h5)))))   -- leaf 3
        · refine hF _ _ ?_
          conv => cbv
          exact hQ _ (congrArg PV.bool (by exact parB_no hrow (rowB_no (.inr (.inl (by rw [← hn3]; assumption))))))   -- leaf 4
      · have dz_i1 := drop_end (xs := l) (i := Int.toNat i1) (by omega)
        have tz_i1 := take_end (xs := l) (i := Int.toNat i1) (by omega)
        refine hF _ _ ?_
        conv => cbv
        exact hQ _ (congrArg PV.bool (by rw [parB_end q dz_i1, decide_eq_true (by omega)]))   -- leaf 5

end Go.Proofs.Ytalookmhhkojeaa.Ai
