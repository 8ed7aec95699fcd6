/- Contracts of the functions on parallel columns: rows saved, blanks. -/
import Derived.Test.YtifkjlpkhfldoaaPar
import Derived.Test.YtifkjlpkhfldoaaThaw
namespace Go.Proofs.Ytifkjlpkhfldoaa.Ai
open Go Go.Proofs
set_option maxRecDepth 10000
set_option maxHeartbeats 4000000
set_option linter.unusedVariables false
theorem par_rows {l : List (List Int)} (h : parB l = true) {i j : Nat} {x y : List Int} (hx : l[i]? = some x) (hy : l[j]? = some y) : x.length = y.length ∧ x.length ≤ 1000 ∧ (∀ z ∈ x, 0 ≤ z ∧ z ≤ 100000) ∧ ∀ z ∈ y, 0 ≤ z ∧ z ≤ 100000 := by
  obtain ⟨p1, p2⟩ := parB_spec h
  have a1 := p1 x (List.mem_of_getElem? hx)
  have a2 := p1 y (List.mem_of_getElem? hy)
  exact ⟨by omega, by omega, fun z hz => by have := a1.2.2.2 z hz; omega, fun z hz => by have := a2.2.2.2 z hz; omega⟩
theorem par_hi {l : List (List Int)} (h : parB l = true) {i : Nat} {x : List Int} (hx : l[i]? = some x) : 0 ≤ hiF x ∧ hiF x ≤ 200 := hiF_in h x (List.mem_of_getElem? hx)
theorem saved_at {l : List (List Int)} {i : Nat} {x y : List Int} (hx : l[i]? = some x) (hy : l[i + 1]? = some y) : savedF l i = hiF x + hiF y - hiF (addR x y) := by
  unfold savedF; rw [rowAt_some hx, rowAt_some hy]
theorem joinF_at {l : List (List Int)} {i : Nat} {x y : List Int} (hx : l[i]? = some x) (hy : l[i + 1]? = some y) : joinF l i = l.take i ++ addR x y :: l.drop (i + 2) := by
  unfold joinF; rw [rowAt_some hx, rowAt_some hy]
theorem join_small {l : List (List Int)} (h : parB l = true) (i : Nat) : (∀ r ∈ joinF l i, ∀ z ∈ r, z ≤ 400) ∧ (joinF l i).length ≤ 1000 := by
  obtain ⟨p1, p2⟩ := parB_spec h
  have hr : ∀ j, ∀ z ∈ rowAt l j, z ≤ 200 := fun j z hz => by
    unfold rowAt at hz
    rw [List.getD_eq_getElem?_getD] at hz
    cases e : l[j]? with
    | none => rw [e] at hz; cases hz
    | some r => rw [e] at hz; exact ((p1 r (List.mem_of_getElem? e)).2.2.2 z hz).2
  refine ⟨fun r hr2 z hz => ?_, by simp [joinF]; omega⟩
  unfold joinF at hr2
  rcases List.mem_append.1 hr2 with hm | hm
  · have := (p1 r (List.mem_of_mem_take hm)).2.2.2 z hz; omega
  · rcases List.mem_cons.1 hm with rfl | hm
    · obtain ⟨x, hx, y, hy, rfl⟩ := mem_addR hz
      have := hr _ x hx; have := hr _ y hy; omega
    · have := (p1 r (List.mem_of_mem_drop hm)).2.2.2 z hz; omega
theorem heights_fits {l : List (List Int)} (h : parB l = true) : SumFits (heightsF l) := by
  have h2 := (parB_spec h).2
  refine sumfits_of 200 (fun n hn => ?_) (by simp [heightsF]; omega)
  obtain ⟨r, hr, rfl⟩ := List.mem_map.1 hn
  have := hiF_in h r hr
  omega
theorem mark_spec {l : List (List Int)} {i : Int} (h : markB l i = true) : parB l = true ∧ 0 ≤ i ∧ i + 1 < l.length := by
  simp only [markB, Bool.and_eq_true] at h
  have := inB_spec h.2
  exact ⟨h.1, by omega, by omega⟩
theorem mark_of {l : List (List Int)} {i r : Int} (h1 : parB l = true) (hr : r = l.length - 2) (h2 : inB i 0 r = true) : markB l i = true := by
  unfold markB; rw [h1, ← hr, h2]; rfl
theorem mark_no {l : List (List Int)} {i r : Int} (hr : r = l.length - 2) (h2 : inB i 0 r = false) : markB l i = false := by
  unfold markB; rw [← hr, h2, Bool.and_false]
theorem par_400 {l : List (List Int)} (h : parB l = true) : (∀ r ∈ l, ∀ z ∈ r, z ≤ 400) ∧ l.length ≤ 1000 := by
  obtain ⟨p1, p2⟩ := parB_spec h
  exact ⟨fun r hr z hz => by have := (p1 r hr).2.2.2 z hz; omega, by omega⟩
theorem total_all {l : List (List Int)} (hb : ∀ r ∈ l, ∀ z ∈ r, z ≤ 400) : 0 ≤ totalF l ∧ totalF l ≤ 400 * l.length := by
  have := total_bound hb l.length
  rwa [List.take_length] at this
theorem savedBy_ok (l : List (List Int)) (i : Int) (hp : parB l = true) (hi : 0 ≤ i ∧ i + 1 < l.length) : OkA Try.prog 83 [.isl 1 (rows (cSl 1 cInt) l), .int .i64 i] (· = .int .i64 (savedF l i.toNat)) :=
  fn_intro envOk fieldsOk mixed Try.func83 rfl fun κ X Y L Q m hQ => by
    have hl4 := (parB_spec hp).2
    conv => cbv
    refine r_draw m (by kernel_rfl) ?_
    conv => cbv
    refine r_index m.sY (by omega) (by omega) fun x1 hx1 => ?_
    conv => cbv
    have mx1 := get_mem hx1
    have w1 := par_hi hp hx1
    refine r_callFS (PV.int .i64) m.sY (greatest_ok x1) trivial fun r1 hr1 => ?_
    conv => cbv
    refine r_addf m.sY (by omega) (by omega) fun r2 hr2 => ?_
    conv => cbv
    refine r_index m.sY (by omega) (by omega) fun x2 hx2 => ?_
    conv => cbv
    have mx2 := get_mem hx2
    have w2 := par_hi hp hx2
    refine r_callFS (PV.int .i64) m.sY (greatest_ok x2) trivial fun r3 hr3 => ?_
    conv => cbv
    refine r_addf m.sY (by omega) (by omega) fun r4 hr4 => ?_
    conv => cbv
    refine r_index m.sY (by omega) (by omega) fun x3 hx3 => ?_
    conv => cbv
    have mx3 := get_mem hx3
    obtain rfl : x1 = x3 := Option.some.inj (hx1.symm.trans hx3)
    refine r_addf m.sY (by omega) (by omega) fun r5 hr5 => ?_
    conv => cbv
    refine r_index m.sY (by omega) (by omega) fun x4 hx4 => ?_
    conv => cbv
    have mx4 := get_mem hx4
    have e4 : x4 = x2 := (by have e : Int.toNat r5 = Int.toNat r2 := (by omega); rw [e] at hx4; exact Option.some.inj (hx4.symm.trans hx2))
    obtain ⟨j1, j2, j3, j4⟩ := par_rows hp hx1 hx4
    refine r_callFS (fun l => PV.isl _ (rows _ l)) m.sY ((joined_ok x1 x4 (by first | rfl | assumption | omega | (simp only [List.length_append, List.length_cons, List.length_nil] at *; omega)) (by first | rfl | assumption | omega | (simp only [List.length_append, List.length_cons, List.length_nil] at *; omega)) (by first | rfl | assumption | omega | (simp only [List.length_append, List.length_cons, List.length_nil] at *; omega)) (by first | rfl | assumption | omega | (simp only [List.length_append, List.length_cons, List.length_nil] at *; omega))).ice) trivial fun v1 hv1 => ?_
    conv => cbv
    refine r_callFS (PV.int .i64) m.sY (greatest_ok v1) trivial fun r6 hr6 => ?_
    conv => cbv
    have w6 := hi_addR x1 x4
    have w7 := (hiF_ge v1).1
    rw [← hv1, e4] at w6
    refine r_subf m.sY (by omega) (by omega) fun r7 hr7 => ?_
    conv => cbv
    exact hQ (.int .i64 r7) (Eq.trans (by first | rfl | (simp only [lb, lbI, rows_cons, rows_nil, unnilT, unnil, unnilTI, unnilI]; done) | (simp only [lb, lbI, rows_cons, rows_nil, unnilT, unnil, unnilTI, unnilI]; rfl)) (congrArg (PV.int .i64) (show r7 = savedF l i.toNat from by rw [saved_at hx1 (by rw [show i.toNat + 1 = r2.toNat by omega]; exact hx2), hr7, hr4, hr6, hr1, hr3, hv1, e4])))   -- leaf 1

theorem SavedBy_ok (l : List (List Int)) (i : Int)  : OkA Try.prog 9 [.isl 1 (rows (cSl 1 cInt) l), .int .i64 i] (· = ib (savedAns l i)) :=
  fn_intro envOk fieldsOk mixed Try.func9 rfl fun κ X Y L Q m hQ => by
    conv => cbv
    refine r_callB m.sX (isMark_ok l i) (fun h1 => ?_) (fun h1 => ?_) <;> conv => cbv
    · obtain ⟨hp, hi⟩ := mark_spec h1
      refine r_callF (PV.int .i64) m.sX (savedBy_ok l i (by first | rfl | assumption | omega | (simp only [List.length_append, List.length_cons, List.length_nil] at *; omega)) (by first | rfl | assumption | omega | (simp only [List.length_append, List.length_cons, List.length_nil] at *; omega))) fun r1 hr1 => ?_
      conv => cbv
      exact hQ (.tup [.int .i64 r1, .bool true]) (Eq.trans (by first | rfl | (simp only [lb, lbI, rows_cons, rows_nil, unnilT, unnil, unnilTI, unnilI]; done) | (simp only [lb, lbI, rows_cons, rows_nil, unnilT, unnil, unnilTI, unnilI]; rfl)) (congrArg (ib) (show (r1, true) = savedAns l i from by first | (rw [savedAns, if_pos h1, hr1]; done) | (rw [savedAns, if_neg (by rw [h1]; simp)]; done))))   -- leaf 1
    · exact hQ (.tup [.int .i64 0, .bool false]) (Eq.trans (by first | rfl | (simp only [lb, lbI, rows_cons, rows_nil, unnilT, unnil, unnilTI, unnilI]; done) | (simp only [lb, lbI, rows_cons, rows_nil, unnilT, unnil, unnilTI, unnilI]; rfl)) (congrArg (ib) (show (0, false) = savedAns l i from by first | (rw [savedAns, if_pos h1, hr1]; done) | (rw [savedAns, if_neg (by rw [h1]; simp)]; done))))   -- leaf 2

theorem TotalHeight_ok (l : List (List Int))  : OkA Try.prog 11 [.isl 1 (rows (cSl 1 cInt) l)] (· = ib (totalAns l)) :=
  fn_intro envOk fieldsOk mixed Try.func11 rfl fun κ X Y L Q m hQ => by
    conv => cbv
    refine r_callB m.sX (AreParallel_ok l) (fun h1 => ?_) (fun h1 => ?_) <;> conv => cbv
    · have hl := (parB_spec h1).2
      refine r_callF (fun l => PV.fr _ _ (rows _ l)) m.sX (heights_ok l (by first | rfl | assumption | omega | (simp only [List.length_append, List.length_cons, List.length_nil] at *; omega))) fun v1 hv1 => ?_
      conv => cbv
      have hs : SumFits v1 := (by rw [hv1]; exact heights_fits h1)
      refine .inl (r_callFO intPV m.sX ((sum_ok v1 (by first | rfl | assumption | omega | (simp only [List.length_append, List.length_cons, List.length_nil] at *; omega))).ok flat_int) fun r1 hr1 => ?_)
      conv => cbv
      exact hQ (.tup [.int .i64 r1, .bool true]) (Eq.trans (by first | rfl | (simp only [lb, lbI, rows_cons, rows_nil, unnilT, unnil, unnilTI, unnilI]; done) | (simp only [lb, lbI, rows_cons, rows_nil, unnilT, unnil, unnilTI, unnilI]; rfl)) (congrArg (ib) (show (r1, true) = totalAns l from by rw [totalAns, if_pos h1, hr1, hv1]; rfl)))   -- leaf 1
    · exact hQ (.tup [.int .i64 0, .bool false]) (Eq.trans (by first | rfl | (simp only [lb, lbI, rows_cons, rows_nil, unnilT, unnil, unnilTI, unnilI]; done) | (simp only [lb, lbI, rows_cons, rows_nil, unnilT, unnil, unnilTI, unnilI]; rfl)) (congrArg (ib) (show (0, false) = totalAns l from by rw [totalAns, if_neg (by rw [h1]; simp)])))   -- leaf 2

theorem RowHeights_ok (l : List (List Int))  : OkA Try.prog 15 [.isl 1 (rows (cSl 1 cInt) l)] (· = (lb 3 1 cInt) (heightsAns l)) :=
  OkA.unnil 3 1 (fn_intro envOk fieldsOk mixed Try.func15 rfl fun κ X Y L Q m hQ => by
    conv => cbv
    refine r_callB m.sX (AreParallel_ok l) (fun h1 => ?_) (fun h1 => ?_) <;> conv => cbv
    · have hl := (parB_spec h1).2
      refine r_callF (fun l => PV.fr _ _ (rows _ l)) m.sX (heights_ok l (by first | rfl | assumption | omega | (simp only [List.length_append, List.length_cons, List.length_nil] at *; omega))) fun v1 hv1 => ?_
      conv => cbv
      exact hQ (.tup [.fr 3 1 (rows cInt v1), .bool true]) (Eq.trans (by first | rfl | (simp only [lb, lbI, rows_cons, rows_nil, unnilT, unnil, unnilTI, unnilI]; done) | (simp only [lb, lbI, rows_cons, rows_nil, unnilT, unnil, unnilTI, unnilI]; rfl)) (congrArg ((lb 3 1 cInt)) (show (v1, true) = heightsAns l from by rw [heightsAns, if_pos h1, hv1])))   -- leaf 1
    · exact hQ (.tup [.fr 3 1 [], .bool false]) (Eq.trans (by first | rfl | (simp only [lb, lbI, rows_cons, rows_nil, unnilT, unnil, unnilTI, unnilI]; done) | (simp only [lb, lbI, rows_cons, rows_nil, unnilT, unnil, unnilTI, unnilI]; rfl)) (congrArg ((lb 3 1 cInt)) (show ([], false) = heightsAns l from by rw [heightsAns, if_neg (by rw [h1]; simp)]))))   -- leaf 2

theorem specRowHeights_ok (l : List (List Int))  : OkA Try.prog 16 [.isl 1 (rows (cSl 1 cInt) l)] (· = (lb 3 1 cInt) (heightsAns l)) :=
  OkA.unnil 3 1 (fn_intro envOk fieldsOk mixed Try.func16 rfl fun κ X Y L Q m hQ => by
    conv => cbv
    refine r_callB m.sX (plGood_ok l) (fun h1 => ?_) (fun h1 => ?_) <;> conv => cbv
    · have hl := (parB_spec h1).2
      refine r_callF (fun l => PV.fr _ _ (rows _ l)) m.sX (plHeights_ok l (by first | rfl | assumption | omega | (simp only [List.length_append, List.length_cons, List.length_nil] at *; omega))) fun v1 hv1 => ?_
      conv => cbv
      exact hQ (.tup [.fr 3 1 (rows cInt v1), .bool true]) (Eq.trans (by first | rfl | (simp only [lb, lbI, rows_cons, rows_nil, unnilT, unnil, unnilTI, unnilI]; done) | (simp only [lb, lbI, rows_cons, rows_nil, unnilT, unnil, unnilTI, unnilI]; rfl)) (congrArg ((lb 3 1 cInt)) (show (v1, true) = heightsAns l from by rw [heightsAns, if_pos h1, hv1])))   -- leaf 1
    · exact hQ (.tup [.nil, .bool false]) (Eq.trans (by first | rfl | (simp only [lb, lbI, rows_cons, rows_nil, unnilT, unnil, unnilTI, unnilI]; done) | (simp only [lb, lbI, rows_cons, rows_nil, unnilT, unnil, unnilTI, unnilI]; rfl)) (congrArg ((lb 3 1 cInt)) (show ([], false) = heightsAns l from by rw [heightsAns, if_neg (by rw [h1]; simp)]))))   -- leaf 2

theorem specTotalHeight_ok (l : List (List Int))  : OkA Try.prog 12 [.isl 1 (rows (cSl 1 cInt) l)] (· = ib (totalAns l)) :=
  fn_intro envOk fieldsOk mixed Try.func12 rfl fun κ X Y L Q m hQ => by
    conv => cbv
    refine r_callB m.sX (plGood_ok l) (fun h1 => ?_) (fun h1 => ?_) <;> conv => cbv
    · obtain ⟨hb, hl⟩ := par_400 h1
      refine r_callF (PV.int .i64) m.sX (plTotal_ok l (by first | rfl | assumption | omega | (simp only [List.length_append, List.length_cons, List.length_nil] at *; omega)) (by first | rfl | assumption | omega | (simp only [List.length_append, List.length_cons, List.length_nil] at *; omega))) fun r1 hr1 => ?_
      conv => cbv
      exact hQ (.tup [.int .i64 r1, .bool true]) (Eq.trans (by first | rfl | (simp only [lb, lbI, rows_cons, rows_nil, unnilT, unnil, unnilTI, unnilI]; done) | (simp only [lb, lbI, rows_cons, rows_nil, unnilT, unnil, unnilTI, unnilI]; rfl)) (congrArg (ib) (show (r1, true) = totalAns l from by rw [totalAns, if_pos h1, hr1])))   -- leaf 1
    · exact hQ (.tup [.int .i64 0, .bool false]) (Eq.trans (by first | rfl | (simp only [lb, lbI, rows_cons, rows_nil, unnilT, unnil, unnilTI, unnilI]; done) | (simp only [lb, lbI, rows_cons, rows_nil, unnilT, unnil, unnilTI, unnilI]; rfl)) (congrArg (ib) (show (0, false) = totalAns l from by rw [totalAns, if_neg (by rw [h1]; simp)])))   -- leaf 2

theorem plJoin_ok (l : List (List Int)) (i : Int) (hp : parB l = true) (hi : 0 ≤ i ∧ i + 1 < l.length) : OkA Try.prog 95 [.isl 1 (rows (cSl 1 cInt) l), .int .i64 i] (· = .fr 30 1 (rows (cSl 1 cInt) (joinF l i.toNat))) :=
  OkA.unnil 30 1 (fn_intro envOk fieldsOk mixed Try.func95 rfl fun κ X Y L Q m hQ => by
    have hl4 := (parB_spec hp).2
    conv => cbv
    refine r_index m.sX (by omega) (by omega) fun x1 hx1 => ?_
    conv => cbv
    have mx1 := get_mem hx1
    obtain ⟨y, hy⟩ := get_ex (xs := l) (i := i.toNat + 1) (by omega)
    obtain ⟨j1, j2, j3, j4⟩ := par_rows hp hx1 hy
    refine r_lenR m.sX fun n1 hn1 mn1 => ?_
    conv => cbv
    refine r_loopF (α := List Int × Int) m 47 [0, 1, 12, 13, 14] [⟨5, 41, 3, 1, 0⟩] (fun σ => [(0, .isl 1 (rows (cSl 1 cInt) l)), (1, .int .i64 i), (5, .osl 41 0), (12, .isl 1 (rows cInt x1)), (13, .int .i64 n1), (14, .int .i64 σ.2)]) (fun σ => [(41, 0, .row 3 1 (rows cInt σ.1))])
      (fun σ => (0 ≤ σ.2) ∧ (σ.2 ≤ n1) ∧ (σ.1 = addR (x1.take σ.2.toNat) (y.take σ.2.toNat)) ∧ ((σ.1.length : Int) ≤ σ.2)) (fun σ => (n1 - σ.2).toNat) ([], 0) ?_ ?_ ?_ ?_
    · cbv
    · (try dsimp only); (try simp only [rows_cons, rows_nil]); cbv
    · exact ⟨(by (try dsimp only); first | omega | (simp only [List.length_nil]; omega) | (simp only [List.length_cons, List.length_nil]; omega)), (by (try dsimp only); first | omega | (simp only [List.length_nil]; omega) | (simp only [List.length_cons, List.length_nil]; omega)), (by (try dsimp only) <;> (rfl)), (by (try dsimp only) <;> first | omega | rfl | (simp [*]; done))⟩
    rintro ⟨both, i1⟩ ⟨lo1, hi1, q, ll⟩ E hE F hF
    dsimp only at lo1 hi1 q ll
    conv => cbv
    refine r_lss m.sX (fun h1 => ?_) (fun h1 => ?_) <;> conv => cbv
    · refine r_index m.sX (by omega) (by omega) fun n hn => ?_
      conv => cbv
      have mn := get_mem hn
      have dn := drop_cons hn
      have kn := take_snoc hn
      have jn : (i1 + 1).toNat = Int.toNat i1 + 1 := by omega
      have vn := nth_some hn
      have bn := j3 n mn
      refine r_addf m.sX (by omega) (by omega) fun r1 hr1 => ?_
      conv => cbv
      refine r_index m.sX (by omega) (by omega) fun x2 hx2 => ?_
      conv => cbv
      have mx2 := get_mem hx2
      have ey : x2 = y := (by rw [show Int.toNat r1 = i.toNat + 1 by omega] at hx2; exact Option.some.inj (hx2.symm.trans hy))
      have ly : x2.length = y.length := (by rw [ey])
      refine r_index m.sX (by omega) (by omega) fun x3 hx3 => ?_
      conv => cbv
      have mx3 := get_mem hx3
      have dx3 := drop_cons hx3
      have kx3 := take_snoc hx3
      have jx3 : (i1 + 1).toNat = Int.toNat i1 + 1 := by omega
      have vx3 := nth_some hx3
      have b3 := j4 x3 (by rw [← ey]; exact mx3)
      refine r_addf m.sX (by omega) (by omega) fun r2 hr2 => ?_
      conv => cbv
      refine r_append1 (r2) m.sX rfl (by first | omega | (dsimp only; omega)) (by first | omega | (dsimp only; omega)) fun both_2 hboth_2 => ?_
      conv => cbv
      have lboth_2 : (both_2.length : Int) = both.length + 1 := by rw [hboth_2]; first | done | (simp; done) | (simp; omega)
      refine r_addf m.sX (by omega) (by omega) fun r3 hr3 => ?_
      conv => cbv
      try have tr3 : Int.toNat r3 = Int.toNat i1 + 1 := by omega
      refine hE _ (both_2, r3) ?_ ?_ ⟨(by (try dsimp only); first | omega | (simp only [List.length_nil]; omega) | (simp only [List.length_cons, List.length_nil]; omega)), (by (try dsimp only); first | omega | (simp only [List.length_nil]; omega) | (simp only [List.length_cons, List.length_nil]; omega)), (by (try dsimp only) <;> (rw [hboth_2, q, tr3, addR_step hn (show y[i1.toNat]? = some x3 by rw [← ey]; exact hx3), hr2])), (by (try dsimp only) <;> first | omega | rfl | (simp [*]; done) | (rw [ll]; simp [*]; done))⟩ (by first | omega | (dsimp only; omega))
      · cbv
      · cbv
    · have dz_i1 := drop_end (xs := x1) (i := Int.toNat i1) (by omega)
      have tz_i1 := take_end (xs := x1) (i := Int.toNat i1) (by omega)
      refine hF _ _ ?_
      conv => cbv
      refine r_islice (i := 0) (j := i) m.sX (by omega) (by omega) (by omega) fun zs1 hzs1 => ?_   -- zs1 = l[None:i]
      have lzs1 : (zs1.length : Int) = i - 0 := by rw [hzs1]; first | done | (simp; done) | (simp; omega)
      have e1 : zs1 = l.take i.toNat := (by rw [hzs1]; simp)
      conv => cbv
      refine r_append0R m.sX (by first | omega | (dsimp only; omega)) (by first | omega | (dsimp only; omega)) fun out hout => ?_
      conv => cbv
      have lout : (out.length : Int) = zs1.length := by rw [hout]; first | done | (simp; done) | (simp; omega)
      refine r_drawT 5 m rfl rfl (by kernel_rfl) ?_
      conv => cbv
      refine r_append1 (both) m.sY rfl (by first | omega | (dsimp only; omega)) (by first | omega | (dsimp only; omega)) fun zs2 hzs2 => ?_
      conv => cbv
      have lzs2 : (zs2.length : Int) = out.length + 1 := by rw [hzs2]; first | done | (simp; done) | (simp; omega)
      refine r_addf m.sY (by omega) (by omega) fun r4 hr4 => ?_
      conv => cbv
      refine r_islice' (i := r4) m.sY (by omega) (by omega) fun zs3 hzs3 => ?_   -- zs3 = l[r4:None]
      have lzs3 : (zs3.length : Int) = l.length - r4 := by rw [hzs3]; first | done | (simp; done) | (simp; omega)
      have e3 : zs3 = l.drop (i.toNat + 2) := (by rw [hzs3, show r4.toNat = i.toNat + 2 by omega])
      conv => cbv
      refine r_append m.sY (by first | omega | (dsimp only; omega)) (by first | omega | (dsimp only; omega)) fun zs4 hzs4 => ?_
      conv => cbv
      have lzs4 : (zs4.length : Int) = zs2.length + zs3.length := by rw [hzs4]; first | done | (simp; done) | (simp; omega)
      exact hQ (.fr 30 1 (rows (cSl 1 cInt) zs4)) (Eq.trans (by first | rfl | (simp only [lb, lbI, rows_cons, rows_nil, unnilT, unnil, unnilTI, unnilI]; done) | (simp only [lb, lbI, rows_cons, rows_nil, unnilT, unnil, unnilTI, unnilI]; rfl)) (congrArg (fun l => PV.fr 30 1 (rows (cSl 1 cInt) l)) (show zs4 = joinF l i.toNat from by rw [joinF_at hx1 hy, hzs4, hzs2, hout, e1, e3, q, tz_i1, show y.take i1.toNat = y from List.take_of_length_le (by omega), List.append_assoc]; rfl))))   -- leaf 1

theorem plSaved_ok (l : List (List Int)) (i : Int) (hp : parB l = true) (hi : 0 ≤ i ∧ i + 1 < l.length) : OkA Try.prog 86 [.isl 1 (rows (cSl 1 cInt) l), .int .i64 i] (· = .int .i64 (savedF l i.toNat)) :=
  fn_intro envOk fieldsOk mixed Try.func86 rfl fun κ X Y L Q m hQ => by
    obtain ⟨hb, hl⟩ := par_400 hp
    conv => cbv
    refine r_callF (PV.int .i64) m.sX (plTotal_ok l (by first | rfl | assumption | omega | (simp only [List.length_append, List.length_cons, List.length_nil] at *; omega)) (by first | rfl | assumption | omega | (simp only [List.length_append, List.length_cons, List.length_nil] at *; omega))) fun r1 hr1 => ?_
    conv => cbv
    have w1 := total_all hb
    refine r_callF (fun l => PV.fr _ _ (rows _ l)) m.sX (plJoin_ok l i (by first | rfl | assumption | omega | (simp only [List.length_append, List.length_cons, List.length_nil] at *; omega)) (by first | rfl | assumption | omega | (simp only [List.length_append, List.length_cons, List.length_nil] at *; omega))) fun v1 hv1 => ?_
    conv => cbv
    have js := join_small hp i.toNat
    rw [← hv1] at js
    obtain ⟨js1, js2⟩ := js
    refine .inl (r_callFO intPV m.sX ((plTotal_ok v1 (by first | rfl | assumption | omega | (simp only [List.length_append, List.length_cons, List.length_nil] at *; omega)) (by first | rfl | assumption | omega | (simp only [List.length_append, List.length_cons, List.length_nil] at *; omega))).ok flat_int) fun r2 hr2 => ?_)
    conv => cbv
    have w2 := total_all js1
    refine r_subf m.sX (by omega) (by omega) fun r3 hr3 => ?_
    conv => cbv
    exact hQ (.int .i64 r3) (Eq.trans (by first | rfl | (simp only [lb, lbI, rows_cons, rows_nil, unnilT, unnil, unnilTI, unnilI]; done) | (simp only [lb, lbI, rows_cons, rows_nil, unnilT, unnil, unnilTI, unnilI]; rfl)) (congrArg (PV.int .i64) (show r3 = savedF l i.toNat from by rw [hr3, hr1, hr2, hv1, total_join (by omega)]; omega)))   -- leaf 1

theorem specSavedBy_ok (l : List (List Int)) (i : Int)  : OkA Try.prog 10 [.isl 1 (rows (cSl 1 cInt) l), .int .i64 i] (· = ib (savedAns l i)) :=
  fn_intro envOk fieldsOk mixed Try.func10 rfl fun κ X Y L Q m hQ => by
    conv => cbv
    refine r_callB m.sX (plGood_ok l) (fun h1 => ?_) (fun h1 => ?_) <;> conv => cbv
    · refine r_lenR m.sX fun n1 hn1 mn1 => ?_
      conv => cbv
      refine r_subf m.sX (by omega) (by omega) fun r1 hr1 => ?_
      conv => cbv
      refine r_callB m.sX (l1In_ok i 0 r1) (fun h2 => ?_) (fun h2 => ?_) <;> conv => cbv
      · obtain ⟨hp, hi⟩ := mark_spec (mark_of h1 (by omega) h2)
        refine r_callF (PV.int .i64) m.sX (plSaved_ok l i (by first | rfl | assumption | omega | (simp only [List.length_append, List.length_cons, List.length_nil] at *; omega)) (by first | rfl | assumption | omega | (simp only [List.length_append, List.length_cons, List.length_nil] at *; omega))) fun r2 hr2 => ?_
        conv => cbv
        exact hQ (.tup [.int .i64 r2, .bool true]) (Eq.trans (by first | rfl | (simp only [lb, lbI, rows_cons, rows_nil, unnilT, unnil, unnilTI, unnilI]; done) | (simp only [lb, lbI, rows_cons, rows_nil, unnilT, unnil, unnilTI, unnilI]; rfl)) (congrArg (ib) (show (r2, true) = savedAns l i from by rw [savedAns, if_pos (mark_of h1 (by omega) h2), hr2])))   -- leaf 1
      · exact hQ (.tup [.int .i64 0, .bool false]) (Eq.trans (by first | rfl | (simp only [lb, lbI, rows_cons, rows_nil, unnilT, unnil, unnilTI, unnilI]; done) | (simp only [lb, lbI, rows_cons, rows_nil, unnilT, unnil, unnilTI, unnilI]; rfl)) (congrArg (ib) (show (0, false) = savedAns l i from by rw [savedAns, if_neg (by rw [mark_no (by omega) h2]; simp)])))   -- leaf 2
    · exact hQ (.tup [.int .i64 0, .bool false]) (Eq.trans (by first | rfl | (simp only [lb, lbI, rows_cons, rows_nil, unnilT, unnil, unnilTI, unnilI]; done) | (simp only [lb, lbI, rows_cons, rows_nil, unnilT, unnil, unnilTI, unnilI]; rfl)) (congrArg (ib) (show (0, false) = savedAns l i from by rw [savedAns, markB, h1]; rfl)))   -- leaf 3

end Go.Proofs.Ytifkjlpkhfldoaa.Ai
