/- Contracts of the reference's functions on pages of a galley. -/
import Derived.Test.YtbamclepgabciaaDoorPage
namespace Go.Proofs.YtbamclepgabciaaDoor.Ai
open Go Go.Proofs
set_option linter.unusedSimpArgs false
set_option maxRecDepth 10000
set_option maxHeartbeats 4000000
set_option linter.unusedVariables false

theorem pgGood_ok (l : List SLine) (hp : ∀ x ∈ l, -1000 ≤ x.2.2 ∧ x.2.2 ≤ 1000) (hl : (l.length : Int) ≤ 1000) : OkA Tryd.prog 79 [.isl 3 (rows cSetLine l)] (· = .bool (okGal l)) :=
  fn_intro envOk fieldsOk mixed Tryd.func79 rfl fun κ X Y L Q m hQ => by
    conv => cbv
    refine r_lenR m.sX fun n1 hn1 mn1 => ?_
    conv => cbv
    refine r_loopF (α := Int × Int) m 47 [0, 3, 6, 7, 8] [] (fun σ => [(0, .isl 3 (rows cSetLine l)), (3, .int .i64 σ.1), (6, .isl 3 (rows cSetLine l)), (7, .int .i64 n1), (8, .int .i64 σ.2)]) (fun σ => [])
      (fun σ => (0 ≤ σ.2) ∧ (σ.2 ≤ n1) ∧ (galG none l = galG (prevP l σ.2) (l.drop σ.2.toNat)) ∧ (-1000 ≤ σ.1 ∧ σ.1 ≤ 1000) ∧ ((σ.2 = 0 ∧ σ.1 = 0) ∨ prevP l σ.2 = some σ.1)) (fun σ => (n1 - σ.2).toNat) (0, 0) ?_ ?_ ?_ ?_
    · cbv
    · cbv
    · exact ⟨(by (try dsimp only); first | omega | (simp only [List.length_nil]; omega)), (by (try dsimp only); first | omega | (simp only [List.length_nil]; omega)), (by (try dsimp only) <;> first | omega | rfl | (simp [*]; done)), (by (try dsimp only) <;> first | omega | rfl | (simp [*]; done)), (by (try dsimp only) <;> first | omega | rfl | (simp [*]; done))⟩
    rintro ⟨last, i1⟩ ⟨lo1, hi1, q, b, pv⟩ E hE F hF
    dsimp only at lo1 hi1 q b pv
    conv => cbv
    refine r_lss m.sX (fun h1 => ?_) (fun h1 => ?_) <;> conv => cbv
    · refine r_index m.sX (by omega) (by omega) fun v hxA => ?_
      obtain ⟨xA, xB, xC⟩ := v
      conv => cbv
      have hx := hxA
      have mx := get_mem hx
      have dx := drop_cons hx
      have kx := take_snoc hx
      have jx : (i1 + 1).toNat = Int.toNat i1 + 1 := by omega
      have px := hp _ mx
      try dsimp only at px
      have pn : prevP l (i1 + 1) = some xC := prevP_next lo1 hx
      refine r_callB m.sX (l1In_ok xA 1 40) (fun h2 => ?_) (fun h2 => ?_) <;> conv => cbv
      · refine r_callB m.sX (l1In_ok xB 0 60) (fun h3 => ?_) (fun h3 => ?_) <;> conv => cbv
        · have oa : okS (xA, xB, xC) = true := by show (inB xA 1 40 && inB xB 0 60) = true; rw [h2, h3]; rfl
          refine r_addf m.sX (by omega) (by omega) fun r1 hr1 => ?_
          conv => cbv
          refine r_callB m.sX (l1In_ok xC last r1) (fun h4 => ?_) (fun h4 => ?_) <;> conv => cbv
          · have b4 := inB_spec h4
            try dsimp only at b4
            refine r_eql m.sX (fun h5 => ?_) (fun h5 => ?_) <;> conv => cbv
            · have pq : prevP l i1 = none := prevP_zero h5
              refine r_neq m.sX (fun h6 => ?_) (fun h6 => ?_) <;> conv => cbv
              · have sb : stepP (prevP l i1) xC = false := by rw [pq]; exact decide_eq_false h6
                refine hF _ _ ?_
                conv => cbv
                exact hQ _ (congrArg PV.bool (by rw [okGal, q, dx, galG_bad (.inr sb)]; rfl))   -- leaf 1
              · have sp : stepP (prevP l i1) xC = true := by rw [pq]; exact decide_eq_true h6
                refine r_addf m.sX (by omega) (by omega) fun r2 hr2 => ?_
                conv => cbv
                have tr2 : Int.toNat r2 = Int.toNat i1 + 1 := by omega
                refine hE _ (xC, r2) ?_ ?_ ⟨(by (try dsimp only); first | omega | (simp only [List.length_nil]; omega)), (by (try dsimp only); first | omega | (simp only [List.length_nil]; omega)), (by (try dsimp only) <;> (rw [q, dx, galG_step oa sp, tr2, show r2 = i1 + 1 by omega, pn])), (by (try dsimp only) <;> first | omega | rfl | (simp [*]; done) | (rw [b]; simp [*]; done)), (by (try dsimp only) <;> (exact .inr (by rw [show r2 = i1 + 1 by omega]; exact pn)))⟩ (by first | omega | (dsimp only; omega))
                · cbv
                · cbv
            · have pq : prevP l i1 = some last := by rcases pv with e | e; omega; exact e
              have sp : stepP (prevP l i1) xC = true := by rw [pq]; show inB (xC - last) 0 1 = true; simp [inB]; omega
              refine r_addf m.sX (by omega) (by omega) fun r3 hr3 => ?_
              conv => cbv
              have tr3 : Int.toNat r3 = Int.toNat i1 + 1 := by omega
              refine hE _ (xC, r3) ?_ ?_ ⟨(by (try dsimp only); first | omega | (simp only [List.length_nil]; omega)), (by (try dsimp only); first | omega | (simp only [List.length_nil]; omega)), (by (try dsimp only) <;> (rw [q, dx, galG_step oa sp, tr3, show r3 = i1 + 1 by omega, pn])), (by (try dsimp only) <;> first | omega | rfl | (simp [*]; done) | (rw [b]; simp [*]; done)), (by (try dsimp only) <;> (exact .inr (by rw [show r3 = i1 + 1 by omega]; exact pn)))⟩ (by first | omega | (dsimp only; omega))
              · cbv
              · cbv
          · have b4 := inB_not h4
            try dsimp only at b4
            have sb : stepP (prevP l i1) xC = false := by rcases pv with e | e; rw [prevP_zero e.1]; exact decide_eq_false (by omega); rw [e]; show inB (xC - last) 0 1 = false; simp [inB]; omega
            refine hF _ _ ?_
            conv => cbv
            exact hQ _ (congrArg PV.bool (by rw [okGal, q, dx, galG_bad (.inr sb)]; rfl))   -- leaf 2
        · have ob : okS (xA, xB, xC) = false := by show (inB xA 1 40 && inB xB 0 60) = false; rw [h2, h3]; rfl
          refine hF _ _ ?_
          conv => cbv
          exact hQ _ (congrArg PV.bool (by rw [okGal, q, dx, galG_bad (.inl ob)]; rfl))   -- leaf 3
      · have ob : okS (xA, xB, xC) = false := by show (inB xA 1 40 && inB xB 0 60) = false; rw [h2]; rfl
        refine hF _ _ ?_
        conv => cbv
        exact hQ _ (congrArg PV.bool (by rw [okGal, q, dx, galG_bad (.inl ob)]; rfl))   -- leaf 4
    · have dz_i1 := drop_end (xs := l) (i := Int.toNat i1) (by omega)
      have tz_i1 := take_end (xs := l) (i := Int.toNat i1) (by omega)
      refine hF _ _ ?_
      conv => cbv
      refine r_lenR m.sX fun n2 hn2 mn2 => ?_
      conv => cbv
      refine r_callB m.sX (l1In_ok n2 1 40) (fun h7 => ?_) (fun h7 => ?_) <;> conv => cbv
      · exact hQ _ (congrArg PV.bool (by rw [okGal, q, dz_i1, ← hn2, h7]; rfl))   -- leaf 5
      · exact hQ _ (congrArg PV.bool (by rw [okGal, q, dz_i1, ← hn2, h7]; rfl))   -- leaf 6

theorem pgAsked_ok (l : List SLine) (depth : Int) (hp : ∀ x ∈ l, -1000 ≤ x.2.2 ∧ x.2.2 ≤ 1000) (hl : (l.length : Int) ≤ 1000) : OkA Tryd.prog 71 [.isl 3 (rows cSetLine l), .int .i64 depth] (· = .bool (okPg l depth)) :=
  fn_intro envOk fieldsOk mixed Tryd.func71 rfl fun κ X Y L Q m hQ => by
    conv => cbv
    refine r_lenR m.sX fun n1 hn1 mn1 => ?_
    conv => cbv
    refine r_loopF (α := Int) m 37 [0, 1, 7, 8, 9] [] (fun σ => [(0, .isl 3 (rows cSetLine l)), (1, .int .i64 depth), (7, .isl 3 (rows cSetLine l)), (8, .int .i64 n1), (9, .int .i64 σ)]) (fun σ => [])
      (fun σ => (0 ≤ σ) ∧ (σ ≤ n1) ∧ ((l.all okS && l.all (fun x => decide (x.1 + x.2.1 ≤ depth))) = (l.all okS && (l.drop σ.toNat).all (fun x => decide (x.1 + x.2.1 ≤ depth))))) (fun σ => (n1 - σ).toNat) 0 ?_ ?_ ?_ ?_
    · cbv
    · cbv
    · exact ⟨(by (try dsimp only); first | omega | (simp only [List.length_nil]; omega)), (by (try dsimp only); first | omega | (simp only [List.length_nil]; omega)), (by (try dsimp only) <;> first | omega | rfl | (simp [*]; done))⟩
    rintro i1 ⟨lo1, hi1, q⟩ E hE F hF
    conv => cbv
    refine r_lss m.sX (fun h1 => ?_) (fun h1 => ?_) <;> conv => cbv
    · refine r_index m.sX (by omega) (by omega) fun v hxA => ?_
      obtain ⟨xA, xB, xC⟩ := v
      conv => cbv
      have hx := hxA
      have mx := get_mem hx
      have dx := drop_cons hx
      have kx := take_snoc hx
      have jx : (i1 + 1).toNat = Int.toNat i1 + 1 := by omega
      refine r_callB m.sX (l1In_ok xA 1 40) (fun h2 => ?_) (fun h2 => ?_) <;> conv => cbv
      · have b2 := inB_spec h2
        try dsimp only at b2
        refine r_callB m.sX (l1In_ok xB 0 60) (fun h3 => ?_) (fun h3 => ?_) <;> conv => cbv
        · have b3 := inB_spec h3
          try dsimp only at b3
          refine r_addf m.sX (by omega) (by omega) fun r1 hr1 => ?_
          conv => cbv
          refine r_gtr m.sX (fun h4 => ?_) (fun h4 => ?_) <;> conv => cbv
          · refine hF _ _ ?_
            conv => cbv
            exact hQ _ (congrArg PV.bool (by rw [okPg_alt, q, dx]; simp only [List.all_cons]; rw [decide_eq_false (show ¬ xA + xB ≤ depth by omega)]; simp))   -- leaf 1
          · refine r_addf m.sX (by omega) (by omega) fun r2 hr2 => ?_
            conv => cbv
            have tr2 : Int.toNat r2 = Int.toNat i1 + 1 := by omega
            refine hE _ r2 ?_ ?_ ⟨(by (try dsimp only); first | omega | (simp only [List.length_nil]; omega)), (by (try dsimp only); first | omega | (simp only [List.length_nil]; omega)), (by (try dsimp only) <;> (first | (rw [no]; rfl) | (rw [q, dx]; simp only [List.all_cons]; rw [tr2, decide_eq_true (show xA + xB ≤ depth by omega)]; rfl)))⟩ (by first | omega | (dsimp only; omega))
            · cbv
            · cbv
        · have no : l.all okS = false := all_no mx (by rw [okS, h2, h3]; rfl)
          refine r_addf m.sX (by omega) (by omega) fun r3 hr3 => ?_
          conv => cbv
          have tr3 : Int.toNat r3 = Int.toNat i1 + 1 := by omega
          refine hE _ r3 ?_ ?_ ⟨(by (try dsimp only); first | omega | (simp only [List.length_nil]; omega)), (by (try dsimp only); first | omega | (simp only [List.length_nil]; omega)), (by (try dsimp only) <;> (first | (rw [no]; rfl) | (rw [q, dx]; simp only [List.all_cons]; rw [tr3, decide_eq_true (show xA + xB ≤ depth by omega)]; rfl)))⟩ (by first | omega | (dsimp only; omega))
          · cbv
          · cbv
      · have no : l.all okS = false := all_no mx (by rw [okS, h2]; rfl)
        refine r_addf m.sX (by omega) (by omega) fun r4 hr4 => ?_
        conv => cbv
        have tr4 : Int.toNat r4 = Int.toNat i1 + 1 := by omega
        refine hE _ r4 ?_ ?_ ⟨(by (try dsimp only); first | omega | (simp only [List.length_nil]; omega)), (by (try dsimp only); first | omega | (simp only [List.length_nil]; omega)), (by (try dsimp only) <;> (first | (rw [no]; rfl) | (rw [q, dx]; simp only [List.all_cons]; rw [tr4, decide_eq_true (show xA + xB ≤ depth by omega)]; rfl)))⟩ (by first | omega | (dsimp only; omega))
        · cbv
        · cbv
    · have dz_i1 := drop_end (xs := l) (i := Int.toNat i1) (by omega)
      have tz_i1 := take_end (xs := l) (i := Int.toNat i1) (by omega)
      refine hF _ _ ?_
      conv => cbv
      refine r_callB m.sX (pgGood_ok l (by first | rfl | assumption | omega | (simp only [List.length_append, List.length_cons, List.length_nil] at *; omega)) (by first | rfl | assumption | omega | (simp only [List.length_append, List.length_cons, List.length_nil] at *; omega))) (fun h5 => ?_) (fun h5 => ?_) <;> conv => cbv
      · refine r_callB m.sX (l1In_ok depth 40 2000) (fun h6 => ?_) (fun h6 => ?_) <;> conv => cbv
        · exact hQ _ (congrArg PV.bool (by rw [okPg_alt, q, dz_i1, h5, h6, gal_all h5]; rfl))   -- leaf 2
        · exact hQ _ (congrArg PV.bool (by rw [okPg_alt, q, dz_i1, h5, h6, gal_all h5]; rfl))   -- leaf 3
      · exact hQ _ (congrArg PV.bool (by rw [okPg_alt, q, dz_i1, h5]; simp))   -- leaf 4

theorem pgDeep_ok (l : List SLine) (hs : ∀ x ∈ l, okS x = true) (hl : (l.length : Int) ≤ 1000) : OkA Tryd.prog 78 [.isl 3 (rows cSetLine l)] (· = .int .i64 (deepS l)) :=
  fn_intro envOk fieldsOk mixed Tryd.func78 rfl fun κ X Y L Q m hQ => by
    conv => cbv
    refine r_lenR m.sX fun n1 hn1 mn1 => ?_
    conv => cbv
    refine r_loopF (α := Int × Int) m 21 [3, 6, 7, 8] [] (fun σ => [(3, .int .i64 σ.1), (6, .isl 3 (rows cSetLine l)), (7, .int .i64 n1), (8, .int .i64 σ.2)]) (fun σ => [])
      (fun σ => (0 ≤ σ.2) ∧ (σ.2 ≤ n1) ∧ (σ.1 = deepS (l.take σ.2.toNat)) ∧ (0 ≤ σ.1 ∧ σ.1 ≤ 100 * σ.2)) (fun σ => (n1 - σ.2).toNat) (0, 0) ?_ ?_ ?_ ?_
    · cbv
    · cbv
    · exact ⟨(by (try dsimp only); first | omega | (simp only [List.length_nil]; omega)), (by (try dsimp only); first | omega | (simp only [List.length_nil]; omega)), (by (try dsimp only) <;> first | omega | rfl | (simp [*]; done)), (by (try dsimp only) <;> first | omega | rfl | (simp [*]; done))⟩
    rintro ⟨sum, i1⟩ ⟨lo1, hi1, q, b⟩ E hE F hF
    dsimp only at lo1 hi1 q b
    conv => cbv
    refine r_lss m.sX (fun h1 => ?_) (fun h1 => ?_) <;> conv => cbv
    · refine r_index m.sX (by omega) (by omega) fun v hxA => ?_
      obtain ⟨xA, xB, xC⟩ := v
      conv => cbv
      have hx := hxA
      have mx := get_mem hx
      have dx := drop_cons hx
      have kx := take_snoc hx
      have jx : (i1 + 1).toNat = Int.toNat i1 + 1 := by omega
      have ox := okS_spec (hs _ mx)
      try dsimp only at ox
      refine r_addf m.sX (by omega) (by omega) fun r1 hr1 => ?_
      conv => cbv
      refine r_addf m.sX (by omega) (by omega) fun sum_2 hsum_2 => ?_
      conv => cbv
      refine r_addf m.sX (by omega) (by omega) fun r2 hr2 => ?_
      conv => cbv
      have tr2 : Int.toNat r2 = Int.toNat i1 + 1 := by omega
      refine hE _ (sum_2, r2) ?_ ?_ ⟨(by (try dsimp only); first | omega | (simp only [List.length_nil]; omega)), (by (try dsimp only); first | omega | (simp only [List.length_nil]; omega)), (by (try dsimp only) <;> (rw [hsum_2, q, tr2, deepS_take hx, hr1])), (by (try dsimp only) <;> first | omega | rfl | (simp [*]; done) | (rw [b]; simp [*]; done))⟩ (by first | omega | (dsimp only; omega))
      · cbv
      · cbv
    · have dz_i1 := drop_end (xs := l) (i := Int.toNat i1) (by omega)
      have tz_i1 := take_end (xs := l) (i := Int.toNat i1) (by omega)
      refine hF _ _ ?_
      conv => cbv
      exact hQ (.int .i64 sum) (Eq.trans (by first | rfl | (simp only [lb, lbI, rows_cons, rows_nil, unnilT, unnil, unnilTI, unnilI]; done) | (simp only [lb, lbI, rows_cons, rows_nil, unnilT, unnil, unnilTI, unnilI]; rfl)) (congrArg (PV.int .i64) (show sum = deepS l from by rw [q, tz_i1])))   -- leaf 1

theorem pgEnds_ok (l : List SLine) (ends : List Int) (hp : ∀ x ∈ l, -1000 ≤ x.2.2 ∧ x.2.2 ≤ 1000) (hl : (l.length : Int) ≤ 1000) : OkA Tryd.prog 77 [.isl 3 (rows cSetLine l), .isl 1 (rows cInt ends)] (· = .bool (okEnds l ends)) :=
  fn_intro envOk fieldsOk mixed Tryd.func77 rfl fun κ X Y L Q m hQ => by
    conv => cbv
    refine r_callB m.sX (pgGood_ok l (by first | rfl | assumption | omega | (simp only [List.length_append, List.length_cons, List.length_nil] at *; omega)) (by first | rfl | assumption | omega | (simp only [List.length_append, List.length_cons, List.length_nil] at *; omega))) (fun h1 => ?_) (fun h1 => ?_) <;> conv => cbv
    · refine r_lenR m.sX fun n1 hn1 mn1 => ?_
      conv => cbv
      refine r_gtr m.sX (fun h2 => ?_) (fun h2 => ?_) <;> conv => cbv
      · have hd : decide (0 < (ends.length : Int)) = true := decide_eq_true (by omega)
        refine r_lenR m.sX fun n2 hn2 mn2 => ?_
        conv => cbv
        refine r_callB m.sX (l1Rising_ok ends 1 n2) (fun h3 => ?_) (fun h3 => ?_) <;> conv => cbv
        · refine r_lenR m.sX fun n3 hn3 mn3 => ?_
          conv => cbv
          refine r_subf m.sX (by omega) (by omega) fun r1 hr1 => ?_
          conv => cbv
          refine r_index m.sX (by omega) (by omega) fun x1 hx1 => ?_
          conv => cbv
          have mx1 := get_mem hx1
          have vx1 := nth_some hx1
          have ex1 : nth ends (ends.length - 1) = x1 := by rw [← vx1]; congr 1; omega
          refine r_lenR m.sX fun n4 hn4 mn4 => ?_
          conv => cbv
          refine r_eql m.sX (fun h4 => ?_) (fun h4 => ?_) <;> conv => cbv
          · exact hQ _ (congrArg PV.bool (by rw [okEnds, h1, hd, ← hn2, h3, ex1, decide_eq_true (by omega)]; rfl))   -- leaf 1
          · exact hQ _ (congrArg PV.bool (by rw [okEnds, h1, hd, ← hn2, h3, ex1, decide_eq_false (by omega)]; rfl))   -- leaf 2
        · exact hQ _ (congrArg PV.bool (by rw [okEnds, h1, hd, ← hn2, h3]; rfl))   -- leaf 3
      · exact hQ _ (congrArg PV.bool (by rw [okEnds, h1, decide_eq_false (by omega)]; rfl))   -- leaf 4
    · exact hQ _ (congrArg PV.bool (by rw [okEnds, h1]; rfl))   -- leaf 5

theorem specPageDepths_ok (l : List SLine) (ends : List Int) (hp : ∀ x ∈ l, -1000 ≤ x.2.2 ∧ x.2.2 ≤ 1000) (hl : (l.length : Int) ≤ 1000) : OkA Tryd.prog 16 [.isl 3 (rows cSetLine l), .isl 1 (rows cInt ends)] (· = (lb 3 1 cInt) (depF l ends)) :=
  OkA.unnil 3 1 (fn_intro envOk fieldsOk mixed Tryd.func16 rfl fun κ X Y L Q m hQ => by
    conv => cbv
    refine r_callB m.sX (pgEnds_ok l ends (by first | rfl | assumption | omega | (simp only [List.length_append, List.length_cons, List.length_nil] at *; omega)) (by first | rfl | assumption | omega | (simp only [List.length_append, List.length_cons, List.length_nil] at *; omega))) (fun h1 => ?_) (fun h1 => ?_) <;> conv => cbv
    · have oe := okEnds_spec h1
      have ec := oe.count
      have ef := oe.few
      refine r_lenR m.sX fun n1 hn1 mn1 => ?_
      conv => cbv
      refine r_loopF (α := List Int × Int × Int) m 31 [0, 7, 14, 15, 16] [⟨6, 49, 3, 1, 0⟩] (fun σ => [(0, .isl 3 (rows cSetLine l)), (6, .osl 49 0), (7, .int .i64 σ.2.1), (14, .isl 1 (rows cInt ends)), (15, .int .i64 n1), (16, .int .i64 σ.2.2)]) (fun σ => [(49, 0, .row 3 1 (rows cInt σ.1))])
        (fun σ => (0 ≤ σ.2.2) ∧ (σ.2.2 ≤ n1) ∧ (deepsL l 0 ends = σ.1 ++ deepsL l σ.2.1 (ends.drop σ.2.2.toNat)) ∧ (0 ≤ σ.2.1 ∧ σ.2.1 ≤ l.length ∧ (σ.2.2 = 0 ∧ σ.2.1 = 0 ∨ 0 < σ.2.2 ∧ ends[(σ.2.2 - 1).toNat]? = some σ.2.1)) ∧ ((σ.1.length : Int) = σ.2.2)) (fun σ => (n1 - σ.2.2).toNat) ([], 0, 0) ?_ ?_ ?_ ?_
      · cbv
      · (try dsimp only); simp only [rows_cons, rows_nil]; cbv
      · exact ⟨(by (try dsimp only); first | omega | (simp only [List.length_nil]; omega)), (by (try dsimp only); first | omega | (simp only [List.length_nil]; omega)), (by (try dsimp only) <;> first | omega | rfl | (simp [*]; done)), (by (try dsimp only) <;> first | omega | rfl | (simp [*]; done)), (by (try dsimp only) <;> first | omega | rfl | (simp [*]; done))⟩
      rintro ⟨out, from_, i1⟩ ⟨lo1, hi1, q, fb, ln⟩ E hE F hF
      dsimp only at lo1 hi1 q fb ln
      conv => cbv
      refine r_lss m.sX (fun h2 => ?_) (fun h2 => ?_) <;> conv => cbv
      · refine r_index m.sX (by omega) (by omega) fun e he => ?_
        conv => cbv
        have me := get_mem he
        have de := drop_cons he
        have ke := take_snoc he
        have je : (i1 + 1).toNat = Int.toNat i1 + 1 := by omega
        have ve := nth_some he
        have bt := oe.le _ me
        have bf : from_ ≤ e := by rcases fb.2.2 with e1 | ⟨e0, e1⟩; omega; exact oe.step (Int.toNat (i1 - 1)) from_ e e1 (by rw [← he]; congr 1; omega)
        refine r_islice (i := from_) (j := e) m.sX (by omega) (by omega) (by omega) fun zs1 hzs1 => ?_   -- zs1 = l[from_:e]
        have lzs1 : (zs1.length : Int) = e - from_ := by rw [hzs1]; first | done | (simp; done) | (simp; omega)
        have zs := cut_mem (i := from_.toNat) (j := e.toNat) oe.ok
        have zf := oe.few
        rw [← hzs1] at zs
        conv => cbv
        refine r_callF (PV.int .i64) m.sX (pgDeep_ok zs1 (by first | rfl | assumption | omega | (simp only [List.length_append, List.length_cons, List.length_nil] at *; omega)) (by first | rfl | assumption | omega | (simp only [List.length_append, List.length_cons, List.length_nil] at *; omega))) fun r1 hr1 => ?_
        conv => cbv
        refine r_append1 (r1) m.sX rfl (by first | omega | (dsimp only; omega)) (by first | omega | (dsimp only; omega)) fun out_2 hout_2 => ?_
        conv => cbv
        have lout_2 : (out_2.length : Int) = out.length + 1 := by rw [hout_2]; first | done | (simp; done) | (simp; omega)
        refine r_addf m.sX (by omega) (by omega) fun r2 hr2 => ?_
        conv => cbv
        have tr2 : Int.toNat r2 = Int.toNat i1 + 1 := by omega
        refine hE _ (out_2, e, r2) ?_ ?_ ⟨(by (try dsimp only); first | omega | (simp only [List.length_nil]; omega)), (by (try dsimp only); first | omega | (simp only [List.length_nil]; omega)), (by (try dsimp only) <;> (rw [q, de, deepsL, tr2, hout_2, hr1, hzs1]; simp)), (by (try dsimp only) <;> (exact ⟨by omega, by omega, .inr ⟨by omega, by rw [← he]; congr 1; omega⟩⟩)), (by (try dsimp only) <;> first | omega | rfl | (simp [*]; done) | (rw [ln]; simp [*]; done))⟩ (by first | omega | (dsimp only; omega))
        · cbv
        · cbv
      · have dz_i1 := drop_end (xs := ends) (i := Int.toNat i1) (by omega)
        have tz_i1 := take_end (xs := ends) (i := Int.toNat i1) (by omega)
        refine hF _ _ ?_
        conv => cbv
        exact hQ (.tup [.fr 3 1 (rows cInt out), .bool true]) (Eq.trans (by first | rfl | (simp only [lb, lbI, rows_cons, rows_nil, unnilT, unnil, unnilTI, unnilI]; done) | (simp only [lb, lbI, rows_cons, rows_nil, unnilT, unnil, unnilTI, unnilI]; rfl)) (congrArg ((lb 3 1 cInt)) (show (out, true) = depF l ends from by rw [depF, h1, q, dz_i1]; simp [deepsL])))   -- leaf 1
    · exact hQ (.tup [.nil, .bool false]) (Eq.trans (by first | rfl | (simp only [lb, lbI, rows_cons, rows_nil, unnilT, unnil, unnilTI, unnilI]; done) | (simp only [lb, lbI, rows_cons, rows_nil, unnilT, unnil, unnilTI, unnilI]; rfl)) (congrArg ((lb 3 1 cInt)) (show ([], false) = depF l ends from by rw [depF, h1]; rfl))))   -- leaf 2

end Go.Proofs.YtbamclepgabciaaDoor.Ai
