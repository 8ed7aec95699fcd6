/- Contracts of the functions on pages of a galley. -/
import Derived.Test.YtbamclepgabciaaDoorPageLaw4
import Derived.Test.YtbamclepgabciaaDoorLit
namespace Go.Proofs.YtbamclepgabciaaDoor.Ai
open Go Go.Proofs
set_option linter.unusedSimpArgs false
set_option maxRecDepth 10000
set_option maxHeartbeats 4000000
set_option linter.unusedVariables false

theorem IsGalley_ok (l : List SLine) (hp : ∀ x ∈ l, -1000 ≤ x.2.2 ∧ x.2.2 ≤ 1000) (hl : (l.length : Int) ≤ 1000) : OkA Tryd.prog 14 [.isl 3 (rows cSetLine l)] (· = .bool (okGal l)) :=
  fn_intro envOk fieldsOk mixed Tryd.func14 rfl fun κ X Y L Q m hQ => by
    conv => cbv
    refine r_lenR m.sX fun n1 hn1 mn1 => ?_
    conv => cbv
    refine r_loopF (α := Int) m 50 [0, 5, 6, 7] [] (fun σ => [(0, .isl 3 (rows cSetLine l)), (5, .isl 3 (rows cSetLine l)), (6, .int .i64 n1), (7, .int .i64 σ)]) (fun σ => [])
      (fun σ => (0 ≤ σ) ∧ (σ ≤ n1) ∧ (galG none l = galG (prevP l σ) (l.drop σ.toNat))) (fun σ => (n1 - σ).toNat) 0 ?_ ?_ ?_ ?_
    · cbv
    · cbv
    · exact ⟨(by (try dsimp only); first | omega | (simp only [List.length_nil]; omega)), (by (try dsimp only); first | omega | (simp only [List.length_nil]; omega)), (by (try dsimp only) <;> first | omega | rfl | (simp [*]; done))⟩
    rintro i1 ⟨lo1, hi1, q⟩ E hE F hF
    conv => cbv
    refine r_lss m.sX (fun h1 => ?_) (fun h1 => ?_) <;> conv => cbv
    · refine r_index m.sX (by omega) (by omega) fun v hxA => ?_
      obtain ⟨xA, xB, xC⟩ := v
      conv => cbv
      have hx := hxA
      have mx := get_mem hx
      have dx := drop_cons hx
      have kx := take_snoc hx
      have jx : (i1 + 1).toNat = Int.toNat i1 + 1 := by omega
      have px := hp _ mx
      try dsimp only at px
      have pn : prevP l (i1 + 1) = some xC := prevP_next lo1 hx
      refine r_callB m.sX (within_ok xA 1 40) (fun h2 => ?_) (fun h2 => ?_) <;> conv => cbv
      · refine r_callB m.sX (within_ok xB 0 60) (fun h3 => ?_) (fun h3 => ?_) <;> conv => cbv
        · have oa : okS (xA, xB, xC) = true := by show (inB xA 1 40 && inB xB 0 60) = true; rw [h2, h3]; rfl
          refine r_draw m (by kernel_rfl) ?_
          conv => cbv
          refine r_eql m.sY (fun h4 => ?_) (fun h4 => ?_) <;> conv => cbv
          · have pv : prevP l i1 = none := prevP_zero h4
            refine r_neq m.sY (fun h5 => ?_) (fun h5 => ?_) <;> conv => cbv
            · have sb : stepP (prevP l i1) xC = false := by rw [pv]; exact decide_eq_false h5
              refine hF _ _ ?_
              conv => cbv
              exact hQ _ (congrArg PV.bool (by rw [okGal, q, dx, galG_bad (.inr sb)]; rfl))   -- leaf 1
            · have sp : stepP (prevP l i1) xC = true := by rw [pv]; exact decide_eq_true h5
              refine r_gtr m.sY (fun h6 => ?_) (fun h6 => ?_) <;> conv => cbv
              · refine r_subf m.sY (by omega) (by omega) fun r1 hr1 => ?_
                conv => cbv
                refine r_index m.sY (by omega) (by omega) fun v hx1A => ?_
                obtain ⟨x1A, x1B, x1C⟩ := v
                conv => cbv
                have hx1 := hx1A
                have mx1 := get_mem hx1
                have px1 := hp _ mx1
                try dsimp only at px1
                have pv : prevP l i1 = some x1C := prevP_some (by omega) (by rw [← hr1]; exact hx1)
                refine r_subf m.sY (by omega) (by omega) fun r2 hr2 => ?_
                conv => cbv
                refine r_callBS m.sY (within_ok r2 0 1) (fun h7 => ?_) (fun h7 => ?_) <;> conv => cbv
                · refine r_addf m.sX (by omega) (by omega) fun r3 hr3 => ?_
                  conv => cbv
                  have tr3 : Int.toNat r3 = Int.toNat i1 + 1 := by omega
                  refine hE _ r3 ?_ ?_ ⟨(by (try dsimp only); first | omega | (simp only [List.length_nil]; omega)), (by (try dsimp only); first | omega | (simp only [List.length_nil]; omega)), (by (try dsimp only) <;> (rw [q, dx, galG_step oa sp, tr3, show r3 = i1 + 1 by omega, pn]))⟩ (by first | omega | (dsimp only; omega))
                  · cbv
                  · cbv
                · have sb : stepP (prevP l i1) xC = false := by rw [pv]; show inB (xC - x1C) 0 1 = false; rw [← hr2]; exact h7
                  refine hF _ _ ?_
                  conv => cbv
                  exact hQ _ (congrArg PV.bool (by rw [okGal, q, dx, galG_bad (.inr sb)]; rfl))   -- leaf 2
              · refine r_addf m.sX (by omega) (by omega) fun r4 hr4 => ?_
                conv => cbv
                have tr4 : Int.toNat r4 = Int.toNat i1 + 1 := by omega
                refine hE _ r4 ?_ ?_ ⟨(by (try dsimp only); first | omega | (simp only [List.length_nil]; omega)), (by (try dsimp only); first | omega | (simp only [List.length_nil]; omega)), (by (try dsimp only) <;> (rw [q, dx, galG_step oa sp, tr4, show r4 = i1 + 1 by omega, pn]))⟩ (by first | omega | (dsimp only; omega))
                · cbv
                · cbv
          · refine r_gtr m.sY (fun h8 => ?_) (fun h8 => ?_) <;> conv => cbv
            · refine r_subf m.sY (by omega) (by omega) fun r5 hr5 => ?_
              conv => cbv
              refine r_index m.sY (by omega) (by omega) fun v hx2A => ?_
              obtain ⟨x2A, x2B, x2C⟩ := v
              conv => cbv
              have hx2 := hx2A
              have mx2 := get_mem hx2
              have px2 := hp _ mx2
              try dsimp only at px2
              have pv : prevP l i1 = some x2C := prevP_some (by omega) (by rw [← hr5]; exact hx2)
              refine r_subf m.sY (by omega) (by omega) fun r6 hr6 => ?_
              conv => cbv
              refine r_callBS m.sY (within_ok r6 0 1) (fun h9 => ?_) (fun h9 => ?_) <;> conv => cbv
              · have sp : stepP (prevP l i1) xC = true := by rw [pv]; show inB (xC - x2C) 0 1 = true; rw [← hr6]; exact h9
                refine r_addf m.sX (by omega) (by omega) fun r7 hr7 => ?_
                conv => cbv
                have tr7 : Int.toNat r7 = Int.toNat i1 + 1 := by omega
                refine hE _ r7 ?_ ?_ ⟨(by (try dsimp only); first | omega | (simp only [List.length_nil]; omega)), (by (try dsimp only); first | omega | (simp only [List.length_nil]; omega)), (by (try dsimp only) <;> (rw [q, dx, galG_step oa sp, tr7, show r7 = i1 + 1 by omega, pn]))⟩ (by first | omega | (dsimp only; omega))
                · cbv
                · cbv
              · have sb : stepP (prevP l i1) xC = false := by rw [pv]; show inB (xC - x2C) 0 1 = false; rw [← hr6]; exact h9
                refine hF _ _ ?_
                conv => cbv
                exact hQ _ (congrArg PV.bool (by rw [okGal, q, dx, galG_bad (.inr sb)]; rfl))   -- leaf 3
            · have sp : stepP (prevP l i1) xC = true := by exfalso; omega
              refine r_addf m.sX (by omega) (by omega) fun r8 hr8 => ?_
              conv => cbv
              have tr8 : Int.toNat r8 = Int.toNat i1 + 1 := by omega
              refine hE _ r8 ?_ ?_ ⟨(by (try dsimp only); first | omega | (simp only [List.length_nil]; omega)), (by (try dsimp only); first | omega | (simp only [List.length_nil]; omega)), (by (try dsimp only) <;> (rw [q, dx, galG_step oa sp, tr8, show r8 = i1 + 1 by omega, pn]))⟩ (by first | omega | (dsimp only; omega))
              · cbv
              · cbv
        · have ob : okS (xA, xB, xC) = false := by show (inB xA 1 40 && inB xB 0 60) = false; rw [h2, h3]; rfl
          refine hF _ _ ?_
          conv => cbv
          exact hQ _ (congrArg PV.bool (by rw [okGal, q, dx, galG_bad (.inl ob)]; rfl))   -- leaf 4
      · have ob : okS (xA, xB, xC) = false := by show (inB xA 1 40 && inB xB 0 60) = false; rw [h2]; rfl
        refine hF _ _ ?_
        conv => cbv
        exact hQ _ (congrArg PV.bool (by rw [okGal, q, dx, galG_bad (.inl ob)]; rfl))   -- leaf 5
    · have dz_i1 := drop_end (xs := l) (i := Int.toNat i1) (by omega)
      have tz_i1 := take_end (xs := l) (i := Int.toNat i1) (by omega)
      refine hF _ _ ?_
      conv => cbv
      refine r_lenR m.sX fun n2 hn2 mn2 => ?_
      conv => cbv
      refine r_callB m.sX (within_ok n2 1 40) (fun h10 => ?_) (fun h10 => ?_) <;> conv => cbv
      · exact hQ _ (congrArg PV.bool (by rw [okGal, q, dz_i1, ← hn2, h10]; rfl))   -- leaf 6
      · exact hQ _ (congrArg PV.bool (by rw [okGal, q, dz_i1, ← hn2, h10]; rfl))   -- leaf 7

theorem high_ok (x : SLine) (hx : -100000 ≤ x.1 + x.2.1 ∧ x.1 + x.2.1 ≤ 100000) : OkA Tryd.prog 134 [.agg (cSetLine x)] (· = .int .i64 (x.1 + x.2.1)) := by
  obtain ⟨xA, xB, xC⟩ := x
  try dsimp only at *
  exact fn_intro envOk fieldsOk mixed Tryd.func134 rfl fun κ X Y L Q m hQ => by
    conv => cbv
    refine r_addf m.sX (by omega) (by omega) fun r1 hr1 => ?_
    conv => cbv
    exact hQ (.int .i64 r1) (Eq.trans (by first | rfl | (simp only [lb, lbI, rows_cons, rows_nil, unnilT, unnil, unnilTI, unnilI]; done) | (simp only [lb, lbI, rows_cons, rows_nil, unnilT, unnil, unnilTI, unnilI]; rfl)) (congrArg (PV.int .i64) (show r1 = xA + xB from by first | rfl | omega | (simp [*]; done) | (subst_vars; simp [*]; done))))   -- leaf 1

theorem isPaged_ok (l : List SLine) (depth : Int) (hp : ∀ x ∈ l, -1000 ≤ x.2.2 ∧ x.2.2 ≤ 1000) (hs : ∀ x ∈ l, -100000 ≤ x.1 + x.2.1 ∧ x.1 + x.2.1 ≤ 100000) (hl : (l.length : Int) ≤ 1000) : OkA Tryd.prog 69 [.isl 3 (rows cSetLine l), .int .i64 depth] (· = .bool (okPg l depth)) :=
  fn_intro envOk fieldsOk mixed Tryd.func69 rfl fun κ X Y L Q m hQ => by
    conv => cbv
    refine r_lenR m.sX fun n1 hn1 mn1 => ?_
    conv => cbv
    refine r_loopF (α := Int) m 24 [0, 1, 7, 8, 9] [] (fun σ => [(0, .isl 3 (rows cSetLine l)), (1, .int .i64 depth), (7, .isl 3 (rows cSetLine l)), (8, .int .i64 n1), (9, .int .i64 σ)]) (fun σ => [])
      (fun σ => (0 ≤ σ) ∧ (σ ≤ n1) ∧ (l.all (fun x => decide (x.1 + x.2.1 ≤ depth)) = (l.drop σ.toNat).all (fun x => decide (x.1 + x.2.1 ≤ depth)))) (fun σ => (n1 - σ).toNat) 0 ?_ ?_ ?_ ?_
    · cbv
    · cbv
    · exact ⟨(by (try dsimp only); first | omega | (simp only [List.length_nil]; omega)), (by (try dsimp only); first | omega | (simp only [List.length_nil]; omega)), (by (try dsimp only) <;> first | omega | rfl | (simp [*]; done))⟩
    rintro i1 ⟨lo1, hi1, q⟩ E hE F hF
    conv => cbv
    refine r_lss m.sX (fun h1 => ?_) (fun h1 => ?_) <;> conv => cbv
    · refine r_index m.sX (by omega) (by omega) fun v hxA => ?_
      obtain ⟨xA, xB, xC⟩ := v
      conv => cbv
      have hx := hxA
      have mx := get_mem hx
      have dx := drop_cons hx
      have kx := take_snoc hx
      have jx : (i1 + 1).toNat = Int.toNat i1 + 1 := by omega
      have sx := hs _ mx
      try dsimp only at sx
      refine r_callF (PV.int .i64) m.sX (high_ok (xA, xB, xC) (by first | rfl | assumption | omega | (simp only [List.length_append, List.length_cons, List.length_nil] at *; omega))) fun r1 hr1 => ?_
      conv => cbv
      try dsimp only at hr1
      refine r_gtr m.sX (fun h2 => ?_) (fun h2 => ?_) <;> conv => cbv
      · refine hF _ _ ?_
        conv => cbv
        exact hQ _ (congrArg PV.bool (by rw [okPg, q, dx]; simp only [List.all_cons]; rw [decide_eq_false (show ¬ xA + xB ≤ depth by omega)]; simp))   -- leaf 1
      · refine r_addf m.sX (by omega) (by omega) fun r2 hr2 => ?_
        conv => cbv
        have tr2 : Int.toNat r2 = Int.toNat i1 + 1 := by omega
        refine hE _ r2 ?_ ?_ ⟨(by (try dsimp only); first | omega | (simp only [List.length_nil]; omega)), (by (try dsimp only); first | omega | (simp only [List.length_nil]; omega)), (by (try dsimp only) <;> (rw [q, dx]; simp only [List.all_cons]; rw [tr2, decide_eq_true (show xA + xB ≤ depth by omega)]; rfl))⟩ (by first | omega | (dsimp only; omega))
        · cbv
        · cbv
    · have dz_i1 := drop_end (xs := l) (i := Int.toNat i1) (by omega)
      have tz_i1 := take_end (xs := l) (i := Int.toNat i1) (by omega)
      refine hF _ _ ?_
      conv => cbv
      refine r_callB m.sX (IsGalley_ok l (by first | rfl | assumption | omega | (simp only [List.length_append, List.length_cons, List.length_nil] at *; omega)) (by first | rfl | assumption | omega | (simp only [List.length_append, List.length_cons, List.length_nil] at *; omega))) (fun h3 => ?_) (fun h3 => ?_) <;> conv => cbv
      · refine r_callB m.sX (within_ok depth 40 2000) (fun h4 => ?_) (fun h4 => ?_) <;> conv => cbv
        · exact hQ _ (congrArg PV.bool (by rw [okPg, q, dz_i1, h3, h4]; rfl))   -- leaf 2
        · exact hQ _ (congrArg PV.bool (by rw [okPg, q, dz_i1, h3, h4]; rfl))   -- leaf 3
      · exact hQ _ (congrArg PV.bool (by rw [okPg, q, dz_i1, h3]; rfl))   -- leaf 4

theorem depthOf_ok (l : List SLine) (hs : ∀ x ∈ l, okS x = true) (hl : (l.length : Int) ≤ 1000) : OkA Tryd.prog 76 [.isl 3 (rows cSetLine l)] (· = .int .i64 (deepS l)) :=
  fn_intro envOk fieldsOk mixed Tryd.func76 rfl fun κ X Y L Q m hQ => by
    conv => cbv
    refine r_lenR m.sX fun n1 hn1 mn1 => ?_
    conv => cbv
    refine r_loopF (α := Int × Int) m 18 [3, 6, 7, 8] [] (fun σ => [(3, .int .i64 σ.1), (6, .isl 3 (rows cSetLine l)), (7, .int .i64 n1), (8, .int .i64 σ.2)]) (fun σ => [])
      (fun σ => (0 ≤ σ.2) ∧ (σ.2 ≤ n1) ∧ (σ.1 = deepS (l.take σ.2.toNat)) ∧ (0 ≤ σ.1 ∧ σ.1 ≤ 100 * σ.2)) (fun σ => (n1 - σ.2).toNat) (0, 0) ?_ ?_ ?_ ?_
    · cbv
    · cbv
    · exact ⟨(by (try dsimp only); first | omega | (simp only [List.length_nil]; omega)), (by (try dsimp only); first | omega | (simp only [List.length_nil]; omega)), (by (try dsimp only) <;> first | omega | rfl | (simp [*]; done)), (by (try dsimp only) <;> first | omega | rfl | (simp [*]; done))⟩
    rintro ⟨n, i1⟩ ⟨lo1, hi1, q, b⟩ E hE F hF
    dsimp only at lo1 hi1 q b
    conv => cbv
    refine r_lss m.sX (fun h1 => ?_) (fun h1 => ?_) <;> conv => cbv
    · refine r_index m.sX (by omega) (by omega) fun v hxA => ?_
      obtain ⟨xA, xB, xC⟩ := v
      conv => cbv
      have hx := hxA
      have mx := get_mem hx
      have dx := drop_cons hx
      have kx := take_snoc hx
      have jx : (i1 + 1).toNat = Int.toNat i1 + 1 := by omega
      have ox := okS_spec (hs _ mx)
      try dsimp only at ox
      have ob : -100000 ≤ xA + xB ∧ xA + xB ≤ 100000 := by omega
      refine r_callF (PV.int .i64) m.sX (high_ok (xA, xB, xC) (by first | rfl | assumption | omega | (simp only [List.length_append, List.length_cons, List.length_nil] at *; omega))) fun r1 hr1 => ?_
      conv => cbv
      try dsimp only at hr1
      refine r_addf m.sX (by omega) (by omega) fun n_2 hn_2 => ?_
      conv => cbv
      refine r_addf m.sX (by omega) (by omega) fun r2 hr2 => ?_
      conv => cbv
      have tr2 : Int.toNat r2 = Int.toNat i1 + 1 := by omega
      refine hE _ (n_2, r2) ?_ ?_ ⟨(by (try dsimp only); first | omega | (simp only [List.length_nil]; omega)), (by (try dsimp only); first | omega | (simp only [List.length_nil]; omega)), (by (try dsimp only) <;> (rw [hn_2, q, tr2, deepS_take hx, hr1])), (by (try dsimp only) <;> first | omega | rfl | (simp [*]; done) | (rw [b]; simp [*]; done))⟩ (by first | omega | (dsimp only; omega))
      · cbv
      · cbv
    · have dz_i1 := drop_end (xs := l) (i := Int.toNat i1) (by omega)
      have tz_i1 := take_end (xs := l) (i := Int.toNat i1) (by omega)
      refine hF _ _ ?_
      conv => cbv
      exact hQ (.int .i64 n) (Eq.trans (by first | rfl | (simp only [lb, lbI, rows_cons, rows_nil, unnilT, unnil, unnilTI, unnilI]; done) | (simp only [lb, lbI, rows_cons, rows_nil, unnilT, unnil, unnilTI, unnilI]; rfl)) (congrArg (PV.int .i64) (show n = deepS l from by rw [q, tz_i1])))   -- leaf 1

theorem isLast_ok (l : List SLine) (i : Int) (hl : (l.length : Int) ≤ 1000) (hi : 0 ≤ i ∧ i < l.length) : OkA Tryd.prog 83 [.isl 3 (rows cSetLine l), .int .i64 i] (· = .bool (lastB l i)) :=
  fn_intro envOk fieldsOk mixed Tryd.func83 rfl fun κ X Y L Q m hQ => by
    conv => cbv
    refine r_draw m (by kernel_rfl) ?_
    conv => cbv
    refine r_lenRS m.sY (by omega) fun n1 hn1 => ?_
    conv => cbv
    refine r_subf m.sY (by omega) (by omega) fun r1 hr1 => ?_
    conv => cbv
    refine r_eql m.sY (fun h1 => ?_) (fun h1 => ?_) <;> conv => cbv
    · exact hQ _ (congrArg PV.bool (by rw [lastB, decide_eq_true (by omega)]; rfl))   -- leaf 1
    · have hd : decide (i = (l.length : Int) - 1) = false := decide_eq_false (by omega)
      refine r_addf m.sY (by omega) (by omega) fun r2 hr2 => ?_
      conv => cbv
      refine r_index m.sY (by omega) (by omega) fun v hx1A => ?_
      obtain ⟨x1A, x1B, x1C⟩ := v
      conv => cbv
      have hx1 := hx1A
      have mx1 := get_mem hx1
      have p1 := parAt_some hx1
      try dsimp only at p1
      refine r_index m.sY (by omega) (by omega) fun v hx2A => ?_
      obtain ⟨x2A, x2B, x2C⟩ := v
      conv => cbv
      have hx2 := hx2A
      have mx2 := get_mem hx2
      have p2 := parAt_some hx2
      try dsimp only at p2
      refine r_neq m.sY (fun h2 => ?_) (fun h2 => ?_) <;> conv => cbv
      · exact hQ _ (congrArg PV.bool (by rw [lastB, hd, ← hr2, p1, p2, decide_eq_false h2]; rfl))   -- leaf 2
      · exact hQ _ (congrArg PV.bool (by rw [lastB, hd, ← hr2, p1, p2, decide_eq_true h2]; rfl))   -- leaf 3

theorem pageFill_ok (l : List SLine) (depth : Int) (hs : ∀ x ∈ l, okS x = true) (hl : (l.length : Int) ≤ 40) : OkA Tryd.prog 70 [.isl 3 (rows cSetLine l), .int .i64 depth] (· = .fr 3 1 (rows cInt (fillL depth 0 0 l))) :=
  OkA.unnil 3 1 (fn_intro envOk fieldsOk mixed Tryd.func70 rfl fun κ X Y L Q m hQ => by
    conv => cbv
    refine r_lenR m.sX fun n1 hn1 mn1 => ?_
    conv => cbv
    refine r_loopF (α := List Int × Int × Int) m 33 [0, 1, 6, 10, 11] [⟨5, 41, 3, 1, 0⟩] (fun σ => [(0, .isl 3 (rows cSetLine l)), (1, .int .i64 depth), (5, .osl 41 0), (6, .int .i64 σ.2.1), (10, .int .i64 n1), (11, .int .i64 σ.2.2)]) (fun σ => [(41, 0, .row 3 1 (rows cInt σ.1))])
      (fun σ => (0 ≤ σ.2.2) ∧ (σ.2.2 ≤ n1) ∧ (0 ≤ σ.2.1 ∧ σ.2.1 ≤ σ.2.2) ∧ (fillL depth 0 0 l = σ.1 ++ fillL depth (deepS ((l.take σ.2.2.toNat).drop σ.2.1.toNat)) σ.2.2 (l.drop σ.2.2.toNat)) ∧ ((σ.1.length : Int) ≤ σ.2.2)) (fun σ => (n1 - σ.2.2).toNat) ([], 0, 0) ?_ ?_ ?_ ?_
    · cbv
    · (try dsimp only); simp only [rows_cons, rows_nil]; cbv
    · exact ⟨(by (try dsimp only); first | omega | (simp only [List.length_nil]; omega)), (by (try dsimp only); first | omega | (simp only [List.length_nil]; omega)), (by (try dsimp only) <;> first | omega | rfl | (simp [*]; done)), (by (try dsimp only) <;> first | omega | rfl | (simp [*]; done)), (by (try dsimp only) <;> first | omega | rfl | (simp [*]; done))⟩
    rintro ⟨ends, from_, i1⟩ ⟨lo1, hi1, k1, q, ln⟩ E hE F hF
    dsimp only at lo1 hi1 k1 q ln
    conv => cbv
    refine r_lss m.sX (fun h1 => ?_) (fun h1 => ?_) <;> conv => cbv
    · obtain ⟨x, hx⟩ := get_ex (xs := l) (i := Int.toNat i1) (by omega)
      have ox := okS_spec (hs x (get_mem hx))
      refine r_addf m.sX (by omega) (by omega) fun r1 hr1 => ?_
      conv => cbv
      refine r_islice (i := from_) (j := r1) m.sX (by omega) (by omega) (by omega) fun zs1 hzs1 => ?_   -- zs1 = l[from_:r1]
      have lzs1 : (zs1.length : Int) = r1 - from_ := by rw [hzs1]; first | done | (simp; done) | (simp; omega)
      have zs := cut_mem (i := from_.toNat) (j := r1.toNat) hs
      rw [← hzs1] at zs
      conv => cbv
      refine r_callF (PV.int .i64) m.sX (depthOf_ok zs1 (by first | rfl | assumption | omega | (simp only [List.length_append, List.length_cons, List.length_nil] at *; omega)) (by first | rfl | assumption | omega | (simp only [List.length_append, List.length_cons, List.length_nil] at *; omega))) fun r2 hr2 => ?_
      conv => cbv
      have e2 : r2 = deepS ((l.take (Int.toNat i1)).drop (Int.toNat from_)) + (x.1 + x.2.1) := by rw [hr2, hzs1, show Int.toNat r1 = Int.toNat i1 + 1 by omega]; exact deep_more hx (by omega)
      refine r_gtr m.sX (fun h2 => ?_) (fun h2 => ?_) <;> conv => cbv
      · have e3 : deepS ((l.take (Int.toNat i1 + 1)).drop (Int.toNat i1)) = x.1 + x.2.1 := deep_one hx
        refine r_append1 (i1) m.sX rfl (by first | omega | (dsimp only; omega)) (by first | omega | (dsimp only; omega)) fun ends_2 hends_2 => ?_
        conv => cbv
        have lends_2 : (ends_2.length : Int) = ends.length + 1 := by rw [hends_2]; first | done | (simp; done) | (simp; omega)
        refine r_addf m.sX (by omega) (by omega) fun r3 hr3 => ?_
        conv => cbv
        have tr3 : Int.toNat r3 = Int.toNat i1 + 1 := by omega
        refine hE _ (ends_2, i1, r3) ?_ ?_ ⟨(by (try dsimp only); first | omega | (simp only [List.length_nil]; omega)), (by (try dsimp only); first | omega | (simp only [List.length_nil]; omega)), (by (try dsimp only) <;> first | omega | rfl | (simp [*]; done) | (rw [k1]; simp [*]; done)), (by (try dsimp only) <;> (rw [q, drop_cons hx, fillL, tr3, show r3 = i1 + 1 by omega]; first | (rw [if_pos (by omega), hends_2, e3]; simp) | (rw [if_neg (by omega), ← e2, hr2, hzs1, show Int.toNat r1 = Int.toNat i1 + 1 by omega]))), (by (try dsimp only) <;> first | omega | rfl | (simp [*]; done) | (rw [ln]; simp [*]; done))⟩ (by first | omega | (dsimp only; omega))
        · cbv
        · cbv
      · refine r_addf m.sX (by omega) (by omega) fun r4 hr4 => ?_
        conv => cbv
        have tr4 : Int.toNat r4 = Int.toNat i1 + 1 := by omega
        refine hE _ (ends, from_, r4) ?_ ?_ ⟨(by (try dsimp only); first | omega | (simp only [List.length_nil]; omega)), (by (try dsimp only); first | omega | (simp only [List.length_nil]; omega)), (by (try dsimp only) <;> first | omega | rfl | (simp [*]; done) | (rw [k1]; simp [*]; done)), (by (try dsimp only) <;> (rw [q, drop_cons hx, fillL, tr4, show r4 = i1 + 1 by omega]; first | (rw [if_pos (by omega), hends, e3]; simp) | (rw [if_neg (by omega), ← e2, hr2, hzs1, show Int.toNat r1 = Int.toNat i1 + 1 by omega]))), (by (try dsimp only) <;> first | omega | rfl | (simp [*]; done) | (rw [ln]; simp [*]; done))⟩ (by first | omega | (dsimp only; omega))
        · cbv
        · cbv
    · have dz_i1 := drop_end (xs := l) (i := Int.toNat i1) (by omega)
      have tz_i1 := take_end (xs := l) (i := Int.toNat i1) (by omega)
      refine hF _ _ ?_
      conv => cbv
      refine r_lenR m.sX fun n2 hn2 mn2 => ?_
      conv => cbv
      refine r_append1 (n2) m.sX rfl (by first | omega | (dsimp only; omega)) (by first | omega | (dsimp only; omega)) fun zs2 hzs2 => ?_
      conv => cbv
      have lzs2 : (zs2.length : Int) = ends.length + 1 := by rw [hzs2]; first | done | (simp; done) | (simp; omega)
      exact hQ (.fr 3 1 (rows cInt zs2)) (Eq.trans (by first | rfl | (simp only [lb, lbI, rows_cons, rows_nil, unnilT, unnil, unnilTI, unnilI]; done) | (simp only [lb, lbI, rows_cons, rows_nil, unnilT, unnil, unnilTI, unnilI]; rfl)) (congrArg (fun l => PV.fr 3 1 (rows cInt l)) (show zs2 = fillL depth 0 0 l from by rw [hzs2, q, dz_i1, fillL, show n2 = i1 by omega]))))   -- leaf 1

theorem PagesOfGalley_ok (l : List SLine) (depth : Int) (hp : ∀ x ∈ l, -1000 ≤ x.2.2 ∧ x.2.2 ≤ 1000) (hs : ∀ x ∈ l, -100000 ≤ x.1 + x.2.1 ∧ x.1 + x.2.1 ≤ 100000) (hl : (l.length : Int) ≤ 1000) : OkA Tryd.prog 11 [.isl 3 (rows cSetLine l), .int .i64 depth] (· = ib (pagesF l depth)) :=
  fn_intro envOk fieldsOk mixed Tryd.func11 rfl fun κ X Y L Q m hQ => by
    conv => cbv
    refine r_callB m.sX (isPaged_ok l depth (by first | rfl | assumption | omega | (simp only [List.length_append, List.length_cons, List.length_nil] at *; omega)) (by first | rfl | assumption | omega | (simp only [List.length_append, List.length_cons, List.length_nil] at *; omega)) (by first | rfl | assumption | omega | (simp only [List.length_append, List.length_cons, List.length_nil] at *; omega))) (fun h1 => ?_) (fun h1 => ?_) <;> conv => cbv
    · obtain ⟨os, oh, ol, od, og⟩ := okPg_spec h1
      refine r_callF (fun l => PV.fr _ _ (rows _ l)) m.sX (pageFill_ok l depth (by first | rfl | assumption | omega | (simp only [List.length_append, List.length_cons, List.length_nil] at *; omega)) (by first | rfl | assumption | omega | (simp only [List.length_append, List.length_cons, List.length_nil] at *; omega))) fun v1 hv1 => ?_
      conv => cbv
      refine r_lenR m.sX fun n1 hn1 mn1 => ?_
      conv => cbv
      exact hQ (.tup [.int .i64 n1, .bool true]) (Eq.trans (by first | rfl | (simp only [lb, lbI, rows_cons, rows_nil, unnilT, unnil, unnilTI, unnilI]; done) | (simp only [lb, lbI, rows_cons, rows_nil, unnilT, unnil, unnilTI, unnilI]; rfl)) (congrArg (ib) (show (n1, true) = pagesF l depth from by rw [pagesF, h1, ← fillL_length depth l 0 0, ← hv1, ← hn1]; rfl)))   -- leaf 1
    · exact hQ (.tup [.int .i64 0, .bool false]) (Eq.trans (by first | rfl | (simp only [lb, lbI, rows_cons, rows_nil, unnilT, unnil, unnilTI, unnilI]; done) | (simp only [lb, lbI, rows_cons, rows_nil, unnilT, unnil, unnilTI, unnilI]; rfl)) (congrArg (ib) (show (0, false) = pagesF l depth from by rw [pagesF, h1]; rfl)))   -- leaf 2

theorem areEnds_ok (l : List SLine) (ends : List Int) (hp : ∀ x ∈ l, -1000 ≤ x.2.2 ∧ x.2.2 ≤ 1000) (hl : (l.length : Int) ≤ 1000) : OkA Tryd.prog 74 [.isl 3 (rows cSetLine l), .isl 1 (rows cInt ends)] (· = .bool (okEnds l ends)) :=
  fn_intro envOk fieldsOk mixed Tryd.func74 rfl fun κ X Y L Q m hQ => by
    conv => cbv
    refine r_lenR m.sX fun n hn mn => ?_
    conv => cbv
    refine r_callB m.sX (IsGalley_ok l (by first | rfl | assumption | omega | (simp only [List.length_append, List.length_cons, List.length_nil] at *; omega)) (by first | rfl | assumption | omega | (simp only [List.length_append, List.length_cons, List.length_nil] at *; omega))) (fun h1 => ?_) (fun h1 => ?_) <;> conv => cbv
    · refine r_gtr m.sX (fun h2 => ?_) (fun h2 => ?_) <;> conv => cbv
      · have hd : decide (0 < (ends.length : Int)) = true := decide_eq_true (by omega)
        refine r_lenR m.sX fun n1 hn1 mn1 => ?_
        conv => cbv
        refine r_callB m.sX (increases_ok ends 1 n1) (fun h3 => ?_) (fun h3 => ?_) <;> conv => cbv
        · refine r_subf m.sX (by omega) (by omega) fun r1 hr1 => ?_
          conv => cbv
          refine r_index m.sX (by omega) (by omega) fun x1 hx1 => ?_
          conv => cbv
          have mx1 := get_mem hx1
          have vx1 := nth_some hx1
          have ex1 : nth ends (ends.length - 1) = x1 := by rw [← vx1]; congr 1; omega
          refine r_lenR m.sX fun n2 hn2 mn2 => ?_
          conv => cbv
          refine r_eql m.sX (fun h4 => ?_) (fun h4 => ?_) <;> conv => cbv
          · exact hQ _ (congrArg PV.bool (by rw [okEnds, h1, hd, ← hn1, h3, ex1, decide_eq_true (by omega)]; rfl))   -- leaf 1
          · exact hQ _ (congrArg PV.bool (by rw [okEnds, h1, hd, ← hn1, h3, ex1, decide_eq_false (by omega)]; rfl))   -- leaf 2
        · exact hQ _ (congrArg PV.bool (by rw [okEnds, h1, hd, ← hn1, h3]; rfl))   -- leaf 3
      · exact hQ _ (congrArg PV.bool (by rw [okEnds, h1, decide_eq_false (by omega)]; rfl))   -- leaf 4
    · exact hQ _ (congrArg PV.bool (by rw [okEnds, h1]; rfl))   -- leaf 5

theorem pagesOf_ok (l : List SLine) (ends : List Int) (hn : (ends.length : Int) ≤ 1000) (he : ∀ e ∈ ends, 0 ≤ e ∧ e ≤ l.length) (hr : ∀ (i : Nat) (a b : Int), ends[i]? = some a → ends[i + 1]? = some b → a ≤ b) : OkA Tryd.prog 75 [.isl 3 (rows cSetLine l), .isl 1 (rows cInt ends)] (· = .fr 23 1 (rows (cSl 3 cSetLine) (cutsL l 0 ends))) :=
  OkA.unnil 23 1 (fn_intro envOk fieldsOk mixed Tryd.func75 rfl fun κ X Y L Q m hQ => by
    conv => cbv
    refine r_lenR m.sX fun n1 hn1 mn1 => ?_
    conv => cbv
    refine r_loopF (α := List (List SLine) × Int × Int) m 26 [0, 6, 10, 11, 12] [⟨5, 41, 23, 1, 0⟩] (fun σ => [(0, .isl 3 (rows cSetLine l)), (5, .osl 41 0), (6, .int .i64 σ.2.1), (10, .isl 1 (rows cInt ends)), (11, .int .i64 n1), (12, .int .i64 σ.2.2)]) (fun σ => [(41, 0, .row 23 1 (rows (cSl 3 cSetLine) σ.1))])
      (fun σ => (0 ≤ σ.2.2) ∧ (σ.2.2 ≤ n1) ∧ (cutsL l 0 ends = σ.1 ++ cutsL l σ.2.1 (ends.drop σ.2.2.toNat)) ∧ (0 ≤ σ.2.1 ∧ σ.2.1 ≤ l.length ∧ (σ.2.2 = 0 ∧ σ.2.1 = 0 ∨ 0 < σ.2.2 ∧ ends[(σ.2.2 - 1).toNat]? = some σ.2.1)) ∧ ((σ.1.length : Int) = σ.2.2)) (fun σ => (n1 - σ.2.2).toNat) ([], 0, 0) ?_ ?_ ?_ ?_
    · cbv
    · (try dsimp only); simp only [rows_cons, rows_nil]; cbv
    · exact ⟨(by (try dsimp only); first | omega | (simp only [List.length_nil]; omega)), (by (try dsimp only); first | omega | (simp only [List.length_nil]; omega)), (by (try dsimp only) <;> first | omega | rfl | (simp [*]; done)), (by (try dsimp only) <;> first | omega | rfl | (simp [*]; done)), (by (try dsimp only) <;> first | omega | rfl | (simp [*]; done))⟩
    rintro ⟨pages, from_, i1⟩ ⟨lo1, hi1, q, fb, ln⟩ E hE F hF
    dsimp only at lo1 hi1 q fb ln
    conv => cbv
    refine r_lss m.sX (fun h1 => ?_) (fun h1 => ?_) <;> conv => cbv
    · refine r_index m.sX (by omega) (by omega) fun to_ hto_ => ?_
      conv => cbv
      have mto_ := get_mem hto_
      have dto_ := drop_cons hto_
      have kto_ := take_snoc hto_
      have jto_ : (i1 + 1).toNat = Int.toNat i1 + 1 := by omega
      have vto_ := nth_some hto_
      have bt := he _ mto_
      have bf : from_ ≤ to_ := by rcases fb.2.2 with e | ⟨e0, e⟩; omega; exact hr (Int.toNat (i1 - 1)) from_ to_ e (by rw [← hto_]; congr 1; omega)
      refine r_islice (i := from_) (j := to_) m.sX (by omega) (by omega) (by omega) fun zs1 hzs1 => ?_   -- zs1 = l[from_:to_]
      have lzs1 : (zs1.length : Int) = to_ - from_ := by rw [hzs1]; first | done | (simp; done) | (simp; omega)
      conv => cbv
      refine r_append1 (zs1) m.sX rfl (by first | omega | (dsimp only; omega)) (by first | omega | (dsimp only; omega)) fun pages_2 hpages_2 => ?_
      conv => cbv
      have lpages_2 : (pages_2.length : Int) = pages.length + 1 := by rw [hpages_2]; first | done | (simp; done) | (simp; omega)
      refine r_addf m.sX (by omega) (by omega) fun r1 hr1 => ?_
      conv => cbv
      have tr1 : Int.toNat r1 = Int.toNat i1 + 1 := by omega
      refine hE _ (pages_2, to_, r1) ?_ ?_ ⟨(by (try dsimp only); first | omega | (simp only [List.length_nil]; omega)), (by (try dsimp only); first | omega | (simp only [List.length_nil]; omega)), (by (try dsimp only) <;> (rw [q, dto_, cutsL, tr1, hpages_2, hzs1]; simp)), (by (try dsimp only) <;> (exact ⟨by omega, by omega, .inr ⟨by omega, by rw [← hto_]; congr 1; omega⟩⟩)), (by (try dsimp only) <;> first | omega | rfl | (simp [*]; done) | (rw [ln]; simp [*]; done))⟩ (by first | omega | (dsimp only; omega))
      · cbv
      · cbv
    · have dz_i1 := drop_end (xs := ends) (i := Int.toNat i1) (by omega)
      have tz_i1 := take_end (xs := ends) (i := Int.toNat i1) (by omega)
      refine hF _ _ ?_
      conv => cbv
      exact hQ (.fr 23 1 (rows (cSl 3 cSetLine) pages)) (Eq.trans (by first | rfl | (simp only [lb, lbI, rows_cons, rows_nil, unnilT, unnil, unnilTI, unnilI]; done) | (simp only [lb, lbI, rows_cons, rows_nil, unnilT, unnil, unnilTI, unnilI]; rfl)) (congrArg (fun l => PV.fr 23 1 (rows (cSl 3 cSetLine) l)) (show pages = cutsL l 0 ends from by rw [q, dz_i1]; simp [cutsL]))))   -- leaf 1

theorem PageDepths_ok (l : List SLine) (ends : List Int) (hp : ∀ x ∈ l, -1000 ≤ x.2.2 ∧ x.2.2 ≤ 1000) (hl : (l.length : Int) ≤ 1000) : OkA Tryd.prog 15 [.isl 3 (rows cSetLine l), .isl 1 (rows cInt ends)] (· = (lb 3 1 cInt) (depF l ends)) :=
  OkA.unnil 3 1 (fn_intro envOk fieldsOk mixed Tryd.func15 rfl fun κ X Y L Q m hQ => by
    conv => cbv
    refine r_callB m.sX (areEnds_ok l ends (by first | rfl | assumption | omega | (simp only [List.length_append, List.length_cons, List.length_nil] at *; omega)) (by first | rfl | assumption | omega | (simp only [List.length_append, List.length_cons, List.length_nil] at *; omega))) (fun h1 => ?_) (fun h1 => ?_) <;> conv => cbv
    · have oe := okEnds_spec h1
      have ec := oe.count
      have ef := oe.few
      have oem := oe.le
      have oer := oe.step
      have os := oe.ok
      refine r_callF (fun l => PV.fr _ _ (rows _ l)) m.sX (pagesOf_ok l ends (by first | rfl | assumption | omega | (simp only [List.length_append, List.length_cons, List.length_nil] at *; omega)) (by first | rfl | assumption | omega | (simp only [List.length_append, List.length_cons, List.length_nil] at *; omega)) (by first | rfl | assumption | omega | (simp only [List.length_append, List.length_cons, List.length_nil] at *; omega))) fun v1 hv1 => ?_
      conv => cbv
      have lv : (v1.length : Int) = ends.length := by rw [hv1, cutsL_length]
      refine r_lenR m.sX fun n1 hn1 mn1 => ?_
      conv => cbv
      refine r_loopF (α := List Int × Int) m 30 [18, 19] [⟨6, 49, 3, 1, 0⟩, ⟨17, 137, 23, 1, 0⟩] (fun σ => [(6, .osl 49 0), (17, .osl 137 0), (18, .int .i64 n1), (19, .int .i64 σ.2)]) (fun σ => [(49, 0, .row 3 1 (rows cInt σ.1)), (137, 0, .row 23 1 (rows (cSl 3 cSetLine) v1))])
        (fun σ => (0 ≤ σ.2) ∧ (σ.2 ≤ n1) ∧ (deepsL l 0 ends = σ.1 ++ (v1.drop σ.2.toNat).map deepS) ∧ ((σ.1.length : Int) ≤ σ.2)) (fun σ => (n1 - σ.2).toNat) ([], 0) ?_ ?_ ?_ ?_
      · cbv
      · (try dsimp only); simp only [rows_cons, rows_nil]; cbv
      · exact ⟨(by (try dsimp only); first | omega | (simp only [List.length_nil]; omega)), (by (try dsimp only); first | omega | (simp only [List.length_nil]; omega)), (by (try dsimp only) <;> (rw [hv1]; exact deepsL_cuts l ends 0)), (by (try dsimp only) <;> first | omega | rfl | (simp [*]; done))⟩
      rintro ⟨list, i1⟩ ⟨lo1, hi1, q, ln⟩ E hE F hF
      dsimp only at lo1 hi1 q ln
      conv => cbv
      refine r_lss m.sX (fun h2 => ?_) (fun h2 => ?_) <;> conv => cbv
      · refine r_oindex m.sX (by omega) (by omega) ?_
        conv => cbv
        obtain ⟨page, hpage⟩ := get_ex (xs := v1) (i := Int.toNat i1) (by omega)
        have mpage := get_mem hpage
        have dpage := drop_cons hpage
        have kpage := take_snoc hpage
        have jpage : (i1 + 1).toNat = Int.toNat i1 + 1 := by omega
        have pm := cutsL_mem os (hv1 ▸ mpage)
        have pl := cutsL_len oe.few (hv1 ▸ mpage)
        refine r_oload m.sX hpage (Nat.le_of_ble_eq_true rfl) ?_
        conv => cbv
        refine r_callF (PV.int .i64) m.sX (depthOf_ok page (by first | rfl | assumption | omega | (simp only [List.length_append, List.length_cons, List.length_nil] at *; omega)) (by first | rfl | assumption | omega | (simp only [List.length_append, List.length_cons, List.length_nil] at *; omega))) fun r1 hr1 => ?_
        conv => cbv
        refine r_append1 (r1) m.sX rfl (by first | omega | (dsimp only; omega)) (by first | omega | (dsimp only; omega)) fun list_2 hlist_2 => ?_
        conv => cbv
        have llist_2 : (list_2.length : Int) = list.length + 1 := by rw [hlist_2]; first | done | (simp; done) | (simp; omega)
        refine r_addf m.sX (by omega) (by omega) fun r2 hr2 => ?_
        conv => cbv
        have tr2 : Int.toNat r2 = Int.toNat i1 + 1 := by omega
        refine hE _ (list_2, r2) ?_ ?_ ⟨(by (try dsimp only); first | omega | (simp only [List.length_nil]; omega)), (by (try dsimp only); first | omega | (simp only [List.length_nil]; omega)), (by (try dsimp only) <;> (rw [q, dpage, List.map_cons, hlist_2, hr1, tr2]; simp)), (by (try dsimp only) <;> first | omega | rfl | (simp [*]; done) | (rw [ln]; simp [*]; done))⟩ (by first | omega | (dsimp only; omega))
        · cbv
        · cbv
      · have dz_i1 := drop_end (xs := v1) (i := Int.toNat i1) (by omega)
        have tz_i1 := take_end (xs := v1) (i := Int.toNat i1) (by omega)
        refine hF _ _ ?_
        conv => cbv
        exact hQ (.tup [.fr 3 1 (rows cInt list), .bool true]) (Eq.trans (by first | rfl | (simp only [lb, lbI, rows_cons, rows_nil, unnilT, unnil, unnilTI, unnilI]; done) | (simp only [lb, lbI, rows_cons, rows_nil, unnilT, unnil, unnilTI, unnilI]; rfl)) (congrArg ((lb 3 1 cInt)) (show (list, true) = depF l ends from by rw [depF, h1, q, dz_i1]; simp)))   -- leaf 1
    · exact hQ (.tup [.fr 3 1 [], .bool false]) (Eq.trans (by first | rfl | (simp only [lb, lbI, rows_cons, rows_nil, unnilT, unnil, unnilTI, unnilI]; done) | (simp only [lb, lbI, rows_cons, rows_nil, unnilT, unnil, unnilTI, unnilI]; rfl)) (congrArg ((lb 3 1 cInt)) (show ([], false) = depF l ends from by rw [depF, h1]; rfl))))   -- leaf 2

end Go.Proofs.YtbamclepgabciaaDoor.Ai
