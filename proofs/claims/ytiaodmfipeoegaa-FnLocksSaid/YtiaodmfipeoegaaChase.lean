/- Contracts of the functions on chases: pieces, rooms, free places. -/
import Derived.Test.YtiaodmfipeoegaaFurnEnd
import Derived.Test.YtiaodmfipeoegaaLit
import Derived.Test.YtiaodmfipeoegaaStr
namespace Go.Proofs.Ytiaodmfipeoegaa.Ai
open Go Go.Proofs
set_option linter.unusedSimpArgs false
set_option maxRecDepth 10000
set_option maxHeartbeats 4000000
set_option linter.unusedVariables false
theorem okPs_drop {ps : List Piece} {i : Nat} {p : Piece} (h : ps[i]? = some p) : (ps.drop i).all okP = (okP p && (ps.drop (i + 1)).all okP) := by
  obtain ⟨hl, rfl⟩ := List.getElem?_eq_some_iff.1 h
  rw [List.drop_eq_getElem_cons hl, List.all_cons]
theorem okPs_end {ps : List Piece} {i : Nat} (h : ps.length ≤ i) : (ps.drop i).all okP = true := by rw [List.drop_of_length_le h]; rfl
theorem isChaseSide_ok (n : Int)  : OkA Try.prog 77 [.int .i64 n] (· = .bool (inB n 1 8)) :=
  fn_intro envOk fieldsOk mixed Try.func77 rfl fun κ X Y L Q m hQ => by
    conv => cbv
    refine r_callB m.sX (within_ok n 1 8) (fun h1 => ?_) (fun h1 => ?_) <;> conv => cbv
    · exact hQ _ (congrArg PV.bool (by first | rfl | omega | (simp [*]; done) | (subst_vars; simp [*]; done)))   -- leaf 1
    · exact hQ _ (congrArg PV.bool (by first | rfl | omega | (simp [*]; done) | (subst_vars; simp [*]; done)))   -- leaf 2

theorem ArePieces_ok (pieces : List Piece)  : OkA Try.prog 20 [.isl 2 (rows cPiece pieces)] (· = .bool (okPs pieces)) :=
  fn_intro envOk fieldsOk mixed Try.func20 rfl fun κ X Y L Q m hQ => by
    conv => cbv
    refine r_lenR m.sX fun n1 hn1 mn1 => ?_
    conv => cbv
    refine r_loopF (α := Int) m 25 [0, 5, 6, 7] [] (fun σ => [(0, .isl 2 (rows cPiece pieces)), (5, .isl 2 (rows cPiece pieces)), (6, .int .i64 n1), (7, .int .i64 σ)]) (fun σ => [])
      (fun σ => (0 ≤ σ) ∧ (σ ≤ n1) ∧ (pieces.all okP = (pieces.drop σ.toNat).all okP)) (fun σ => (n1 - σ).toNat) 0 ?_ ?_ ?_ ?_
    · cbv
    · cbv
    · exact ⟨(by (try dsimp only); first | omega | (simp only [List.length_nil]; omega) | (simp only [List.length_cons, List.length_nil]; omega)), (by (try dsimp only); first | omega | (simp only [List.length_nil]; omega) | (simp only [List.length_cons, List.length_nil]; omega)), (by (try dsimp only) <;> (rfl))⟩
    rintro i1 ⟨lo1, hi1, q⟩ E hE F hF
    conv => cbv
    refine r_lss m.sX (fun h1 => ?_) (fun h1 => ?_) <;> conv => cbv
    · refine r_index m.sX (by omega) (by omega) fun v hpA => ?_
      obtain ⟨pA, pB⟩ := v
      conv => cbv
      have hp := hpA
      have mp := get_mem hp
      have dp := drop_cons hp
      have kp := take_snoc hp
      have jp : (i1 + 1).toNat = Int.toNat i1 + 1 := by omega
      have kp := okPs_drop hp
      try dsimp only at kp
      refine r_callB m.sX (isChaseSide_ok pA) (fun h2 => ?_) (fun h2 => ?_) <;> conv => cbv
      · refine r_callB m.sX (isChaseSide_ok pB) (fun h3 => ?_) (fun h3 => ?_) <;> conv => cbv
        · have e2 : okP (pA, pB) = true := (by rw [okP, h2, h3]; rfl)
          refine r_addf m.sX (by omega) (by omega) fun r1 hr1 => ?_
          conv => cbv
          try have tr1 : Int.toNat r1 = Int.toNat i1 + 1 := by omega
          refine hE _ r1 ?_ ?_ ⟨(by (try dsimp only); first | omega | (simp only [List.length_nil]; omega) | (simp only [List.length_cons, List.length_nil]; omega)), (by (try dsimp only); first | omega | (simp only [List.length_nil]; omega) | (simp only [List.length_cons, List.length_nil]; omega)), (by (try dsimp only) <;> (rw [q, tr1, kp, e2, Bool.true_and]))⟩ (by first | omega | (dsimp only; omega))
          · cbv
          · cbv
        · have e2 : okP (pA, pB) = false := (by rw [okP, h2, h3]; rfl)
          refine hF _ _ ?_
          conv => cbv
          exact hQ _ (congrArg PV.bool (by first | (rw [okPs, q, kp, e2]; rfl) | (rw [okPs, q, okPs_end (by omega), Bool.true_and]; symm; first | (exact decide_eq_true (by omega)) | (exact decide_eq_false (by omega)))))   -- leaf 1
      · have e2 : okP (pA, pB) = false := (by rw [okP, h2]; rfl)
        refine hF _ _ ?_
        conv => cbv
        exact hQ _ (congrArg PV.bool (by first | (rw [okPs, q, kp, e2]; rfl) | (rw [okPs, q, okPs_end (by omega), Bool.true_and]; symm; first | (exact decide_eq_true (by omega)) | (exact decide_eq_false (by omega)))))   -- leaf 2
    · have dz_i1 := drop_end (xs := pieces) (i := Int.toNat i1) (by omega)
      have tz_i1 := take_end (xs := pieces) (i := Int.toNat i1) (by omega)
      refine hF _ _ ?_
      conv => cbv
      refine r_lenR m.sX fun n2 hn2 mn2 => ?_
      conv => cbv
      refine r_leq m.sX (fun h4 => ?_) (fun h4 => ?_) <;> conv => cbv
      · exact hQ _ (congrArg PV.bool (by first | (rw [okPs, q, kp, e2]; rfl) | (rw [okPs, q, okPs_end (by omega), Bool.true_and]; symm; first | (exact decide_eq_true (by omega)) | (exact decide_eq_false (by omega)))))   -- leaf 3
      · exact hQ _ (congrArg PV.bool (by first | (rw [okPs, q, kp, e2]; rfl) | (rw [okPs, q, okPs_end (by omega), Bool.true_and]; symm; first | (exact decide_eq_true (by omega)) | (exact decide_eq_false (by omega)))))   -- leaf 4

theorem fuSize_ok (n : Int)  : OkA Try.prog 130 [.int .i64 n] (· = .bool (inB n 1 8)) :=
  fn_intro envOk fieldsOk mixed Try.func130 rfl fun κ X Y L Q m hQ => by
    conv => cbv
    refine r_callB m.sX (l1In_ok n 1 8) (fun h1 => ?_) (fun h1 => ?_) <;> conv => cbv
    · exact hQ _ (congrArg PV.bool (by first | rfl | omega | (simp [*]; done) | (subst_vars; simp [*]; done)))   -- leaf 1
    · exact hQ _ (congrArg PV.bool (by first | rfl | omega | (simp [*]; done) | (subst_vars; simp [*]; done)))   -- leaf 2

theorem fuPieces_ok (pieces : List Piece)  : OkA Try.prog 75 [.isl 2 (rows cPiece pieces)] (· = .bool (okPs pieces)) :=
  fn_intro envOk fieldsOk mixed Try.func75 rfl fun κ X Y L Q m hQ => by
    conv => cbv
    refine r_lenR m.sX fun n1 hn1 mn1 => ?_
    conv => cbv
    refine r_loopF (α := Int) m 25 [0, 5, 6, 7] [] (fun σ => [(0, .isl 2 (rows cPiece pieces)), (5, .isl 2 (rows cPiece pieces)), (6, .int .i64 n1), (7, .int .i64 σ)]) (fun σ => [])
      (fun σ => (0 ≤ σ) ∧ (σ ≤ n1) ∧ (pieces.all okP = (pieces.drop σ.toNat).all okP)) (fun σ => (n1 - σ).toNat) 0 ?_ ?_ ?_ ?_
    · cbv
    · cbv
    · exact ⟨(by (try dsimp only); first | omega | (simp only [List.length_nil]; omega) | (simp only [List.length_cons, List.length_nil]; omega)), (by (try dsimp only); first | omega | (simp only [List.length_nil]; omega) | (simp only [List.length_cons, List.length_nil]; omega)), (by (try dsimp only) <;> (rfl))⟩
    rintro i1 ⟨lo1, hi1, q⟩ E hE F hF
    conv => cbv
    refine r_lss m.sX (fun h1 => ?_) (fun h1 => ?_) <;> conv => cbv
    · refine r_index m.sX (by omega) (by omega) fun v hpA => ?_
      obtain ⟨pA, pB⟩ := v
      conv => cbv
      have hp := hpA
      have mp := get_mem hp
      have dp := drop_cons hp
      have kp := take_snoc hp
      have jp : (i1 + 1).toNat = Int.toNat i1 + 1 := by omega
      have kp := okPs_drop hp
      try dsimp only at kp
      refine r_callB m.sX (fuSize_ok pA) (fun h2 => ?_) (fun h2 => ?_) <;> conv => cbv
      · refine r_callB m.sX (fuSize_ok pB) (fun h3 => ?_) (fun h3 => ?_) <;> conv => cbv
        · have e2 : okP (pA, pB) = true := (by rw [okP, h2, h3]; rfl)
          refine r_addf m.sX (by omega) (by omega) fun r1 hr1 => ?_
          conv => cbv
          try have tr1 : Int.toNat r1 = Int.toNat i1 + 1 := by omega
          refine hE _ r1 ?_ ?_ ⟨(by (try dsimp only); first | omega | (simp only [List.length_nil]; omega) | (simp only [List.length_cons, List.length_nil]; omega)), (by (try dsimp only); first | omega | (simp only [List.length_nil]; omega) | (simp only [List.length_cons, List.length_nil]; omega)), (by (try dsimp only) <;> (rw [q, tr1, kp, e2, Bool.true_and]))⟩ (by first | omega | (dsimp only; omega))
          · cbv
          · cbv
        · have e2 : okP (pA, pB) = false := (by rw [okP, h2, h3]; rfl)
          refine hF _ _ ?_
          conv => cbv
          exact hQ _ (congrArg PV.bool (by first | (rw [okPs, q, kp, e2]; rfl) | (rw [okPs, q, okPs_end (by omega), Bool.true_and]; symm; first | (exact decide_eq_true (by omega)) | (exact decide_eq_false (by omega)))))   -- leaf 1
      · have e2 : okP (pA, pB) = false := (by rw [okP, h2]; rfl)
        refine hF _ _ ?_
        conv => cbv
        exact hQ _ (congrArg PV.bool (by first | (rw [okPs, q, kp, e2]; rfl) | (rw [okPs, q, okPs_end (by omega), Bool.true_and]; symm; first | (exact decide_eq_true (by omega)) | (exact decide_eq_false (by omega)))))   -- leaf 2
    · have dz_i1 := drop_end (xs := pieces) (i := Int.toNat i1) (by omega)
      have tz_i1 := take_end (xs := pieces) (i := Int.toNat i1) (by omega)
      refine hF _ _ ?_
      conv => cbv
      refine r_lenR m.sX fun n2 hn2 mn2 => ?_
      conv => cbv
      refine r_leq m.sX (fun h4 => ?_) (fun h4 => ?_) <;> conv => cbv
      · exact hQ _ (congrArg PV.bool (by first | (rw [okPs, q, kp, e2]; rfl) | (rw [okPs, q, okPs_end (by omega), Bool.true_and]; symm; first | (exact decide_eq_true (by omega)) | (exact decide_eq_false (by omega)))))   -- leaf 3
      · exact hQ _ (congrArg PV.bool (by first | (rw [okPs, q, kp, e2]; rfl) | (rw [okPs, q, okPs_end (by omega), Bool.true_and]; symm; first | (exact decide_eq_true (by omega)) | (exact decide_eq_false (by omega)))))   -- leaf 4

theorem fuChase_ok (width : Int) (height : Int) (pieces : List Piece)  : OkA Try.prog 82 [.int .i64 width, .int .i64 height, .isl 2 (rows cPiece pieces)] (· = .bool (okCh width height pieces)) :=
  fn_intro envOk fieldsOk mixed Try.func82 rfl fun κ X Y L Q m hQ => by
    conv => cbv
    refine r_callB m.sX (fuSize_ok width) (fun h1 => ?_) (fun h1 => ?_) <;> conv => cbv
    · refine r_callB m.sX (fuSize_ok height) (fun h2 => ?_) (fun h2 => ?_) <;> conv => cbv
      · refine r_callB m.sX (fuPieces_ok pieces) (fun h3 => ?_) (fun h3 => ?_) <;> conv => cbv
        · exact hQ _ (congrArg PV.bool (by simp [okCh, *]))   -- leaf 1
        · exact hQ _ (congrArg PV.bool (by simp [okCh, *]))   -- leaf 2
      · exact hQ _ (congrArg PV.bool (by simp [okCh, *]))   -- leaf 3
    · exact hQ _ (congrArg PV.bool (by simp [okCh, *]))   -- leaf 4

theorem fuArea_ok (pieces : List Piece) (hp : okPs pieces = true) : OkA Try.prog 76 [.isl 2 (rows cPiece pieces)] (· = .int .i64 (areaF pieces)) :=
  fn_intro envOk fieldsOk mixed Try.func76 rfl fun κ X Y L Q m hQ => by
    obtain ⟨op1, op2⟩ := okPs_spec hp
    conv => cbv
    refine r_lenR m.sX fun n1 hn1 mn1 => ?_
    conv => cbv
    refine r_loopF (α := Int × Int) m 21 [3, 6, 7, 8] [] (fun σ => [(3, .int .i64 σ.1), (6, .isl 2 (rows cPiece pieces)), (7, .int .i64 n1), (8, .int .i64 σ.2)]) (fun σ => [])
      (fun σ => (0 ≤ σ.2) ∧ (σ.2 ≤ n1) ∧ (σ.1 = areaF (pieces.take σ.2.toNat)) ∧ (0 ≤ σ.1 ∧ σ.1 ≤ 64 * σ.2)) (fun σ => (n1 - σ.2).toNat) (0, 0) ?_ ?_ ?_ ?_
    · cbv
    · cbv
    · exact ⟨(by (try dsimp only); first | omega | (simp only [List.length_nil]; omega) | (simp only [List.length_cons, List.length_nil]; omega)), (by (try dsimp only); first | omega | (simp only [List.length_nil]; omega) | (simp only [List.length_cons, List.length_nil]; omega)), (by (try dsimp only) <;> (rfl)), (by (try dsimp only) <;> first | omega | rfl | (simp [*]; done))⟩
    rintro ⟨sum, i1⟩ ⟨lo1, hi1, q, nb⟩ E hE F hF
    dsimp only at lo1 hi1 q nb
    conv => cbv
    refine r_lss m.sX (fun h1 => ?_) (fun h1 => ?_) <;> conv => cbv
    · refine r_index m.sX (by omega) (by omega) fun v hpA => ?_
      obtain ⟨pA, pB⟩ := v
      conv => cbv
      have hp := hpA
      have mp := get_mem hp
      have dp := drop_cons hp
      have kp := take_snoc hp
      have jp : (i1 + 1).toNat = Int.toNat i1 + 1 := by omega
      have pb := op1 _ mp
      try dsimp only at pb
      have mb := mul_bound (a := pA) (A := 8) (b := pB) (B := 8) (by omega) (by omega) (by omega) (by omega)
      try dsimp only at mb
      refine r_mulf m.sX (by first | omega | (subst_vars; omega)) (by first | omega | (subst_vars; omega)) fun r1 hr1 => ?_
      conv => cbv
      refine r_addf m.sX (by omega) (by omega) fun sum_2 hsum_2 => ?_
      conv => cbv
      refine r_addf m.sX (by omega) (by omega) fun r2 hr2 => ?_
      conv => cbv
      try have tr2 : Int.toNat r2 = Int.toNat i1 + 1 := by omega
      refine hE _ (sum_2, r2) ?_ ?_ ⟨(by (try dsimp only); first | omega | (simp only [List.length_nil]; omega) | (simp only [List.length_cons, List.length_nil]; omega)), (by (try dsimp only); first | omega | (simp only [List.length_nil]; omega) | (simp only [List.length_cons, List.length_nil]; omega)), (by (try dsimp only) <;> (rw [tr2, area_take hpA, ← q]; dsimp only; omega)), (by (try dsimp only) <;> (omega))⟩ (by first | omega | (dsimp only; omega))
      · cbv
      · cbv
    · have dz_i1 := drop_end (xs := pieces) (i := Int.toNat i1) (by omega)
      have tz_i1 := take_end (xs := pieces) (i := Int.toNat i1) (by omega)
      refine hF _ _ ?_
      conv => cbv
      exact hQ (.int .i64 sum) (Eq.trans (by first | rfl | (simp only [lb, lbI, rows_cons, rows_nil, unnilT, unnil, unnilTI, unnilI]; done) | (simp only [lb, lbI, rows_cons, rows_nil, unnilT, unnil, unnilTI, unnilI]; rfl)) (congrArg (PV.int .i64) (show sum = areaF pieces from by rw [q, tz_i1])))   -- leaf 1

theorem sizeOf_ok (pieces : List Piece) (p : Plc) (hn : 0 ≤ p.1 ∧ p.1 < pieces.length) : OkA Try.prog 162 [.isl 2 (rows cPiece pieces), .agg (cPlaced p)] (· = ii (sideP pieces p)) := by
  obtain ⟨pA, pB, pC, pD⟩ := p
  try dsimp only at *
  exact fn_intro envOk fieldsOk mixed Try.func162 rfl fun κ X Y L Q m hQ => by
    conv => cbv
    refine r_index m.sX (by omega) (by omega) fun v hxA => ?_
    obtain ⟨xA, xB⟩ := v
    conv => cbv
    have hx := hxA
    have mx := get_mem hx
    rcases Bool.eq_false_or_eq_true pD with rfl | rfl <;> conv => cbv
    · refine r_draw m (by kernel_rfl) ?_
      conv => cbv
      exact hQ (.tup [.int .i64 xB, .int .i64 xA]) (Eq.trans (by first | rfl | (simp only [lb, lbI, rows_cons, rows_nil, unnilT, unnil, unnilTI, unnilI]; done) | (simp only [lb, lbI, rows_cons, rows_nil, unnilT, unnil, unnilTI, unnilI]; rfl)) (congrArg (ii) (show (xB, xA) = sideP pieces (pA, pB, pC, true) from by rw [sideP, nthP_some hx]; rfl)))   -- leaf 1
    · refine r_draw m (by kernel_rfl) ?_
      conv => cbv
      exact hQ (.tup [.int .i64 xA, .int .i64 xB]) (Eq.trans (by first | rfl | (simp only [lb, lbI, rows_cons, rows_nil, unnilT, unnil, unnilTI, unnilI]; done) | (simp only [lb, lbI, rows_cons, rows_nil, unnilT, unnil, unnilTI, unnilI]; rfl)) (congrArg (ii) (show (xA, xB) = sideP pieces (pA, pB, pC, false) from by rw [sideP, nthP_some hx]; rfl)))   -- leaf 2

theorem fuSides_ok (p : Piece) (turned : Bool)  : OkA Try.prog 128 [.agg (cPiece p), .bool turned] (· = ii (sideF p turned)) := by
  obtain ⟨pA, pB⟩ := p
  try dsimp only at *
  exact fn_intro envOk fieldsOk mixed Try.func128 rfl fun κ X Y L Q m hQ => by
    conv => cbv
    rcases Bool.eq_false_or_eq_true turned with rfl | rfl <;> conv => cbv
    · refine r_draw m (by kernel_rfl) ?_
      conv => cbv
      exact hQ (.tup [.int .i64 pB, .int .i64 pA]) (Eq.trans (by first | rfl | (simp only [lb, lbI, rows_cons, rows_nil, unnilT, unnil, unnilTI, unnilI]; done) | (simp only [lb, lbI, rows_cons, rows_nil, unnilT, unnil, unnilTI, unnilI]; rfl)) (congrArg (ii) (show (pB, pA) = sideF (pA, pB) true from by rfl)))   -- leaf 1
    · refine r_draw m (by kernel_rfl) ?_
      conv => cbv
      exact hQ (.tup [.int .i64 pA, .int .i64 pB]) (Eq.trans (by first | rfl | (simp only [lb, lbI, rows_cons, rows_nil, unnilT, unnil, unnilTI, unnilI]; done) | (simp only [lb, lbI, rows_cons, rows_nil, unnilT, unnil, unnilTI, unnilI]; rfl)) (congrArg (ii) (show (pA, pB) = sideF (pA, pB) false from by rfl)))   -- leaf 2

theorem isRoom_ok (grid : List (List Int)) (pieces : List Piece) (p : Plc) (hg : recG grid) (hp : okPs pieces = true) (hn : 0 ≤ p.1 ∧ p.1 < pieces.length) (hx : p.2.1 ≤ 1000000 ∧ p.2.2.1 ≤ 1000000) : OkA Try.prog 126 [.isl 1 (rows (cSl 1 cInt) grid), .isl 2 (rows cPiece pieces), .agg (cPlaced p)] (· = .bool (roomL grid pieces p)) := by
  obtain ⟨pA, pB, pC, pD⟩ := p
  try dsimp only at *
  exact fn_intro envOk fieldsOk mixed Try.func126 rfl fun κ X Y L Q m hQ => by
    obtain ⟨W, H, G, eg, bw, bh⟩ := hg
    have gl : grid.length = H := by rw [eg, tabG_length]
    conv => cbv
    refine r_callF ii m.sX (sizeOf_ok pieces (pA, pB, pC, pD) (by first | rfl | assumption | omega | (simp only [List.length_append, List.length_cons, List.length_nil] at *; omega))) fun v hw => ?_
    obtain ⟨w, h_⟩ := v
    conv => cbv
    try dsimp only at hw
    have sb := @side_bound pieces hp (pA, pB, pC, pD) hn.1 hn.2
    try dsimp only at sb
    rw [← hw] at sb
    refine r_draw m (by kernel_rfl) ?_
    conv => cbv
    refine r_lss m.sY (fun h1 => ?_) (fun h1 => ?_) <;> conv => cbv
    · exact hQ _ (congrArg PV.bool (by rw [eg, roomL_tab (by omega), room_no (fit_no hw (by dsimp only; omega))]))   -- leaf 1
    · refine r_lss m.sY (fun h2 => ?_) (fun h2 => ?_) <;> conv => cbv
      · exact hQ _ (congrArg PV.bool (by rw [eg, roomL_tab (by omega), room_no (fit_no hw (by dsimp only; omega))]))   -- leaf 2
      · refine r_addf m.sY (by omega) (by omega) fun r1 hr1 => ?_
        conv => cbv
        refine r_index m.sY (by omega) (by omega) fun x1 hx1 => ?_
        conv => cbv
        have mx1 := get_mem hx1
        have lx1 : x1.length = W := by rw [eg, tabG_at (by omega)] at hx1; rw [← Option.some.inj hx1, row_length]
        refine r_lenRS m.sY (by omega) fun n1 hn1 => ?_
        conv => cbv
        refine r_gtr m.sY (fun h3 => ?_) (fun h3 => ?_) <;> conv => cbv
        · exact hQ _ (congrArg PV.bool (by rw [eg, roomL_tab (by omega), room_no (fit_no hw (by dsimp only; omega))]))   -- leaf 3
        · refine r_addf m.sY (by omega) (by omega) fun r2 hr2 => ?_
          conv => cbv
          refine r_lenRS m.sY (by omega) fun n2 hn2 => ?_
          conv => cbv
          refine r_gtr m.sY (fun h4 => ?_) (fun h4 => ?_) <;> conv => cbv
          · exact hQ _ (congrArg PV.bool (by rw [eg, roomL_tab (by omega), room_no (fit_no hw (by dsimp only; omega))]))   -- leaf 4
          · refine r_loopF (α := Int) m 73 [0, 7, 8, 9] [⟨5, 41, 0, 0, 0⟩] (fun σ => [(0, .isl 1 (rows (cSl 1 cInt) grid)), (5, .optr 41 0 4 0 0), (7, .int .i64 w), (8, .int .i64 h_), (9, .int .i64 σ)]) (fun σ => [(41, 0, .box [.int .i64 pA, .int .i64 pB, .int .i64 pC, .bool pD])])
              (fun σ => (pC ≤ σ) ∧ (PassF pieces W H G (pA, pB, pC, pD) σ pB)) (fun σ => (pC + h_ - σ).toNat) pC ?_ ?_ ?_ ?_
            · cbv
            · cbv
            · exact ⟨(by (try dsimp only) <;> first | omega | rfl | (simp [*]; done)), (by (try dsimp only) <;> (exact PassF.start pieces W H G (pA, pB, pC, pD)))⟩
            rintro y ⟨yb, pf⟩ E hE F hF
            conv => cbv
            refine r_addf m.sX (by omega) (by omega) fun r3 hr3 => ?_
            conv => cbv
            refine r_lss m.sX (fun h5 => ?_) (fun h5 => ?_) <;> conv => cbv
            · refine r_loopF (α := Int) m 73 [0, 7, 8, 9, 10] [⟨5, 41, 0, 0, 0⟩] (fun σ => [(0, .isl 1 (rows (cSl 1 cInt) grid)), (5, .optr 41 0 4 0 0), (7, .int .i64 w), (8, .int .i64 h_), (9, .int .i64 y), (10, .int .i64 σ)]) (fun σ => [(41, 0, .box [.int .i64 pA, .int .i64 pB, .int .i64 pC, .bool pD])])
                (fun σ => (pB ≤ σ) ∧ (PassF pieces W H G (pA, pB, pC, pD) y σ)) (fun σ => (pB + w - σ).toNat) pB ?_ ?_ ?_ ?_
              · cbv
              · cbv
              · exact ⟨(by (try dsimp only) <;> first | omega | rfl | (simp [*]; done)), (by (try dsimp only) <;> (exact pf))⟩
              rintro x ⟨xb, pq⟩ E2 hE2 F2 hF2
              conv => cbv
              refine r_addf m.sX (by omega) (by omega) fun r4 hr4 => ?_
              conv => cbv
              refine r_lss m.sX (fun h6 => ?_) (fun h6 => ?_) <;> conv => cbv
              · refine r_index m.sX (by omega) (by omega) fun x2 hx2 => ?_
                conv => cbv
                have mx2 := get_mem hx2
                have ex2 : x2 = (List.range W).map fun z => G y.toNat z := by rw [eg, tabG_at (by omega)] at hx2; exact (Option.some.inj hx2).symm
                have lx2 : x2.length = W := by rw [ex2, row_length]
                refine r_index m.sX (by omega) (by omega) fun x3 hx3 => ?_
                conv => cbv
                have mx3 := get_mem hx3
                have vx3 := nth_some hx3
                have ex3 : x3 = G y.toNat x.toNat := by rw [ex2, row_at (by omega)] at hx3; exact (Option.some.inj hx3).symm
                have ip : inP pieces (pA, pB, pC, pD) y.toNat x.toNat = true := in_at hw (yy := y) (xx := x) (by omega) (by omega) (by dsimp only; omega)
                refine r_neq m.sX (fun h7 => ?_) (fun h7 => ?_) <;> conv => cbv
                · refine hF2 _ _ ?_
                  conv => cbv
                  refine hF _ _ ?_
                  conv => cbv
                  exact hQ _ (congrArg PV.bool (by rw [eg, roomL_tab (by omega), room_taken (taken (by omega) (by omega) ip (by rw [← ex3]; exact h7))]))   -- leaf 5
                · refine r_addf m.sX (by omega) (by omega) fun x_2 hx_2 => ?_
                  conv => cbv
                  refine hE2 _ x_2 ?_ ?_ ⟨(by (try dsimp only) <;> first | omega | rfl | (simp [*]; done) | (rw [xb]; simp [*]; done)), (by (try dsimp only) <;> (exact pq.step (y := y.toNat) (x := x.toNat) (by omega) (by omega) (by rw [← ex3]; omega) (by omega)))⟩ (by first | omega | (dsimp only; omega))
                  · cbv
                  · cbv
              · refine hF2 _ _ ?_
                conv => cbv
                refine r_addf m.sX (by omega) (by omega) fun y_2 hy_2 => ?_
                conv => cbv
                refine hE _ y_2 ?_ ?_ ⟨(by (try dsimp only) <;> first | omega | rfl | (simp [*]; done) | (rw [yb]; simp [*]; done)), (by (try dsimp only) <;> (exact pq.row (by rw [← hw]; dsimp only; omega) (by omega)))⟩ (by first | omega | (dsimp only; omega))
                · cbv
                · cbv
            · refine hF _ _ ?_
              conv => cbv
              exact hQ _ (congrArg PV.bool (by rw [eg, roomL_tab (by omega), room_yes (fit_yes hw (by dsimp only; omega)) (pf.done (by rw [← hw]; dsimp only; omega))]))   -- leaf 6

theorem freePlaces_ok (grid : List (List Int)) (hl : grid.length ≤ 100 ∧ ∀ r ∈ grid, r.length ≤ 100) : OkA Try.prog 66 [.isl 1 (rows (cSl 1 cInt) grid)] (· = .int .i64 ((grid.map freeR).sum)) :=
  fn_intro envOk fieldsOk mixed Try.func66 rfl fun κ X Y L Q m hQ => by
    conv => cbv
    refine r_lenR m.sX fun n1 hn1 mn1 => ?_
    conv => cbv
    refine r_loopF (α := Int × Int) m 27 [3, 8, 9, 10] [] (fun σ => [(3, .int .i64 σ.1), (8, .isl 1 (rows (cSl 1 cInt) grid)), (9, .int .i64 n1), (10, .int .i64 σ.2)]) (fun σ => [])
      (fun σ => (0 ≤ σ.2) ∧ (σ.2 ≤ n1) ∧ (σ.1 = ((grid.take σ.2.toNat).map freeR).sum) ∧ (0 ≤ σ.1 ∧ σ.1 ≤ 100 * σ.2)) (fun σ => (n1 - σ.2).toNat) (0, 0) ?_ ?_ ?_ ?_
    · cbv
    · cbv
    · exact ⟨(by (try dsimp only); first | omega | (simp only [List.length_nil]; omega) | (simp only [List.length_cons, List.length_nil]; omega)), (by (try dsimp only); first | omega | (simp only [List.length_nil]; omega) | (simp only [List.length_cons, List.length_nil]; omega)), (by (try dsimp only) <;> (rfl)), (by (try dsimp only) <;> first | omega | rfl | (simp [*]; done))⟩
    rintro ⟨n, i1⟩ ⟨lo1, hi1, q, nb⟩ E hE F hF
    dsimp only at lo1 hi1 q nb
    conv => cbv
    refine r_lss m.sX (fun h1 => ?_) (fun h1 => ?_) <;> conv => cbv
    · refine r_index m.sX (by omega) (by omega) fun row hrow => ?_
      conv => cbv
      have mrow := get_mem hrow
      have drow := drop_cons hrow
      have krow := take_snoc hrow
      have jrow : (i1 + 1).toNat = Int.toNat i1 + 1 := by omega
      have lr := hl.2 _ mrow
      refine r_lenR m.sX fun n2 hn2 mn2 => ?_
      conv => cbv
      refine r_loopF (α := Int × Int) m 27 [3, 8, 9, 10, 14, 15, 16] [] (fun σ => [(3, .int .i64 σ.1), (8, .isl 1 (rows (cSl 1 cInt) grid)), (9, .int .i64 n1), (10, .int .i64 i1), (14, .isl 1 (rows cInt row)), (15, .int .i64 n2), (16, .int .i64 σ.2)]) (fun σ => [])
        (fun σ => (0 ≤ σ.2) ∧ (σ.2 ≤ n2) ∧ (σ.1 = n + freeR (row.take σ.2.toNat)) ∧ (n ≤ σ.1 ∧ σ.1 ≤ n + σ.2)) (fun σ => (n2 - σ.2).toNat) (n, 0) ?_ ?_ ?_ ?_
      · cbv
      · cbv
      · exact ⟨(by (try dsimp only); first | omega | (simp only [List.length_nil]; omega) | (simp only [List.length_cons, List.length_nil]; omega)), (by (try dsimp only); first | omega | (simp only [List.length_nil]; omega) | (simp only [List.length_cons, List.length_nil]; omega)), (by (try dsimp only) <;> (simp [freeR])), (by (try dsimp only) <;> first | omega | rfl | (simp [*]; done))⟩
      rintro ⟨n_2, i2⟩ ⟨lo2, hi2, q2, nb2⟩ E2 hE2 F2 hF2
      dsimp only at lo2 hi2 q2 nb2
      conv => cbv
      refine r_lss m.sX (fun h2 => ?_) (fun h2 => ?_) <;> conv => cbv
      · refine r_index m.sX (by omega) (by omega) fun number hnumber => ?_
        conv => cbv
        have mnumber := get_mem hnumber
        have dnumber := drop_cons hnumber
        have knumber := take_snoc hnumber
        have jnumber : (i2 + 1).toNat = Int.toNat i2 + 1 := by omega
        have vnumber := nth_some hnumber
        refine r_eql m.sX (fun h3 => ?_) (fun h3 => ?_) <;> conv => cbv
        · refine r_addf m.sX (by omega) (by omega) fun n_3 hn_3 => ?_
          conv => cbv
          refine r_addf m.sX (by omega) (by omega) fun r1 hr1 => ?_
          conv => cbv
          try have tr1 : Int.toNat r1 = Int.toNat i2 + 1 := by omega
          refine hE2 _ (n_3, r1) ?_ ?_ ⟨(by (try dsimp only); first | omega | (simp only [List.length_nil]; omega) | (simp only [List.length_cons, List.length_nil]; omega)), (by (try dsimp only); first | omega | (simp only [List.length_nil]; omega) | (simp only [List.length_cons, List.length_nil]; omega)), (by (try dsimp only) <;> (rw [tr1, freeR_take hnumber]; first | (rw [if_pos (by omega)]; omega) | (rw [if_neg (by omega)]; omega))), (by (try dsimp only) <;> (omega))⟩ (by first | omega | (dsimp only; omega))
          · cbv
          · cbv
        · refine r_addf m.sX (by omega) (by omega) fun r2 hr2 => ?_
          conv => cbv
          try have tr2 : Int.toNat r2 = Int.toNat i2 + 1 := by omega
          refine hE2 _ (n_2, r2) ?_ ?_ ⟨(by (try dsimp only); first | omega | (simp only [List.length_nil]; omega) | (simp only [List.length_cons, List.length_nil]; omega)), (by (try dsimp only); first | omega | (simp only [List.length_nil]; omega) | (simp only [List.length_cons, List.length_nil]; omega)), (by (try dsimp only) <;> (rw [tr2, freeR_take hnumber]; first | (rw [if_pos (by omega)]; omega) | (rw [if_neg (by omega)]; omega))), (by (try dsimp only) <;> (omega))⟩ (by first | omega | (dsimp only; omega))
          · cbv
          · cbv
      · have dz_i2 := drop_end (xs := row) (i := Int.toNat i2) (by omega)
        have tz_i2 := take_end (xs := row) (i := Int.toNat i2) (by omega)
        refine hF2 _ _ ?_
        conv => cbv
        refine r_addf m.sX (by omega) (by omega) fun r3 hr3 => ?_
        conv => cbv
        try have tr3 : Int.toNat r3 = Int.toNat i1 + 1 := by omega
        refine hE _ (n_2, r3) ?_ ?_ ⟨(by (try dsimp only); first | omega | (simp only [List.length_nil]; omega) | (simp only [List.length_cons, List.length_nil]; omega)), (by (try dsimp only); first | omega | (simp only [List.length_nil]; omega) | (simp only [List.length_cons, List.length_nil]; omega)), (by (try dsimp only) <;> (rw [tr3, frees_take hrow, ← q, q2, List.take_of_length_le (by omega)])), (by (try dsimp only) <;> (omega))⟩ (by first | omega | (dsimp only; omega))
        · cbv
        · cbv
    · have dz_i1 := drop_end (xs := grid) (i := Int.toNat i1) (by omega)
      have tz_i1 := take_end (xs := grid) (i := Int.toNat i1) (by omega)
      refine hF _ _ ?_
      conv => cbv
      exact hQ (.int .i64 n) (Eq.trans (by first | rfl | (simp only [lb, lbI, rows_cons, rows_nil, unnilT, unnil, unnilTI, unnilI]; done) | (simp only [lb, lbI, rows_cons, rows_nil, unnilT, unnil, unnilTI, unnilI]; rfl)) (congrArg (PV.int .i64) (show n = (grid.map freeR).sum from by rw [q, List.take_of_length_le (by omega)])))   -- leaf 1

theorem fuGrid_ok (width : Int) (height : Int) (pieces : List Piece) (placed : List Plc) (hc : okCh width height pieces = true) : OkA Try.prog 67 [.int .i64 width, .int .i64 height, .isl 2 (rows cPiece pieces), .isl 4 (rows cPlaced placed)] (· = (lb 3 1 cInt) (gridL width height pieces placed)) :=
  OkA.unnil 3 1 (fn_intro envOk fieldsOk mixed Try.func67 rfl fun κ X Y L Q m hQ => by
    obtain ⟨bw, bh, ops⟩ := okCh_spec hc
    have ol := (okPs_spec ops).2
    have mb := mul_bound (a := width) (A := 8) (b := height) (B := 8) (by omega) (by omega) (by omega) (by omega)
    conv => cbv
    refine r_mulf m.sX (by first | omega | (subst_vars; omega)) (by first | omega | (subst_vars; omega)) fun r1 hr1 => ?_
    conv => cbv
    refine r_make cInt 0 m.sX rfl (by omega) (by omega) (by dsimp only; omega) (by omega) fun grid hgrid => ?_
    have lgrid : (grid.length : Int) = r1 := by rw [hgrid]; first | done | (simp; done) | (simp; omega)
    conv => cbv
    refine r_lenR m.sX fun n1 hn1 mn1 => ?_
    conv => cbv
    refine r_loopF (α := List Int × Int) m 126 [0, 1, 2, 3, 25, 26] [⟨10, 81, 3, 1, 0⟩] (fun σ => [(0, .int .i64 width), (1, .int .i64 height), (2, .isl 2 (rows cPiece pieces)), (3, .isl 4 (rows cPlaced placed)), (10, .osl 81 0), (25, .int .i64 n1), (26, .int .i64 σ.2)]) (fun σ => [(81, 0, .row 3 1 (rows cInt σ.1))])
      (fun σ => (0 ≤ σ.2) ∧ (σ.2 ≤ n1) ∧ ((σ.1.length : Int) = n1) ∧ (σ.1 = List.replicate σ.2.toNat (-1) ++ List.replicate (n1.toNat - σ.2.toNat) 0)) (fun σ => (n1 - σ.2).toNat) (grid, 0) ?_ ?_ ?_ ?_
    · cbv
    · cbv
    · exact ⟨(by (try dsimp only); first | omega | (simp only [List.length_nil]; omega) | (simp only [List.length_cons, List.length_nil]; omega)), (by (try dsimp only); first | omega | (simp only [List.length_nil]; omega) | (simp only [List.length_cons, List.length_nil]; omega)), (by (try dsimp only) <;> first | omega | rfl | (simp [*]; done)), (by (try dsimp only) <;> (rw [hgrid, show Int.toNat r1 = Int.toNat n1 by omega]; simp))⟩
    rintro ⟨grid_2, i1⟩ ⟨lo1, hi1, ll, fs⟩ E hE F hF
    dsimp only at lo1 hi1 ll fs
    conv => cbv
    refine r_lss m.sX (fun h1 => ?_) (fun h1 => ?_) <;> conv => cbv
    · refine r_oindex m.sX (by omega) (by omega) ?_
      conv => cbv
      obtain ⟨y1, hy1⟩ := get_ex (xs := grid_2) (i := Int.toNat i1) (by omega)
      refine r_ostore (l := Int.toNat i1) (-1) m.sX hy1 (Nat.le_of_ble_eq_true rfl) rfl fun grid_3 hgrid_3 => ?_
      have lgrid_3 : (grid_3.length : Int) = grid_2.length := by rw [hgrid_3]; first | done | (simp; done) | (simp; omega)
      conv => cbv
      refine r_addf m.sX (by omega) (by omega) fun r2 hr2 => ?_
      conv => cbv
      try have tr2 : Int.toNat r2 = Int.toNat i1 + 1 := by omega
      refine hE _ (grid_3, r2) ?_ ?_ ⟨(by (try dsimp only); first | omega | (simp only [List.length_nil]; omega) | (simp only [List.length_cons, List.length_nil]; omega)), (by (try dsimp only); first | omega | (simp only [List.length_nil]; omega) | (simp only [List.length_cons, List.length_nil]; omega)), (by (try dsimp only) <;> (rw [hgrid_3, List.length_set]; exact ll)), (by (try dsimp only) <;> (rw [hgrid_3, tr2, fillm_step fs (by omega)]))⟩ (by first | omega | (dsimp only; omega))
      · cbv
      · cbv
    · have dz_i1 := drop_end (xs := grid) (i := Int.toNat i1) (by omega)
      have tz_i1 := take_end (xs := grid) (i := Int.toNat i1) (by omega)
      refine hF _ _ ?_
      conv => cbv
      refine r_lenR m.sX fun n2 hn2 mn2 => ?_
      conv => cbv
      have g0 : grid_2 = flaG width.toNat height.toNat noG := by rw [no_flat, fs, ← nat_mul (by omega) (by omega), ← hr1, show n1.toNat - i1.toNat = 0 by omega, show i1.toNat = r1.toNat by omega]; simp
      refine r_loopF (α := List Int × Int × Int) m 126 [0, 1, 2, 12, 33, 34, 35] [⟨10, 81, 3, 1, 0⟩] (fun σ => [(0, .int .i64 width), (1, .int .i64 height), (2, .isl 2 (rows cPiece pieces)), (10, .osl 81 0), (12, .int .i64 σ.2.1), (33, .isl 4 (rows cPlaced placed)), (34, .int .i64 n2), (35, .int .i64 σ.2.2)]) (fun σ => [(81, 0, .row 3 1 (rows cInt σ.1))])
        (fun σ => (0 ≤ σ.2.2) ∧ (σ.2.2 ≤ n2) ∧ (FG pieces width.toNat height.toNat placed σ.2.2 σ.2.1 σ.1)) (fun σ => (n2 - σ.2.2).toNat) (grid_2, -1, 0) ?_ ?_ ?_ ?_
      · cbv
      · cbv
      · exact ⟨(by (try dsimp only); first | omega | (simp only [List.length_nil]; omega) | (simp only [List.length_cons, List.length_nil]; omega)), (by (try dsimp only); first | omega | (simp only [List.length_nil]; omega) | (simp only [List.length_cons, List.length_nil]; omega)), (by (try dsimp only) <;> (exact FG.start g0))⟩
      rintro ⟨grid_4, last, i2⟩ ⟨lo2, hi2, fg⟩ E hE F hF
      dsimp only at lo2 hi2 fg
      have fl := fg.len
      obtain ⟨G, eg, sg, cg, lb1, lb2⟩ := fg
      conv => cbv
      refine r_lss m.sX (fun h2 => ?_) (fun h2 => ?_) <;> conv => cbv
      · refine r_index m.sX (by omega) (by omega) fun v hxA => ?_
        obtain ⟨xA, xB, xC, xD⟩ := v
        conv => cbv
        have hx := hxA
        have mx := get_mem hx
        have dx := drop_cons hx
        have kx := take_snoc hx
        have jx : (i2 + 1).toNat = Int.toNat i2 + 1 := by omega
        refine r_leq m.sX (fun h3 => ?_) (fun h3 => ?_) <;> conv => cbv
        · refine hF _ _ ?_
          conv => cbv
          exact hQ (.tup [.nil, .bool false]) (Eq.trans (by first | rfl | (simp only [lb, lbI, rows_cons, rows_nil, unnilT, unnil, unnilTI, unnilI]; done) | (simp only [lb, lbI, rows_cons, rows_nil, unnilT, unnil, unnilTI, unnilI]; rfl)) (congrArg ((lb 3 1 cInt)) (show ([], false) = gridL width height pieces placed from by rw [gridL_no hc (cg.trans (chaseG_no hx (fun e => by have e1 := e.1.1; dsimp only at e1; omega)))])))   -- leaf 1
        · refine r_lenR m.sX fun n3 hn3 mn3 => ?_
          conv => cbv
          refine r_geq m.sX (fun h4 => ?_) (fun h4 => ?_) <;> conv => cbv
          · refine hF _ _ ?_
            conv => cbv
            exact hQ (.tup [.nil, .bool false]) (Eq.trans (by first | rfl | (simp only [lb, lbI, rows_cons, rows_nil, unnilT, unnil, unnilTI, unnilI]; done) | (simp only [lb, lbI, rows_cons, rows_nil, unnilT, unnil, unnilTI, unnilI]; rfl)) (congrArg ((lb 3 1 cInt)) (show ([], false) = gridL width height pieces placed from by rw [gridL_no hc (cg.trans (chaseG_no hx (fun e => by have e1 := e.1.2; dsimp only at e1; omega)))])))   -- leaf 2
          · refine r_subf m.sX (by omega) (by omega) fun r3 hr3 => ?_
            conv => cbv
            refine r_callB m.sX (l1In_ok xB 0 r3) (fun h5 => ?_) (fun h5 => ?_) <;> conv => cbv
            · refine r_subf m.sX (by omega) (by omega) fun r4 hr4 => ?_
              conv => cbv
              refine r_callB m.sX (l1In_ok xC 0 r4) (fun h6 => ?_) (fun h6 => ?_) <;> conv => cbv
              · have i5 := inB_spec h5
                try dsimp only at i5
                have i6 := inB_spec h6
                try dsimp only at i6
                refine r_draw m (by kernel_rfl) ?_
                conv => cbv
                refine r_index m.sY (by omega) (by omega) fun v hx1A => ?_
                obtain ⟨x1A, x1B⟩ := v
                conv => cbv
                have hx1 := hx1A
                have mx1 := get_mem hx1
                refine r_callFS ii m.sY (fuSides_ok (x1A, x1B) xD) (by first | trivial | exact noFr_tup2 trivial trivial | exact noFr_tup3 trivial trivial trivial) fun v hw => ?_
                obtain ⟨w, h_⟩ := v
                conv => cbv
                try dsimp only at hw
                have sp : (w, h_) = sideP pieces (xA, xB, xC, xD) := by rw [sideP, nthP_some hx1]; exact hw
                have sb := @side_bound pieces ops (xA, xB, xC, xD) (by dsimp only; omega) (by dsimp only; omega)
                try dsimp only at sb
                rw [← sp] at sb
                refine r_addf m.sX (by omega) (by omega) fun r5 hr5 => ?_
                conv => cbv
                refine r_gtr m.sX (fun h7 => ?_) (fun h7 => ?_) <;> conv => cbv
                · refine hF _ _ ?_
                  conv => cbv
                  exact hQ (.tup [.nil, .bool false]) (Eq.trans (by first | rfl | (simp only [lb, lbI, rows_cons, rows_nil, unnilT, unnil, unnilTI, unnilI]; done) | (simp only [lb, lbI, rows_cons, rows_nil, unnilT, unnil, unnilTI, unnilI]; rfl)) (congrArg ((lb 3 1 cInt)) (show ([], false) = gridL width height pieces placed from by rw [gridL_no hc (cg.trans (chaseG_no hx (fun e => by rw [room_no (fit_no sp (by dsimp only; omega))] at e; cases e.2)))])))   -- leaf 3
                · refine r_addf m.sX (by omega) (by omega) fun r6 hr6 => ?_
                  conv => cbv
                  refine r_gtr m.sX (fun h8 => ?_) (fun h8 => ?_) <;> conv => cbv
                  · refine hF _ _ ?_
                    conv => cbv
                    exact hQ (.tup [.nil, .bool false]) (Eq.trans (by first | rfl | (simp only [lb, lbI, rows_cons, rows_nil, unnilT, unnil, unnilTI, unnilI]; done) | (simp only [lb, lbI, rows_cons, rows_nil, unnilT, unnil, unnilTI, unnilI]; rfl)) (congrArg ((lb 3 1 cInt)) (show ([], false) = gridL width height pieces placed from by rw [gridL_no hc (cg.trans (chaseG_no hx (fun e => by rw [room_no (fit_no sp (by dsimp only; omega))] at e; cases e.2)))])))   -- leaf 4
                  · refine r_loopF (α := List Int × Int) m 126 [0, 1, 2, 12, 15, 16, 17, 33, 34, 35] [⟨10, 81, 3, 1, 0⟩, ⟨14, 113, 0, 0, 0⟩] (fun σ => [(0, .int .i64 width), (1, .int .i64 height), (2, .isl 2 (rows cPiece pieces)), (10, .osl 81 0), (12, .int .i64 xA), (14, .optr 113 0 4 0 0), (15, .int .i64 w), (16, .int .i64 h_), (17, .int .i64 σ.2), (33, .isl 4 (rows cPlaced placed)), (34, .int .i64 n2), (35, .int .i64 i2)]) (fun σ => [(81, 0, .row 3 1 (rows cInt σ.1)), (113, 0, .box [.int .i64 xA, .int .i64 xB, .int .i64 xC, .bool xD])])
                      (fun σ => (0 ≤ σ.2) ∧ (σ.2 ≤ h_) ∧ (σ.1 = flaG width.toNat height.toNat (partG pieces G (xA, xB, xC, xD) xA (xC + σ.2) xB)) ∧ (PassF pieces width.toNat height.toNat G (xA, xB, xC, xD) (xC + σ.2) xB)) (fun σ => (h_ - σ.2).toNat) (grid_4, 0) ?_ ?_ ?_ ?_
                    · cbv
                    · cbv
                    · exact ⟨(by (try dsimp only); first | omega | (simp only [List.length_nil]; omega) | (simp only [List.length_cons, List.length_nil]; omega)), (by (try dsimp only); first | omega | (simp only [List.length_nil]; omega) | (simp only [List.length_cons, List.length_nil]; omega)), (by (try dsimp only) <;> (rw [eg, Int.add_zero]; exact congrArg _ (part_start pieces G (xA, xB, xC, xD) xA).symm)), (by (try dsimp only) <;> (rw [Int.add_zero]; exact PassF.start pieces width.toNat height.toNat G (xA, xB, xC, xD)))⟩
                    rintro ⟨grid_5, dy⟩ ⟨lo3, hi3, p3, pf3⟩ E2 hE2 F2 hF2
                    dsimp only at lo3 hi3 p3 pf3
                    conv => cbv
                    refine r_lss m.sX (fun h9 => ?_) (fun h9 => ?_) <;> conv => cbv
                    · refine r_loopF (α := List Int × Int) m 126 [0, 1, 2, 12, 15, 16, 17, 18, 33, 34, 35] [⟨10, 81, 3, 1, 0⟩, ⟨14, 113, 0, 0, 0⟩] (fun σ => [(0, .int .i64 width), (1, .int .i64 height), (2, .isl 2 (rows cPiece pieces)), (10, .osl 81 0), (12, .int .i64 xA), (14, .optr 113 0 4 0 0), (15, .int .i64 w), (16, .int .i64 h_), (17, .int .i64 dy), (18, .int .i64 σ.2), (33, .isl 4 (rows cPlaced placed)), (34, .int .i64 n2), (35, .int .i64 i2)]) (fun σ => [(81, 0, .row 3 1 (rows cInt σ.1)), (113, 0, .box [.int .i64 xA, .int .i64 xB, .int .i64 xC, .bool xD])])
                        (fun σ => (0 ≤ σ.2) ∧ (σ.2 ≤ w) ∧ (σ.1 = flaG width.toNat height.toNat (partG pieces G (xA, xB, xC, xD) xA (xC + dy) (xB + σ.2))) ∧ (PassF pieces width.toNat height.toNat G (xA, xB, xC, xD) (xC + dy) (xB + σ.2))) (fun σ => (w - σ.2).toNat) (grid_5, 0) ?_ ?_ ?_ ?_
                      · cbv
                      · cbv
                      · exact ⟨(by (try dsimp only); first | omega | (simp only [List.length_nil]; omega) | (simp only [List.length_cons, List.length_nil]; omega)), (by (try dsimp only); first | omega | (simp only [List.length_nil]; omega) | (simp only [List.length_cons, List.length_nil]; omega)), (by (try dsimp only) <;> (rw [Int.add_zero]; exact p3)), (by (try dsimp only) <;> (rw [Int.add_zero]; exact pf3))⟩
                      rintro ⟨grid_6, dx⟩ ⟨lo4, hi4, p4, pf4⟩ E3 hE3 F3 hF3
                      dsimp only at lo4 hi4 p4 pf4
                      conv => cbv
                      refine r_lss m.sX (fun h10 => ?_) (fun h10 => ?_) <;> conv => cbv
                      · refine r_addf m.sX (by omega) (by omega) fun r7 hr7 => ?_
                        conv => cbv
                        have m8 := mul_bound (a := r7) (A := 8) (b := width) (B := 8) (by omega) (by omega) (by omega) (by omega)
                        try dsimp only at m8
                        refine r_mulf m.sX (by first | omega | (subst_vars; omega)) (by first | omega | (subst_vars; omega)) fun r8 hr8 => ?_
                        conv => cbv
                        refine r_addf m.sX (by omega) (by omega) fun r9 hr9 => ?_
                        conv => cbv
                        refine r_addf m.sX (by omega) (by omega) fun at_ hat_ => ?_
                        conv => cbv
                        have ix : at_.toNat = r7.toNat * width.toNat + (xB + dx).toNat := flat_ix (by omega) (by omega) (by omega) (by omega)
                        have hyv : r7.toNat < height.toNat := by omega
                        have hxv : (xB + dx).toNat < width.toNat := by omega
                        have hyc : ((r7.toNat : Nat) : Int) = xC + dy := by omega
                        have hxc : (((xB + dx).toNat : Nat) : Int) = xB + dx := by omega
                        have ip : inP pieces (xA, xB, xC, xD) r7.toNat (xB + dx).toNat = true := in_at sp hyc hxc (by dsimp only; omega)
                        have il := flat_lt hyv hxv
                        try dsimp only at il
                        have l6 : grid_6.length = width.toNat * height.toNat := by rw [p4, flaG_length]
                        refine r_oindex m.sX (by omega) (by omega) ?_
                        conv => cbv
                        obtain ⟨x2, hx2⟩ := get_ex (xs := grid_6) (i := Int.toNat at_) (by omega)
                        have mx2 := get_mem hx2
                        have vx2 := nth_some hx2
                        have ex2 : x2 = G r7.toNat (xB + dx).toNat := by rw [p4, ix, flaG_at hyv hxv] at hx2; rw [← Option.some.inj hx2, part_at hyc hxc]
                        have sg2 := sg r7.toNat (xB + dx).toNat
                        try dsimp only at sg2
                        refine r_oload m.sX hx2 (Nat.le_of_ble_eq_true rfl) ?_
                        conv => cbv
                        refine r_geq m.sX (fun h11 => ?_) (fun h11 => ?_) <;> conv => cbv
                        · refine hF3 _ _ ?_
                          conv => cbv
                          refine hF2 _ _ ?_
                          conv => cbv
                          refine hF _ _ ?_
                          conv => cbv
                          exact hQ (.tup [.nil, .bool false]) (Eq.trans (by first | rfl | (simp only [lb, lbI, rows_cons, rows_nil, unnilT, unnil, unnilTI, unnilI]; done) | (simp only [lb, lbI, rows_cons, rows_nil, unnilT, unnil, unnilTI, unnilI]; rfl)) (congrArg ((lb 3 1 cInt)) (show ([], false) = gridL width height pieces placed from by rw [gridL_no hc (cg.trans (chaseG_no hx (fun e => by rw [room_taken (taken hyv hxv ip (by omega))] at e; cases e.2)))])))   -- leaf 5
                        · refine r_oindex m.sX (by omega) (by omega) ?_
                          conv => cbv
                          obtain ⟨y2, hy2⟩ := get_ex (xs := grid_6) (i := Int.toNat at_) (by omega)
                          refine r_ostore (l := Int.toNat at_) xA m.sX hy2 (Nat.le_of_ble_eq_true rfl) rfl fun grid_7 hgrid_7 => ?_
                          have lgrid_7 : (grid_7.length : Int) = grid_6.length := by rw [hgrid_7]; first | done | (simp; done) | (simp; omega)
                          conv => cbv
                          refine r_addf m.sX (by omega) (by omega) fun dx_2 hdx_2 => ?_
                          conv => cbv
                          try have tdx_2 : Int.toNat dx_2 = Int.toNat dx + 1 := by omega
                          refine hE3 _ (grid_7, dx_2) ?_ ?_ ⟨(by (try dsimp only); first | omega | (simp only [List.length_nil]; omega) | (simp only [List.length_cons, List.length_nil]; omega)), (by (try dsimp only); first | omega | (simp only [List.length_nil]; omega) | (simp only [List.length_cons, List.length_nil]; omega)), (by (try dsimp only) <;> (rw [hgrid_7, p4, ix, flaG_set hyv hxv, part_set hyc hxc ip (x2 := xB + dx_2) (by omega)])), (by (try dsimp only) <;> (exact pf4.step hyc hxc (by omega) (by omega)))⟩ (by first | omega | (dsimp only; omega))
                          · cbv
                          · cbv
                      · refine hF3 _ _ ?_
                        conv => cbv
                        refine r_addf m.sX (by omega) (by omega) fun dy_2 hdy_2 => ?_
                        conv => cbv
                        try have tdy_2 : Int.toNat dy_2 = Int.toNat dy + 1 := by omega
                        refine hE2 _ (grid_6, dy_2) ?_ ?_ ⟨(by (try dsimp only); first | omega | (simp only [List.length_nil]; omega) | (simp only [List.length_cons, List.length_nil]; omega)), (by (try dsimp only); first | omega | (simp only [List.length_nil]; omega) | (simp only [List.length_cons, List.length_nil]; omega)), (by (try dsimp only) <;> (rw [p4, part_row (by rw [← sp]; dsimp only; omega) (y2 := xC + dy_2) (by omega)])), (by (try dsimp only) <;> (exact pf4.row (by rw [← sp]; dsimp only; omega) (by omega)))⟩ (by first | omega | (dsimp only; omega))
                        · cbv
                        · cbv
                    · refine hF2 _ _ ?_
                      conv => cbv
                      refine r_addf m.sX (by omega) (by omega) fun r10 hr10 => ?_
                      conv => cbv
                      try have tr10 : Int.toNat r10 = Int.toNat i2 + 1 := by omega
                      refine hE _ (grid_5, xA, r10) ?_ ?_ ⟨(by (try dsimp only); first | omega | (simp only [List.length_nil]; omega) | (simp only [List.length_cons, List.length_nil]; omega)), (by (try dsimp only); first | omega | (simp only [List.length_nil]; omega) | (simp only [List.length_cons, List.length_nil]; omega)), (by (try dsimp only) <;> (exact FG.next hx (by omega) (by omega) sg cg lb1 (by dsimp only; omega) (by dsimp only; omega) ol (room_yes (fit_yes sp (by dsimp only; omega)) (pf3.done (by rw [← sp]; dsimp only; omega))) (by rw [p3, part_end (by rw [← sp]; dsimp only; omega)])))⟩ (by first | omega | (dsimp only; omega))
                      · cbv
                      · cbv
              · have io := inB_out h6
                try dsimp only at io
                refine hF _ _ ?_
                conv => cbv
                exact hQ (.tup [.nil, .bool false]) (Eq.trans (by first | rfl | (simp only [lb, lbI, rows_cons, rows_nil, unnilT, unnil, unnilTI, unnilI]; done) | (simp only [lb, lbI, rows_cons, rows_nil, unnilT, unnil, unnilTI, unnilI]; rfl)) (congrArg ((lb 3 1 cInt)) (show ([], false) = gridL width height pieces placed from by rw [gridL_no hc (cg.trans (chaseG_no hx (fun e => by rw [room_no (fit_out ops (by dsimp only; omega) (by dsimp only; omega) (by dsimp only; omega))] at e; cases e.2)))])))   -- leaf 6
            · have io := inB_out h5
              try dsimp only at io
              refine hF _ _ ?_
              conv => cbv
              exact hQ (.tup [.nil, .bool false]) (Eq.trans (by first | rfl | (simp only [lb, lbI, rows_cons, rows_nil, unnilT, unnil, unnilTI, unnilI]; done) | (simp only [lb, lbI, rows_cons, rows_nil, unnilT, unnil, unnilTI, unnilI]; rfl)) (congrArg ((lb 3 1 cInt)) (show ([], false) = gridL width height pieces placed from by rw [gridL_no hc (cg.trans (chaseG_no hx (fun e => by rw [room_no (fit_out ops (by dsimp only; omega) (by dsimp only; omega) (by dsimp only; omega))] at e; cases e.2)))])))   -- leaf 7
      · have dz_i2 := drop_end (xs := placed) (i := Int.toNat i2) (by omega)
        have tz_i2 := take_end (xs := placed) (i := Int.toNat i2) (by omega)
        refine hF _ _ ?_
        conv => cbv
        exact hQ (.tup [.fr 3 1 (rows cInt grid_4), .bool true]) (Eq.trans (by first | rfl | (simp only [lb, lbI, rows_cons, rows_nil, unnilT, unnil, unnilTI, unnilI]; done) | (simp only [lb, lbI, rows_cons, rows_nil, unnilT, unnil, unnilTI, unnilI]; rfl)) (congrArg ((lb 3 1 cInt)) (show (grid_4, true) = gridL width height pieces placed from by rw [gridL_yes hc (cg.trans (chaseG_nil (by omega))), ← eg]))))   -- leaf 8

theorem fuAsked_ok (width : Int) (height : Int) (pieces : List Piece) (placed : List Plc)  : OkA Try.prog 65 [.int .i64 width, .int .i64 height, .isl 2 (rows cPiece pieces), .isl 4 (rows cPlaced placed)] (· = .bool ((chaseF width height pieces placed).isSome)) :=
  fn_intro envOk fieldsOk mixed Try.func65 rfl fun κ X Y L Q m hQ => by
    conv => cbv
    refine r_callB m.sX (fuChase_ok width height pieces) (fun h1 => ?_) (fun h1 => ?_) <;> conv => cbv
    · refine r_callF (lb 3 1 cInt) m.sX (fuGrid_ok width height pieces placed (by first | rfl | assumption | omega | (simp only [List.length_append, List.length_cons, List.length_nil] at *; omega))) fun v hv1 => ?_
      obtain ⟨v1, ok⟩ := v
      conv => cbv
      exact hQ _ (congrArg PV.bool (by exact (gridL_ok hv1).symm))   -- leaf 1
    · exact hQ _ (congrArg PV.bool (by rw [chaseF_bad h1]; rfl))   -- leaf 2

end Go.Proofs.Ytiaodmfipeoegaa.Ai
