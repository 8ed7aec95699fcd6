/- Contracts of the functions on pages of folded sheets. -/
import Derived.Test.YtbamclepgabciaaDoorFoldsLaw2
import Derived.Test.YtbamclepgabciaaDoorFoldDraw
import Derived.Test.YtbamclepgabciaaDoorPound
namespace Go.Proofs.YtbamclepgabciaaDoor.Ai
open Go Go.Proofs
set_option linter.unusedSimpArgs false
set_option maxRecDepth 10000
set_option maxHeartbeats 4000000
set_option linter.unusedVariables false
noncomputable def ll {α : Type} (e n : Nat) (f : α → List PV) (p : List α × List α) : PV := .tup [.fr e n (rows f p.1), .fr e n (rows f p.2)]
theorem leaves_len {fs : List Fold} (hg : goodF fs = true) : (foldedF fs).length ≤ 16 := by rw [folded_length hg]; exact pow16 (goodF_le hg)
def schF (fs : List Fold) : List UInt8 × Bool := if goodF fs then (schL fs, true) else ([], false)
theorem pages_ok (folds : List Fold) (front : Bool) (hg : goodF folds = true) : OkA Tryd.prog 86 [.isl 2 (rows cFold folds), .bool front] (· = .fr 3 1 (rows cInt (pagesL folds front))) :=
  OkA.unnil 3 1 (fn_intro envOk fieldsOk mixed Tryd.func86 rfl fun κ X Y L Q m hQ => by
    conv => cbv
    refine r_callF (fun l => PV.isl _ (rows _ l)) m.sX (folded_ok folds (by assumption)) fun leaves hleaves => ?_
    conv => cbv
    have lr := (sides_ok hg).cell
    have ln_ := leaves_len hg
    rw [← hleaves] at lr ln_
    refine r_lenR m.sX fun n1 hn1 mn1 => ?_
    conv => cbv
    refine r_make cInt 0 m.sX rfl (by omega) (by omega) (by dsimp only; omega) (by omega) fun list hlist => ?_   -- list = replicate n1
    have llist : (list.length : Int) = n1 := by rw [hlist]; first | done | (simp; done) | (simp; omega)
    conv => cbv
    refine r_lenR m.sX fun n2 hn2 mn2 => ?_
    conv => cbv
    refine r_loopF (α := List Int × Int) m 41 [1, 14, 15, 16] [⟨6, 49, 3, 1, 0⟩] (fun σ => [(1, .bool front), (6, .osl 49 0), (14, .isl 2 (rows cLeaf leaves)), (15, .int .i64 n2), (16, .int .i64 σ.2)]) (fun σ => [(49, 0, .row 3 1 (rows cInt σ.1))])
      (fun σ => (0 ≤ σ.2) ∧ (σ.2 ≤ n2) ∧ (pagesL folds front = goP front (leaves.drop σ.2.toNat) σ.2.toNat σ.1) ∧ ((σ.1.length : Int) = leaves.length)) (fun σ => (n2 - σ.2).toNat) (list, 0) ?_ ?_ ?_ ?_
    · cbv
    · cbv
    · exact ⟨(by (try dsimp only); first | omega | (simp only [List.length_nil]; omega) | (simp only [List.length_cons, List.length_nil]; omega)), (by (try dsimp only); first | omega | (simp only [List.length_nil]; omega) | (simp only [List.length_cons, List.length_nil]; omega)), (by (try dsimp only) <;> (rw [pagesL, ← hleaves, hlist, show Int.toNat n1 = leaves.length by omega]; rfl)), (by (try dsimp only) <;> first | omega | rfl | (simp [*]; done))⟩
    rintro ⟨list_2, i1⟩ ⟨lo1, hi1, q, ll⟩ E hE F hF
    dsimp only at lo1 hi1 q ll
    conv => cbv
    refine r_lss m.sX (fun h1 => ?_) (fun h1 => ?_) <;> conv => cbv
    · refine r_index m.sX (by omega) (by omega) fun v hxA => ?_
      obtain ⟨xA, xB⟩ := v
      conv => cbv
      have hx := hxA
      have mx := get_mem hx
      have dx := drop_cons hx
      have kx := take_snoc hx
      have jx : (i1 + 1).toNat = Int.toNat i1 + 1 := by omega
      have rx := lr _ (get_mem hx)
      try dsimp only at rx
      have ci : ((Int.toNat i1 : Nat) : Int) = i1 := by omega
      have dx := drop_cons hx
      try dsimp only at dx
      refine r_mulf m.sX (by first | omega | (subst_vars; omega)) (by first | omega | (subst_vars; omega)) fun r1 hr1 => ?_
      conv => cbv
      refine r_addf m.sX (by omega) (by omega) fun r2 hr2 => ?_
      conv => cbv
      refine r_oindex m.sX (by omega) (by omega) ?_
      conv => cbv
      obtain ⟨y1, hy1⟩ := get_ex (xs := list_2) (i := Int.toNat xA) (by omega)
      refine r_ostore (l := Int.toNat xA) r2 m.sX hy1 (Nat.le_of_ble_eq_true rfl) rfl fun list_3 hlist_3 => ?_   -- list_3 = list_2.set xA r2
      have llist_3 : (list_3.length : Int) = list_2.length := by rw [hlist_3]; first | done | (simp; done) | (simp; omega)
      conv => cbv
      rcases Bool.eq_false_or_eq_true xB with rfl | rfl <;> conv => cbv
      · rcases Bool.eq_false_or_eq_true front with rfl | rfl <;> conv => cbv
        · refine r_mulf m.sX (by first | omega | (subst_vars; omega)) (by first | omega | (subst_vars; omega)) fun r3 hr3 => ?_
          conv => cbv
          refine r_addf m.sX (by omega) (by omega) fun r4 hr4 => ?_
          conv => cbv
          refine r_oindex m.sX (by omega) (by omega) ?_
          conv => cbv
          obtain ⟨y2, hy2⟩ := get_ex (xs := list_3) (i := Int.toNat xA) (by omega)
          refine r_ostore (l := Int.toNat xA) r4 m.sX hy2 (Nat.le_of_ble_eq_true rfl) rfl fun list_4 hlist_4 => ?_   -- list_4 = list_3.set xA r4
          have llist_4 : (list_4.length : Int) = list_3.length := by rw [hlist_4]; first | done | (simp; done) | (simp; omega)
          conv => cbv
          refine r_addf m.sX (by omega) (by omega) fun r5 hr5 => ?_
          conv => cbv
          try have tr5 : Int.toNat r5 = Int.toNat i1 + 1 := by omega
          refine hE _ (list_4, r5) ?_ ?_ ⟨(by (try dsimp only); first | omega | (simp only [List.length_nil]; omega) | (simp only [List.length_cons, List.length_nil]; omega)), (by (try dsimp only); first | omega | (simp only [List.length_nil]; omega) | (simp only [List.length_cons, List.length_nil]; omega)), (by (try dsimp only) <;> (rw [q, dx, goP, tr5]; dsimp only; first | (rw [hlist_4, hlist_3, List.set_set, if_pos (show (true == true) = true from rfl), ci, show 2 * i1 + 1 = r4 by omega]) | (rw [hlist_4, hlist_3, List.set_set, if_pos (show (false == false) = true from rfl), ci, show 2 * i1 + 1 = r9 by omega]) | (rw [hlist_3, if_neg (by decide), ci, show 2 * i1 + 2 = r2 by omega]))), (by (try dsimp only) <;> first | omega | rfl | (simp [*]; done) | (rw [ll]; simp [*]; done))⟩ (by first | omega | (dsimp only; omega))
          · cbv
          · cbv
        · refine r_addf m.sX (by omega) (by omega) fun r6 hr6 => ?_
          conv => cbv
          try have tr6 : Int.toNat r6 = Int.toNat i1 + 1 := by omega
          refine hE _ (list_3, r6) ?_ ?_ ⟨(by (try dsimp only); first | omega | (simp only [List.length_nil]; omega) | (simp only [List.length_cons, List.length_nil]; omega)), (by (try dsimp only); first | omega | (simp only [List.length_nil]; omega) | (simp only [List.length_cons, List.length_nil]; omega)), (by (try dsimp only) <;> (rw [q, dx, goP, tr6]; dsimp only; first | (rw [hlist_3, hlist_3, List.set_set, if_pos (show (true == true) = true from rfl), ci, show 2 * i1 + 1 = r4 by omega]) | (rw [hlist_3, hlist_3, List.set_set, if_pos (show (false == false) = true from rfl), ci, show 2 * i1 + 1 = r9 by omega]) | (rw [hlist_3, if_neg (by decide), ci, show 2 * i1 + 2 = r2 by omega]))), (by (try dsimp only) <;> first | omega | rfl | (simp [*]; done) | (rw [ll]; simp [*]; done))⟩ (by first | omega | (dsimp only; omega))
          · cbv
          · cbv
      · rcases Bool.eq_false_or_eq_true front with rfl | rfl <;> conv => cbv
        · refine r_addf m.sX (by omega) (by omega) fun r7 hr7 => ?_
          conv => cbv
          try have tr7 : Int.toNat r7 = Int.toNat i1 + 1 := by omega
          refine hE _ (list_3, r7) ?_ ?_ ⟨(by (try dsimp only); first | omega | (simp only [List.length_nil]; omega) | (simp only [List.length_cons, List.length_nil]; omega)), (by (try dsimp only); first | omega | (simp only [List.length_nil]; omega) | (simp only [List.length_cons, List.length_nil]; omega)), (by (try dsimp only) <;> (rw [q, dx, goP, tr7]; dsimp only; first | (rw [hlist_3, hlist_3, List.set_set, if_pos (show (true == true) = true from rfl), ci, show 2 * i1 + 1 = r4 by omega]) | (rw [hlist_3, hlist_3, List.set_set, if_pos (show (false == false) = true from rfl), ci, show 2 * i1 + 1 = r9 by omega]) | (rw [hlist_3, if_neg (by decide), ci, show 2 * i1 + 2 = r2 by omega]))), (by (try dsimp only) <;> first | omega | rfl | (simp [*]; done) | (rw [ll]; simp [*]; done))⟩ (by first | omega | (dsimp only; omega))
          · cbv
          · cbv
        · refine r_mulf m.sX (by first | omega | (subst_vars; omega)) (by first | omega | (subst_vars; omega)) fun r8 hr8 => ?_
          conv => cbv
          refine r_addf m.sX (by omega) (by omega) fun r9 hr9 => ?_
          conv => cbv
          refine r_oindex m.sX (by omega) (by omega) ?_
          conv => cbv
          obtain ⟨y3, hy3⟩ := get_ex (xs := list_3) (i := Int.toNat xA) (by omega)
          refine r_ostore (l := Int.toNat xA) r9 m.sX hy3 (Nat.le_of_ble_eq_true rfl) rfl fun list_5 hlist_5 => ?_   -- list_5 = list_3.set xA r9
          have llist_5 : (list_5.length : Int) = list_3.length := by rw [hlist_5]; first | done | (simp; done) | (simp; omega)
          conv => cbv
          refine r_addf m.sX (by omega) (by omega) fun r10 hr10 => ?_
          conv => cbv
          try have tr10 : Int.toNat r10 = Int.toNat i1 + 1 := by omega
          refine hE _ (list_5, r10) ?_ ?_ ⟨(by (try dsimp only); first | omega | (simp only [List.length_nil]; omega) | (simp only [List.length_cons, List.length_nil]; omega)), (by (try dsimp only); first | omega | (simp only [List.length_nil]; omega) | (simp only [List.length_cons, List.length_nil]; omega)), (by (try dsimp only) <;> (rw [q, dx, goP, tr10]; dsimp only; first | (rw [hlist_5, hlist_3, List.set_set, if_pos (show (true == true) = true from rfl), ci, show 2 * i1 + 1 = r4 by omega]) | (rw [hlist_5, hlist_3, List.set_set, if_pos (show (false == false) = true from rfl), ci, show 2 * i1 + 1 = r9 by omega]) | (rw [hlist_3, if_neg (by decide), ci, show 2 * i1 + 2 = r2 by omega]))), (by (try dsimp only) <;> first | omega | rfl | (simp [*]; done) | (rw [ll]; simp [*]; done))⟩ (by first | omega | (dsimp only; omega))
          · cbv
          · cbv
    · have dz_i1 := drop_end (xs := leaves) (i := Int.toNat i1) (by omega)
      have tz_i1 := take_end (xs := leaves) (i := Int.toNat i1) (by omega)
      refine hF _ _ ?_
      conv => cbv
      exact hQ (.fr 3 1 (rows cInt list_2)) (Eq.trans (by first | rfl | (simp only [lb, lbI, rows_cons, rows_nil, unnilT, unnil, unnilTI, unnilI]; done) | (simp only [lb, lbI, rows_cons, rows_nil, unnilT, unnil, unnilTI, unnilI]; rfl)) (congrArg (fun l => PV.fr 3 1 (rows cInt l)) (show list_2 = pagesL folds front from by rw [q, dz_i1]; rfl))))   -- leaf 1

theorem PagesOnFront_ok (folds : List Fold)  : OkA Tryd.prog 26 [.isl 2 (rows cFold folds)] (· = (lb 3 1 cInt) (if goodF folds then (pagesL folds true, true) else ([], false))) :=
  OkA.unnil 3 1 (fn_intro envOk fieldsOk mixed Tryd.func26 rfl fun κ X Y L Q m hQ => by
    conv => cbv
    refine r_callB m.sX (AreFolds_ok folds) (fun h1 => ?_) (fun h1 => ?_) <;> conv => cbv
    · refine r_callF (fun l => PV.fr _ _ (rows _ l)) m.sX (pages_ok folds true (by first | rfl | assumption | omega | (simp only [List.length_append, List.length_cons, List.length_nil] at *; omega))) fun v1 hv1 => ?_
      conv => cbv
      exact hQ (.tup [.fr 3 1 (rows cInt v1), .bool true]) (Eq.trans (by first | rfl | (simp only [lb, lbI, rows_cons, rows_nil, unnilT, unnil, unnilTI, unnilI]; done) | (simp only [lb, lbI, rows_cons, rows_nil, unnilT, unnil, unnilTI, unnilI]; rfl)) (congrArg ((lb 3 1 cInt)) (show (v1, true) = if goodF folds then (pagesL folds true, true) else ([], false) from by rw [if_pos h1, hv1])))   -- leaf 1
    · exact hQ (.tup [.fr 3 1 [], .bool false]) (Eq.trans (by first | rfl | (simp only [lb, lbI, rows_cons, rows_nil, unnilT, unnil, unnilTI, unnilI]; done) | (simp only [lb, lbI, rows_cons, rows_nil, unnilT, unnil, unnilTI, unnilI]; rfl)) (congrArg ((lb 3 1 cInt)) (show ([], false) = if goodF folds then (pagesL folds true, true) else ([], false) from by rw [if_neg (by rw [h1]; decide)]))))   -- leaf 2

theorem PagesOnBack_ok (folds : List Fold)  : OkA Tryd.prog 28 [.isl 2 (rows cFold folds)] (· = (lb 3 1 cInt) (if goodF folds then (pagesL folds false, true) else ([], false))) :=
  OkA.unnil 3 1 (fn_intro envOk fieldsOk mixed Tryd.func28 rfl fun κ X Y L Q m hQ => by
    conv => cbv
    refine r_callB m.sX (AreFolds_ok folds) (fun h1 => ?_) (fun h1 => ?_) <;> conv => cbv
    · refine r_callF (fun l => PV.fr _ _ (rows _ l)) m.sX (pages_ok folds false (by first | rfl | assumption | omega | (simp only [List.length_append, List.length_cons, List.length_nil] at *; omega))) fun v1 hv1 => ?_
      conv => cbv
      exact hQ (.tup [.fr 3 1 (rows cInt v1), .bool true]) (Eq.trans (by first | rfl | (simp only [lb, lbI, rows_cons, rows_nil, unnilT, unnil, unnilTI, unnilI]; done) | (simp only [lb, lbI, rows_cons, rows_nil, unnilT, unnil, unnilTI, unnilI]; rfl)) (congrArg ((lb 3 1 cInt)) (show (v1, true) = if goodF folds then (pagesL folds false, true) else ([], false) from by rw [if_pos h1, hv1])))   -- leaf 1
    · exact hQ (.tup [.fr 3 1 [], .bool false]) (Eq.trans (by first | rfl | (simp only [lb, lbI, rows_cons, rows_nil, unnilT, unnil, unnilTI, unnilI]; done) | (simp only [lb, lbI, rows_cons, rows_nil, unnilT, unnil, unnilTI, unnilI]; rfl)) (congrArg ((lb 3 1 cInt)) (show ([], false) = if goodF folds then (pagesL folds false, true) else ([], false) from by rw [if_neg (by rw [h1]; decide)]))))   -- leaf 2

theorem LeafOrder_ok (folds : List Fold)  : OkA Tryd.prog 30 [.isl 2 (rows cFold folds)] (· = (lb 3 1 cInt) (if goodF folds then ((foldedF folds).map (·.1), true) else ([], false))) :=
  OkA.unnil 3 1 (fn_intro envOk fieldsOk mixed Tryd.func30 rfl fun κ X Y L Q m hQ => by
    conv => cbv
    refine r_callB m.sX (AreFolds_ok folds) (fun h1 => ?_) (fun h1 => ?_) <;> conv => cbv
    · refine r_callF (fun l => PV.isl _ (rows _ l)) m.sX (folded_ok folds (by assumption)) fun v1 hv1 => ?_
      conv => cbv
      have ln_ := leaves_len h1
      rw [← hv1] at ln_
      refine r_lenR m.sX fun n1 hn1 mn1 => ?_
      conv => cbv
      refine r_loopF (α := List Int × Int) m 26 [13, 14, 15] [⟨4, 33, 3, 1, 0⟩] (fun σ => [(4, .osl 33 0), (13, .isl 2 (rows cLeaf v1)), (14, .int .i64 n1), (15, .int .i64 σ.2)]) (fun σ => [(33, 0, .row 3 1 (rows cInt σ.1))])
        (fun σ => (0 ≤ σ.2) ∧ (σ.2 ≤ n1) ∧ (σ.1 = (v1.take σ.2.toNat).map (·.1)) ∧ ((σ.1.length : Int) ≤ σ.2)) (fun σ => (n1 - σ.2).toNat) ([], 0) ?_ ?_ ?_ ?_
      · cbv
      · (try dsimp only); (try simp only [rows_cons, rows_nil]); cbv
      · exact ⟨(by (try dsimp only); first | omega | (simp only [List.length_nil]; omega) | (simp only [List.length_cons, List.length_nil]; omega)), (by (try dsimp only); first | omega | (simp only [List.length_nil]; omega) | (simp only [List.length_cons, List.length_nil]; omega)), (by (try dsimp only) <;> first | omega | rfl | (simp [*]; done)), (by (try dsimp only) <;> first | omega | rfl | (simp [*]; done))⟩
      rintro ⟨list, i1⟩ ⟨lo1, hi1, q, ln⟩ E hE F hF
      dsimp only at lo1 hi1 q ln
      conv => cbv
      refine r_lss m.sX (fun h2 => ?_) (fun h2 => ?_) <;> conv => cbv
      · refine r_index m.sX (by omega) (by omega) fun v hxA => ?_
        obtain ⟨xA, xB⟩ := v
        conv => cbv
        have hx := hxA
        have mx := get_mem hx
        have dx := drop_cons hx
        have kx := take_snoc hx
        have jx : (i1 + 1).toNat = Int.toNat i1 + 1 := by omega
        have kx := take_snoc hx
        try dsimp only at kx
        refine r_append1 (xA) m.sX rfl (by first | omega | (dsimp only; omega)) (by first | omega | (dsimp only; omega)) fun list_2 hlist_2 => ?_
        conv => cbv
        have llist_2 : (list_2.length : Int) = list.length + 1 := by rw [hlist_2]; first | done | (simp; done) | (simp; omega)
        refine r_addf m.sX (by omega) (by omega) fun r1 hr1 => ?_
        conv => cbv
        try have tr1 : Int.toNat r1 = Int.toNat i1 + 1 := by omega
        refine hE _ (list_2, r1) ?_ ?_ ⟨(by (try dsimp only); first | omega | (simp only [List.length_nil]; omega) | (simp only [List.length_cons, List.length_nil]; omega)), (by (try dsimp only); first | omega | (simp only [List.length_nil]; omega) | (simp only [List.length_cons, List.length_nil]; omega)), (by (try dsimp only) <;> (rw [hlist_2, q, tr1, kx, List.map_append]; rfl)), (by (try dsimp only) <;> first | omega | rfl | (simp [*]; done) | (rw [ln]; simp [*]; done))⟩ (by first | omega | (dsimp only; omega))
        · cbv
        · cbv
      · have dz_i1 := drop_end (xs := v1) (i := Int.toNat i1) (by omega)
        have tz_i1 := take_end (xs := v1) (i := Int.toNat i1) (by omega)
        refine hF _ _ ?_
        conv => cbv
        exact hQ (.tup [.fr 3 1 (rows cInt list), .bool true]) (Eq.trans (by first | rfl | (simp only [lb, lbI, rows_cons, rows_nil, unnilT, unnil, unnilTI, unnilI]; done) | (simp only [lb, lbI, rows_cons, rows_nil, unnilT, unnil, unnilTI, unnilI]; rfl)) (congrArg ((lb 3 1 cInt)) (show (list, true) = if goodF folds then ((foldedF folds).map (·.1), true) else ([], false) from by rw [if_pos h1, q, tz_i1, hv1])))   -- leaf 1
    · exact hQ (.tup [.fr 3 1 [], .bool false]) (Eq.trans (by first | rfl | (simp only [lb, lbI, rows_cons, rows_nil, unnilT, unnil, unnilTI, unnilI]; done) | (simp only [lb, lbI, rows_cons, rows_nil, unnilT, unnil, unnilTI, unnilI]; rfl)) (congrArg ((lb 3 1 cInt)) (show ([], false) = if goodF folds then ((foldedF folds).map (·.1), true) else ([], false) from by rw [if_neg (by rw [h1]; decide)]))))   -- leaf 2

theorem l1Abs_ok (n : Int) (hn : -1000000 ≤ n ∧ n ≤ 1000000) : OkA Tryd.prog 91 [.int .i64 n] (· = .int .i64 ((n.natAbs : Int))) :=
  fn_intro envOk fieldsOk mixed Tryd.func91 rfl fun κ X Y L Q m hQ => by
    conv => cbv
    refine r_neg m.sX fun r1 hr1 => ?_   -- r1 = wrap (-n)
    have e1 : r1 = -n := by rw [hr1]; exact wrap64 (by omega) (by omega)
    conv => cbv
    refine r_callF (PV.int .i64) m.sX (l1Most_ok n r1) fun r2 hr2 => ?_
    conv => cbv
    exact hQ (.int .i64 r2) (Eq.trans (by first | rfl | (simp only [lb, lbI, rows_cons, rows_nil, unnilT, unnil, unnilTI, unnilI]; done) | (simp only [lb, lbI, rows_cons, rows_nil, unnilT, unnil, unnilTI, unnilI]; rfl)) (congrArg (PV.int .i64) (show r2 = (n.natAbs : Int) from by rw [hr2, e1]; omega)))   -- leaf 1

theorem imTurn_ok (pile : List Int) (hp : ∀ x ∈ pile, -16 ≤ x ∧ x ≤ 16) (hl : pile.length ≤ 1000) : OkA Tryd.prog 141 [.isl 1 (rows cInt pile)] (· = .fr 3 1 (rows cInt (imTurnL pile))) :=
  OkA.unnil 3 1 (fn_intro envOk fieldsOk mixed Tryd.func141 rfl fun κ X Y L Q m hQ => by
    conv => cbv
    refine r_lenR m.sX fun n1 hn1 mn1 => ?_
    conv => cbv
    refine r_subf m.sX (by omega) (by omega) fun i hi => ?_
    conv => cbv
    refine r_loopF (α := List Int × Int) m 21 [0, 4] [⟨3, 25, 3, 1, 0⟩] (fun σ => [(0, .isl 1 (rows cInt pile)), (3, .osl 25 0), (4, .int .i64 σ.2)]) (fun σ => [(25, 0, .row 3 1 (rows cInt σ.1))])
      (fun σ => (-1 ≤ σ.2 ∧ σ.2 ≤ (pile.length : Int) - 1) ∧ (σ.1 = (pile.drop (σ.2 + 1).toNat).reverse.map fun x => -x) ∧ ((σ.1.length : Int) = (pile.length : Int) - 1 - σ.2)) (fun σ => (σ.2 + 1).toNat) ([], i) ?_ ?_ ?_ ?_
    · cbv
    · (try dsimp only); (try simp only [rows_cons, rows_nil]); cbv
    · exact ⟨(by (try dsimp only) <;> first | omega | rfl | (simp [*]; done)), (by (try dsimp only) <;> (rw [List.drop_of_length_le (by omega)]; rfl)), (by (try dsimp only) <;> first | omega | rfl | (simp [*]; done))⟩
    rintro ⟨out, i_2⟩ ⟨k1, q, ln⟩ E hE F hF
    dsimp only at k1 q ln
    conv => cbv
    refine r_geq m.sX (fun h1 => ?_) (fun h1 => ?_) <;> conv => cbv
    · refine r_index m.sX (by omega) (by omega) fun x1 hx1 => ?_
      conv => cbv
      have mx1 := get_mem hx1
      have vx1 := nth_some hx1
      have px1 := hp _ mx1
      refine r_neg m.sX fun r1 hr1 => ?_   -- r1 = wrap (-x1)
      have e1 : r1 = -x1 := by rw [hr1]; exact wrap64 (by omega) (by omega)
      conv => cbv
      refine r_append1 (r1) m.sX rfl (by first | omega | (dsimp only; omega)) (by first | omega | (dsimp only; omega)) fun out_2 hout_2 => ?_
      conv => cbv
      have lout_2 : (out_2.length : Int) = out.length + 1 := by rw [hout_2]; first | done | (simp; done) | (simp; omega)
      refine r_subf m.sX (by omega) (by omega) fun i_3 hi_3 => ?_
      conv => cbv
      refine hE _ (out_2, i_3) ?_ ?_ ⟨(by (try dsimp only) <;> first | omega | rfl | (simp [*]; done) | (rw [k1]; simp [*]; done)), (by (try dsimp only) <;> (rw [hout_2, q, show Int.toNat (i_3 + 1) = Int.toNat i_2 by omega, drop_cons hx1, List.reverse_cons, List.map_append, show Int.toNat (i_2 + 1) = Int.toNat i_2 + 1 by omega, e1]; rfl)), (by (try dsimp only) <;> first | omega | rfl | (simp [*]; done) | (rw [ln]; simp [*]; done))⟩ (by first | omega | (dsimp only; omega))
      · cbv
      · cbv
    · refine hF _ _ ?_
      conv => cbv
      exact hQ (.fr 3 1 (rows cInt out)) (Eq.trans (by first | rfl | (simp only [lb, lbI, rows_cons, rows_nil, unnilT, unnil, unnilTI, unnilI]; done) | (simp only [lb, lbI, rows_cons, rows_nil, unnilT, unnil, unnilTI, unnilI]; rfl)) (congrArg (fun l => PV.fr 3 1 (rows cInt l)) (show out = imTurnL pile from by rw [q, show Int.toNat (i_2 + 1) = 0 by omega]; rfl))))   -- leaf 1

theorem imLay_ok (stay : List Int) (turned : List Int) (over : Bool) (h1_ : stay.length ≤ 1000) (h2_ : turned.length ≤ 1000) : OkA Tryd.prog 140 [.isl 1 (rows cInt stay), .isl 1 (rows cInt turned), .bool over] (· = .fr 3 1 (rows cInt (imLayL stay turned over))) :=
  OkA.unnil 3 1 (fn_intro envOk fieldsOk mixed Tryd.func140 rfl fun κ X Y L Q m hQ => by
    conv => cbv
    rcases Bool.eq_false_or_eq_true over with rfl | rfl <;> conv => cbv
    · refine r_callF (fun l => PV.fr _ _ (rows _ l)) m.sX (l1Own_ok turned (by first | rfl | assumption | omega | (simp only [List.length_append, List.length_cons, List.length_nil] at *; omega))) fun v1 hv1 => ?_
      conv => cbv
      have lv1_ : v1.length = turned.length := by rw [hv1]
      refine r_append m.sX (by first | omega | (dsimp only; omega)) (by first | omega | (dsimp only; omega)) fun zs1 hzs1 => ?_
      conv => cbv
      have lzs1 : (zs1.length : Int) = v1.length + stay.length := by rw [hzs1]; first | done | (simp; done) | (simp; omega)
      exact hQ (.fr 3 1 (rows cInt zs1)) (Eq.trans (by first | rfl | (simp only [lb, lbI, rows_cons, rows_nil, unnilT, unnil, unnilTI, unnilI]; done) | (simp only [lb, lbI, rows_cons, rows_nil, unnilT, unnil, unnilTI, unnilI]; rfl)) (congrArg (fun l => PV.fr 3 1 (rows cInt l)) (show zs1 = imLayL stay turned true from by rw [hzs1, hv1]; rfl)))   -- leaf 1
    · refine r_callF (fun l => PV.fr _ _ (rows _ l)) m.sX (l1Own_ok stay (by first | rfl | assumption | omega | (simp only [List.length_append, List.length_cons, List.length_nil] at *; omega))) fun v2 hv2 => ?_
      conv => cbv
      have lv2_ : v2.length = stay.length := by rw [hv2]
      refine r_append m.sX (by first | omega | (dsimp only; omega)) (by first | omega | (dsimp only; omega)) fun zs2 hzs2 => ?_
      conv => cbv
      have lzs2 : (zs2.length : Int) = v2.length + turned.length := by rw [hzs2]; first | done | (simp; done) | (simp; omega)
      exact hQ (.fr 3 1 (rows cInt zs2)) (Eq.trans (by first | rfl | (simp only [lb, lbI, rows_cons, rows_nil, unnilT, unnil, unnilTI, unnilI]; done) | (simp only [lb, lbI, rows_cons, rows_nil, unnilT, unnil, unnilTI, unnilI]; rfl)) (congrArg (fun l => PV.fr 3 1 (rows cInt l)) (show zs2 = imLayL stay turned false from by rw [hzs2, hv2]; rfl))))   -- leaf 2

theorem imPile_ok (folds : List Fold) (hg : goodF folds = true) : OkA Tryd.prog 90 [.isl 2 (rows cFold folds)] (· = .isl 1 (rows cInt (imPileL folds))) :=
  OkA.iceI 1 (fn_intro envOk fieldsOk mixed Tryd.func90 rfl fun κ X Y L Q m hQ => by
    conv => cbv
    refine r_callF ii m.sX (imSize_ok folds (goodF_le (by assumption))) fun v hcolumns => ?_
    obtain ⟨columns, rows_⟩ := v
    conv => cbv
    have cw : columns = p2 (wide folds) := (Prod.mk.inj hcolumns).1
    have rw_ : rows_ = p2 (high folds) := (Prod.mk.inj hcolumns).2
    have cN : columns.toNat = 2 ^ wide folds := by rw [cw]; exact p2_toNat _
    have rN : rows_.toNat = 2 ^ high folds := by rw [rw_]; exact p2_toNat _
    have c16 := pow16 (k := wide folds) (Nat.le_trans (wide_le folds) (goodF_le hg))
    have r16 := pow16 (k := high folds) (Nat.le_trans (high_le folds) (goodF_le hg))
    have c0 := p2_pos (wide folds)
    have r0 := p2_pos (high folds)
    have gm := mul_bound (show 0 ≤ columns by omega) (show columns ≤ 16 by omega) (show 0 ≤ rows_ by omega) (show rows_ ≤ 16 by omega)
    have gN : (columns * rows_).toNat = 2 ^ wide folds * 2 ^ high folds := by rw [mul_toNat (by omega) (by omega), cN, rN]
    refine r_loopF (α := List (List Int) × Int) m 124 [0, 3, 4, 6] [⟨5, 41, 26, 1, 0⟩] (fun σ => [(0, .isl 2 (rows cFold folds)), (3, .int .i64 columns), (4, .int .i64 rows_), (5, .osl 41 0), (6, .int .i64 σ.2)]) (fun σ => [(41, 0, .row 26 1 (rows (cSl 1 cInt) σ.1))])
      (fun σ => (0 ≤ σ.2 ∧ σ.2 ≤ columns * rows_) ∧ (σ.1 = (List.range σ.2.toNat).map fun j : Nat => [(j : Int) + 1]) ∧ ((σ.1.length : Int) = σ.2)) (fun σ => (columns * rows_ - σ.2).toNat) ([], 0) ?_ ?_ ?_ ?_
    · cbv
    · (try dsimp only); (try simp only [rows_cons, rows_nil]); cbv
    · exact ⟨(by (try dsimp only) <;> first | omega | rfl | (simp [*]; done)), (by (try dsimp only) <;> first | omega | rfl | (simp [*]; done)), (by (try dsimp only) <;> first | omega | rfl | (simp [*]; done))⟩
    rintro ⟨piles, i⟩ ⟨k1, q, ln⟩ E hE F hF
    dsimp only at k1 q ln
    conv => cbv
    refine r_mulf m.sX (by first | omega | (subst_vars; omega)) (by first | omega | (subst_vars; omega)) fun r1 hr1 => ?_
    conv => cbv
    refine r_lss m.sX (fun h1 => ?_) (fun h1 => ?_) <;> conv => cbv
    · refine r_addf m.sX (by omega) (by omega) fun r2 hr2 => ?_
      conv => cbv
      have ci : ((Int.toNat i : Nat) : Int) = i := by omega
      refine r_append1 ([r2] : List Int) m.sX (by simp only [cSl, rows_cons, rows_nil]; rfl) (by dsimp only; omega) (by omega) fun piles_2 hpiles_2 => ?_
      conv => cbv
      have lpiles_2 : (piles_2.length : Int) = piles.length + 1 := by rw [hpiles_2]; first | done | (simp; done) | (simp; omega)
      refine r_addf m.sX (by omega) (by omega) fun i_2 hi_2 => ?_
      conv => cbv
      refine hE _ (piles_2, i_2) ?_ ?_ ⟨(by (try dsimp only) <;> first | omega | rfl | (simp [*]; done) | (rw [k1]; simp [*]; done)), (by (try dsimp only) <;> (rw [hpiles_2, q, show Int.toNat i_2 = Int.toNat i + 1 by omega, List.range_succ, List.map_append, hr2]; simp only [List.map_cons, List.map_nil, ci])), (by (try dsimp only) <;> first | omega | rfl | (simp [*]; done) | (rw [ln]; simp [*]; done))⟩ (by first | omega | (dsimp only; omega))
      · cbv
      · cbv
    · refine hF _ _ ?_
      conv => cbv
      refine r_lenR m.sX fun n1 hn1 mn1 => ?_
      conv => cbv
      refine r_loopF (α := Int × Int × List (List Int) × Int) m 124 [3, 4, 32, 33, 34] [⟨5, 41, 26, 1, 0⟩] (fun σ => [(3, .int .i64 σ.1), (4, .int .i64 σ.2.1), (5, .osl 41 0), (32, .isl 2 (rows cFold folds)), (33, .int .i64 n1), (34, .int .i64 σ.2.2.2)]) (fun σ => [(41, 0, .row 26 1 (rows (cSl 1 cInt) σ.2.2.1))])
        (fun σ => (0 ≤ σ.2.2.2) ∧ (σ.2.2.2 ≤ n1) ∧ (1 ≤ σ.1 ∧ 1 ≤ σ.2.1) ∧ ((σ.2.2.1, σ.1.toNat, σ.2.1.toNat) = imState folds σ.2.2.2.toNat)) (fun σ => (n1 - σ.2.2.2).toNat) (columns, rows_, piles, 0) ?_ ?_ ?_ ?_
      · cbv
      · cbv
      · exact ⟨(by (try dsimp only); first | omega | (simp only [List.length_nil]; omega) | (simp only [List.length_cons, List.length_nil]; omega)), (by (try dsimp only); first | omega | (simp only [List.length_nil]; omega) | (simp only [List.length_cons, List.length_nil]; omega)), (by (try dsimp only) <;> first | omega | rfl | (simp [*]; done)), (by (try dsimp only) <;> (rw [q, show Int.toNat i = Int.toNat (columns * rows_) by omega, gN, cN, rN]; rfl))⟩
      rintro ⟨columns_2, rows__2, piles_3, i1⟩ ⟨lo2, hi2, k2, q2⟩ E hE F hF
      dsimp only at lo2 hi2 k2 q2
      conv => cbv
      refine r_lss m.sX (fun h2 => ?_) (fun h2 => ?_) <;> conv => cbv
      · refine r_index m.sX (by omega) (by omega) fun v hfA => ?_
        obtain ⟨fA, fB⟩ := v
        conv => cbv
        have hf := hfA
        have mf := get_mem hf
        have df := drop_cons hf
        have kf := take_snoc hf
        have jf : (i1 + 1).toNat = Int.toNat i1 + 1 := by omega
        have so := st_at hg (i := Int.toNat i1) (by omega)
        try dsimp only at so
        rw [← q2] at so
        have sl := so.len
        try dsimp only at sl
        have s1 := so.c1
        try dsimp only at s1
        have s2 := so.r1
        try dsimp only at s2
        have s3 := so.small
        try dsimp only at s3
        (try dsimp only at sl s1 s2 s3)
        have sn := st_next (i := Int.toNat i1) hf
        try dsimp only at sn
        have pl : (piles_3.length : Int) = rows__2 * columns_2 := by rw [sl, Int.natCast_mul, Int.toNat_of_nonneg (by omega), Int.toNat_of_nonneg (by omega), Int.mul_comm]
        have gm2 := mul_bound (show 0 ≤ rows__2 by omega) (show rows__2 ≤ 16 by omega) (show 0 ≤ columns_2 by omega) (show columns_2 ≤ 16 by omega)
        try dsimp only at gm2
        refine r_eql m.sX (fun h3 => ?_) (fun h3 => ?_) <;> conv => cbv
        · have so2 : 1 ≤ Int.toNat columns_2 / 2 := by have z := (st_at hg (i := Int.toNat i1 + 1) (by omega)).c1.1; rw [sn, ← q2] at z; simpa [imStep, h3] using z
          refine r_loopF (α := List (List Int) × Int) m 124 [3, 4, 10, 32, 33, 34] [⟨5, 41, 26, 1, 0⟩, ⟨8, 65, 0, 0, 0⟩, ⟨9, 73, 26, 1, 0⟩] (fun σ => [(3, .int .i64 columns_2), (4, .int .i64 rows__2), (5, .osl 41 0), (8, .optr 65 0 2 0 0), (9, .osl 73 0), (10, .int .i64 σ.2), (32, .isl 2 (rows cFold folds)), (33, .int .i64 n1), (34, .int .i64 i1)]) (fun σ => [(41, 0, .row 26 1 (rows (cSl 1 cInt) piles_3)), (65, 0, .box [.int .i64 fA, .bool fB]), (73, 0, .row 26 1 (rows (cSl 1 cInt) σ.1))])
            (fun σ => (0 ≤ σ.2) ∧ (σ.2 ≤ rows__2) ∧ (σ.1 = (List.range σ.2.toNat).flatMap fun y => (List.range (columns_2.toNat / 2)).map fun k' => imLayL (at2 piles_3 (y * columns_2.toNat + k')) (imTurnL (at2 piles_3 (y * columns_2.toNat + columns_2.toNat - 1 - k'))) fB) ∧ ((σ.1.length : Int) ≤ 16 * σ.2)) (fun σ => (rows__2 - σ.2).toNat) ([], 0) ?_ ?_ ?_ ?_
          · cbv
          · (try dsimp only); (try simp only [rows_cons, rows_nil]); cbv
          · exact ⟨(by (try dsimp only); first | omega | (simp only [List.length_nil]; omega) | (simp only [List.length_cons, List.length_nil]; omega)), (by (try dsimp only); first | omega | (simp only [List.length_nil]; omega) | (simp only [List.length_cons, List.length_nil]; omega)), (by (try dsimp only) <;> first | omega | rfl | (simp [*]; done)), (by (try dsimp only) <;> first | omega | rfl | (simp [*]; done))⟩
          rintro ⟨next, r⟩ ⟨lo3, hi3, q3, ln3⟩ E2 hE2 F2 hF2
          dsimp only at lo3 hi3 q3 ln3
          conv => cbv
          refine r_lss m.sX (fun h4 => ?_) (fun h4 => ?_) <;> conv => cbv
          · have gr : r * columns_2 + columns_2 ≤ rows__2 * columns_2 := by have z := Int.mul_le_mul_of_nonneg_right (show r + 1 ≤ rows__2 by omega) (show 0 ≤ columns_2 by omega); rw [Int.add_mul, Int.one_mul] at z; exact z
            have gr0 : 0 ≤ r * columns_2 := Int.mul_nonneg (by omega) (by omega)
            refine r_loopF (α := List (List Int) × Int) m 124 [3, 4, 10, 11, 32, 33, 34] [⟨5, 41, 26, 1, 0⟩, ⟨8, 65, 0, 0, 0⟩, ⟨9, 73, 26, 1, 0⟩] (fun σ => [(3, .int .i64 columns_2), (4, .int .i64 rows__2), (5, .osl 41 0), (8, .optr 65 0 2 0 0), (9, .osl 73 0), (10, .int .i64 r), (11, .int .i64 σ.2), (32, .isl 2 (rows cFold folds)), (33, .int .i64 n1), (34, .int .i64 i1)]) (fun σ => [(41, 0, .row 26 1 (rows (cSl 1 cInt) piles_3)), (65, 0, .box [.int .i64 fA, .bool fB]), (73, 0, .row 26 1 (rows (cSl 1 cInt) σ.1))])
              (fun σ => (0 ≤ σ.2 ∧ σ.2 ≤ columns_2 / 2) ∧ (σ.1 = next ++ (List.range σ.2.toNat).map fun k' => imLayL (at2 piles_3 (r.toNat * columns_2.toNat + k')) (imTurnL (at2 piles_3 (r.toNat * columns_2.toNat + columns_2.toNat - 1 - k'))) fB) ∧ ((σ.1.length : Int) = next.length + σ.2)) (fun σ => (columns_2 / 2 - σ.2).toNat) (next, 0) ?_ ?_ ?_ ?_
            · cbv
            · cbv
            · exact ⟨(by (try dsimp only) <;> first | omega | rfl | (simp [*]; done)), (by (try dsimp only) <;> (simp)), (by (try dsimp only) <;> first | omega | rfl | (simp [*]; done))⟩
            rintro ⟨next_2, k⟩ ⟨k4, q4, ln4⟩ E3 hE3 F3 hF3
            dsimp only at k4 q4 ln4
            conv => cbv
            first | refine r_divf m.sX (by omega) (by omega) fun r3 hr3 br3 => ?_ | refine r_tdivf m.sX (by omega) (by omega) fun r3 hr3 br3 => ?_
            conv => cbv
            refine r_lss m.sX (fun h5 => ?_) (fun h5 => ?_) <;> conv => cbv
            · refine r_draw m (by kernel_rfl) ?_
              conv => cbv
              refine r_mulf m.sY (by first | omega | (subst_vars; omega)) (by first | omega | (subst_vars; omega)) fun r4 hr4 => ?_
              conv => cbv
              refine r_addf m.sY (by omega) (by omega) fun r5 hr5 => ?_
              conv => cbv
              refine r_oindex m.sY (by omega) (by omega) ?_
              conv => cbv
              obtain ⟨x1, hx1⟩ := get_ex (xs := piles_3) (i := Int.toNat r5) (by omega)
              have mx1 := get_mem hx1
              have sx1 := s3 _ mx1
              try dsimp only at sx1
              refine r_oload m.sY hx1 (Nat.le_of_ble_eq_true rfl) ?_
              conv => cbv
              refine r_mulf m.sY (by first | omega | (subst_vars; omega)) (by first | omega | (subst_vars; omega)) fun r6 hr6 => ?_
              conv => cbv
              refine r_addf m.sY (by omega) (by omega) fun r7 hr7 => ?_
              conv => cbv
              refine r_subf m.sY (by omega) (by omega) fun r8 hr8 => ?_
              conv => cbv
              refine r_subf m.sY (by omega) (by omega) fun r9 hr9 => ?_
              conv => cbv
              refine r_oindex m.sY (by omega) (by omega) ?_
              conv => cbv
              obtain ⟨x2, hx2⟩ := get_ex (xs := piles_3) (i := Int.toNat r9) (by omega)
              have mx2 := get_mem hx2
              have sx2 := s3 _ mx2
              try dsimp only at sx2
              have sp2 := sx2.2
              try dsimp only at sp2
              refine r_oload m.sY hx2 (Nat.le_of_ble_eq_true rfl) ?_
              conv => cbv
              refine r_callFS (fun l => PV.isl _ (rows _ l)) m.sY ((imTurn_ok x2 (by first | rfl | assumption | omega | (simp only [List.length_append, List.length_cons, List.length_nil] at *; omega)) (by first | rfl | assumption | omega | (simp only [List.length_append, List.length_cons, List.length_nil] at *; omega))).ice) trivial fun v1 hv1 => ?_
              conv => cbv
              try dsimp only at hv1
              have lv1_ : v1.length = x2.length := by rw [hv1]; simp [imTurnL]
              refine r_callFS (fun l => PV.isl _ (rows _ l)) m.sY ((imLay_ok x1 v1 fB (by first | rfl | assumption | omega | (simp only [List.length_append, List.length_cons, List.length_nil] at *; omega)) (by first | rfl | assumption | omega | (simp only [List.length_append, List.length_cons, List.length_nil] at *; omega))).ice) trivial fun v2 hv2 => ?_
              conv => cbv
              try dsimp only at hv2
              refine r_append1 (v2) m.sY rfl (by first | omega | (dsimp only; omega)) (by first | omega | (dsimp only; omega)) fun next_3 hnext_3 => ?_
              conv => cbv
              have lnext_3 : (next_3.length : Int) = next_2.length + 1 := by rw [hnext_3]; first | done | (simp; done) | (simp; omega)
              refine r_addf m.sX (by omega) (by omega) fun k_2 hk_2 => ?_
              conv => cbv
              refine hE3 _ (next_3, k_2) ?_ ?_ ⟨(by (try dsimp only) <;> first | omega | rfl | (simp [*]; done) | (rw [k4]; simp [*]; done)), (by (try dsimp only) <;> (rw [hnext_3, q4, show Int.toNat k_2 = Int.toNat k + 1 by omega, List.range_succ, List.map_append, ← List.append_assoc]; simp only [List.map_cons, List.map_nil]; rw [hv2, hv1, at_one hx1 (by omega) (by omega) (by omega) (by omega), at_two hx2 (by omega) (by omega) (by omega) (by omega) (by omega)])), (by (try dsimp only) <;> first | omega | rfl | (simp [*]; done) | (rw [ln4]; simp [*]; done))⟩ (by first | omega | (dsimp only; omega))
              · cbv
              · cbv
            · refine hF3 _ _ ?_
              conv => cbv
              refine r_addf m.sX (by omega) (by omega) fun r_2 hr_2 => ?_
              conv => cbv
              try have tr_2 : Int.toNat r_2 = Int.toNat r + 1 := by omega
              refine hE2 _ (next_2, r_2) ?_ ?_ ⟨(by (try dsimp only); first | omega | (simp only [List.length_nil]; omega) | (simp only [List.length_cons, List.length_nil]; omega)), (by (try dsimp only); first | omega | (simp only [List.length_nil]; omega) | (simp only [List.length_cons, List.length_nil]; omega)), (by (try dsimp only) <;> (rw [q4, q3, show Int.toNat r_2 = Int.toNat r + 1 by omega, List.range_succ, List.flatMap_append, show Int.toNat k = columns_2.toNat / 2 by omega]; simp)), (by (try dsimp only) <;> first | omega | rfl | (simp [*]; done) | (rw [ln3]; simp [*]; done))⟩ (by first | omega | (dsimp only; omega))
              · cbv
              · cbv
          · refine hF2 _ _ ?_
            conv => cbv
            first | refine r_divf m.sX (by omega) (by omega) fun columns_3 hcolumns_3 bcolumns_3 => ?_ | refine r_tdivf m.sX (by omega) (by omega) fun columns_3 hcolumns_3 bcolumns_3 => ?_
            conv => cbv
            have cw : columns = p2 (wide folds) := (Prod.mk.inj hcolumns).1
            have rw_ : rows_ = p2 (high folds) := (Prod.mk.inj hcolumns).2
            have cN : columns.toNat = 2 ^ wide folds := by rw [cw]; exact p2_toNat _
            have rN : rows_.toNat = 2 ^ high folds := by rw [rw_]; exact p2_toNat _
            have c16 := pow16 (k := wide folds) (Nat.le_trans (wide_le folds) (goodF_le hg))
            try dsimp only at c16
            have r16 := pow16 (k := high folds) (Nat.le_trans (high_le folds) (goodF_le hg))
            try dsimp only at r16
            have c0 := p2_pos (wide folds)
            try dsimp only at c0
            have r0 := p2_pos (high folds)
            try dsimp only at r0
            have gm := mul_bound (show 0 ≤ columns by omega) (show columns ≤ 16 by omega) (show 0 ≤ rows_ by omega) (show rows_ ≤ 16 by omega)
            try dsimp only at gm
            have gN : (columns * rows_).toNat = 2 ^ wide folds * 2 ^ high folds := by rw [mul_toNat (by omega) (by omega), cN, rN]
            refine r_addf m.sX (by omega) (by omega) fun r10 hr10 => ?_
            conv => cbv
            try have tr10 : Int.toNat r10 = Int.toNat i1 + 1 := by omega
            refine hE _ (columns_3, rows__2, next, r10) ?_ ?_ ⟨(by (try dsimp only); first | omega | (simp only [List.length_nil]; omega) | (simp only [List.length_cons, List.length_nil]; omega)), (by (try dsimp only); first | omega | (simp only [List.length_nil]; omega) | (simp only [List.length_cons, List.length_nil]; omega)), (by (try dsimp only) <;> first | omega | rfl | (simp [*]; done) | (rw [k2]; simp [*]; done)), (by (try dsimp only) <;> (rw [tr10, sn, ← q2]; simp only [imStep]; first | rw [if_pos h3, q3, show Int.toNat r = Int.toNat rows__2 by omega, show Int.toNat columns_3 = Int.toNat columns_2 / 2 by omega] | rw [if_neg h3, q5, show Int.toNat r_3 = Int.toNat rows__2 / 2 by omega, show Int.toNat rows__2 = Int.toNat rows__2 / 2 by omega]))⟩ (by first | omega | (dsimp only; omega))
            · cbv
            · cbv
        · have so2 : 1 ≤ Int.toNat rows__2 / 2 := by have z := (st_at hg (i := Int.toNat i1 + 1) (by omega)).r1.1; rw [sn, ← q2] at z; simpa [imStep, h3] using z
          refine r_loopF (α := List (List Int) × Int) m 124 [3, 4, 12, 32, 33, 34] [⟨5, 41, 26, 1, 0⟩, ⟨8, 65, 0, 0, 0⟩, ⟨9, 73, 26, 1, 0⟩] (fun σ => [(3, .int .i64 columns_2), (4, .int .i64 rows__2), (5, .osl 41 0), (8, .optr 65 0 2 0 0), (9, .osl 73 0), (12, .int .i64 σ.2), (32, .isl 2 (rows cFold folds)), (33, .int .i64 n1), (34, .int .i64 i1)]) (fun σ => [(41, 0, .row 26 1 (rows (cSl 1 cInt) piles_3)), (65, 0, .box [.int .i64 fA, .bool fB]), (73, 0, .row 26 1 (rows (cSl 1 cInt) σ.1))])
            (fun σ => (0 ≤ σ.2 ∧ σ.2 ≤ rows__2 / 2) ∧ (σ.1 = (List.range σ.2.toNat).flatMap fun y => (List.range columns_2.toNat).map fun k' => imLayL (at2 piles_3 (y * columns_2.toNat + k')) (imTurnL (at2 piles_3 ((rows__2.toNat - 1 - y) * columns_2.toNat + k'))) fB) ∧ ((σ.1.length : Int) ≤ 16 * σ.2)) (fun σ => (rows__2 / 2 - σ.2).toNat) ([], 0) ?_ ?_ ?_ ?_
          · cbv
          · (try dsimp only); (try simp only [rows_cons, rows_nil]); cbv
          · exact ⟨(by (try dsimp only) <;> first | omega | rfl | (simp [*]; done)), (by (try dsimp only) <;> first | omega | rfl | (simp [*]; done)), (by (try dsimp only) <;> first | omega | rfl | (simp [*]; done))⟩
          rintro ⟨next_4, r_3⟩ ⟨k5, q5, ln5⟩ E2 hE2 F2 hF2
          dsimp only at k5 q5 ln5
          conv => cbv
          first | refine r_divf m.sX (by omega) (by omega) fun r11 hr11 br11 => ?_ | refine r_tdivf m.sX (by omega) (by omega) fun r11 hr11 br11 => ?_
          conv => cbv
          refine r_lss m.sX (fun h6 => ?_) (fun h6 => ?_) <;> conv => cbv
          · have gr : r_3 * columns_2 + columns_2 ≤ rows__2 * columns_2 := by have z := Int.mul_le_mul_of_nonneg_right (show r_3 + 1 ≤ rows__2 by omega) (show 0 ≤ columns_2 by omega); rw [Int.add_mul, Int.one_mul] at z; exact z
            have gr0 : 0 ≤ r_3 * columns_2 := Int.mul_nonneg (by omega) (by omega)
            refine r_loopF (α := List (List Int) × Int) m 124 [3, 4, 12, 13, 32, 33, 34] [⟨5, 41, 26, 1, 0⟩, ⟨8, 65, 0, 0, 0⟩, ⟨9, 73, 26, 1, 0⟩] (fun σ => [(3, .int .i64 columns_2), (4, .int .i64 rows__2), (5, .osl 41 0), (8, .optr 65 0 2 0 0), (9, .osl 73 0), (12, .int .i64 r_3), (13, .int .i64 σ.2), (32, .isl 2 (rows cFold folds)), (33, .int .i64 n1), (34, .int .i64 i1)]) (fun σ => [(41, 0, .row 26 1 (rows (cSl 1 cInt) piles_3)), (65, 0, .box [.int .i64 fA, .bool fB]), (73, 0, .row 26 1 (rows (cSl 1 cInt) σ.1))])
              (fun σ => (0 ≤ σ.2) ∧ (σ.2 ≤ columns_2) ∧ (σ.1 = next_4 ++ (List.range σ.2.toNat).map fun k' => imLayL (at2 piles_3 (r_3.toNat * columns_2.toNat + k')) (imTurnL (at2 piles_3 ((rows__2.toNat - 1 - r_3.toNat) * columns_2.toNat + k'))) fB) ∧ ((σ.1.length : Int) = next_4.length + σ.2)) (fun σ => (columns_2 - σ.2).toNat) (next_4, 0) ?_ ?_ ?_ ?_
            · cbv
            · cbv
            · exact ⟨(by (try dsimp only); first | omega | (simp only [List.length_nil]; omega) | (simp only [List.length_cons, List.length_nil]; omega)), (by (try dsimp only); first | omega | (simp only [List.length_nil]; omega) | (simp only [List.length_cons, List.length_nil]; omega)), (by (try dsimp only) <;> (simp)), (by (try dsimp only) <;> first | omega | rfl | (simp [*]; done))⟩
            rintro ⟨next_5, k_3⟩ ⟨lo6, hi6, q6, ln6⟩ E3 hE3 F3 hF3
            dsimp only at lo6 hi6 q6 ln6
            conv => cbv
            refine r_lss m.sX (fun h7 => ?_) (fun h7 => ?_) <;> conv => cbv
            · refine r_draw m (by kernel_rfl) ?_
              conv => cbv
              refine r_mulf m.sY (by first | omega | (subst_vars; omega)) (by first | omega | (subst_vars; omega)) fun r12 hr12 => ?_
              conv => cbv
              refine r_addf m.sY (by omega) (by omega) fun r13 hr13 => ?_
              conv => cbv
              refine r_oindex m.sY (by omega) (by omega) ?_
              conv => cbv
              obtain ⟨x3, hx3⟩ := get_ex (xs := piles_3) (i := Int.toNat r13) (by omega)
              have mx3 := get_mem hx3
              have sx3 := s3 _ mx3
              try dsimp only at sx3
              refine r_oload m.sY hx3 (Nat.le_of_ble_eq_true rfl) ?_
              conv => cbv
              refine r_subf m.sY (by omega) (by omega) fun r14 hr14 => ?_
              conv => cbv
              refine r_subf m.sY (by omega) (by omega) fun r15 hr15 => ?_
              conv => cbv
              have er : r15 = rows__2 - 1 - r_3 := by omega
              have gq : r15 * columns_2 + columns_2 ≤ rows__2 * columns_2 := by have z := Int.mul_le_mul_of_nonneg_right (show r15 + 1 ≤ rows__2 by omega) (show 0 ≤ columns_2 by omega); rw [Int.add_mul, Int.one_mul] at z; exact z
              have gq0 : 0 ≤ r15 * columns_2 := Int.mul_nonneg (by omega) (by omega)
              refine r_mulf m.sY (by first | omega | (subst_vars; omega)) (by first | omega | (subst_vars; omega)) fun r16 hr16 => ?_
              conv => cbv
              refine r_addf m.sY (by omega) (by omega) fun r17 hr17 => ?_
              conv => cbv
              refine r_oindex m.sY (by omega) (by omega) ?_
              conv => cbv
              obtain ⟨x4, hx4⟩ := get_ex (xs := piles_3) (i := Int.toNat r17) (by omega)
              have mx4 := get_mem hx4
              have sx4 := s3 _ mx4
              try dsimp only at sx4
              have sp4 := sx4.2
              try dsimp only at sp4
              refine r_oload m.sY hx4 (Nat.le_of_ble_eq_true rfl) ?_
              conv => cbv
              refine r_callFS (fun l => PV.isl _ (rows _ l)) m.sY ((imTurn_ok x4 (by first | rfl | assumption | omega | (simp only [List.length_append, List.length_cons, List.length_nil] at *; omega)) (by first | rfl | assumption | omega | (simp only [List.length_append, List.length_cons, List.length_nil] at *; omega))).ice) trivial fun v3 hv3 => ?_
              conv => cbv
              try dsimp only at hv3
              have lv3_ : v3.length = x4.length := by rw [hv3]; simp [imTurnL]
              refine r_callFS (fun l => PV.isl _ (rows _ l)) m.sY ((imLay_ok x3 v3 fB (by first | rfl | assumption | omega | (simp only [List.length_append, List.length_cons, List.length_nil] at *; omega)) (by first | rfl | assumption | omega | (simp only [List.length_append, List.length_cons, List.length_nil] at *; omega))).ice) trivial fun v4 hv4 => ?_
              conv => cbv
              try dsimp only at hv4
              refine r_append1 (v4) m.sY rfl (by first | omega | (dsimp only; omega)) (by first | omega | (dsimp only; omega)) fun next_6 hnext_6 => ?_
              conv => cbv
              have lnext_6 : (next_6.length : Int) = next_5.length + 1 := by rw [hnext_6]; first | done | (simp; done) | (simp; omega)
              refine r_addf m.sX (by omega) (by omega) fun k_4 hk_4 => ?_
              conv => cbv
              try have tk_4 : Int.toNat k_4 = Int.toNat k_3 + 1 := by omega
              refine hE3 _ (next_6, k_4) ?_ ?_ ⟨(by (try dsimp only); first | omega | (simp only [List.length_nil]; omega) | (simp only [List.length_cons, List.length_nil]; omega)), (by (try dsimp only); first | omega | (simp only [List.length_nil]; omega) | (simp only [List.length_cons, List.length_nil]; omega)), (by (try dsimp only) <;> (rw [hnext_6, q6, show Int.toNat k_4 = Int.toNat k_3 + 1 by omega, List.range_succ, List.map_append, ← List.append_assoc]; simp only [List.map_cons, List.map_nil]; rw [hv4, hv3, at_one hx3 (by omega) (by omega) (by omega) (by omega), at_three hx4 (by rw [hr17, hr16, er]) (by omega) (by omega) (by omega) (by omega)])), (by (try dsimp only) <;> first | omega | rfl | (simp [*]; done) | (rw [ln6]; simp [*]; done))⟩ (by first | omega | (dsimp only; omega))
              · cbv
              · cbv
            · refine hF3 _ _ ?_
              conv => cbv
              refine r_addf m.sX (by omega) (by omega) fun r_4 hr_4 => ?_
              conv => cbv
              refine hE2 _ (next_5, r_4) ?_ ?_ ⟨(by (try dsimp only) <;> first | omega | rfl | (simp [*]; done) | (rw [k5]; simp [*]; done)), (by (try dsimp only) <;> (rw [q6, q5, show Int.toNat r_4 = Int.toNat r_3 + 1 by omega, List.range_succ, List.flatMap_append, show Int.toNat k_3 = Int.toNat columns_2 by omega]; simp)), (by (try dsimp only) <;> first | omega | rfl | (simp [*]; done) | (rw [ln5]; simp [*]; done))⟩ (by first | omega | (dsimp only; omega))
              · cbv
              · cbv
          · refine hF2 _ _ ?_
            conv => cbv
            first | refine r_divf m.sX (by omega) (by omega) fun rows__3 hrows__3 brows__3 => ?_ | refine r_tdivf m.sX (by omega) (by omega) fun rows__3 hrows__3 brows__3 => ?_
            conv => cbv
            refine r_addf m.sX (by omega) (by omega) fun r18 hr18 => ?_
            conv => cbv
            try have tr18 : Int.toNat r18 = Int.toNat i1 + 1 := by omega
            refine hE _ (columns_2, rows__3, next_4, r18) ?_ ?_ ⟨(by (try dsimp only); first | omega | (simp only [List.length_nil]; omega) | (simp only [List.length_cons, List.length_nil]; omega)), (by (try dsimp only); first | omega | (simp only [List.length_nil]; omega) | (simp only [List.length_cons, List.length_nil]; omega)), (by (try dsimp only) <;> first | omega | rfl | (simp [*]; done) | (rw [k2]; simp [*]; done)), (by (try dsimp only) <;> (rw [tr18, sn, ← q2]; simp only [imStep]; first | rw [if_pos h3, q3, show Int.toNat r = Int.toNat rows__2 by omega, show Int.toNat columns_2 = Int.toNat columns_2 / 2 by omega] | rw [if_neg h3, q5, show Int.toNat r_3 = Int.toNat rows__2 / 2 by omega, show Int.toNat rows__3 = Int.toNat rows__2 / 2 by omega]))⟩ (by first | omega | (dsimp only; omega))
            · cbv
            · cbv
      · have so := st_at hg (i := Int.toNat i1) (by omega)
        try dsimp only at so
        rw [← q2] at so
        have plz : 0 < piles_3.length := by rw [so.len]; exact Nat.mul_pos so.c1.1 so.r1.1
        have dz_i1 := drop_end (xs := folds) (i := Int.toNat i1) (by omega)
        have tz_i1 := take_end (xs := folds) (i := Int.toNat i1) (by omega)
        refine hF _ _ ?_
        conv => cbv
        refine r_oindex m.sX (by omega) (by omega) ?_
        conv => cbv
        obtain ⟨x5, hx5⟩ := get_ex (xs := piles_3) (i := Int.toNat 0) (by omega)
        have mx5 := get_mem hx5
        refine r_oload m.sX hx5 (Nat.le_of_ble_eq_true rfl) ?_
        conv => cbv
        exact hQ (.isl 1 (rows cInt x5)) (Eq.trans (by first | rfl | (simp only [lb, lbI, rows_cons, rows_nil, unnilT, unnil, unnilTI, unnilI]; done) | (simp only [lb, lbI, rows_cons, rows_nil, unnilT, unnil, unnilTI, unnilI]; rfl)) (congrArg (fun l => PV.isl 1 (rows cInt l)) (show x5 = imPileL folds from by rw [imPileL, show folds.length = Int.toNat i1 by omega, ← q2, at2, show piles_3[0]? = some x5 from hx5]; rfl))))   -- leaf 1

theorem imPages_ok (folds : List Fold) (hg : goodF folds = true) : OkA Tryd.prog 88 [.isl 2 (rows cFold folds)] (· = (ll 3 1 cInt) ((sidesL folds true, sidesL folds false))) :=
  OkA.unnil 3 1 (fn_intro envOk fieldsOk mixed Tryd.func88 rfl fun κ X Y L Q m hQ => by
    conv => cbv
    refine r_callF (fun l => PV.isl _ (rows _ l)) m.sX (imPile_ok folds (by first | rfl | assumption | omega | (simp only [List.length_append, List.length_cons, List.length_nil] at *; omega))) fun pile hpile => ?_
    conv => cbv
    have so := sides_ok hg
    have pl_ : pile.length ≤ 16 := by rw [hpile, so.len]; exact leaves_len hg
    have pp := so.pile
    rw [← hpile] at pp
    refine r_draw m (by kernel_rfl) ?_
    conv => cbv
    refine r_lenRS m.sY (by omega) fun n1 hn1 => ?_
    conv => cbv
    refine r_make cInt 0 m.sY rfl (by omega) (by omega) (by dsimp only; omega) (by omega) fun front hfront => ?_   -- front = replicate n1
    have lfront : (front.length : Int) = n1 := by rw [hfront]; first | done | (simp; done) | (simp; omega)
    conv => cbv
    refine r_lenRS m.sY (by omega) fun n2 hn2 => ?_
    conv => cbv
    refine r_make cInt 0 m.sY rfl (by omega) (by omega) (by dsimp only; omega) (by omega) fun back hback => ?_   -- back = replicate n2
    have lback : (back.length : Int) = n2 := by rw [hback]; first | done | (simp; done) | (simp; omega)
    conv => cbv
    refine r_lenR m.sX fun n3 hn3 mn3 => ?_
    conv => cbv
    refine r_loopF (α := List Int × List Int × Int) m 51 [19, 20, 21] [⟨5, 41, 3, 1, 0⟩, ⟨6, 49, 3, 1, 0⟩] (fun σ => [(5, .osl 41 0), (6, .osl 49 0), (19, .isl 1 (rows cInt pile)), (20, .int .i64 n3), (21, .int .i64 σ.2.2)]) (fun σ => [(41, 0, .row 3 1 (rows cInt σ.1)), (49, 0, .row 3 1 (rows cInt σ.2.1))])
      (fun σ => (0 ≤ σ.2.2) ∧ (σ.2.2 ≤ n3) ∧ (sidesL folds true = goS true (pile.drop σ.2.2.toNat) σ.2.2.toNat σ.1) ∧ (sidesL folds false = goS false (pile.drop σ.2.2.toNat) σ.2.2.toNat σ.2.1) ∧ ((σ.1.length : Int) = pile.length) ∧ ((σ.2.1.length : Int) = pile.length)) (fun σ => (n3 - σ.2.2).toNat) (front, back, 0) ?_ ?_ ?_ ?_
    · cbv
    · cbv
    · exact ⟨(by (try dsimp only); first | omega | (simp only [List.length_nil]; omega) | (simp only [List.length_cons, List.length_nil]; omega)), (by (try dsimp only); first | omega | (simp only [List.length_nil]; omega) | (simp only [List.length_cons, List.length_nil]; omega)), (by (try dsimp only) <;> (rw [sidesL, ← hpile, hfront, show Int.toNat n1 = pile.length by omega]; rfl)), (by (try dsimp only) <;> (rw [sidesL, ← hpile, hback, show Int.toNat n2 = pile.length by omega]; rfl)), (by (try dsimp only) <;> first | omega | rfl | (simp [*]; done)), (by (try dsimp only) <;> first | omega | rfl | (simp [*]; done))⟩
    rintro ⟨front_2, back_2, i1⟩ ⟨lo1, hi1, qf, qb, lf, lb_⟩ E hE F hF
    dsimp only at lo1 hi1 qf qb lf lb_
    conv => cbv
    refine r_lss m.sX (fun h1 => ?_) (fun h1 => ?_) <;> conv => cbv
    · refine r_index m.sX (by omega) (by omega) fun x hx => ?_
      conv => cbv
      have mx := get_mem hx
      have dx := drop_cons hx
      have kx := take_snoc hx
      have jx : (i1 + 1).toNat = Int.toNat i1 + 1 := by omega
      have vx := nth_some hx
      have px := pp _ (get_mem hx)
      have ci : ((Int.toNat i1 : Nat) : Int) = i1 := by omega
      have dx := drop_cons hx
      refine r_mulf m.sX (by first | omega | (subst_vars; omega)) (by first | omega | (subst_vars; omega)) fun r1 hr1 => ?_
      conv => cbv
      refine r_addf m.sX (by omega) (by omega) fun up hup => ?_
      conv => cbv
      refine r_mulf m.sX (by first | omega | (subst_vars; omega)) (by first | omega | (subst_vars; omega)) fun r2 hr2 => ?_
      conv => cbv
      refine r_addf m.sX (by omega) (by omega) fun down hdown => ?_
      conv => cbv
      refine r_lss m.sX (fun h2 => ?_) (fun h2 => ?_) <;> conv => cbv
      · refine r_callF (PV.int .i64) m.sX (l1Abs_ok x (by first | rfl | assumption | omega | (simp only [List.length_append, List.length_cons, List.length_nil] at *; omega))) fun r3 hr3 => ?_
        conv => cbv
        refine r_subf m.sX (by omega) (by omega) fun r4 hr4 => ?_
        conv => cbv
        refine r_oindex m.sX (by omega) (by omega) ?_
        conv => cbv
        obtain ⟨y1, hy1⟩ := get_ex (xs := front_2) (i := Int.toNat r4) (by omega)
        refine r_ostore (l := Int.toNat r4) down m.sX hy1 (Nat.le_of_ble_eq_true rfl) rfl fun front_3 hfront_3 => ?_   -- front_3 = front_2.set r4 down
        have lfront_3 : (front_3.length : Int) = front_2.length := by rw [hfront_3]; first | done | (simp; done) | (simp; omega)
        conv => cbv
        refine r_callF (PV.int .i64) m.sX (l1Abs_ok x (by first | rfl | assumption | omega | (simp only [List.length_append, List.length_cons, List.length_nil] at *; omega))) fun y2 hy2 => ?_
        obtain rfl := hr3.trans hy2.symm
        clear hy2
        conv => cbv
        refine r_subf m.sX (by omega) (by omega) fun r5 hr5 => ?_
        conv => cbv
        refine r_oindex m.sX (by omega) (by omega) ?_
        conv => cbv
        obtain ⟨y3, hy3⟩ := get_ex (xs := back_2) (i := Int.toNat r5) (by omega)
        refine r_ostore (l := Int.toNat r5) up m.sX hy3 (Nat.le_of_ble_eq_true rfl) rfl fun back_3 hback_3 => ?_   -- back_3 = back_2.set r5 up
        have lback_3 : (back_3.length : Int) = back_2.length := by rw [hback_3]; first | done | (simp; done) | (simp; omega)
        conv => cbv
        refine r_addf m.sX (by omega) (by omega) fun r6 hr6 => ?_
        conv => cbv
        try have tr6 : Int.toNat r6 = Int.toNat i1 + 1 := by omega
        refine hE _ (front_3, back_3, r6) ?_ ?_ ⟨(by (try dsimp only); first | omega | (simp only [List.length_nil]; omega) | (simp only [List.length_cons, List.length_nil]; omega)), (by (try dsimp only); first | omega | (simp only [List.length_nil]; omega) | (simp only [List.length_cons, List.length_nil]; omega)), (by (try dsimp only) <;> (first | rw [qf, dx, goS, tr6, hfront_3, if_neg (by rw [decide_eq_false (by omega)]; decide), ci, show 2 * i1 + 2 = down by omega, show x.natAbs - 1 = Int.toNat r4 by omega] | rw [qf, dx, goS, tr6, hfront_3, if_pos (by rw [decide_eq_true (by omega)]; rfl), ci, show 2 * i1 + 1 = up by omega, show x.natAbs - 1 = Int.toNat r8 by omega])), (by (try dsimp only) <;> (first | rw [qb, dx, goS, tr6, hback_3, if_pos (by rw [decide_eq_false (by omega)]; rfl), ci, show 2 * i1 + 1 = up by omega, show x.natAbs - 1 = Int.toNat r5 by omega] | rw [qb, dx, goS, tr6, hback_3, if_neg (by rw [decide_eq_true (by omega)]; decide), ci, show 2 * i1 + 2 = down by omega, show x.natAbs - 1 = Int.toNat r9 by omega])), (by (try dsimp only) <;> first | omega | rfl | (simp [*]; done) | (rw [lf]; simp [*]; done)), (by (try dsimp only) <;> first | omega | rfl | (simp [*]; done) | (rw [lb_]; simp [*]; done))⟩ (by first | omega | (dsimp only; omega))
        · cbv
        · cbv
      · refine r_callF (PV.int .i64) m.sX (l1Abs_ok x (by first | rfl | assumption | omega | (simp only [List.length_append, List.length_cons, List.length_nil] at *; omega))) fun r7 hr7 => ?_
        conv => cbv
        refine r_subf m.sX (by omega) (by omega) fun r8 hr8 => ?_
        conv => cbv
        refine r_oindex m.sX (by omega) (by omega) ?_
        conv => cbv
        obtain ⟨y4, hy4⟩ := get_ex (xs := front_2) (i := Int.toNat r8) (by omega)
        refine r_ostore (l := Int.toNat r8) up m.sX hy4 (Nat.le_of_ble_eq_true rfl) rfl fun front_4 hfront_4 => ?_   -- front_4 = front_2.set r8 up
        have lfront_4 : (front_4.length : Int) = front_2.length := by rw [hfront_4]; first | done | (simp; done) | (simp; omega)
        conv => cbv
        refine r_callF (PV.int .i64) m.sX (l1Abs_ok x (by first | rfl | assumption | omega | (simp only [List.length_append, List.length_cons, List.length_nil] at *; omega))) fun y5 hy5 => ?_
        obtain rfl := hr7.trans hy5.symm
        clear hy5
        conv => cbv
        refine r_subf m.sX (by omega) (by omega) fun r9 hr9 => ?_
        conv => cbv
        refine r_oindex m.sX (by omega) (by omega) ?_
        conv => cbv
        obtain ⟨y6, hy6⟩ := get_ex (xs := back_2) (i := Int.toNat r9) (by omega)
        refine r_ostore (l := Int.toNat r9) down m.sX hy6 (Nat.le_of_ble_eq_true rfl) rfl fun back_4 hback_4 => ?_   -- back_4 = back_2.set r9 down
        have lback_4 : (back_4.length : Int) = back_2.length := by rw [hback_4]; first | done | (simp; done) | (simp; omega)
        conv => cbv
        refine r_addf m.sX (by omega) (by omega) fun r10 hr10 => ?_
        conv => cbv
        try have tr10 : Int.toNat r10 = Int.toNat i1 + 1 := by omega
        refine hE _ (front_4, back_4, r10) ?_ ?_ ⟨(by (try dsimp only); first | omega | (simp only [List.length_nil]; omega) | (simp only [List.length_cons, List.length_nil]; omega)), (by (try dsimp only); first | omega | (simp only [List.length_nil]; omega) | (simp only [List.length_cons, List.length_nil]; omega)), (by (try dsimp only) <;> (first | rw [qf, dx, goS, tr10, hfront_4, if_neg (by rw [decide_eq_false (by omega)]; decide), ci, show 2 * i1 + 2 = down by omega, show x.natAbs - 1 = Int.toNat r4 by omega] | rw [qf, dx, goS, tr10, hfront_4, if_pos (by rw [decide_eq_true (by omega)]; rfl), ci, show 2 * i1 + 1 = up by omega, show x.natAbs - 1 = Int.toNat r8 by omega])), (by (try dsimp only) <;> (first | rw [qb, dx, goS, tr10, hback_4, if_pos (by rw [decide_eq_false (by omega)]; rfl), ci, show 2 * i1 + 1 = up by omega, show x.natAbs - 1 = Int.toNat r5 by omega] | rw [qb, dx, goS, tr10, hback_4, if_neg (by rw [decide_eq_true (by omega)]; decide), ci, show 2 * i1 + 2 = down by omega, show x.natAbs - 1 = Int.toNat r9 by omega])), (by (try dsimp only) <;> first | omega | rfl | (simp [*]; done) | (rw [lf]; simp [*]; done)), (by (try dsimp only) <;> first | omega | rfl | (simp [*]; done) | (rw [lb_]; simp [*]; done))⟩ (by first | omega | (dsimp only; omega))
        · cbv
        · cbv
    · have dz_i1 := drop_end (xs := pile) (i := Int.toNat i1) (by omega)
      have tz_i1 := take_end (xs := pile) (i := Int.toNat i1) (by omega)
      refine hF _ _ ?_
      conv => cbv
      exact hQ (.tup [.fr 3 1 (rows cInt front_2), .fr 3 1 (rows cInt back_2)]) (Eq.trans (by first | rfl | (simp only [lb, lbI, rows_cons, rows_nil, unnilT, unnil, unnilTI, unnilI]; done) | (simp only [lb, lbI, rows_cons, rows_nil, unnilT, unnil, unnilTI, unnilI]; rfl)) (congrArg ((ll 3 1 cInt)) (show (front_2, back_2) = (sidesL folds true, sidesL folds false) from by rw [qf, qb, dz_i1]; rfl))))   -- leaf 1

theorem specPagesOnFront_ok (folds : List Fold)  : OkA Tryd.prog 27 [.isl 2 (rows cFold folds)] (· = (lb 3 1 cInt) (if goodF folds then (pagesL folds true, true) else ([], false))) :=
  OkA.unnil 3 1 (fn_intro envOk fieldsOk mixed Tryd.func27 rfl fun κ X Y L Q m hQ => by
    conv => cbv
    refine r_callB m.sX (imGood_ok folds) (fun h1 => ?_) (fun h1 => ?_) <;> conv => cbv
    · refine r_callF (ll 3 1 cInt) m.sX (imPages_ok folds (by first | rfl | assumption | omega | (simp only [List.length_append, List.length_cons, List.length_nil] at *; omega))) fun v hfront => ?_
      obtain ⟨front, v1⟩ := v
      conv => cbv
      exact hQ (.tup [.fr 3 1 (rows cInt front), .bool true]) (Eq.trans (by first | rfl | (simp only [lb, lbI, rows_cons, rows_nil, unnilT, unnil, unnilTI, unnilI]; done) | (simp only [lb, lbI, rows_cons, rows_nil, unnilT, unnil, unnilTI, unnilI]; rfl)) (congrArg ((lb 3 1 cInt)) (show (front, true) = if goodF folds then (pagesL folds true, true) else ([], false) from by rw [if_pos h1, (Prod.mk.inj hfront).1, (sides_ok h1).front])))   -- leaf 1
    · exact hQ (.tup [.nil, .bool false]) (Eq.trans (by first | rfl | (simp only [lb, lbI, rows_cons, rows_nil, unnilT, unnil, unnilTI, unnilI]; done) | (simp only [lb, lbI, rows_cons, rows_nil, unnilT, unnil, unnilTI, unnilI]; rfl)) (congrArg ((lb 3 1 cInt)) (show ([], false) = if goodF folds then (pagesL folds true, true) else ([], false) from by rw [if_neg (by rw [h1]; decide)]))))   -- leaf 2

theorem specPagesOnBack_ok (folds : List Fold)  : OkA Tryd.prog 29 [.isl 2 (rows cFold folds)] (· = (lb 3 1 cInt) (if goodF folds then (pagesL folds false, true) else ([], false))) :=
  OkA.unnil 3 1 (fn_intro envOk fieldsOk mixed Tryd.func29 rfl fun κ X Y L Q m hQ => by
    conv => cbv
    refine r_callB m.sX (imGood_ok folds) (fun h1 => ?_) (fun h1 => ?_) <;> conv => cbv
    · refine r_callF (ll 3 1 cInt) m.sX (imPages_ok folds (by first | rfl | assumption | omega | (simp only [List.length_append, List.length_cons, List.length_nil] at *; omega))) fun v hv1 => ?_
      obtain ⟨v1, back⟩ := v
      conv => cbv
      exact hQ (.tup [.fr 3 1 (rows cInt back), .bool true]) (Eq.trans (by first | rfl | (simp only [lb, lbI, rows_cons, rows_nil, unnilT, unnil, unnilTI, unnilI]; done) | (simp only [lb, lbI, rows_cons, rows_nil, unnilT, unnil, unnilTI, unnilI]; rfl)) (congrArg ((lb 3 1 cInt)) (show (back, true) = if goodF folds then (pagesL folds false, true) else ([], false) from by rw [if_pos h1, (Prod.mk.inj hv1).2, (sides_ok h1).back])))   -- leaf 1
    · exact hQ (.tup [.nil, .bool false]) (Eq.trans (by first | rfl | (simp only [lb, lbI, rows_cons, rows_nil, unnilT, unnil, unnilTI, unnilI]; done) | (simp only [lb, lbI, rows_cons, rows_nil, unnilT, unnil, unnilTI, unnilI]; rfl)) (congrArg ((lb 3 1 cInt)) (show ([], false) = if goodF folds then (pagesL folds false, true) else ([], false) from by rw [if_neg (by rw [h1]; decide)]))))   -- leaf 2

theorem specLeafOrder_ok (folds : List Fold)  : OkA Tryd.prog 31 [.isl 2 (rows cFold folds)] (· = (lb 3 1 cInt) (if goodF folds then ((foldedF folds).map (·.1), true) else ([], false))) :=
  OkA.unnil 3 1 (fn_intro envOk fieldsOk mixed Tryd.func31 rfl fun κ X Y L Q m hQ => by
    conv => cbv
    refine r_callB m.sX (imGood_ok folds) (fun h1 => ?_) (fun h1 => ?_) <;> conv => cbv
    · refine r_callF (fun l => PV.isl _ (rows _ l)) m.sX (imPile_ok folds (by first | rfl | assumption | omega | (simp only [List.length_append, List.length_cons, List.length_nil] at *; omega))) fun v1 hv1 => ?_
      conv => cbv
      have so := sides_ok h1
      have pl_ : v1.length ≤ 16 := by rw [hv1, so.len]; exact leaves_len h1
      have pp := so.pile
      rw [← hv1] at pp
      refine r_lenR m.sX fun n1 hn1 mn1 => ?_
      conv => cbv
      refine r_loopF (α := List Int × Int) m 25 [11, 12, 13] [⟨4, 33, 3, 1, 0⟩] (fun σ => [(4, .osl 33 0), (11, .isl 1 (rows cInt v1)), (12, .int .i64 n1), (13, .int .i64 σ.2)]) (fun σ => [(33, 0, .row 3 1 (rows cInt σ.1))])
        (fun σ => (0 ≤ σ.2) ∧ (σ.2 ≤ n1) ∧ (σ.1 = (v1.take σ.2.toNat).map fun x => (x.natAbs : Int) - 1) ∧ ((σ.1.length : Int) ≤ σ.2)) (fun σ => (n1 - σ.2).toNat) ([], 0) ?_ ?_ ?_ ?_
      · cbv
      · (try dsimp only); (try simp only [rows_cons, rows_nil]); cbv
      · exact ⟨(by (try dsimp only); first | omega | (simp only [List.length_nil]; omega) | (simp only [List.length_cons, List.length_nil]; omega)), (by (try dsimp only); first | omega | (simp only [List.length_nil]; omega) | (simp only [List.length_cons, List.length_nil]; omega)), (by (try dsimp only) <;> first | omega | rfl | (simp [*]; done)), (by (try dsimp only) <;> first | omega | rfl | (simp [*]; done))⟩
      rintro ⟨out, i1⟩ ⟨lo1, hi1, q, ln⟩ E hE F hF
      dsimp only at lo1 hi1 q ln
      conv => cbv
      refine r_lss m.sX (fun h2 => ?_) (fun h2 => ?_) <;> conv => cbv
      · refine r_index m.sX (by omega) (by omega) fun x hx => ?_
        conv => cbv
        have mx := get_mem hx
        have dx := drop_cons hx
        have kx := take_snoc hx
        have jx : (i1 + 1).toNat = Int.toNat i1 + 1 := by omega
        have vx := nth_some hx
        have px := pp _ (get_mem hx)
        have kx := take_snoc hx
        refine r_callF (PV.int .i64) m.sX (l1Abs_ok x (by first | rfl | assumption | omega | (simp only [List.length_append, List.length_cons, List.length_nil] at *; omega))) fun r1 hr1 => ?_
        conv => cbv
        refine r_subf m.sX (by omega) (by omega) fun r2 hr2 => ?_
        conv => cbv
        refine r_append1 (r2) m.sX rfl (by first | omega | (dsimp only; omega)) (by first | omega | (dsimp only; omega)) fun out_2 hout_2 => ?_
        conv => cbv
        have lout_2 : (out_2.length : Int) = out.length + 1 := by rw [hout_2]; first | done | (simp; done) | (simp; omega)
        refine r_addf m.sX (by omega) (by omega) fun r3 hr3 => ?_
        conv => cbv
        try have tr3 : Int.toNat r3 = Int.toNat i1 + 1 := by omega
        refine hE _ (out_2, r3) ?_ ?_ ⟨(by (try dsimp only); first | omega | (simp only [List.length_nil]; omega) | (simp only [List.length_cons, List.length_nil]; omega)), (by (try dsimp only); first | omega | (simp only [List.length_nil]; omega) | (simp only [List.length_cons, List.length_nil]; omega)), (by (try dsimp only) <;> (rw [hout_2, q, tr3, kx, List.map_append, hr2, hr1]; rfl)), (by (try dsimp only) <;> first | omega | rfl | (simp [*]; done) | (rw [ln]; simp [*]; done))⟩ (by first | omega | (dsimp only; omega))
        · cbv
        · cbv
      · have dz_i1 := drop_end (xs := v1) (i := Int.toNat i1) (by omega)
        have tz_i1 := take_end (xs := v1) (i := Int.toNat i1) (by omega)
        refine hF _ _ ?_
        conv => cbv
        exact hQ (.tup [.fr 3 1 (rows cInt out), .bool true]) (Eq.trans (by first | rfl | (simp only [lb, lbI, rows_cons, rows_nil, unnilT, unnil, unnilTI, unnilI]; done) | (simp only [lb, lbI, rows_cons, rows_nil, unnilT, unnil, unnilTI, unnilI]; rfl)) (congrArg ((lb 3 1 cInt)) (show (out, true) = if goodF folds then ((foldedF folds).map (·.1), true) else ([], false) from by rw [if_pos h1, q, tz_i1, hv1, so.order])))   -- leaf 1
    · exact hQ (.tup [.nil, .bool false]) (Eq.trans (by first | rfl | (simp only [lb, lbI, rows_cons, rows_nil, unnilT, unnil, unnilTI, unnilI]; done) | (simp only [lb, lbI, rows_cons, rows_nil, unnilT, unnil, unnilTI, unnilI]; rfl)) (congrArg ((lb 3 1 cInt)) (show ([], false) = if goodF folds then ((foldedF folds).map (·.1), true) else ([], false) from by rw [if_neg (by rw [h1]; decide)]))))   -- leaf 2

theorem specSheetSize_ok (folds : List Fold)  : OkA Tryd.prog 33 [.isl 2 (rows cFold folds)] (· = iib (if goodF folds then ((sizeF folds).1, (sizeF folds).2, true) else (0, 0, false))) :=
  fn_intro envOk fieldsOk mixed Tryd.func33 rfl fun κ X Y L Q m hQ => by
    conv => cbv
    refine r_callB m.sX (imGood_ok folds) (fun h1 => ?_) (fun h1 => ?_) <;> conv => cbv
    · refine r_callF ii m.sX (imSize_ok folds (goodF_le (by assumption))) fun v hcolumns => ?_
      obtain ⟨columns, rows_⟩ := v
      conv => cbv
      exact hQ (.tup [.int .i64 columns, .int .i64 rows_, .bool true]) (Eq.trans (by first | rfl | (simp only [lb, lbI, rows_cons, rows_nil, unnilT, unnil, unnilTI, unnilI]; done) | (simp only [lb, lbI, rows_cons, rows_nil, unnilT, unnil, unnilTI, unnilI]; rfl)) (congrArg (iib) (show (columns, rows_, true) = if goodF folds then ((sizeF folds).1, (sizeF folds).2, true) else (0, 0, false) from by rw [if_pos h1, ← hcolumns])))   -- leaf 1
    · exact hQ (.tup [.int .i64 0, .int .i64 0, .bool false]) (Eq.trans (by first | rfl | (simp only [lb, lbI, rows_cons, rows_nil, unnilT, unnil, unnilTI, unnilI]; done) | (simp only [lb, lbI, rows_cons, rows_nil, unnilT, unnil, unnilTI, unnilI]; rfl)) (congrArg (iib) (show (0, 0, false) = if goodF folds then ((sizeF folds).1, (sizeF folds).2, true) else (0, 0, false) from by rw [if_neg (by rw [h1]; decide)])))   -- leaf 2

theorem specSchemeText_ok (folds : List Fold)  : OkA Tryd.prog 35 [.isl 2 (rows cFold folds)] (· = sb (schF folds)) :=
  fn_intro envOk fieldsOk mixed Tryd.func35 rfl fun κ X Y L Q m hQ => by
    conv => cbv
    refine r_callB m.sX (imGood_ok folds) (fun h1 => ?_) (fun h1 => ?_) <;> conv => cbv
    · refine r_callF ii m.sX (imSize_ok folds (goodF_le (by assumption))) fun v hcolumns => ?_
      obtain ⟨columns, v1⟩ := v
      conv => cbv
      have cw : columns = p2 (wide folds) := (Prod.mk.inj hcolumns).1
      have cN : columns.toNat = 2 ^ wide folds := by rw [cw]; exact p2_toNat _
      have c0 : 1 ≤ columns := by rw [cw]; exact p2_pos _
      have c16 := pow16 (k := wide folds) (Nat.le_trans (wide_le folds) (goodF_le h1))
      refine r_callF (ll 3 1 cInt) m.sX (imPages_ok folds (by first | rfl | assumption | omega | (simp only [List.length_append, List.length_cons, List.length_nil] at *; omega))) fun v hfront => ?_
      obtain ⟨front, v2⟩ := v
      conv => cbv
      have tx := text_ok h1
      have fe : front = pagesL folds true := by rw [(Prod.mk.inj hfront).1, (sides_ok h1).front]
      have fn := tx.front
      rw [← fe] at fn
      have fl : front.length ≤ 16 := by rw [fe, tx.lenf]; exact pow16 (goodF_le h1)
      refine r_lenR m.sX fun n1 hn1 mn1 => ?_
      conv => cbv
      refine r_loopF (α := List UInt8 × Int) m 47 [4, 8, 25, 26] [⟨24, 193, 3, 1, 0⟩] (fun σ => [(4, .int .i64 columns), (8, .str σ.1), (24, .osl 193 0), (25, .int .i64 n1), (26, .int .i64 σ.2)]) (fun σ => [(193, 0, .row 3 1 (rows cInt front))])
        (fun σ => (0 ≤ σ.2) ∧ (σ.2 ≤ n1) ∧ (schL folds = σ.1 ++ schS (2 ^ wide folds) (front.drop σ.2.toNat) σ.2.toNat) ∧ ((σ.1.length : Int) ≤ 40 * σ.2)) (fun σ => (n1 - σ.2).toNat) (([] : List UInt8), 0) ?_ ?_ ?_ ?_
      · cbv
      · (try dsimp only); (try simp only [rows_cons, rows_nil]); cbv
      · exact ⟨(by (try dsimp only); first | omega | (simp only [List.length_nil]; omega) | (simp only [List.length_cons, List.length_nil]; omega)), (by (try dsimp only); first | omega | (simp only [List.length_nil]; omega) | (simp only [List.length_cons, List.length_nil]; omega)), (by (try dsimp only) <;> (rw [schL, ← fe]; rfl)), (by (try dsimp only) <;> first | omega | rfl | (simp [*]; done))⟩
      rintro ⟨s_, i1⟩ ⟨lo1, hi1, q, sl⟩ E hE F hF
      dsimp only at lo1 hi1 q sl
      conv => cbv
      refine r_lss m.sX (fun h2 => ?_) (fun h2 => ?_) <;> conv => cbv
      · refine r_oindex m.sX (by omega) (by omega) ?_
        conv => cbv
        obtain ⟨n, hn⟩ := get_ex (xs := front) (i := Int.toNat i1) (by omega)
        have mn := get_mem hn
        have dn := drop_cons hn
        have kn := take_snoc hn
        have jn : (i1 + 1).toNat = Int.toNat i1 + 1 := by omega
        have vn := nth_some hn
        have pn := fn _ (get_mem hn)
        have dn := drop_cons hn
        have ci : ((Int.toNat i1 : Nat) : Int) = i1 := by omega
        have ce : i1 % columns = ((Int.toNat i1 % 2 ^ wide folds : Nat) : Int) := by rw [← cN, Int.natCast_emod, ci, Int.toNat_of_nonneg (by omega)]
        refine r_oload m.sX hn (Nat.le_of_ble_eq_true rfl) ?_
        conv => cbv
        refine r_callF .str m.sX (l1Num_ok n (by omega) (by omega)) fun v3 hv3 => ?_
        conv => cbv
        have lv3 : v3.length ≤ 20 := by rw [hv3]; exact decDigits_le (by omega)
        have w3 : v3 = dg n := by rw [hv3, ← itoa_nn (by omega), itoa_dg (by omega) (by omega)]
        refine r_scat (u := s_) (v := v3) m.sX (by first | omega | (simp only [List.length_cons, List.length_nil]; omega) | (simp; omega)) fun s__2 hs__2 => ?_   -- s__2 = s_ ++ v3
        have ls__2 : (s__2.length : Int) = s_.length + v3.length := by rw [hs__2, List.length_append, Int.natCast_add]
        try simp only [List.length_cons, List.length_nil] at ls__2
        conv => cbv
        refine r_modf m.sX (by omega) (by omega) fun r1 hr1 br1 => ?_
        conv => cbv
        refine r_subf m.sX (by omega) (by omega) fun r2 hr2 => ?_
        conv => cbv
        refine r_eql m.sX (fun h3 => ?_) (fun h3 => ?_) <;> conv => cbv
        · have hm : Int.toNat i1 % 2 ^ wide folds = 2 ^ wide folds - 1 := by have z := hr1.symm.trans (h3.trans hr2); rw [ce] at z; omega
          refine r_scat (u := s__2) (v := ([47] : List UInt8)) m.sX (by first | omega | (simp only [List.length_cons, List.length_nil]; omega) | (simp; omega)) fun s__3 hs__3 => ?_   -- s__3 = s__2 ++ ([47] : List UInt8)
          have ls__3 : (s__3.length : Int) = s__2.length + ([47] : List UInt8).length := by rw [hs__3, List.length_append, Int.natCast_add]
          try simp only [List.length_cons, List.length_nil] at ls__3
          conv => cbv
          refine r_addf m.sX (by omega) (by omega) fun r3 hr3 => ?_
          conv => cbv
          try have tr3 : Int.toNat r3 = Int.toNat i1 + 1 := by omega
          refine hE _ (s__3, r3) ?_ ?_ ⟨(by (try dsimp only); first | omega | (simp only [List.length_nil]; omega) | (simp only [List.length_cons, List.length_nil]; omega)), (by (try dsimp only); first | omega | (simp only [List.length_nil]; omega) | (simp only [List.length_cons, List.length_nil]; omega)), (by (try dsimp only) <;> (first | (rw [q, dn, schS, tr3, hs__3, hs__2, w3, if_pos hm]; simp) | (rw [q, dn, schS, tr3, hs__4, hs__2, w3, if_neg hm]; simp))), (by (try dsimp only) <;> first | omega | rfl | (simp [*]; done) | (rw [sl]; simp [*]; done))⟩ (by first | omega | (dsimp only; omega))
          · cbv
          · cbv
        · have hm : ¬ Int.toNat i1 % 2 ^ wide folds = 2 ^ wide folds - 1 := fun e => h3 (by rw [hr1, ce, e, hr2]; omega)
          refine r_scat (u := s__2) (v := ([44] : List UInt8)) m.sX (by first | omega | (simp only [List.length_cons, List.length_nil]; omega) | (simp; omega)) fun s__4 hs__4 => ?_   -- s__4 = s__2 ++ ([44] : List UInt8)
          have ls__4 : (s__4.length : Int) = s__2.length + ([44] : List UInt8).length := by rw [hs__4, List.length_append, Int.natCast_add]
          try simp only [List.length_cons, List.length_nil] at ls__4
          conv => cbv
          refine r_addf m.sX (by omega) (by omega) fun r4 hr4 => ?_
          conv => cbv
          try have tr4 : Int.toNat r4 = Int.toNat i1 + 1 := by omega
          refine hE _ (s__4, r4) ?_ ?_ ⟨(by (try dsimp only); first | omega | (simp only [List.length_nil]; omega) | (simp only [List.length_cons, List.length_nil]; omega)), (by (try dsimp only); first | omega | (simp only [List.length_nil]; omega) | (simp only [List.length_cons, List.length_nil]; omega)), (by (try dsimp only) <;> (first | (rw [q, dn, schS, tr4, hs__3, hs__2, w3, if_pos hm]; simp) | (rw [q, dn, schS, tr4, hs__4, hs__2, w3, if_neg hm]; simp))), (by (try dsimp only) <;> first | omega | rfl | (simp [*]; done) | (rw [sl]; simp [*]; done))⟩ (by first | omega | (dsimp only; omega))
          · cbv
          · cbv
      · have dz_i1 := drop_end (xs := front) (i := Int.toNat i1) (by omega)
        have tz_i1 := take_end (xs := front) (i := Int.toNat i1) (by omega)
        refine hF _ _ ?_
        conv => cbv
        exact hQ (.tup [.str s_, .bool true]) (Eq.trans (by first | rfl | (simp only [lb, lbI, rows_cons, rows_nil, unnilT, unnil, unnilTI, unnilI]; done) | (simp only [lb, lbI, rows_cons, rows_nil, unnilT, unnil, unnilTI, unnilI]; rfl)) (congrArg (sb) (show (s_, true) = schF folds from by rw [schF, if_pos h1, q, List.drop_of_length_le (by omega)]; simp [schS])))   -- leaf 1
    · exact hQ (.tup [.str ([] : List UInt8), .bool false]) (Eq.trans (by first | rfl | (simp only [lb, lbI, rows_cons, rows_nil, unnilT, unnil, unnilTI, unnilI]; done) | (simp only [lb, lbI, rows_cons, rows_nil, unnilT, unnil, unnilTI, unnilI]; rfl)) (congrArg (sb) (show (([] : List UInt8), false) = schF folds from by rw [schF, if_neg (by rw [h1]; decide)])))   -- leaf 2

theorem specPlaceOfPage_ok (folds : List Fold) (page : Int)  : OkA Tryd.prog 39 [.isl 2 (rows cFold folds), .int .i64 page] (· = ibb (placeF folds page)) :=
  fn_intro envOk fieldsOk mixed Tryd.func39 rfl fun κ X Y L Q m hQ => by
    conv => cbv
    refine r_callB m.sX (imAsked_ok folds page) (fun h1 => ?_) (fun h1 => ?_) <;> conv => cbv
    · have hh := h1
      rw [Bool.and_eq_true] at hh
      obtain ⟨hg, hp⟩ := hh
      have hp2 := inB_spec hp
      have hp3 : page ≤ 2 * (2 ^ folds.length : Nat) := hp2.2
      have fo := find_ok hg hp2.1 hp3
      refine r_callF (ll 3 1 cInt) m.sX (imPages_ok folds (by first | rfl | assumption | omega | (simp only [List.length_append, List.length_cons, List.length_nil] at *; omega))) fun v hfront => ?_
      obtain ⟨front, back⟩ := v
      conv => cbv
      have tx := text_ok hg
      have fe : front = pagesL folds true := by rw [(Prod.mk.inj hfront).1, (sides_ok hg).front]
      have be : back = pagesL folds false := by rw [(Prod.mk.inj hfront).2, (sides_ok hg).back]
      have lfb : front.length = back.length := by rw [fe, be, tx.lenf, tx.lenb]
      have fl : front.length ≤ 16 := by rw [fe, tx.lenf]; exact pow16 (goodF_le hg)
      rw [← fe, ← be] at fo
      refine r_lenR m.sX fun n1 hn1 mn1 => ?_
      conv => cbv
      refine r_loopF (α := Int) m 46 [1, 20, 21] [⟨7, 57, 3, 1, 0⟩, ⟨8, 65, 3, 1, 0⟩] (fun σ => [(1, .int .i64 page), (7, .osl 57 0), (8, .osl 65 0), (20, .int .i64 n1), (21, .int .i64 σ)]) (fun σ => [(57, 0, .row 3 1 (rows cInt front)), (65, 0, .row 3 1 (rows cInt back))])
        (fun σ => (0 ≤ σ) ∧ (σ ≤ n1) ∧ (findP page front back 0 = findP page (front.drop σ.toNat) (back.drop σ.toNat) σ.toNat)) (fun σ => (n1 - σ).toNat) 0 ?_ ?_ ?_ ?_
      · cbv
      · cbv
      · exact ⟨(by (try dsimp only); first | omega | (simp only [List.length_nil]; omega) | (simp only [List.length_cons, List.length_nil]; omega)), (by (try dsimp only); first | omega | (simp only [List.length_nil]; omega) | (simp only [List.length_cons, List.length_nil]; omega)), (by (try dsimp only) <;> (rfl))⟩
      rintro i1 ⟨lo1, hi1, q⟩ E hE F hF
      conv => cbv
      refine r_lss m.sX (fun h2 => ?_) (fun h2 => ?_) <;> conv => cbv
      · obtain ⟨xb, hxb⟩ := get_ex (xs := back) (i := Int.toNat i1) (by omega)
        have db := drop_cons hxb
        have ci : ((Int.toNat i1 : Nat) : Int) = i1 := by omega
        refine r_oindex m.sX (by omega) (by omega) ?_
        conv => cbv
        obtain ⟨x1, hx1⟩ := get_ex (xs := front) (i := Int.toNat i1) (by omega)
        have mx1 := get_mem hx1
        have dx1 := drop_cons hx1
        have kx1 := take_snoc hx1
        have jx1 : (i1 + 1).toNat = Int.toNat i1 + 1 := by omega
        have vx1 := nth_some hx1
        have dx1 := drop_cons hx1
        refine r_oload m.sX hx1 (Nat.le_of_ble_eq_true rfl) ?_
        conv => cbv
        refine r_eql m.sX (fun h3 => ?_) (fun h3 => ?_) <;> conv => cbv
        · refine r_draw m (by kernel_rfl) ?_
          conv => cbv
          refine r_oindex m.sY (by omega) (by omega) ?_
          conv => cbv
          obtain ⟨x2, hx2⟩ := get_ex (xs := front) (i := Int.toNat i1) (by omega)
          have mx2 := get_mem hx2
          have dx2 := drop_cons hx2
          have kx2 := take_snoc hx2
          have jx2 : (i1 + 1).toNat = Int.toNat i1 + 1 := by omega
          have vx2 := nth_some hx2
          refine r_oload m.sY hx2 (Nat.le_of_ble_eq_true rfl) ?_
          conv => cbv
          refine r_eql m.sY (fun h4 => ?_) (fun h4 => ?_) <;> conv => cbv
          · refine hF _ _ ?_
            conv => cbv
            exact hQ (.tup [.int .i64 i1, .bool true, .bool true]) (Eq.trans (by first | rfl | (simp only [lb, lbI, rows_cons, rows_nil, unnilT, unnil, unnilTI, unnilI]; done) | (simp only [lb, lbI, rows_cons, rows_nil, unnilT, unnil, unnilTI, unnilI]; rfl)) (congrArg (ibb) (show (i1, true, true) = placeF folds page from by rw [← fo, q, dx1, db, findP, if_pos (.inl h3), decide_eq_true h3, ci])))   -- leaf 1
          · refine hF _ _ ?_
            conv => cbv
            exfalso; have z := Option.some.inj (hx1.symm.trans hx2); omega   -- leaf 2
        · refine r_oindex m.sX (by omega) (by omega) ?_
          conv => cbv
          obtain ⟨x3, hx3⟩ := get_ex (xs := back) (i := Int.toNat i1) (by omega)
          have mx3 := get_mem hx3
          have dx3 := drop_cons hx3
          have kx3 := take_snoc hx3
          have jx3 : (i1 + 1).toNat = Int.toNat i1 + 1 := by omega
          have vx3 := nth_some hx3
          have ex3 := Option.some.inj (hxb.symm.trans hx3)
          refine r_oload m.sX hx3 (Nat.le_of_ble_eq_true rfl) ?_
          conv => cbv
          refine r_eql m.sX (fun h5 => ?_) (fun h5 => ?_) <;> conv => cbv
          · refine r_draw m (by kernel_rfl) ?_
            conv => cbv
            refine r_oindex m.sY (by omega) (by omega) ?_
            conv => cbv
            obtain ⟨x4, hx4⟩ := get_ex (xs := front) (i := Int.toNat i1) (by omega)
            have mx4 := get_mem hx4
            have dx4 := drop_cons hx4
            have kx4 := take_snoc hx4
            have jx4 : (i1 + 1).toNat = Int.toNat i1 + 1 := by omega
            have vx4 := nth_some hx4
            refine r_oload m.sY hx4 (Nat.le_of_ble_eq_true rfl) ?_
            conv => cbv
            refine r_eql m.sY (fun h6 => ?_) (fun h6 => ?_) <;> conv => cbv
            · refine hF _ _ ?_
              conv => cbv
              exfalso; have z := Option.some.inj (hx1.symm.trans hx4); omega   -- leaf 3
            · refine hF _ _ ?_
              conv => cbv
              exact hQ (.tup [.int .i64 i1, .bool false, .bool true]) (Eq.trans (by first | rfl | (simp only [lb, lbI, rows_cons, rows_nil, unnilT, unnil, unnilTI, unnilI]; done) | (simp only [lb, lbI, rows_cons, rows_nil, unnilT, unnil, unnilTI, unnilI]; rfl)) (congrArg (ibb) (show (i1, false, true) = placeF folds page from by rw [← fo, q, dx1, db, findP, if_pos (.inr (ex3.trans h5)), decide_eq_false h3, ci])))   -- leaf 4
          · refine r_addf m.sX (by omega) (by omega) fun r1 hr1 => ?_
            conv => cbv
            try have tr1 : Int.toNat r1 = Int.toNat i1 + 1 := by omega
            refine hE _ r1 ?_ ?_ ⟨(by (try dsimp only); first | omega | (simp only [List.length_nil]; omega) | (simp only [List.length_cons, List.length_nil]; omega)), (by (try dsimp only); first | omega | (simp only [List.length_nil]; omega) | (simp only [List.length_cons, List.length_nil]; omega)), (by (try dsimp only) <;> (rw [q, dx1, db, findP, if_neg (by omega), tr1]))⟩ (by first | omega | (dsimp only; omega))
            · cbv
            · cbv
      · have dz_i1 := drop_end (xs := front) (i := Int.toNat i1) (by omega)
        have tz_i1 := take_end (xs := front) (i := Int.toNat i1) (by omega)
        refine hF _ _ ?_
        conv => cbv
        exact hQ (.tup [.int .i64 0, .bool false, .bool false]) (Eq.trans (by first | rfl | (simp only [lb, lbI, rows_cons, rows_nil, unnilT, unnil, unnilTI, unnilI]; done) | (simp only [lb, lbI, rows_cons, rows_nil, unnilT, unnil, unnilTI, unnilI]; rfl)) (congrArg (ibb) (show (0, false, false) = placeF folds page from by rw [← fo, q, List.drop_of_length_le (by omega)]; simp [findP])))   -- leaf 5
    · exact hQ (.tup [.int .i64 0, .bool false, .bool false]) (Eq.trans (by first | rfl | (simp only [lb, lbI, rows_cons, rows_nil, unnilT, unnil, unnilTI, unnilI]; done) | (simp only [lb, lbI, rows_cons, rows_nil, unnilT, unnil, unnilTI, unnilI]; rfl)) (congrArg (ibb) (show (0, false, false) = placeF folds page from by rw [placeF, if_neg (by rw [h1]; decide)])))   -- leaf 6

end Go.Proofs.YtbamclepgabciaaDoor.Ai
