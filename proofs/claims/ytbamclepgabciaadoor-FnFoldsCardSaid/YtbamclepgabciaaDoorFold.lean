/- Contracts of the functions on folds. -/
import Derived.Test.YtbamclepgabciaaDoorCraft
import Derived.Test.YtbamclepgabciaaDoorAiIce
namespace Go.Proofs.YtbamclepgabciaaDoor.Ai
open Go Go.Proofs
set_option linter.unusedSimpArgs false
set_option maxRecDepth 10000
set_option maxHeartbeats 4000000
set_option linter.unusedVariables false

abbrev Fold := Int × Bool
abbrev Leaf := Int × Bool
def cFold (f : Fold) : List PV := [.int .i64 f.1, .bool f.2]
def cLeaf (f : Leaf) : List PV := [.int .i64 f.1, .bool f.2]

/-! ### Which folds are valid; how many cells a sheet has -/
def okFold (f : Fold) : Bool := decide (f.1 = 1) || decide (f.1 = 2)
def goodF (fs : List Fold) : Bool := fs.all okFold && decide (fs.length ≤ 4)

theorem inB12 (x : Int) : inB x 1 2 = (decide (x = 1) || decide (x = 2)) := by
  simp only [inB]
  rw [Bool.eq_iff_iff]
  simp
  omega

theorem AreFolds_ok (folds : List Fold) : OkA Tryd.prog 36 [.isl 2 (rows cFold folds)] (· = .bool (goodF folds)) :=
  fn_intro envOk fieldsOk mixed Tryd.func36 rfl fun κ X Y L Q m hQ => by
    conv => cbv
    refine r_lenR m.sX fun n1 hn1 mn1 => ?_
    conv => cbv
    refine r_loop (α := Int) m 23 [0, 5, 6, 7] [] (fun a => [(0, .isl 2 (rows cFold folds)), (5, .isl 2 (rows cFold folds)), (6, .int .i64 n1), (7, .int .i64 a)]) (fun a => [])
      (fun a => 0 ≤ a ∧ a ≤ folds.length ∧ folds.all okFold = (folds.drop a.toNat).all okFold) (fun a => folds.length - a.toNat) 0 ?_ ?_ ?_ ?_
    · cbv
    · cbv
    · exact ⟨by omega, by omega, rfl⟩
    rintro i1 ⟨p1, p2, p3⟩ E hE
    conv => cbv
    refine r_lss m.sX (fun h1 => ?_) (fun h1 => ?_) <;> conv => cbv
    · refine r_index m.sX (by omega) (by omega) fun x1 hx1 => ?_
      conv => cbv
      rw [drop_cons hx1, List.all_cons] at p3
      refine r_neq m.sX (fun h2 => ?_) (fun h2 => ?_) <;> conv => cbv
      · refine r_neq m.sX (fun h3 => ?_) (fun h3 => ?_) <;> conv => cbv
        · exact hQ _ (congrArg PV.bool (by rw [goodF, p3, okFold, decide_eq_false h2, decide_eq_false h3]; rfl))
        · refine r_addf m.sX (by omega) (by omega) fun r1 hr1 => ?_
          conv => cbv
          refine hE _ r1 ?_ ?_ ⟨by omega, by omega, by rw [p3, okFold, decide_eq_true h3, show r1.toNat = i1.toNat + 1 by omega]; simp⟩ (by first | omega | (dsimp only; omega))
          · cbv
          · cbv
      · refine r_addf m.sX (by omega) (by omega) fun r2 hr2 => ?_
        conv => cbv
        refine hE _ r2 ?_ ?_ ⟨by omega, by omega, by rw [p3, okFold, decide_eq_true h2, show r2.toNat = i1.toNat + 1 by omega]; simp⟩ (by first | omega | (dsimp only; omega))
        · cbv
        · cbv
    · rw [List.drop_of_length_le (by omega)] at p3
      refine r_lenR m.sX fun n2 hn2 mn2 => ?_
      conv => cbv
      refine r_leq m.sX (fun h4 => ?_) (fun h4 => ?_) <;> conv => cbv
      · exact hQ _ (congrArg PV.bool (by rw [goodF, p3, decide_eq_true (by omega)]; rfl))
      · exact hQ _ (congrArg PV.bool (by rw [goodF, p3, decide_eq_false (by omega)]; rfl))

theorem imGood_ok (folds : List Fold) : OkA Tryd.prog 87 [.isl 2 (rows cFold folds)] (· = .bool (goodF folds)) :=
  fn_intro envOk fieldsOk mixed Tryd.func87 rfl fun κ X Y L Q m hQ => by
    conv => cbv
    refine r_lenR m.sX fun n1 hn1 mn1 => ?_
    conv => cbv
    refine r_loop (α := Int) m 19 [0, 5, 6, 7] [] (fun a => [(0, .isl 2 (rows cFold folds)), (5, .isl 2 (rows cFold folds)), (6, .int .i64 n1), (7, .int .i64 a)]) (fun a => [])
      (fun a => 0 ≤ a ∧ a ≤ folds.length ∧ folds.all okFold = (folds.drop a.toNat).all okFold) (fun a => folds.length - a.toNat) 0 ?_ ?_ ?_ ?_
    · cbv
    · cbv
    · exact ⟨by omega, by omega, rfl⟩
    rintro i1 ⟨p1, p2, p3⟩ E hE
    conv => cbv
    refine r_lss m.sX (fun h1 => ?_) (fun h1 => ?_) <;> conv => cbv
    · refine r_index m.sX (by omega) (by omega) fun x1 hx1 => ?_
      conv => cbv
      rw [drop_cons hx1, List.all_cons, okFold, ← inB12] at p3
      refine r_callB m.sX (l1In_ok x1.1 1 2) (fun h2 => ?_) (fun h2 => ?_) <;> conv => cbv
      · refine r_addf m.sX (by omega) (by omega) fun r1 hr1 => ?_
        conv => cbv
        refine hE _ r1 ?_ ?_ ⟨by omega, by omega, by rw [p3, h2, show r1.toNat = i1.toNat + 1 by omega]; simp⟩ (by first | omega | (dsimp only; omega))
        · cbv
        · cbv
      · exact hQ _ (congrArg PV.bool (by rw [goodF, p3, h2]; rfl))
    · rw [List.drop_of_length_le (by omega)] at p3
      refine r_lenR m.sX fun n2 hn2 mn2 => ?_
      conv => cbv
      refine r_leq m.sX (fun h3 => ?_) (fun h3 => ?_) <;> conv => cbv
      · exact hQ _ (congrArg PV.bool (by rw [goodF, p3, decide_eq_true (by omega)]; rfl))
      · exact hQ _ (congrArg PV.bool (by rw [goodF, p3, decide_eq_false (by omega)]; rfl))

def wide (fs : List Fold) : Nat := (fs.filter fun f => decide (f.1 = 1)).length
def high (fs : List Fold) : Nat := (fs.filter fun f => !decide (f.1 = 1)).length

theorem wide_high (fs : List Fold) : wide fs + high fs = fs.length := by
  induction fs with
  | nil => rfl
  | cons f r ih =>
    simp only [wide, high, List.filter_cons] at *
    by_cases h : f.1 = 1 <;> simp [h] <;> omega
theorem wide_le (fs : List Fold) : wide fs ≤ fs.length := by have := wide_high fs; omega
theorem high_le (fs : List Fold) : high fs ≤ fs.length := by have := wide_high fs; omega
theorem wide_cons (f : Fold) (r : List Fold) : wide (f :: r) = (if f.1 = 1 then 1 else 0) + wide r := by
  simp only [wide, List.filter_cons]
  by_cases h : f.1 = 1 <;> simp [h]; omega
theorem high_cons (f : Fold) (r : List Fold) : high (f :: r) = (if f.1 = 1 then 0 else 1) + high r := by
  simp only [high, List.filter_cons]
  by_cases h : f.1 = 1 <;> simp [h]; omega
theorem wide_snoc (f : Fold) (r : List Fold) : wide (r ++ [f]) = wide r + (if f.1 = 1 then 1 else 0) := by
  simp only [wide, List.filter_append, List.length_append, List.filter_cons, List.filter_nil]
  by_cases h : f.1 = 1 <;> simp [h]
theorem high_snoc (f : Fold) (r : List Fold) : high (r ++ [f]) = high r + (if f.1 = 1 then 0 else 1) := by
  simp only [high, List.filter_append, List.length_append, List.filter_cons, List.filter_nil]
  by_cases h : f.1 = 1 <;> simp [h]

def p2 (k : Nat) : Int := ((2 ^ k : Nat) : Int)
theorem p2_succ (k : Nat) : p2 (k + 1) = p2 k * 2 := by simp only [p2, Nat.pow_succ]; omega
theorem p2_pos (k : Nat) : 1 ≤ p2 k := by have : 0 < 2 ^ k := Nat.pow_pos (by omega); simp only [p2]; omega
theorem p2_le {k n : Nat} (h : k ≤ n) : p2 k ≤ p2 n := by have := Nat.pow_le_pow_right (n := 2) (by omega) h; simp only [p2]; omega
theorem p2_add (j k : Nat) : p2 (j + k) = p2 j * p2 k := by simp only [p2, Nat.pow_add, Int.natCast_mul]

def sizeF (fs : List Fold) : Int × Int := (p2 (wide fs), p2 (high fs))

theorem sheetSize_ok (folds : List Fold) (hl : folds.length ≤ 4) : OkA Tryd.prog 92 [.isl 2 (rows cFold folds)] (· = ii (sizeF folds)) :=
  fn_intro envOk fieldsOk mixed Tryd.func92 rfl fun κ X Y L Q m hQ => by
    conv => cbv
    refine r_lenR m.sX fun n1 hn1 mn1 => ?_
    conv => cbv
    refine r_loop (α := Int × Int × Int) m 24 [4, 5, 8, 9, 10] [] (fun a => [(4, .int .i64 a.1), (5, .int .i64 a.2.1), (8, .isl 2 (rows cFold folds)), (9, .int .i64 n1), (10, .int .i64 a.2.2)]) (fun a => [])
      (fun a => 0 ≤ a.2.2 ∧ a.2.2 ≤ folds.length ∧ a.1 = p2 (wide (folds.take a.2.2.toNat)) ∧ a.2.1 = p2 (high (folds.take a.2.2.toNat))) (fun a => folds.length - a.2.2.toNat) (1, 1, 0) ?_ ?_ ?_ ?_
    · cbv
    · cbv
    · exact ⟨by dsimp only; omega, by dsimp only; omega, rfl, rfl⟩
    rintro ⟨i1, i2, i3⟩ ⟨q1, q2, q3, q4⟩ E hE
    dsimp only at q1 q2 q3 q4
    have b1 := p2_pos (wide (folds.take i3.toNat))
    have b2 := p2_pos (high (folds.take i3.toNat))
    have b3 := p2_le (n := 4) (Nat.le_trans (wide_le (folds.take i3.toNat)) (by simp; omega))
    have b4 := p2_le (n := 4) (Nat.le_trans (high_le (folds.take i3.toNat)) (by simp; omega))
    rw [show p2 4 = 16 from rfl] at b3 b4
    conv => cbv
    refine r_lss m.sX (fun h1 => ?_) (fun h1 => ?_) <;> conv => cbv
    · refine r_index m.sX (by omega) (by omega) fun x1 hx1 => ?_
      conv => cbv
      have ht : ∀ j : Int, j = i3 + 1 → folds.take j.toNat = folds.take i3.toNat ++ [x1] := fun j hj => by rw [show j.toNat = i3.toNat + 1 by omega, List.take_add_one, hx1]; rfl
      refine r_eql m.sX (fun h2 => ?_) (fun h2 => ?_) <;> conv => cbv
      · refine r_mulf m.sX (by first | omega | (subst_vars; omega)) (by first | omega | (subst_vars; omega)) fun r1 hr1 => ?_
        conv => cbv
        refine r_addf m.sX (by omega) (by omega) fun r2 hr2 => ?_
        conv => cbv
        refine hE _ (r1, i2, r2) ?_ ?_ ⟨by dsimp only; omega, by dsimp only; omega, by dsimp only; rw [ht r2 hr2, wide_snoc, if_pos h2, p2_succ, ← q3, hr1], by dsimp only; rw [ht r2 hr2, high_snoc, if_pos h2]; exact q4⟩ (by first | omega | (dsimp only; omega))
        · cbv
        · cbv
      · refine r_mulf m.sX (by first | omega | (subst_vars; omega)) (by first | omega | (subst_vars; omega)) fun r3 hr3 => ?_
        conv => cbv
        refine r_addf m.sX (by omega) (by omega) fun r4 hr4 => ?_
        conv => cbv
        refine hE _ (i1, r3, r4) ?_ ?_ ⟨by dsimp only; omega, by dsimp only; omega, by dsimp only; rw [ht r4 hr4, wide_snoc, if_neg h2]; exact q3, by dsimp only; rw [ht r4 hr4, high_snoc, if_neg h2, p2_succ, ← q4, hr3]⟩ (by first | omega | (dsimp only; omega))
        · cbv
        · cbv
    · rw [List.take_of_length_le (by omega)] at q3 q4
      exact hQ (ii (i1, i2)) (congrArg ii (by rw [sizeF, q3, q4]))

theorem imSize_ok (folds : List Fold) (hl : folds.length ≤ 4) : OkA Tryd.prog 93 [.isl 2 (rows cFold folds)] (· = ii (sizeF folds)) :=
  fn_intro envOk fieldsOk mixed Tryd.func93 rfl fun κ X Y L Q m hQ => by
    conv => cbv
    refine r_lenR m.sX fun n1 hn1 mn1 => ?_
    conv => cbv
    refine r_loop (α := Int × Int × Int) m 24 [4, 5, 8, 9, 10] [] (fun a => [(4, .int .i64 a.1), (5, .int .i64 a.2.1), (8, .isl 2 (rows cFold folds)), (9, .int .i64 n1), (10, .int .i64 a.2.2)]) (fun a => [])
      (fun a => 0 ≤ a.2.2 ∧ a.2.2 ≤ folds.length ∧ a.1 = p2 (wide (folds.take a.2.2.toNat)) ∧ a.2.1 = p2 (high (folds.take a.2.2.toNat))) (fun a => folds.length - a.2.2.toNat) (1, 1, 0) ?_ ?_ ?_ ?_
    · cbv
    · cbv
    · exact ⟨by dsimp only; omega, by dsimp only; omega, rfl, rfl⟩
    rintro ⟨i1, i2, i3⟩ ⟨q1, q2, q3, q4⟩ E hE
    dsimp only at q1 q2 q3 q4
    have b1 := p2_pos (wide (folds.take i3.toNat))
    have b2 := p2_pos (high (folds.take i3.toNat))
    have b3 := p2_le (n := 4) (Nat.le_trans (wide_le (folds.take i3.toNat)) (by simp; omega))
    have b4 := p2_le (n := 4) (Nat.le_trans (high_le (folds.take i3.toNat)) (by simp; omega))
    rw [show p2 4 = 16 from rfl] at b3 b4
    conv => cbv
    refine r_lss m.sX (fun h1 => ?_) (fun h1 => ?_) <;> conv => cbv
    · refine r_index m.sX (by omega) (by omega) fun x1 hx1 => ?_
      conv => cbv
      have ht : ∀ j : Int, j = i3 + 1 → folds.take j.toNat = folds.take i3.toNat ++ [x1] := fun j hj => by rw [show j.toNat = i3.toNat + 1 by omega, List.take_add_one, hx1]; rfl
      refine r_eql m.sX (fun h2 => ?_) (fun h2 => ?_) <;> conv => cbv
      · refine r_mulf m.sX (by first | omega | (subst_vars; omega)) (by first | omega | (subst_vars; omega)) fun r1 hr1 => ?_
        conv => cbv
        refine r_addf m.sX (by omega) (by omega) fun r2 hr2 => ?_
        conv => cbv
        refine hE _ (r1, i2, r2) ?_ ?_ ⟨by dsimp only; omega, by dsimp only; omega, by dsimp only; rw [ht r2 hr2, wide_snoc, if_pos h2, p2_succ, ← q3, hr1], by dsimp only; rw [ht r2 hr2, high_snoc, if_pos h2]; exact q4⟩ (by first | omega | (dsimp only; omega))
        · cbv
        · cbv
      · refine r_mulf m.sX (by first | omega | (subst_vars; omega)) (by first | omega | (subst_vars; omega)) fun r3 hr3 => ?_
        conv => cbv
        refine r_addf m.sX (by omega) (by omega) fun r4 hr4 => ?_
        conv => cbv
        refine hE _ (i1, r3, r4) ?_ ?_ ⟨by dsimp only; omega, by dsimp only; omega, by dsimp only; rw [ht r4 hr4, wide_snoc, if_neg h2]; exact q3, by dsimp only; rw [ht r4 hr4, high_snoc, if_neg h2, p2_succ, ← q4, hr3]⟩ (by first | omega | (dsimp only; omega))
        · cbv
        · cbv
    · rw [List.take_of_length_le (by omega)] at q3 q4
      exact hQ (ii (i1, i2)) (congrArg ii (by rw [sizeF, q3, q4]))

theorem SheetSize_ok (folds : List Fold) : OkA Tryd.prog 32 [.isl 2 (rows cFold folds)] (· = iib (if goodF folds then ((sizeF folds).1, (sizeF folds).2, true) else (0, 0, false))) :=
  fn_intro envOk fieldsOk mixed Tryd.func32 rfl fun κ X Y L Q m hQ => by
    conv => cbv
    refine r_callB m.sX (AreFolds_ok folds) (fun h1 => ?_) (fun h1 => ?_) <;> conv => cbv
    · have hl : folds.length ≤ 4 := by
        rw [goodF, Bool.and_eq_true, decide_eq_true_eq] at h1
        exact h1.2
      refine r_callF ii m.sX (sheetSize_ok folds hl) fun v1 hv1 => ?_
      conv => cbv
      exact hQ (iib (v1.1, v1.2, true)) (congrArg iib (by rw [if_pos h1, hv1]))
    · exact hQ (iib (0, 0, false)) (congrArg iib (by rw [if_neg (by rw [h1]; simp)]))

/-! ### The pile -/
def turn (l : Leaf) : Leaf := (l.1, !l.2)
def layF (pile other : List Leaf) (over : Bool) : List Leaf := if over then other.reverse.map turn ++ pile else pile ++ other.reverse.map turn

theorem lay_ok (pile : List Leaf) (other : List Leaf) (over : Bool) (hp : pile.length ≤ 1000000) (ho : other.length ≤ 1000000) : OkA Tryd.prog 151 [.isl 2 (rows cLeaf pile), .isl 2 (rows cLeaf other), .bool over] (· = .fr 102 2 (rows cLeaf (layF pile other over))) :=
  fn_intro envOk fieldsOk mixed Tryd.func151 rfl fun κ X Y L Q m hQ => by
    conv => cbv
    refine r_lenR m.sX fun n1 hn1 mn1 => ?_
    conv => cbv
    refine r_subf m.sX (by omega) (by omega) fun r1 hr1 => ?_
    conv => cbv
    refine r_loop (α := List Leaf × Int) m 41 [0, 1, 2, 8] [⟨7, 57, 102, 2, 0⟩] (fun a => [(0, .isl 2 (rows cLeaf pile)), (1, .isl 2 (rows cLeaf other)), (2, .bool over), (7, .osl 57 0), (8, .int .i64 a.2)]) (fun a => [(57, 0, .row 102 2 (rows cLeaf a.1))])
      (fun a => -1 ≤ a.2 ∧ a.2 < other.length ∧ a.1 = (other.drop (a.2 + 1).toNat).reverse.map turn) (fun a => (a.2 + 1).toNat) ([], r1) ?_ ?_ ?_ ?_
    · cbv
    · (try dsimp only); simp only [rows_nil]; cbv
    · exact ⟨by dsimp only; omega, by dsimp only; omega, by dsimp only; rw [List.drop_of_length_le (by omega)]; rfl⟩
    rintro ⟨ys1, i1⟩ ⟨p1, p2, p3⟩ E hE
    dsimp only at p1 p2 p3
    have hy : ys1.length ≤ other.length := by rw [p3]; simp
    conv => cbv
    refine r_geq m.sX (fun h1 => ?_) (fun h1 => ?_) <;> conv => cbv
    · refine r_draw m (by kernel_rfl) ?_
      conv => cbv
      refine r_index m.sY (by omega) (by omega) fun x1 hx1 => ?_
      conv => cbv
      refine r_index m.sY (by omega) (by omega) fun x2 hx2 => ?_
      conv => cbv
      obtain rfl := Option.some.inj (hx1.symm.trans hx2)
      refine r_append1 ((turn x1)) m.sY rfl (by first | omega | (dsimp only; omega)) (by first | omega | (dsimp only; omega)) fun zs1 hzs1 => ?_
      conv => cbv
      refine r_subf m.sX (by omega) (by omega) fun r2 hr2 => ?_
      conv => cbv
      refine hE _ (zs1, r2) ?_ ?_ ⟨by dsimp only; omega, by dsimp only; omega, ?_⟩ (by first | omega | (dsimp only; omega))
      · cbv
      · cbv
      · dsimp only
        rw [hzs1, p3, show (r2 + 1).toNat = i1.toNat by omega, drop_cons hx1, show (i1 + 1).toNat = i1.toNat + 1 by omega]
        simp
    · rw [show (i1 + 1).toNat = 0 by omega, List.drop_zero] at p3
      cases over <;> conv => cbv
      · refine r_append0R m.sX (by first | omega | (dsimp only; omega)) (by first | omega | (dsimp only; omega)) fun zs3 hzs3 => ?_
        conv => cbv
        subst hzs3
        refine r_append m.sX (by first | omega | (dsimp only; omega)) (by first | omega | (dsimp only; omega)) fun zs4 hzs4 => ?_
        conv => cbv
        exact hQ _ (congrArg (fun l => PV.fr 102 2 (rows cLeaf l)) (by rw [hzs4, p3]; rfl))
      · refine r_append m.sX (by first | omega | (dsimp only; omega)) (by first | omega | (dsimp only; omega)) fun zs2 hzs2 => ?_
        conv => cbv
        exact hQ _ (congrArg (fun l => PV.fr 102 2 (rows cLeaf l)) (by rw [hzs2, p3]; rfl))

def pileAt (p : List (List (List Leaf))) (y x : Nat) : List Leaf := (((p[y]?).getD [])[x]?).getD []
def foldRow (p : List (List (List Leaf))) (o : Bool) (y : Nat) : List (List Leaf) := (List.range ((p[y]?).getD []).length).map fun x => layF (pileAt p y x) (pileAt p (p.length - 1 - y) x) o
def foldCol (o : Bool) (row : List (List Leaf)) (c : Nat) : List (List Leaf) := (List.range (c / 2)).map fun x => layF ((row[x]?).getD []) ((row[c - 1 - x]?).getD []) o
def foldF (p : List (List (List Leaf))) (f : Fold) : List (List (List Leaf)) :=
  if f.1 = 2 then (List.range (p.length / 2)).map (foldRow p f.2) else p.map fun row => foldCol f.2 row ((p[0]?).getD []).length

structure Rect (p : List (List (List Leaf))) (r c n : Nat) : Prop where
  rows : p.length = r
  cols : ∀ row ∈ p, row.length = c
  deep : ∀ row ∈ p, ∀ pile ∈ row, pile.length = n

theorem layF_length (a b : List Leaf) (o : Bool) : (layF a b o).length = a.length + b.length := by
  unfold layF; split <;> simp; omega

theorem Rect.at {p : List (List (List Leaf))} {r c n y x : Nat} (h : Rect p r c n) (hy : y < r) (hx : x < c) : (pileAt p y x).length = n := by
  have hy' : y < p.length := by rw [h.rows]; exact hy
  have hc := h.cols p[y] (List.getElem_mem hy')
  simp only [pileAt, List.getElem?_eq_getElem hy', Option.getD_some]
  rw [List.getElem?_eq_getElem (by omega), Option.getD_some]
  exact h.deep _ (List.getElem_mem hy') _ (List.getElem_mem (by omega))

theorem Rect.high {p : List (List (List Leaf))} {r c n : Nat} (h : Rect p (2 * r) c n) {f : Fold} (hf : f.1 = 2) : Rect (foldF p f) r c (2 * n) := by
  have hl := h.rows
  unfold foldF
  rw [if_pos hf]
  have hrow : ∀ y, y < r → ((p[y]?).getD []).length = c := fun y hy => by
    rw [List.getElem?_eq_getElem (by omega), Option.getD_some]
    exact h.cols _ (List.getElem_mem _)
  refine ⟨by simp; omega, fun row hr => ?_, fun row hr pile hp => ?_⟩
  · obtain ⟨y, hy, rfl⟩ := List.mem_map.1 hr
    have := List.mem_range.1 hy
    simp only [foldRow, List.length_map, List.length_range]
    exact hrow y (by omega)
  · obtain ⟨y, hy, rfl⟩ := List.mem_map.1 hr
    have := List.mem_range.1 hy
    obtain ⟨x, hx, rfl⟩ := List.mem_map.1 hp
    have := List.mem_range.1 hx
    rw [hrow y (by omega)] at this
    rw [layF_length, h.at (by omega) this, h.at (by omega) this]
    omega

theorem Rect.wide {p : List (List (List Leaf))} {r c n : Nat} (h : Rect p r (2 * c) n) (hr : 0 < r) {f : Fold} (hf : f.1 ≠ 2) : Rect (foldF p f) r c (2 * n) := by
  have hl := h.rows
  unfold foldF
  rw [if_neg hf]
  have h0 : ((p[0]?).getD []).length = 2 * c := by
    rw [List.getElem?_eq_getElem (by omega), Option.getD_some]
    exact h.cols _ (List.getElem_mem _)
  rw [h0]
  refine ⟨by simp; omega, fun row hr => ?_, fun row hr pile hp => ?_⟩
  · obtain ⟨y, hy, rfl⟩ := List.mem_map.1 hr
    simp [foldCol]
  · obtain ⟨y, hy, rfl⟩ := List.mem_map.1 hr
    obtain ⟨x, hx, rfl⟩ := List.mem_map.1 hp
    have := List.mem_range.1 hx
    have hc := h.cols y hy
    rw [layF_length, List.getElem?_eq_getElem (by omega), List.getElem?_eq_getElem (by omega), Option.getD_some, Option.getD_some, h.deep y hy _ (List.getElem_mem _), h.deep y hy _ (List.getElem_mem _)]
    omega

theorem range_snoc {α : Type} (f : Nat → α) (i j : Int) (h : 0 ≤ i) (hj : j = i + 1) : (List.range i.toNat).map f ++ [f i.toNat] = (List.range j.toNat).map f := by
  rw [show j.toNat = i.toNat + 1 by omega, List.range_succ, List.map_append]; rfl

theorem foldOnce_ok (piles : List (List (List Leaf))) (f : Fold) (r c n : Nat) (hR : Rect piles r c n) (hr0 : 0 < r) (hr : r ≤ 1000) (hc : c ≤ 1000) (hn : n ≤ 1000) :
    OkA Tryd.prog 139 [.isl 1 (rows (cSl 1 (cSl 2 cLeaf)) piles), .agg (cFold f)] (· = .fr 133 1 (rows (cSl 1 (cSl 2 cLeaf)) (foldF piles f))) :=
  fn_intro envOk fieldsOk mixed Tryd.func139 rfl fun κ X Y L Q m hQ => by
    have hpl := hR.rows
    have hx0 : ∀ {i : Nat} {x : List (List Leaf)}, piles[i]? = some x → x.length = c := fun h => hR.cols _ (get_mem h)
    have hx00 : ∀ {i j : Nat} {x : List (List Leaf)} {z : List Leaf}, piles[i]? = some x → x[j]? = some z → z.length = n := fun h h' => hR.deep _ (get_mem h) _ (get_mem h')
    conv => cbv
    refine r_draw m (by kernel_rfl) ?_
    conv => cbv
    refine r_lenRS m.sY (by omega) fun n1 hn1 => ?_
    conv => cbv
    refine r_index m.sY (by omega) (by omega) fun x1 hx1 => ?_
    conv => cbv
    have c1 := hx0 hx1
    refine r_lenRS m.sY (by omega) fun n2 hn2 => ?_
    conv => cbv
    refine r_eql m.sX (fun h1 => ?_) (fun h1 => ?_) <;> conv => cbv
    · have hres : foldF piles f = (List.range (piles.length / 2)).map (foldRow piles f.2) := if_pos h1
      rw [hres] at hQ
      refine r_loop (α := List (List (List Leaf)) × Int) m 105 [0, 5, 8] [⟨3, 25, 0, 0, 0⟩, ⟨7, 57, 133, 1, 0⟩] (fun a => [(0, .isl 1 (rows (cSl 1 (cSl 2 cLeaf)) piles)), (3, .optr 25 0 2 0 0), (5, .int .i64 n1), (7, .osl 57 0), (8, .int .i64 a.2)]) (fun a => [(25, 0, .box [.int .i64 f.1, .bool f.2]), (57, 0, .row 133 1 (rows (cSl 1 (cSl 2 cLeaf)) a.1))])
        (fun a => 0 ≤ a.2 ∧ a.2 ≤ piles.length / 2 ∧ a.1 = (List.range a.2.toNat).map (foldRow piles f.2)) (fun a => piles.length / 2 - a.2.toNat) ([], 0) ?_ ?_ ?_ ?_
      · cbv
      · (try dsimp only); simp only [rows_nil]; cbv
      · exact ⟨by dsimp only; omega, by dsimp only; omega, rfl⟩
      rintro ⟨ys1, i1⟩ ⟨p1, p2, p3⟩ E hE
      dsimp only at p1 p2 p3
      have l1 : ys1.length = i1.toNat := by rw [p3]; simp
      conv => cbv
      first | refine r_divf m.sX (by omega) (by omega) fun r1 hr1 br1 => ?_ | refine r_tdivf m.sX (by omega) (by omega) fun r1 hr1 br1 => ?_
      conv => cbv
      refine r_lss m.sX (fun h2 => ?_) (fun h2 => ?_) <;> conv => cbv
      · refine r_index m.sX (by omega) (by omega) fun x2 hx2 => ?_
        conv => cbv
        have c2 := hx0 hx2
        refine r_lenR m.sX fun n3 hn3 mn3 => ?_
        conv => cbv
        refine r_loop (α := List (List (List Leaf)) × List (List Leaf) × Int) m 105 [0, 5, 8, 36, 37] [⟨3, 25, 0, 0, 0⟩, ⟨7, 57, 133, 1, 0⟩, ⟨9, 73, 99, 1, 0⟩] (fun a => [(0, .isl 1 (rows (cSl 1 (cSl 2 cLeaf)) piles)), (3, .optr 25 0 2 0 0), (5, .int .i64 n1), (7, .osl 57 0), (8, .int .i64 i1), (9, .osl 73 0), (36, .int .i64 n3), (37, .int .i64 a.2.2)]) (fun a => [(25, 0, .box [.int .i64 f.1, .bool f.2]), (57, 0, .row 133 1 (rows (cSl 1 (cSl 2 cLeaf)) a.1)), (73, 0, .row 99 1 (rows (cSl 2 cLeaf) a.2.1))])
          (fun a => 0 ≤ a.2.2 ∧ a.2.2 ≤ x2.length ∧ a.1 = ys1 ∧ a.2.1 = (List.range a.2.2.toNat).map (fun x => layF (pileAt piles i1.toNat x) (pileAt piles (piles.length - 1 - i1.toNat) x) f.2)) (fun a => x2.length - a.2.2.toNat) (ys1, [], 0) ?_ ?_ ?_ ?_
        · cbv
        · (try dsimp only); simp only [rows_nil]; cbv
        · exact ⟨by dsimp only; omega, by dsimp only; omega, rfl, rfl⟩
        rintro ⟨ys2, ys3, i2⟩ ⟨p4, p5, p6, p7⟩ E2 hE2
        dsimp only at p4 p5 p6 p7
        subst p6
        have l3 : ys3.length = i2.toNat := by rw [p7]; simp
        conv => cbv
        refine r_lss m.sX (fun h3 => ?_) (fun h3 => ?_) <;> conv => cbv
        · refine r_draw m (by kernel_rfl) ?_
          conv => cbv
          refine r_index m.sY (by omega) (by omega) fun x3 hx3 => ?_
          conv => cbv
          have c3 := hx0 hx3
          refine r_index m.sY (by omega) (by omega) fun x4 hx4 => ?_
          conv => cbv
          refine r_subf m.sY (by omega) (by omega) fun r2 hr2 => ?_
          conv => cbv
          refine r_subf m.sY (by omega) (by omega) fun r3 hr3 => ?_
          conv => cbv
          refine r_index m.sY (by omega) (by omega) fun x5 hx5 => ?_
          conv => cbv
          have c5 := hx0 hx5
          refine r_index m.sY (by omega) (by omega) fun x6 hx6 => ?_
          conv => cbv
          have c4 := hx00 hx3 hx4
          have c6 := hx00 hx5 hx6
          refine r_callS m.sY ((lay_ok x4 x6 f.2 (by omega) (by omega)).ice) trivial ?_
          conv => cbv
          refine r_append1 ((layF x4 x6 f.2)) m.sY rfl (by first | omega | (dsimp only; omega)) (by first | omega | (dsimp only; omega)) fun zs1 hzs1 => ?_
          conv => cbv
          refine r_addf m.sX (by omega) (by omega) fun r4 hr4 => ?_
          conv => cbv
          refine hE2 _ (ys2, zs1, r4) ?_ ?_ ⟨by dsimp only; omega, by dsimp only; omega, rfl, ?_⟩ (by first | omega | (dsimp only; omega))
          · cbv
          · cbv
          · dsimp only
            rw [hzs1, p7, ← range_snoc _ i2 r4 p4 hr4]
            rw [show layF x4 x6 f.2 = layF (pileAt piles i1.toNat i2.toNat) (pileAt piles (piles.length - 1 - i1.toNat) i2.toNat) f.2 by
              simp only [pileAt]
              rw [hx3, show piles.length - 1 - i1.toNat = r3.toNat by omega, hx5, Option.getD_some, Option.getD_some, hx4, hx6]; rfl]
        · refine r_append1 (ys3) m.sX rfl (by first | omega | (dsimp only; omega)) (by first | omega | (dsimp only; omega)) fun zs2 hzs2 => ?_
          conv => cbv
          refine r_addf m.sX (by omega) (by omega) fun r5 hr5 => ?_
          conv => cbv
          refine hE _ (zs2, r5) ?_ ?_ ⟨by dsimp only; omega, by dsimp only; omega, ?_⟩ (by first | omega | (dsimp only; omega))
          · cbv
          · cbv
          · dsimp only
            rw [hzs2, p3, ← range_snoc _ i1 r5 p1 hr5]
            congr 2
            rw [p7, foldRow, hx2, Option.getD_some, show i2.toNat = x2.length by omega]
      · exact hQ _ (congrArg (fun l => PV.fr 133 1 (rows (cSl 1 (cSl 2 cLeaf)) l)) (by rw [p3, show i1.toNat = piles.length / 2 by omega]))
    · have hres : foldF piles f = piles.map fun row => foldCol f.2 row x1.length := by
        have e0 : piles[0]? = some x1 := hx1
        rw [foldF, if_neg h1, e0]; rfl
      rw [hres] at hQ
      refine r_lenR m.sX fun n4 hn4 mn4 => ?_
      conv => cbv
      refine r_loop (α := List (List (List Leaf)) × Int) m 105 [6, 69, 70, 71] [⟨3, 25, 0, 0, 0⟩, ⟨7, 57, 133, 1, 0⟩] (fun a => [(3, .optr 25 0 2 0 0), (6, .int .i64 n2), (7, .osl 57 0), (69, .isl 1 (rows (cSl 1 (cSl 2 cLeaf)) piles)), (70, .int .i64 n4), (71, .int .i64 a.2)]) (fun a => [(25, 0, .box [.int .i64 f.1, .bool f.2]), (57, 0, .row 133 1 (rows (cSl 1 (cSl 2 cLeaf)) a.1))])
        (fun a => 0 ≤ a.2 ∧ a.2 ≤ piles.length ∧ a.1 = (piles.take a.2.toNat).map (fun row => foldCol f.2 row x1.length)) (fun a => piles.length - a.2.toNat) ([], 0) ?_ ?_ ?_ ?_
      · cbv
      · (try dsimp only); simp only [rows_nil]; cbv
      · exact ⟨by dsimp only; omega, by dsimp only; omega, rfl⟩
      rintro ⟨ys4, i3⟩ ⟨p1, p2, p3⟩ E hE
      dsimp only at p1 p2 p3
      have l1 : ys4.length ≤ piles.length := by rw [p3]; simp; omega
      conv => cbv
      refine r_lss m.sX (fun h4 => ?_) (fun h4 => ?_) <;> conv => cbv
      · refine r_index m.sX (by omega) (by omega) fun x7 hx7 => ?_
        conv => cbv
        have c7 := hx0 hx7
        refine r_loop (α := List (List (List Leaf)) × List (List Leaf) × Int) m 105 [6, 12, 14, 69, 70, 71] [⟨3, 25, 0, 0, 0⟩, ⟨7, 57, 133, 1, 0⟩, ⟨13, 105, 99, 1, 0⟩] (fun a => [(3, .optr 25 0 2 0 0), (6, .int .i64 n2), (7, .osl 57 0), (12, .isl 1 (rows (cSl 2 cLeaf) x7)), (13, .osl 105 0), (14, .int .i64 a.2.2), (69, .isl 1 (rows (cSl 1 (cSl 2 cLeaf)) piles)), (70, .int .i64 n4), (71, .int .i64 i3)]) (fun a => [(25, 0, .box [.int .i64 f.1, .bool f.2]), (57, 0, .row 133 1 (rows (cSl 1 (cSl 2 cLeaf)) a.1)), (105, 0, .row 99 1 (rows (cSl 2 cLeaf) a.2.1))])
          (fun a => 0 ≤ a.2.2 ∧ a.2.2 ≤ x1.length / 2 ∧ a.1 = ys4 ∧ a.2.1 = (List.range a.2.2.toNat).map (fun x => layF ((x7[x]?).getD []) ((x7[x1.length - 1 - x]?).getD []) f.2)) (fun a => x1.length / 2 - a.2.2.toNat) (ys4, [], 0) ?_ ?_ ?_ ?_
        · cbv
        · (try dsimp only); simp only [rows_nil]; cbv
        · exact ⟨by dsimp only; omega, by dsimp only; omega, rfl, rfl⟩
        rintro ⟨ys5, ys6, i4⟩ ⟨p4, p5, p6, p7⟩ E2 hE2
        dsimp only at p4 p5 p6 p7
        subst p6
        have l3 : ys6.length = i4.toNat := by rw [p7]; simp
        conv => cbv
        first | refine r_divf m.sX (by omega) (by omega) fun r6 hr6 br6 => ?_ | refine r_tdivf m.sX (by omega) (by omega) fun r6 hr6 br6 => ?_
        conv => cbv
        refine r_lss m.sX (fun h5 => ?_) (fun h5 => ?_) <;> conv => cbv
        · refine r_draw m (by kernel_rfl) ?_
          conv => cbv
          refine r_index m.sY (by omega) (by omega) fun x8 hx8 => ?_
          conv => cbv
          refine r_subf m.sY (by omega) (by omega) fun r7 hr7 => ?_
          conv => cbv
          refine r_subf m.sY (by omega) (by omega) fun r8 hr8 => ?_
          conv => cbv
          refine r_index m.sY (by omega) (by omega) fun x9 hx9 => ?_
          conv => cbv
          have c8 := hx00 hx7 hx8
          have c9 := hx00 hx7 hx9
          refine r_callS m.sY ((lay_ok x8 x9 f.2 (by omega) (by omega)).ice) trivial ?_
          conv => cbv
          refine r_append1 ((layF x8 x9 f.2)) m.sY rfl (by first | omega | (dsimp only; omega)) (by first | omega | (dsimp only; omega)) fun zs3 hzs3 => ?_
          conv => cbv
          refine r_addf m.sX (by omega) (by omega) fun r9 hr9 => ?_
          conv => cbv
          refine hE2 _ (ys5, zs3, r9) ?_ ?_ ⟨by dsimp only; omega, by dsimp only; omega, rfl, ?_⟩ (by first | omega | (dsimp only; omega))
          · cbv
          · cbv
          · dsimp only
            rw [hzs3, p7, ← range_snoc _ i4 r9 p4 hr9]
            rw [show x1.length - 1 - i4.toNat = r8.toNat by omega, hx8, hx9]; rfl
        · refine r_append1 (ys6) m.sX rfl (by first | omega | (dsimp only; omega)) (by first | omega | (dsimp only; omega)) fun zs4 hzs4 => ?_
          conv => cbv
          refine r_addf m.sX (by omega) (by omega) fun r10 hr10 => ?_
          conv => cbv
          refine hE _ (zs4, r10) ?_ ?_ ⟨by dsimp only; omega, by dsimp only; omega, ?_⟩ (by first | omega | (dsimp only; omega))
          · cbv
          · cbv
          · dsimp only
            rw [hzs4, p3, show r10.toNat = i3.toNat + 1 by omega, List.take_add_one, hx7, List.map_append]
            congr 1
            show [ys6] = [foldCol f.2 x7 x1.length]
            rw [p7, foldCol, show i4.toNat = x1.length / 2 by omega]
      · exact hQ _ (congrArg (fun l => PV.fr 133 1 (rows (cSl 1 (cSl 2 cLeaf)) l)) (by rw [p3, List.take_of_length_le (by omega)]))
end Go.Proofs.YtbamclepgabciaaDoor.Ai
