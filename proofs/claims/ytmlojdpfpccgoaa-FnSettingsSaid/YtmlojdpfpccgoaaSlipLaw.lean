/- Plain laws on slips: types that lie in a wrong box. -/
import Derived.Test.YtmlojdpfpccgoaaInkLaw
namespace Go.Proofs.Ytmlojdpfpccgoaa.Ai
open Go Go.Proofs
set_option linter.unusedSimpArgs false
set_option linter.unusedVariables false

def negI (left : List Int) (i : Nat) : Nat := i + (left.drop i).findIdx fun x => decide (x < 0)
def posI (left : List Int) (k : Nat) : Nat := k + (left.drop k).findIdx fun x => decide (0 < x)
theorem findIdx_drop {p : Int → Bool} {l : List Int} {i : Nat} {x : Int} (h : l[i]? = some x) : i + (l.drop i).findIdx p = if p x = true then i else (i + 1) + (l.drop (i + 1)).findIdx p := by
  have hi := (List.getElem?_eq_some_iff.1 h).1
  rw [List.drop_eq_getElem_cons hi, (List.getElem?_eq_some_iff.1 h).2, List.findIdx_cons]
  cases p x
  · simp; omega
  · simp
theorem negI_step {l : List Int} {i : Nat} {x : Int} (h : l[i]? = some x) (hx : 0 ≤ x) : negI l i = negI l (i + 1) := by
  unfold negI; rw [findIdx_drop h, if_neg (by simp; omega)]
theorem negI_here {l : List Int} {i : Nat} {x : Int} (h : l[i]? = some x) (hx : x < 0) : negI l i = i := by
  unfold negI; rw [findIdx_drop h, if_pos (by simp; omega)]
theorem negI_end {l : List Int} {i : Nat} (h : l.length ≤ i) : negI l i = i := by
  unfold negI; rw [List.drop_of_length_le h]; rfl
theorem posI_step {l : List Int} {i : Nat} {x : Int} (h : l[i]? = some x) (hx : x ≤ 0) : posI l i = posI l (i + 1) := by
  unfold posI; rw [findIdx_drop h, if_neg (by simp; omega)]
theorem posI_here {l : List Int} {i : Nat} {x : Int} (h : l[i]? = some x) (hx : 0 < x) : posI l i = i := by
  unfold posI; rw [findIdx_drop h, if_pos (by simp; omega)]
theorem posI_end {l : List Int} {i : Nat} (h : l.length ≤ i) : posI l i = i := by
  unfold posI; rw [List.drop_of_length_le h]; rfl
def posS (l : List Int) : Int := (l.map (max 0)).sum
theorem posS_nn : ∀ l : List Int, 0 ≤ posS l
  | [] => Int.le_refl _
  | x :: r => by
    have := posS_nn r
    unfold posS at this ⊢
    simp only [List.map_cons, List.sum_cons]
    omega
theorem posS_set : ∀ (l : List Int) (j : Nat) (v : Int), j < l.length → posS (l.set j v) = posS l - max 0 (nth l j) + max 0 v
  | [], j, v, h => by simp at h
  | x :: r, 0, v, _ => by simp [posS, nth]; omega
  | x :: r, j + 1, v, h => by
    have := posS_set r j v (by simpa using h)
    have e : nth (x :: r) (j + 1) = nth r j := by simp [nth]
    rw [e]
    unfold posS at this ⊢
    simp only [List.set_cons_succ, List.map_cons, List.sum_cons, this]
    omega
theorem sum_set2 : ∀ (l : List Int) (j : Nat) (v : Int), j < l.length → (l.set j v).sum = l.sum - nth l j + v
  | [], j, v, h => by simp at h
  | x :: r, 0, v, _ => by simp [nth]; omega
  | x :: r, j + 1, v, h => by
    have := sum_set2 r j v (by simpa using h)
    have e : nth (x :: r) (j + 1) = nth r j := by simp [nth]
    rw [e]
    simp only [List.set_cons_succ, List.sum_cons, this]
    omega
theorem nth_lt {l : List Int} {j : Nat} (h : nth l j ≠ 0) : j < l.length := Classical.byContradiction fun hn => h (nth_out (by omega))
theorem nth_setS {l : List Int} {j k : Nat} {v : Int} : nth (l.set j v) k = if j = k ∧ k < l.length then v else nth l k := by
  by_cases e : j = k
  · subst e
    by_cases hj : j < l.length
    · rw [if_pos ⟨rfl, hj⟩, nth, List.getElem?_set_self hj]; rfl
    · rw [if_neg (fun h => hj h.2), nth, nth, List.getElem?_eq_none (by simp; omega), List.getElem?_eq_none (by omega)]
  · rw [if_neg (fun h => e h.1), nth, List.getElem?_set_ne e, nth]
def stepN (l : List Int) (i k : Nat) : Int := min (min (-nth l i) (nth l k)) 99
def updL (l : List Int) (i k : Nat) : List Int := (l.set i (nth l i + stepN l i k)).set k (nth l k - stepN l i k)
theorem upd_facts {l : List Int} {i k : Nat} (h1 : nth l i < 0) (h2 : 0 < nth l k) : posS (updL l i k) < posS l ∧ (updL l i k).sum = l.sum ∧ (updL l i k).length = l.length ∧ 1 ≤ stepN l i k := by
  have hi := nth_lt (l := l) (j := i) (by omega)
  have hk := nth_lt (l := l) (j := k) (by omega)
  have hne : i ≠ k := fun e => by subst e; omega
  have hn : 1 ≤ stepN l i k ∧ stepN l i k ≤ -nth l i ∧ stepN l i k ≤ nth l k := by unfold stepN; omega
  have e : nth (l.set i (nth l i + stepN l i k)) k = nth l k := by rw [nth_setS, if_neg (fun h => hne h.1)]
  unfold updL
  rw [posS_set _ _ _ (by simpa using hk), sum_set2 _ _ _ (by simpa using hk), e, posS_set _ _ _ hi, sum_set2 _ _ _ hi]
  refine ⟨by omega, by omega, by simp, hn.1⟩
/-- The moves: places to and from, how many. -/
def slipW (l : List Int) (i k : Nat) : List (Nat × Nat × Int) :=
  if h : nth l (negI l i) < 0 ∧ 0 < nth l (posI l k) then (negI l i, posI l k, stepN l (negI l i) (posI l k)) :: slipW (updL l (negI l i) (posI l k)) (negI l i) (posI l k) else []
  termination_by (posS l).toNat
  decreasing_by
    have := (upd_facts h.1 h.2).1
    have := posS_nn (updL l (negI l i) (posI l k))
    omega
theorem slipW_more {l : List Int} {i k : Nat} (h1 : nth l (negI l i) < 0) (h2 : 0 < nth l (posI l k)) : slipW l i k = (negI l i, posI l k, stepN l (negI l i) (posI l k)) :: slipW (updL l (negI l i) (posI l k)) (negI l i) (posI l k) := by
  rw [slipW, dif_pos ⟨h1, h2⟩]
theorem slipW_none {l : List Int} {i k : Nat} (h : ¬ nth l (negI l i) < 0) : slipW l i k = [] := by
  rw [slipW, dif_neg fun hh => h hh.1]
/-- What lies ahead of i is not negative, what lies ahead of k is not positive. -/
structure SlipI (l : List Int) (i k : Nat) : Prop where
  neg : ∀ j < i, 0 ≤ nth l j
  pos : ∀ j < k, nth l j ≤ 0
  sum : l.sum = 0
theorem negI_spec (l : List Int) (i : Nat) : i ≤ negI l i ∧ (∀ j, i ≤ j → j < negI l i → 0 ≤ nth l j) ∧ (i ≤ l.length → negI l i ≤ l.length) ∧ (negI l i < l.length → nth l (negI l i) < 0) := by
  unfold negI
  refine ⟨by omega, fun j h1 h2 => ?_, fun h => ?_, fun h => ?_⟩
  · have hj : j - i < (l.drop i).findIdx fun x => decide (x < 0) := by omega
    have hl : j - i < (l.drop i).length := Nat.lt_of_lt_of_le hj List.findIdx_le_length
    have := List.not_of_lt_findIdx hj
    simp only [List.getElem_drop, decide_eq_false_iff_not, Bool.not_eq_true] at this
    rw [List.length_drop] at hl
    rw [nth, List.getElem?_eq_getElem (by omega)]
    simp only [Option.getD_some]
    have e : i + (j - i) = j := by omega
    simp only [e] at this
    omega
  · have := List.findIdx_le_length (p := fun x => decide (x < 0)) (xs := l.drop i)
    rw [List.length_drop] at this
    omega
  · have hw : (l.drop i).findIdx (fun x => decide (x < 0)) < (l.drop i).length := by rw [List.length_drop]; omega
    have := List.findIdx_getElem (w := hw)
    simp only [List.getElem_drop, decide_eq_true_eq] at this
    rw [nth, List.getElem?_eq_getElem h]
    exact this
theorem posI_spec (l : List Int) (i : Nat) : i ≤ posI l i ∧ (∀ j, i ≤ j → j < posI l i → nth l j ≤ 0) ∧ (i ≤ l.length → posI l i ≤ l.length) ∧ (posI l i < l.length → 0 < nth l (posI l i)) := by
  unfold posI
  refine ⟨by omega, fun j h1 h2 => ?_, fun h => ?_, fun h => ?_⟩
  · have hj : j - i < (l.drop i).findIdx fun x => decide (0 < x) := by omega
    have hl : j - i < (l.drop i).length := Nat.lt_of_lt_of_le hj List.findIdx_le_length
    have := List.not_of_lt_findIdx hj
    simp only [List.getElem_drop, decide_eq_false_iff_not, Bool.not_eq_true] at this
    rw [List.length_drop] at hl
    rw [nth, List.getElem?_eq_getElem (by omega)]
    simp only [Option.getD_some]
    have e : i + (j - i) = j := by omega
    simp only [e] at this
    omega
  · have := List.findIdx_le_length (p := fun x => decide (0 < x)) (xs := l.drop i)
    rw [List.length_drop] at this
    omega
  · have hw : (l.drop i).findIdx (fun x => decide (0 < x)) < (l.drop i).length := by rw [List.length_drop]; omega
    have := List.findIdx_getElem (w := hw)
    simp only [List.getElem_drop, decide_eq_true_eq] at this
    rw [nth, List.getElem?_eq_getElem h]
    exact this
theorem sum_nonneg_zero : ∀ (l : List Int), (∀ j, 0 ≤ nth l j) → 0 ≤ l.sum ∧ (l.sum = 0 → ∀ j, nth l j = 0)
  | [], _ => ⟨by simp, fun _ j => by simp [nth]⟩
  | x :: r, h => by
    have hx := h 0
    have e0 : nth (x :: r) 0 = x := rfl
    rw [e0] at hx
    have ih := sum_nonneg_zero r fun j => by have := h (j + 1); simpa [nth] using this
    refine ⟨by rw [List.sum_cons]; omega, fun hs j => ?_⟩
    rw [List.sum_cons] at hs
    cases j with
    | zero => rw [e0]; omega
    | succ j =>
      have := ih.2 (by omega) j
      simpa [nth] using this
theorem sum_nonpos_zero : ∀ (l : List Int), (∀ j, nth l j ≤ 0) → l.sum ≤ 0 ∧ (l.sum = 0 → ∀ j, nth l j = 0)
  | [], _ => ⟨by simp, fun _ j => by simp [nth]⟩
  | x :: r, h => by
    have hx := h 0
    have e0 : nth (x :: r) 0 = x := rfl
    rw [e0] at hx
    have ih := sum_nonpos_zero r fun j => by have := h (j + 1); simpa [nth] using this
    refine ⟨by rw [List.sum_cons]; omega, fun hs j => ?_⟩
    rw [List.sum_cons] at hs
    cases j with
    | zero => rw [e0]; omega
    | succ j =>
      have := ih.2 (by omega) j
      simpa [nth] using this
theorem slip_both {l : List Int} {i k : Nat} (I : SlipI l i k) : (nth l (negI l i) < 0 ∧ 0 < nth l (posI l k)) ∨ (negI l i ≥ l.length ∧ ∀ j, nth l j = 0) := by
  obtain ⟨n1, n2, n3, n4⟩ := negI_spec l i
  obtain ⟨p1, p2, p3, p4⟩ := posI_spec l k
  by_cases hn : negI l i < l.length
  · left
    refine ⟨n4 hn, Classical.byContradiction fun hp => ?_⟩
    have hall : ∀ j, nth l j ≤ 0 := fun j => by
      by_cases h1 : j < k
      · exact I.pos j h1
      · by_cases h2 : j < posI l k
        · exact p2 j (by omega) h2
        · have h3 : l.length ≤ posI l k := Classical.byContradiction fun h => hp (p4 (by omega))
          rw [nth_out (by omega)]; exact Int.le_refl _
    have := (sum_nonpos_zero l hall).2 I.sum (negI l i)
    have := n4 hn
    omega
  · right
    refine ⟨by omega, (sum_nonneg_zero l fun j => ?_).2 I.sum⟩
    by_cases h1 : j < i
    · exact I.neg j h1
    · by_cases h2 : j < negI l i
      · exact n2 j (by omega) h2
      · rw [nth_out (by omega)]; exact Int.le_refl _
theorem nth_upd {l : List Int} {i k : Nat} (h1 : nth l i < 0) (h2 : 0 < nth l k) (j : Nat) : nth (updL l i k) j = if k = j then nth l k - stepN l i k else if i = j then nth l i + stepN l i k else nth l j := by
  have hi := nth_lt (l := l) (j := i) (by omega)
  have hk := nth_lt (l := l) (j := k) (by omega)
  unfold updL
  rw [nth_setS, nth_setS]
  by_cases e1 : k = j
  · subst e1; rw [if_pos ⟨rfl, by simpa using hk⟩, if_pos rfl]
  · rw [if_neg (fun h => e1 h.1), if_neg e1]
    by_cases e2 : i = j
    · subst e2; rw [if_pos ⟨rfl, hi⟩, if_pos rfl]
    · rw [if_neg (fun h => e2 h.1), if_neg e2]
theorem slipI_next {l : List Int} {i k : Nat} (I : SlipI l i k) (h1 : nth l (negI l i) < 0) (h2 : 0 < nth l (posI l k)) : SlipI (updL l (negI l i) (posI l k)) (negI l i) (posI l k) := by
  obtain ⟨n1, n2, n3, n4⟩ := negI_spec l i
  obtain ⟨p1, p2, p3, p4⟩ := posI_spec l k
  obtain ⟨u1, u2, u3, u4⟩ := upd_facts h1 h2
  have hn : stepN l (negI l i) (posI l k) ≤ -nth l (negI l i) ∧ stepN l (negI l i) (posI l k) ≤ nth l (posI l k) := by unfold stepN; omega
  refine ⟨fun j hj => ?_, fun j hj => ?_, by rw [u2, I.sum]⟩
  · rw [nth_upd h1 h2]
    split
    · omega
    · rw [if_neg (by omega)]
      by_cases h3 : j < i
      · exact I.neg j h3
      · exact n2 j (by omega) hj
  · rw [nth_upd h1 h2, if_neg (by omega)]
    split
    · omega
    · by_cases h3 : j < k
      · exact I.pos j h3
      · exact p2 j (by omega) hj
theorem slipI_zero {l : List Int} (h : l.sum = 0) : SlipI l 0 0 := ⟨fun j hj => by omega, fun j hj => by omega, h⟩
/-! ### Boxes -/
/-- Code, Row, Column, Count. -/
abbrev Box := List UInt8 × Int × Int × Int
/-- Code, Into, N. -/
abbrev Slip := List UInt8 × List UInt8 × Int
theorem less_irr : ∀ a : List UInt8, Op.bytesLess a a = false
  | [] => rfl
  | x :: r => by
    rw [Op.bytesLess, less_irr r]
    simp
theorem less_trans : ∀ {a b c : List UInt8}, Op.bytesLess a b = true → Op.bytesLess b c = true → Op.bytesLess a c = true
  | a, [], c, h, _ => by cases a <;> simp [Op.bytesLess] at h
  | a, y :: b, [], _, h => by simp [Op.bytesLess] at h
  | [], y :: b, z :: c, _, _ => rfl
  | x :: a, y :: b, z :: c, h1, h2 => by
    rw [Op.bytesLess] at h1 h2 ⊢
    simp only [Bool.or_eq_true, decide_eq_true_eq, Bool.and_eq_true, beq_iff_eq] at h1 h2 ⊢
    rcases h1 with h1 | ⟨rfl, h1⟩
    · rcases h2 with h2 | ⟨rfl, h2⟩
      · exact .inl (UInt8.lt_trans h1 h2)
      · exact .inl h1
    · rcases h2 with h2 | ⟨rfl, h2⟩
      · exact .inl h2
      · exact .inr ⟨rfl, less_trans h1 h2⟩
def okBox (b : Box) : Bool := (lettersB b.1 && inB b.1.length 1 3) && (inB b.2.1 0 9 && (inB b.2.2.1 0 9 && inB b.2.2.2 0 9999))
def takenB (l : List Box) (r c : Int) : Bool := l.any fun x => decide (x.2.1 = r) && decide (x.2.2.1 = c)
def riseB (l : List Box) (i : Nat) (b : Box) : Bool := match i with
  | 0 => true
  | j + 1 => match l[j]? with
    | some x => Op.bytesLess x.1 b.1
    | none => true
def boxB (l : List Box) (i : Nat) : Bool := match l[i]? with
  | some b => (okBox b && riseB l i b) && !takenB (l.take i) b.2.1 b.2.2.1
  | none => true
def caseT (l : List Box) (n : Nat) : Bool := (List.range n).all (boxB l)
def caseB (l : List Box) : Bool := caseT l l.length && inB l.length 1 32
theorem caseT_step (l : List Box) (n : Nat) : caseT l (n + 1) = (caseT l n && boxB l n) := by simp [caseT, List.range_succ, List.all_append]
theorem caseT_false {l : List Box} {n : Nat} (hn : n < l.length) (h : boxB l n = false) : caseB l = false := by
  unfold caseB caseT
  have : (List.range l.length).all (boxB l) = false := by
    rw [Bool.eq_false_iff]
    intro hh
    have := List.all_eq_true.1 hh n (List.mem_range.2 hn)
    rw [h] at this; cases this
  rw [this]; rfl
theorem case_less {l : List Box} (h : caseB l = true) : ∀ (j i : Nat) (x y : Box), i < j → l[i]? = some x → l[j]? = some y → Op.bytesLess x.1 y.1 = true
  | 0, i, x, y, hij, _, _ => by omega
  | j + 1, i, x, y, hij, hx, hy => by
    have hj := (List.getElem?_eq_some_iff.1 hy).1
    have hb : boxB l (j + 1) = true := by
      simp only [caseB, Bool.and_eq_true] at h
      exact List.all_eq_true.1 h.1 (j + 1) (List.mem_range.2 hj)
    have hz : l[j]? = some l[j] := List.getElem?_eq_getElem (by omega)
    have hr : Op.bytesLess l[j].1 y.1 = true := by
      unfold boxB at hb
      rw [hy] at hb
      simp only [riseB, hz, Bool.and_eq_true] at hb
      exact hb.1.2
    by_cases e : i = j
    · subst e
      obtain rfl := Option.some.inj (hz.symm.trans hx)
      exact hr
    · exact less_trans (case_less h j i x l[j] (by omega) hx hz) hr
theorem case_inj {l : List Box} (h : caseB l = true) {i j : Nat} {x y : Box} (hx : l[i]? = some x) (hy : l[j]? = some y) (e : x.1 = y.1) : i = j := by
  refine Classical.byContradiction fun hn => ?_
  rcases Nat.lt_or_gt_of_ne hn with hlt | hlt
  · have := case_less h j i x y hlt hx hy
    rw [e, less_irr] at this; cases this
  · have := case_less h i j y x hlt hy hx
    rw [e, less_irr] at this; cases this
theorem case_box {l : List Box} (h : caseB l = true) {x : Box} (hx : x ∈ l) : okBox x = true := by
  obtain ⟨i, hi, rfl⟩ := List.mem_iff_getElem.1 hx
  simp only [caseB, Bool.and_eq_true] at h
  have hb := List.all_eq_true.1 h.1 i (List.mem_range.2 hi)
  unfold boxB at hb
  rw [List.getElem?_eq_getElem hi] at hb
  simp only [Bool.and_eq_true] at hb
  exact hb.1.1
/-- The first box of a code, -1 if there is none. -/
def findB (c : List UInt8) : List Box → Int → Int
  | [], _ => -1
  | x :: r, i => if x.1 = c then i else findB c r (i + 1)
theorem findB_drop {c : List UInt8} {l : List Box} {i : Nat} {x : Box} (k : Int) (h : l[i]? = some x) : findB c (l.drop i) k = if x.1 = c then k else findB c (l.drop (i + 1)) (k + 1) := by
  have hi := (List.getElem?_eq_some_iff.1 h).1
  rw [List.drop_eq_getElem_cons hi, findB, (List.getElem?_eq_some_iff.1 h).2]
theorem findB_codes {c : List UInt8} : ∀ (a b : List Box) (i : Int), a.map (fun x => x.1) = b.map (fun x => x.1) → findB c a i = findB c b i
  | [], [], _, _ => rfl
  | [], _ :: _, _, h => by simp at h
  | _ :: _, [], _, h => by simp at h
  | x :: r, y :: t, i, h => by
    simp only [List.map_cons, List.cons.injEq] at h
    rw [findB, findB, h.1, findB_codes r t (i + 1) h.2]
theorem findB_in {c : List UInt8} : ∀ (l : List Box) (i : Int), 0 ≤ i → findB c l i = -1 ∨ (i ≤ findB c l i ∧ findB c l i < i + l.length ∧ ∃ x, l[(findB c l i - i).toNat]? = some x ∧ x.1 = c)
  | [], i, _ => .inl rfl
  | x :: r, i, h => by
    rw [findB]
    split
    · rename_i e
      exact .inr ⟨Int.le_refl _, by simp; omega, x, by simp, e⟩
    · rcases findB_in (c := c) r (i + 1) (by omega) with e | ⟨h1, h2, y, h3, h4⟩
      · exact .inl e
      · refine .inr ⟨by omega, by simp only [List.length_cons]; omega, y, ?_, h4⟩
        rw [show (findB c r (i + 1) - i).toNat = (findB c r (i + 1) - (i + 1)).toNat + 1 by omega, List.getElem?_cons_succ]
        exact h3
theorem findB_at {l : List Box} (h : caseB l = true) {j : Nat} {x : Box} (hx : l[j]? = some x) : findB x.1 l 0 = j := by
  rcases findB_in (c := x.1) l 0 (by omega) with e | ⟨h1, h2, y, h3, h4⟩
  · exfalso
    have go : ∀ (l : List Box) (i : Int), 0 ≤ i → findB x.1 l i = -1 → ∀ y ∈ l, y.1 ≠ x.1 := by
      intro l
      induction l with
      | nil => intro i _ _ y hy; cases hy
      | cons z r ih =>
        intro i hi hf y hy
        rw [findB] at hf
        split at hf
        · omega
        · rename_i hz
          rcases List.mem_cons.1 hy with rfl | hy
          · exact hz
          · exact ih (i + 1) (by omega) hf y hy
    exact go l 0 (by omega) e x (List.mem_of_getElem? hx) rfl
  · have := case_inj h h3 hx h4
    omega
/-- n more in box j. -/
def addC (l : List Box) (j : Nat) (n : Int) : List Box := match l[j]? with
  | some x => l.set j (x.1, x.2.1, x.2.2.1, x.2.2.2 + n)
  | none => l
theorem addC_codes (l : List Box) (j : Nat) (n : Int) : (addC l j n).map (fun x => x.1) = l.map (fun x => x.1) := by
  unfold addC
  split
  · rename_i x hx
    rw [List.map_set]
    apply List.ext_getElem?
    intro k
    by_cases e : j = k
    · subst e
      have hj := (List.getElem?_eq_some_iff.1 hx).1
      rw [List.getElem?_set_self (by simpa using hj), List.getElem?_map, hx]; rfl
    · rw [List.getElem?_set_ne e]
  · rfl
def cnt (l : List Box) (j : Nat) : Int := (l[j]?.map fun x => x.2.2.2).getD 0
theorem cnt_add {l : List Box} {j : Nat} {n : Int} (hj : j < l.length) (k : Nat) : cnt (addC l j n) k = if j = k then cnt l k + n else cnt l k := by
  unfold addC cnt
  rw [List.getElem?_eq_getElem hj]
  by_cases e : j = k
  · subst e
    rw [if_pos rfl, List.getElem?_set_self hj, List.getElem?_eq_getElem hj]; rfl
  · rw [if_neg e, List.getElem?_set_ne e]
end Go.Proofs.Ytmlojdpfpccgoaa.Ai
