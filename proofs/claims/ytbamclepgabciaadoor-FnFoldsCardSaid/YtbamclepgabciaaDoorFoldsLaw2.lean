/- What is asked of the pile, the sides, the schemes: as facts. -/
import Derived.Test.YtbamclepgabciaaDoorFoldsLaw
import Derived.Lib.Join
namespace Go.Proofs.YtbamclepgabciaaDoor.Ai
open Go Go.Proofs
set_option linter.unusedSimpArgs false
set_option linter.unusedVariables false

/-! ### What the walks need -/
theorem mul_toNat {a b : Int} (ha : 0 ≤ a) (hb : 0 ≤ b) : (a * b).toNat = a.toNat * b.toNat := by
  obtain ⟨m, rfl⟩ := Int.eq_ofNat_of_zero_le ha
  obtain ⟨n, rfl⟩ := Int.eq_ofNat_of_zero_le hb
  rw [← Int.natCast_mul, Int.toNat_natCast, Int.toNat_natCast, Int.toNat_natCast]
theorem at_one {p : List (List Int)} {y c k i : Int} {x : List Int} (hx : p[i.toNat]? = some x) (hi : i = y * c + k) (h0 : 0 ≤ y) (h1 : 0 ≤ c) (h2 : 0 ≤ k) : at2 p (y.toNat * c.toNat + k.toNat) = x := by
  have e := mul_toNat h0 h1
  have h3 := Int.mul_nonneg h0 h1
  rw [← e, ← Int.toNat_add h3 h2, ← hi, at2, hx]; rfl
theorem at_two {p : List (List Int)} {y c k i : Int} {x : List Int} (hx : p[i.toNat]? = some x) (hi : i = y * c + c - 1 - k) (h0 : 0 ≤ y) (h1 : 0 ≤ c) (h2 : 0 ≤ k) (h3 : k < c) : at2 p (y.toNat * c.toNat + c.toNat - 1 - k.toNat) = x := by
  have e := mul_toNat h0 h1
  have h4 := Int.mul_nonneg h0 h1
  have : y.toNat * c.toNat + c.toNat - 1 - k.toNat = i.toNat := by rw [← e]; omega
  rw [this, at2, hx]; rfl
theorem at_three {p : List (List Int)} {y c r k i : Int} {x : List Int} (hx : p[i.toNat]? = some x) (hi : i = (r - 1 - y) * c + k) (h0 : 0 ≤ y) (hy : y < r) (h1 : 0 ≤ c) (h2 : 0 ≤ k) : at2 p ((r.toNat - 1 - y.toNat) * c.toNat + k.toNat) = x := by
  have := at_one hx hi (by omega) h1 h2
  rwa [show (r - 1 - y).toNat = r.toNat - 1 - y.toNat by omega] at this
structure StOk (p : List (List Int)) (c r : Nat) : Prop where
  len : p.length = c * r
  c1 : 1 ≤ c ∧ c ≤ 16
  r1 : 1 ≤ r ∧ r ≤ 16
  small : ∀ l ∈ p, l.length ≤ 16 ∧ ∀ x ∈ l, -16 ≤ x ∧ x ≤ 16
theorem st_at {fs : List Fold} (hg : goodF fs = true) {i : Nat} (hi : i ≤ fs.length) : StOk (imState fs i).1 (imState fs i).2.1 (imState fs i).2.2 := by
  have h := good_all hg all1
  simp only [chk1, Bool.and_eq_true] at h
  have h1 := List.all_eq_true.1 h.1 i (List.mem_range.2 (by omega))
  simp only [stOk, Bool.and_eq_true, decide_eq_true_eq, List.all_eq_true] at h1
  obtain ⟨⟨⟨⟨⟨a, b⟩, c⟩, d⟩, e⟩, f⟩ := h1
  exact ⟨a, ⟨b, c⟩, ⟨d, e⟩, f⟩
theorem st_next {fs : List Fold} {i : Nat} {f : Fold} (hf : fs[i]? = some f) : imState fs (i + 1) = imStep (imState fs i) f := by
  rw [imState, List.take_add_one, hf, Option.toList_some, List.foldl_append]; rfl
theorem st_zero (fs : List Fold) : imState fs 0 = imInit fs := rfl
theorem pile_fold {fs : List Fold} (hg : goodF fs = true) : imPileL fs = (foldedF fs).map leafI := by
  have h := good_all hg all1
  simp only [chk1, Bool.and_eq_true, decide_eq_true_eq] at h
  exact h.2
structure SidesOk (fs : List Fold) : Prop where
  front : sidesL fs true = pagesL fs true
  back : sidesL fs false = pagesL fs false
  order : (imPileL fs).map (fun x => (x.natAbs : Int) - 1) = (foldedF fs).map (·.1)
  cell : ∀ x ∈ foldedF fs, 0 ≤ x.1 ∧ x.1 < ((foldedF fs).length : Int)
  pile : ∀ x ∈ imPileL fs, x ≠ 0 ∧ x.natAbs ≤ (imPileL fs).length
  len : (imPileL fs).length = (foldedF fs).length
theorem sides_ok {fs : List Fold} (hg : goodF fs = true) : SidesOk fs := by
  have h := good_all hg all2
  simp only [chk2, Bool.and_eq_true, decide_eq_true_eq, List.all_eq_true] at h
  obtain ⟨⟨⟨⟨a, b⟩, c⟩, d⟩, e⟩ := h
  exact ⟨a, b, c, d, e, by have := congrArg List.length c; simpa using this⟩
theorem find_ok {fs : List Fold} (hg : goodF fs = true) {page : Int} (h0 : 1 ≤ page) (h1 : page ≤ 2 * (2 ^ fs.length : Nat)) : findP page (pagesL fs true) (pagesL fs false) 0 = placeF fs page := by
  have h := good_all hg all3
  simp only [chk3, List.all_eq_true, decide_eq_true_eq] at h
  have := h (page - 1).toNat (List.mem_range.2 (by omega))
  rwa [show ((page - 1).toNat : Int) + 1 = page by omega] at this
structure TextOk (fs : List Fold) : Prop where
  text : schI (2 ^ wide fs) 16 (pagesL fs true) = schL fs
  front : ∀ x ∈ pagesL fs true, 1 ≤ x ∧ x ≤ 32
  back : ∀ x ∈ pagesL fs false, 1 ≤ x ∧ x ≤ 32
  size : (pagesL fs true).length = 2 ^ wide fs * 2 ^ high fs
  lenb : (pagesL fs false).length = 2 ^ fs.length
  lenf : (pagesL fs true).length = 2 ^ fs.length
theorem text_ok {fs : List Fold} (hg : goodF fs = true) : TextOk fs := by
  have h := good_all hg all4
  simp only [chk4, Bool.and_eq_true, decide_eq_true_eq, List.all_eq_true] at h
  obtain ⟨⟨⟨⟨⟨a, b⟩, c⟩, d⟩, e⟩, f⟩ := h
  exact ⟨a, b, c, d, e, f⟩
theorem itoa_dg {n : Int} (h0 : 0 ≤ n) (h1 : n < 100) : Lib.itoa n = dg n := by
  rw [Lib.itoa, if_neg (by omega), dg]
  by_cases h : n < 10
  · rw [if_pos h, Lib.decDigits_one (by omega)]
  · rw [if_neg h, Lib.decDigits_two (by omega) (by omega)]
theorem dg_len (n : Int) : 1 ≤ (dg n).length ∧ (dg n).length ≤ 2 := by unfold dg; split <;> simp
theorem join_dg : ∀ {l : List Int}, (∀ n ∈ l, 0 ≤ n ∧ n < 100) → Lib.join (l.map Lib.itoa) [44] = joinC l
  | [], _ => rfl
  | [x], h => by have := h x (by simp); rw [List.map_cons, List.map_nil, Lib.join_one, itoa_dg this.1 this.2]; rfl
  | x :: y :: r, h => by
    have hx := h x (by simp)
    have ih := join_dg (l := y :: r) fun n hn => h n (List.mem_cons_of_mem _ hn)
    rw [List.map_cons, Lib.join_cons] at ih
    rw [List.map_cons, List.map_cons, Lib.join_cons, joinC, ← ih, itoa_dg hx.1 hx.2]
    simp [Lib.joinTail]
structure LawOk (fs : List Fold) (i : Nat) (a b : Int) : Prop where
  one : 1 ≤ min a b
  most : max a b ≤ 2 * (2 ^ fs.length : Nat)
  two : max a b = min a b + 1
  odd : min a b % 2 = 1
  met : (metAt fs i)[(min a b).toNat]? = some false
  order : ((foldedF fs).map (·.1))[(min a b / 2).toNat]? = some (i : Int)
  front : placeF fs a = ((i : Int), true, true)
  back : placeF fs b = ((i : Int), false, true)
theorem low_at {fs : List Fold} {i : Nat} {a b : Int} (ha : (pagesL fs true)[i]? = some a) (hb : (pagesL fs false)[i]? = some b) : lowAt fs i = min a b := by
  rw [lowAt, List.getD_eq_getElem?_getD, List.getD_eq_getElem?_getD, ha, hb]; rfl
theorem law_at {fs : List Fold} (hg : goodF fs = true) {i : Nat} {a b : Int} (ha : (pagesL fs true)[i]? = some a) (hb : (pagesL fs false)[i]? = some b) : LawOk fs i a b := by
  have h := good_all hg all5
  have hi := (List.getElem?_eq_some_iff.1 ha).1
  rw [(text_ok hg).lenf] at hi
  simp only [chk5, List.all_eq_true, Bool.and_eq_true, decide_eq_true_eq] at h
  have h1 := h i (List.mem_range.2 hi)
  rw [low_at ha hb, List.getD_eq_getElem?_getD, List.getD_eq_getElem?_getD, ha, hb] at h1
  obtain ⟨⟨⟨⟨⟨⟨⟨c1, c2⟩, c3⟩, c4⟩, c5⟩, c6⟩, c7⟩, c8⟩ := h1
  exact ⟨c1, c2, c3, c4, c5, c6, c7, c8⟩
theorem met_next {fs : List Fold} {i : Nat} {a b : Int} (ha : (pagesL fs true)[i]? = some a) (hb : (pagesL fs false)[i]? = some b) : metAt fs (i + 1) = (metAt fs i).set (min a b).toNat true := by
  rw [metAt, List.range_succ, List.map_append, List.foldl_append, ← metAt]
  simp only [List.map_cons, List.map_nil, List.foldl_cons, List.foldl_nil]
  rw [low_at ha hb]
theorem metAt_length (fs : List Fold) : ∀ i, (metAt fs i).length = 2 * 2 ^ fs.length + 1
  | 0 => by simp [metAt]
  | i + 1 => by
    rw [metAt, List.range_succ, List.map_append, List.foldl_append, ← metAt]
    simp only [List.map_cons, List.map_nil, List.foldl_cons, List.foldl_nil, List.length_set]
    exact metAt_length fs i
end Go.Proofs.YtbamclepgabciaaDoor.Ai
