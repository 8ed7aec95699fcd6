/- Plain laws on register marks. -/
import Derived.Test.YtngefbdedbbplaaCommon
namespace Go.Proofs.Ytngefbdedbbplaa.Ai
open Go Go.Proofs
set_option linter.unusedSimpArgs false
set_option linter.unusedVariables false

def absI (n : Int) : Int := max n (-n)
def apartL : List Int → List Int → Int → Int
  | b :: bs, r :: rs, s => absI (b - r - s) + apartL bs rs s
  | _, _, _ => 0
theorem absI_bound {n M : Int} (h : -M ≤ n ∧ n ≤ M) : 0 ≤ absI n ∧ absI n ≤ M := by simp only [absI]; omega
theorem apartL_nonneg : ∀ (b r : List Int) (s : Int), 0 ≤ apartL b r s
  | b :: bs, r :: rs, s => by
    have := apartL_nonneg bs rs s
    have : 0 ≤ absI (b - r - s) := by simp only [absI]; omega
    simp only [apartL]; omega
  | [], _, _ => by simp [apartL]
  | _ :: _, [], _ => by simp [apartL]
theorem apartL_bound {M : Int} (hM : 0 ≤ M) : ∀ (b r : List Int) (s : Int), (∀ x ∈ b, 0 ≤ x ∧ x ≤ M) → (∀ x ∈ r, 0 ≤ x ∧ x ≤ M) → -M ≤ s ∧ s ≤ M → apartL b r s ≤ 2 * M * b.length
  | b :: bs, r :: rs, s, hb, hr, hs => by
    have h1 := apartL_bound hM bs rs s (fun x hx => hb x (by simp [hx])) (fun x hx => hr x (by simp [hx])) hs
    have h2 := hb b (by simp)
    have h3 := hr r (by simp)
    have : absI (b - r - s) ≤ 2 * M := by simp only [absI]; omega
    simp only [apartL, List.length_cons, Int.natCast_add, Int.mul_add]
    have : 2 * M * ((1 : Nat) : Int) = 2 * M := by simp
    omega
  | [], _, _, _, _, _ => by simp [apartL]
  | b :: bs, [], _, _, _, _ => by
    simp only [apartL]
    exact Int.mul_nonneg (by omega) (by omega)
def okMarks (l : List Int) : Bool := allB l 0 1000 && inB l.length 1 8
def okReg (b r : List Int) (m : Int) : Bool := okMarks b && (okMarks r && (decide (b.length = r.length) && inB m 0 20))
structure RegOk (b r : List Int) (m : Int) : Prop where
  xb : ∀ x ∈ b, 0 ≤ x ∧ x ≤ 1000
  xr : ∀ x ∈ r, 0 ≤ x ∧ x ≤ 1000
  len : b.length = r.length
  few : 1 ≤ b.length ∧ b.length ≤ 8
  most : 0 ≤ m ∧ m ≤ 20
theorem okMarks_spec {l : List Int} (h : okMarks l = true) : (∀ x ∈ l, 0 ≤ x ∧ x ≤ 1000) ∧ (1 ≤ l.length ∧ l.length ≤ 8) := by
  rw [okMarks, Bool.and_eq_true] at h
  have := inB_spec h.2
  exact ⟨allB_mem h.1, by omega⟩
theorem okReg_spec {b r : List Int} {m : Int} (h : okReg b r m = true) : RegOk b r m := by
  simp only [okReg, Bool.and_eq_true, decide_eq_true_eq] at h
  obtain ⟨h1, h2, h3, h4⟩ := h
  exact ⟨(okMarks_spec h1).1, (okMarks_spec h2).1, h3, (okMarks_spec h1).2, inB_spec h4⟩

def stp (A : Int → Int) (st : Int × Int) (s : Int) : Int × Int := if st.2 < 0 ∨ A s < st.2 then (s, A s) else st
def runP (A : Int → Int) : Nat → Int → Int × Int → Int × Int
  | 0, _, st => st
  | k + 1, n, st => runP A k (n + 1) ([-n, n].foldl (stp A) st)
def stB (A : Int → Int) (b s : Int) : Int := if A s < A b then s else b
def bestR (A : Int → Int) : Nat → Int → Int → Int
  | 0, _, b => b
  | k + 1, n, b => bestR A k (n + 1) ([-n, n].foldl (stB A) b)
theorem stp_eq {A : Int → Int} (hA : ∀ s, 0 ≤ A s) (b s : Int) : stp A (b, A b) s = (stB A b s, A (stB A b s)) := by
  have := hA b
  unfold stp stB
  by_cases h : A s < A b
  · rw [if_pos (.inr h), if_pos h]
  · rw [if_neg (by simp only; omega), if_neg h]
theorem runP_best {A : Int → Int} (hA : ∀ s, 0 ≤ A s) : ∀ (k : Nat) (n b : Int), runP A k n (b, A b) = (bestR A k n b, A (bestR A k n b))
  | 0, _, _ => rfl
  | k + 1, n, b => by
    rw [runP, bestR]
    simp only [List.foldl_cons, List.foldl_nil]
    rw [stp_eq hA, stp_eq hA, runP_best hA k]
theorem runP_first {A : Int → Int} (hA : ∀ s, 0 ≤ A s) (k : Nat) : runP A (k + 1) 0 (0, -1) = (bestR A k 1 0, A (bestR A k 1 0)) := by
  rw [runP]
  simp only [List.foldl_cons, List.foldl_nil]
  have e : stp A (0, -1) (-0) = (0, A 0) := by unfold stp; rw [if_pos (.inl (by simp))]; simp
  rw [e, stp_eq hA, show stB A 0 0 = 0 by unfold stB; split <;> rfl]
  exact runP_best hA k 1 0
theorem stB_le (A : Int → Int) (b s : Int) : A (stB A b s) ≤ A b ∧ A (stB A b s) ≤ A s ∧ (stB A b s = b ∨ stB A b s = s) := by
  unfold stB
  split
  · exact ⟨by omega, Int.le_refl _, .inr rfl⟩
  · exact ⟨Int.le_refl _, by omega, .inl rfl⟩
theorem bestR_min (A : Int → Int) : ∀ (k : Nat) (n b : Int), A (bestR A k n b) ≤ A b ∧ (∀ j, n ≤ j → j < n + k → A (bestR A k n b) ≤ A j ∧ A (bestR A k n b) ≤ A (-j)) ∧ (bestR A k n b = b ∨ ∃ j, n ≤ j ∧ j < n + k ∧ (bestR A k n b = j ∨ bestR A k n b = -j))
  | 0, n, b => ⟨Int.le_refl _, fun j h1 h2 => by omega, .inl rfl⟩
  | k + 1, n, b => by
    rw [bestR]
    simp only [List.foldl_cons, List.foldl_nil]
    obtain ⟨h1, h2, h3⟩ := bestR_min A k (n + 1) (stB A (stB A b (-n)) n)
    obtain ⟨a1, a2, a3⟩ := stB_le A b (-n)
    obtain ⟨b1, b2, b3⟩ := stB_le A (stB A b (-n)) n
    refine ⟨by omega, fun j j1 j2 => ?_, ?_⟩
    · rcases Int.lt_or_eq_of_le j1 with hl | rfl
      · exact h2 j (by omega) (by omega)
      · omega
    · rcases h3 with h3 | ⟨j, j1, j2, h3⟩
      · rw [h3]
        rcases b3 with b3 | b3
        · rw [b3]
          rcases a3 with a3 | a3
          · exact .inl a3
          · exact .inr ⟨n, Int.le_refl _, by omega, .inr a3⟩
        · exact .inr ⟨n, Int.le_refl _, by omega, .inl b3⟩
      · exact .inr ⟨j, by omega, by omega, h3⟩
def regA (b r : List Int) (m : Int) : Int × Bool := if okReg b r m then (bestR (apartL b r) m.toNat 1 0, true) else (0, false)
theorem reg_ok {b r : List Int} {m s : Int} {ok : Bool} (h : (s, ok) = regA b r m) : okReg b r m = ok := by
  unfold regA at h
  split at h <;> simp_all
theorem reg_val {b r : List Int} {m s : Int} (h : (s, true) = regA b r m) : (-m ≤ s ∧ s ≤ m) ∧ ∀ k, -m ≤ k → k ≤ m → apartL b r s ≤ apartL b r k := by
  have e := reg_ok h
  have hm := (okReg_spec e).most
  rw [regA, if_pos e] at h
  obtain rfl := (Prod.mk.inj h).1
  obtain ⟨h1, h2, h3⟩ := bestR_min (apartL b r) m.toNat 1 0
  refine ⟨?_, fun k k1 k2 => ?_⟩
  · rcases h3 with h3 | ⟨j, j1, j2, h3 | h3⟩ <;> omega
  · rcases Int.lt_trichotomy k 0 with h | rfl | h
    · have := (h2 (-k) (by omega) (by omega)).2
      rwa [Int.neg_neg] at this
    · exact h1
    · exact (h2 k (by omega) (by omega)).1
theorem foldl_drop {α β : Type} (f : β → α → β) (a : β) {l : List α} {i : Nat} {x : α} (h : l[i]? = some x) : (l.drop i).foldl f a = (l.drop (i + 1)).foldl f (f a x) := by
  have hi := (List.getElem?_eq_some_iff.1 h).1
  rw [List.drop_eq_getElem_cons hi, List.foldl_cons, (List.getElem?_eq_some_iff.1 h).2]
theorem apartL_drop {b r : List Int} {i : Nat} {x y : Int} (s : Int) (hx : b[i]? = some x) (hy : r[i]? = some y) : apartL (b.drop i) (r.drop i) s = absI (x - y - s) + apartL (b.drop (i + 1)) (r.drop (i + 1)) s := by
  have h1 := (List.getElem?_eq_some_iff.1 hx).1
  have h2 := (List.getElem?_eq_some_iff.1 hy).1
  rw [List.drop_eq_getElem_cons h1, List.drop_eq_getElem_cons h2, apartL, (List.getElem?_eq_some_iff.1 hx).2, (List.getElem?_eq_some_iff.1 hy).2]
theorem apartL_end {b r : List Int} {i : Nat} (s : Int) (h : b.length ≤ i ∨ r.length ≤ i) : apartL (b.drop i) (r.drop i) s = 0 := by
  rcases h with h | h
  · rw [List.drop_of_length_le h]; simp [apartL]
  · rw [List.drop_of_length_le h]; cases b.drop i <;> simp [apartL]
theorem reg_fin {A : Int → Int} (hA : ∀ s, 0 ≤ A s) {most best least : Int} (h : runP A (most + 1 - 0).toNat 0 (0, -1) = (best, least)) (hm : 0 ≤ most) : bestR A most.toNat 1 0 = best := by
  rw [show (most + 1 - 0).toNat = most.toNat + 1 by omega, runP_first hA] at h
  exact (Prod.mk.inj h).1
theorem okReg_alt (b r : List Int) (m : Int) : okReg b r m = (inB b.length 1 8 && (decide (r.length = b.length) && (allB b 0 1000 && (allB r 0 1000 && inB m 0 20)))) := by
  unfold okReg okMarks
  by_cases e : b.length = r.length
  · rw [decide_eq_true e, decide_eq_true e.symm, e]
    cases allB b 0 1000 <;> cases inB r.length 1 8 <;> cases allB r 0 1000 <;> rfl
  · rw [decide_eq_false e, decide_eq_false (fun e' => e e'.symm)]
    cases allB b 0 1000 <;> cases inB b.length 1 8 <;> cases allB r 0 1000 <;> cases inB r.length 1 8 <;> rfl
end Go.Proofs.Ytngefbdedbbplaa.Ai
