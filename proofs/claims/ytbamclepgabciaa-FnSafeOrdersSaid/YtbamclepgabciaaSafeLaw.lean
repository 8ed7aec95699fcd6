/- Plain laws on safe orders, on what must be cast, on forms that are finished. -/
import Derived.Test.YtbamclepgabciaaFormLaw
namespace Go.Proofs.Ytbamclepgabciaa.Ai
open Go Go.Proofs
set_option linter.unusedVariables false
set_option linter.unusedSimpArgs false
/-! ### Forms with more free types than are drawn -/
def formsW (free : List Int) (l : List PForm) : Bool := l.all (formB free.length) && (inB free.length 1 6 && (allB free 0 2000 && decide (l.length ≤ 8)))
theorem formsW_of {free : List Int} {l : List PForm} (h : formsB free l = true) : formsW free l = true := by
  simp only [formsB, Bool.and_eq_true] at h
  simp only [formsW, Bool.and_eq_true]
  exact ⟨h.1, h.2.1, allB_up h.2.2.1 (by omega), h.2.2.2⟩
theorem formsW_spec {free : List Int} {l : List PForm} (h : formsW free l = true) : (∀ x ∈ l, formB free.length x = true) ∧ (1 ≤ free.length ∧ free.length ≤ 6) ∧ allB free 0 2000 = true ∧ l.length ≤ 8 := by
  simp only [formsW, Bool.and_eq_true, List.all_eq_true, decide_eq_true_eq] at h
  have := inB_spec h.2.1
  exact ⟨h.1, by omega, h.2.2.1, h.2.2.2⟩
/-! ### The steps of an order -/
inductive StepsF (l : List PForm) : List Int → List Int → Prop
  | nil (free : List Int) : StepsF l free []
  | cons (free : List Int) (i : Int) (x : PForm) (r : List Int) (h0 : 0 ≤ i) (hx : l[i.toNat]? = some x) (hc : canF free x = true) (hr : StepsF l (plusL free x.1 1) r) : StepsF l free (i :: r)
theorem ordG_steps {l : List PForm} : ∀ (n : Nat) (free o : List Int), ∃ t, ordG l n free o = o ++ t ∧ StepsF l free t
  | 0, free, o => ⟨[], by simp [ordG], .nil _⟩
  | n + 1, free, o => by
    rw [ordG]
    split
    · exact ⟨[], by simp, .nil _⟩
    · rename_i hf
      rcases firstG_spec free o l 0 (by omega) with ⟨h1, _⟩ | ⟨h1, h2, h3, x, h4, h5, _⟩
      · omega
      · rw [Int.sub_zero] at h4
        obtain ⟨t, e, ht⟩ := ordG_steps n (plusL free (heldAt l (firstG free o l 0)) 1) (o ++ [firstG free o l 0])
        refine ⟨firstG free o l 0 :: t, by rw [e]; simp, .cons _ _ x _ h1 h4 h5 ?_⟩
        rwa [heldAt_some h4] at ht
theorem order_steps (free : List Int) (l : List PForm) : StepsF l free (orderA free l) := by
  obtain ⟨t, e, ht⟩ := ordG_steps (l := l) l.length free []
  rw [orderA, e]
  simpa using ht
theorem StepsF.head {l : List PForm} {free : List Int} {i : Int} {r : List Int} (h : StepsF l free (i :: r)) : ∃ x, 0 ≤ i ∧ l[i.toNat]? = some x ∧ canF free x = true ∧ StepsF l (plusL free x.1 1) r := by
  cases h with
  | cons _ _ x _ h0 hx hc hr => exact ⟨x, h0, hx, hc, hr⟩
theorem canF_at {free : List Int} {x : PForm} (h : canF free x = true) {k : Nat} (hk : k < x.2.length) : nth x.2 k ≤ nth free k := by
  simp only [canF, List.all_eq_true, List.mem_range, decide_eq_true_eq] at h
  exact h k hk
/-! ### Safe orders -/
def safeOA (free : List Int) (l : List PForm) : List Int × Bool := if formsB free l && isSafeB free l then (orderA free l, true) else ([], false)
theorem safeOA_yes {free : List Int} {l : List PForm} (h1 : formsB free l = true) (h2 : (orderA free l).length = l.length) : (orderA free l, true) = safeOA free l := by
  rw [safeOA, if_pos (by rw [h1, isSafeB, decide_eq_true h2]; rfl)]
theorem safeOA_no1 {free : List Int} {l : List PForm} (h1 : formsB free l = false) : ([], false) = safeOA free l := by
  rw [safeOA, if_neg (by rw [h1]; simp)]
theorem safeOA_no2 {free : List Int} {l : List PForm} (h : isSafeB free l = false) : ([], false) = safeOA free l := by
  rw [safeOA, if_neg (by rw [h]; simp)]
theorem safeOA_ok {free : List Int} {l : List PForm} {o : List Int} {ok : Bool} (h : (o, ok) = safeOA free l) : ok = (formsB free l && isSafeB free l) := by
  unfold safeOA at h
  split at h
  · rename_i hc; rw [hc]; exact (Prod.mk.inj h).2
  · rename_i hc; rw [(Prod.mk.inj h).2]; simpa using hc
theorem safeOA_spec {free : List Int} {l : List PForm} {o : List Int} (h : (o, true) = safeOA free l) : o = orderA free l ∧ formsB free l = true ∧ isSafeB free l = true ∧ o.length = l.length := by
  have hk := (safeOA_ok h).symm
  rw [safeOA, if_pos hk] at h
  simp only [Bool.and_eq_true] at hk
  obtain rfl := (Prod.mk.inj h).1
  have := hk.2
  rw [isSafeB, decide_eq_true_eq] at this
  exact ⟨rfl, hk.1, hk.2, this⟩
/-! ### What must be cast -/
def castF (free : List Int) (k : Nat) (n : Int) : List Int := free.set k (nth free k + n)
theorem castF_len (free : List Int) (k : Nat) (n : Int) : (castF free k n).length = free.length := by simp [castF]
theorem nth_set_self {l : List Int} {k : Nat} {x : Int} (h : k < l.length) : nth (l.set k x) k = x := by
  unfold nth; rw [List.getElem?_set_self h]; rfl
theorem nth_set_ne {l : List Int} {k j : Nat} {x : Int} (h : k ≠ j) : nth (l.set k x) j = nth l j := by
  unfold nth; rw [List.getElem?_set_ne h]
theorem castF_at {free : List Int} {k : Nat} {n : Int} (h : k < free.length) : nth (castF free k n) k = nth free k + n := nth_set_self h
theorem castF_zero {free : List Int} {k : Nat} (h : k < free.length) : castF free k 0 = free := by
  have e : nth free k = free[k] := by unfold nth; rw [List.getElem?_eq_getElem h]; rfl
  rw [castF, Int.add_zero, e, List.set_getElem_self]
theorem castF_set {free : List Int} {k : Nat} {n : Int} (h : k < free.length) (m : Int) : (castF free k n).set k (nth free k + m) = castF free k m := by
  rw [castF, List.set_set]; rfl
theorem castF_next {free : List Int} {k : Nat} {n : Int} (h : k < free.length) : (castF free k n).set k (nth (castF free k n) k + 1) = castF free k (n + 1) := by
  rw [castF_at h, Int.add_assoc, castF_set h]
def leastG (free : List Int) (l : List PForm) (k : Nat) : Nat → Int → Int × Bool
  | 0, _ => (0, false)
  | m + 1, n => if isSafeB (castF free k n) l then (n, true) else leastG free l k m (n + 1)
def leastA (free : List Int) (l : List PForm) (k : Int) : Int × Bool := if formsB free l && inB k 0 ((free.length : Int) - 1) then leastG free l k.toNat 1001 0 else (0, false)
theorem leastG_spec {free : List Int} {l : List PForm} {k : Nat} : ∀ {m : Nat} {n c : Int}, (c, true) = leastG free l k m n → n ≤ c ∧ c < n + m ∧ isSafeB (castF free k c) l = true ∧ (n < c → isSafeB (castF free k (c - 1)) l = false)
  | 0, n, c, h => by cases (Prod.mk.inj h).2
  | m + 1, n, c, h => by
    rw [leastG] at h
    split at h
    · rename_i hs
      obtain rfl := (Prod.mk.inj h).1
      exact ⟨Int.le_refl _, by omega, hs, fun h => by omega⟩
    · rename_i hs
      obtain ⟨h1, h2, h3, h4⟩ := leastG_spec h
      refine ⟨by omega, by omega, h3, fun hc => ?_⟩
      rcases (by omega : n + 1 < c ∨ c - 1 = n) with hl | e
      · exact h4 hl
      · rw [e]; simpa using hs
structure LeastF (u : List Int) (v : List PForm) (k c : Int) : Prop where
  forms : formsB u v = true
  k0 : 0 ≤ k
  k1 : k < u.length
  c0 : 0 ≤ c
  c1 : c ≤ 1000
  safe : isSafeB (castF u k.toNat c) v = true
  before : 0 < c → isSafeB (castF u k.toNat (c - 1)) v = false
theorem leastA_spec {u : List Int} {v : List PForm} {k c : Int} (h : (c, true) = leastA u v k) : LeastF u v k c := by
  unfold leastA at h
  split at h
  · rename_i hc
    simp only [Bool.and_eq_true] at hc
    have := inB_spec hc.2
    obtain ⟨h1, h2, h3, h4⟩ := leastG_spec h
    exact ⟨hc.1, by omega, by omega, h1, by omega, h3, h4⟩
  · cases (Prod.mk.inj h).2
theorem formsB_len {a b : List Int} {l : List PForm} (h : formsB a l = true) (hl : b.length = a.length) : formsB b l = allB b 0 1000 := by
  simp only [formsB, Bool.and_eq_true] at h
  rw [formsB, hl, h.1, h.2.1, h.2.2.2]
  simp
theorem castF_forms {u : List Int} {v : List PForm} {k : Nat} {n : Int} (h : formsB u v = true) (hk : k < u.length) (hn : 0 ≤ n) : formsB (castF u k n) v = decide (nth (castF u k n) k ≤ 1000) := by
  have hb := (formsB_spec h).2.2.1
  rw [formsB_len h (castF_len u k n), Bool.eq_iff_iff, decide_eq_true_eq, allB_iff]
  constructor
  · intro ha
    exact (ha k (by rw [castF_len]; exact hk)).2
  · intro ha j hj
    rw [castF_len] at hj
    have h1 := allB_nth hb hj
    by_cases e : k = j
    · subst e
      rw [castF_at hk] at ha ⊢
      omega
    · rw [castF, nth_set_ne e]; exact h1
theorem castF_wide {u : List Int} {v : List PForm} {k : Nat} {n : Int} (h : formsB u v = true) (hk : k < u.length) (h0 : 0 ≤ n) (h1 : n ≤ 1000) : formsW (castF u k n) v = true := by
  have hb := (formsB_spec h).2.2.1
  simp only [formsB, Bool.and_eq_true] at h
  have ha : allB (castF u k n) 0 2000 = true := allB_iff.2 fun j hj => by
    rw [castF_len] at hj
    have h1 := allB_nth hb hj
    by_cases e : k = j
    · subst e
      rw [castF_at hk]
      omega
    · rw [castF, nth_set_ne e]; omega
  simp only [formsW, castF_len, h.1, h.2.1, h.2.2.2, ha, Bool.and_true]
/-! ### Forms that are finished -/
def finA (free : List Int) (l : List PForm) (i : Int) : List Int × List PForm × Bool := if askB free l i && canF free ([], wantAt l i) then (plusL free (heldAt l i) 1, l.take i.toNat ++ l.drop (i.toNat + 1), true) else ([], [], false)
theorem plus_sum {a b : List Int} (h : a.length = b.length) : (plusL a b 1).sum = a.sum + b.sum := by
  induction a generalizing b with
  | nil => cases b with
    | nil => simp [plusL, plusT]
    | cons y b => simp at h
  | cons x a ih =>
    cases b with
    | nil => simp at h
    | cons y b =>
      have e : plusL (x :: a) (y :: b) 1 = (x + y) :: plusL a b 1 := by
        apply List.ext_getElem?
        intro k
        cases k with
        | zero => simp [plusL, plusT, nth, List.range_succ_eq_map]
        | succ k => simp [plusL, plusT, nth, List.range_succ_eq_map, Function.comp_def]
      rw [e, List.sum_cons, List.sum_cons, List.sum_cons, ih (by simpa using h)]
      omega
theorem canF_want (free : List Int) (x : PForm) : canF free x = canF free ([], x.2) := rfl
theorem finA_spec {free : List Int} {l : List PForm} {i : Int} {f : List Int} {r : List PForm} (h : (f, r, true) = finA free l i) :
    askB free l i = true ∧ canF free ([], wantAt l i) = true ∧ (r.length : Int) = l.length - 1 ∧ f.sum = free.sum + (heldAt l i).sum := by
  unfold finA at h
  split at h
  case isFalse => cases (Prod.mk.inj (Prod.mk.inj h).2).2
  rename_i hc
  simp only [Bool.and_eq_true] at hc
  obtain ⟨rfl, h5⟩ := Prod.mk.inj h
  obtain ⟨rfl, -⟩ := Prod.mk.inj h5
  obtain ⟨a1, a2, a3, x, a4, a5⟩ := askB_spec hc.1
  obtain ⟨b1, b2, b3, b4⟩ := formB_spec a5
  refine ⟨hc.1, hc.2, by rw [List.length_append, List.length_take, List.length_drop]; omega, plus_sum (by rw [heldAt_some a4, b1])⟩
theorem finA_ok {free : List Int} {l : List PForm} {i : Int} {f : List Int} {r : List PForm} {ok : Bool} (h : (f, r, ok) = finA free l i) : ok = (askB free l i && canF free ([], wantAt l i)) := by
  unfold finA at h
  split at h
  · rename_i hc; rw [hc]; exact (Prod.mk.inj (Prod.mk.inj h).2).2
  · rename_i hc; rw [(Prod.mk.inj (Prod.mk.inj h).2).2]; simpa using hc
end Go.Proofs.Ytbamclepgabciaa.Ai
