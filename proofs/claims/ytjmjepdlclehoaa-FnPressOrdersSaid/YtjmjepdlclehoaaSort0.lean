/- Plain laws on trials: sorted rows, means, tolerances. -/
import Derived.Test.YtjmjepdlclehoaaCommon
import Derived.Shelf.Sort.AssemblyIn
import Derived.Sort.EveryDepth
import Derived.Test.YtjmjepdlclehoaaAiCut
import Derived.Sort.OwnSortedInts
import Derived.WalkKit
namespace Go.Proofs.Ytjmjepdlclehoaa.Ai
open Go Go.Proofs Go.RowKit
set_option linter.unusedSimpArgs false
set_option linter.unusedVariables false
set_option maxRecDepth 10000
set_option linter.unusedSectionVars false
set_option maxRecDepth 100000

def trialB (l : List Int) : Bool := allB l (-500) 500 && inB l.length 1 40
structure TrialOk (l : List Int) : Prop where
  bound : ∀ x ∈ l, -500 ≤ x ∧ x ≤ 500
  len : 1 ≤ (l.length : Int) ∧ (l.length : Int) ≤ 40
theorem trialB_spec {l : List Int} (h : trialB l = true) : TrialOk l := by
  rw [trialB, Bool.and_eq_true] at h
  exact ⟨allB_mem h.1, inB_spec h.2⟩
theorem sum_abs {l : List Int} : ∀ (M : Int), (∀ x ∈ l, -M ≤ x ∧ x ≤ M) → -(M * l.length) ≤ l.sum ∧ l.sum ≤ M * l.length := by
  induction l with
  | nil => intro M _; simp
  | cons x r ih =>
    intro M h
    have h1 := ih M (fun y hy => h y (by simp [hy]))
    have h2 := h x (by simp)
    simp only [List.sum_cons, List.length_cons, Int.natCast_add, Int.mul_add]
    omega
theorem TrialOk.fits {l : List Int} (h : TrialOk l) : SumFits l := sumfits_of 500 h.bound (by have := h.len; omega)
theorem TrialOk.sum {l : List Int} (h : TrialOk l) : -20000 ≤ l.sum ∧ l.sum ≤ 20000 := by
  have := sum_abs 500 h.bound
  have := h.len
  omega

/-! ### Sorted rows -/
def sortI (l : List Int) : List Int := l.mergeSort fun x y => decide (x ≤ y)
theorem sortI_perm (l : List Int) : (sortI l).Perm l := List.mergeSort_perm _ _
theorem sortI_len (l : List Int) : (sortI l).length = l.length := (sortI_perm l).length_eq
theorem sortI_le (l : List Int) : (sortI l).Pairwise (fun x y => x ≤ y) := by
  have := List.pairwise_mergeSort (le := fun x y : Int => decide (x ≤ y)) (fun a b c h1 h2 => by simp only [decide_eq_true_eq] at *; omega) (fun a b => by simp only [Bool.or_eq_true, decide_eq_true_eq]; omega) l
  exact this.imp fun h => by simpa using h
theorem sortI_eq {l s : List Int} (h1 : s.Perm l) (h2 : s.Pairwise (fun x y => x ≤ y)) : s = sortI l :=
  List.Perm.eq_of_pairwise (le := fun x y => x ≤ y) (fun a b _ _ h h' => by omega) h2 (sortI_le l) (h1.trans (sortI_perm l).symm)
/-- One more among sorted ones. -/
def putS (l : List Int) (n : Int) : List Int := l.takeWhile (fun x => decide (x < n)) ++ n :: l.dropWhile (fun x => decide (x < n))
theorem putS_perm (l : List Int) (n : Int) : (putS l n).Perm (n :: l) := by
  have h := List.takeWhile_append_dropWhile (p := fun x => decide (x < n)) (l := l)
  have : (putS l n).Perm (n :: (l.takeWhile (fun x => decide (x < n)) ++ l.dropWhile (fun x => decide (x < n)))) := List.perm_middle
  rwa [h] at this
theorem putS_le {n : Int} : ∀ {l : List Int}, l.Pairwise (fun x y => x ≤ y) → (putS l n).Pairwise (fun x y => x ≤ y)
  | [], _ => by simp [putS]
  | x :: r, h => by
    rw [List.pairwise_cons] at h
    by_cases e : x < n
    · have e1 : putS (x :: r) n = x :: putS r n := by simp [putS, e]
      rw [e1, List.pairwise_cons]
      refine ⟨fun y hy => ?_, putS_le h.2⟩
      rcases List.mem_cons.1 ((putS_perm r n).subset hy) with rfl | hy
      · omega
      · exact h.1 y hy
    · have e1 : putS (x :: r) n = n :: x :: r := by simp [putS, e]
      rw [e1, List.pairwise_cons]
      refine ⟨fun y hy => ?_, List.pairwise_cons.2 h⟩
      rcases List.mem_cons.1 hy with rfl | hy
      · omega
      · have := h.1 y hy; omega
def insS (l : List Int) (a : List Int) : List Int := l.foldl putS a
theorem insS_cons (x : Int) (r a : List Int) : insS (x :: r) a = insS r (putS a x) := rfl
theorem insS_drop {l : List Int} {i : Nat} {x : Int} (a : List Int) (h : l[i]? = some x) : insS (l.drop i) a = insS (l.drop (i + 1)) (putS a x) := by
  have hi := (List.getElem?_eq_some_iff.1 h).1
  rw [List.drop_eq_getElem_cons hi, insS_cons, (List.getElem?_eq_some_iff.1 h).2]
theorem insS_spec : ∀ (l a : List Int), a.Pairwise (fun x y => x ≤ y) → (insS l a).Perm (l ++ a) ∧ (insS l a).Pairwise (fun x y => x ≤ y)
  | [], a, h => ⟨List.Perm.refl _, h⟩
  | x :: r, a, h => by
    have ih := insS_spec r (putS a x) (putS_le h)
    rw [insS_cons]
    refine ⟨ih.1.trans ?_, ih.2⟩
    exact (List.Perm.append_left r (putS_perm a x)).trans List.perm_middle
theorem insS_sort (l : List Int) : insS l [] = sortI l := by
  have := insS_spec l [] List.Pairwise.nil
  exact sortI_eq (by simpa using this.1) this.2
/-- The place of the next one: as many are less. -/
theorem putS_at {l : List Int} {n : Int} {k : Nat} (h1 : ∀ j : Nat, j < k → nth l j < n) (hk : k ≤ l.length) (h2 : k < l.length → n ≤ nth l k) : putS l n = (l.take k ++ [n]) ++ l.drop k := by
  induction l generalizing k with
  | nil => simp [putS]
  | cons x r ih =>
    cases k with
    | zero =>
      have : n ≤ x := by simpa [nth] using h2 (by simp)
      have e : ¬ x < n := by omega
      simp [putS, e]
    | succ k =>
      have e : x < n := by simpa [nth] using h1 0 (by omega)
      have e1 : putS (x :: r) n = x :: putS r n := by simp [putS, e]
      rw [e1, ih (k := k) (fun j hj => by simpa [nth] using h1 (j + 1) (by omega)) (by simpa using hk) (fun hj => by simpa [nth] using h2 (by simpa using hj))]
      simp
theorem sortI_mono {l : List Int} {i j : Nat} (h : i ≤ j) (hj : j < l.length) : nth (sortI l) i ≤ nth (sortI l) j := by
  have hl := sortI_len l
  rw [nth_some (List.getElem?_eq_getElem (by omega : i < (sortI l).length)), nth_some (List.getElem?_eq_getElem (by omega : j < (sortI l).length))]
  rcases Nat.lt_or_eq_of_le h with h | rfl
  · exact List.pairwise_iff_getElem.1 (sortI_le l) i j _ _ h
  · exact Int.le_refl _
theorem count_perm {p : Int → Bool} {a b : List Int} (h : a.Perm b) : (a.filter p).length = (b.filter p).length := (h.filter p).length_eq
theorem count_low {l : List Int} (k : Nat) (m : Int) (h : ∀ j : Nat, k ≤ j → j < l.length → m ≤ nth l j) : (l.filter fun x => decide (x < m)).length ≤ k := by
  have e : l.filter (fun x => decide (x < m)) = (l.take k).filter (fun x => decide (x < m)) := by
    conv => lhs; rw [← List.take_append_drop k l]
    rw [List.filter_append]
    have : (l.drop k).filter (fun x => decide (x < m)) = [] := by
      rw [List.filter_eq_nil_iff]
      intro x hx
      obtain ⟨j, hj, rfl⟩ := List.getElem_of_mem hx
      rw [List.length_drop] at hj
      have := h (k + j) (by omega) (by omega)
      rw [nth_some (List.getElem?_eq_getElem (by omega))] at this
      rw [List.getElem_drop]
      simpa using this
    rw [this, List.append_nil]
  rw [e]
  exact Nat.le_trans (List.length_filter_le _ _) (by rw [List.length_take]; omega)
theorem count_high {l : List Int} (k : Nat) (m : Int) (h : ∀ j : Nat, j < k → j < l.length → nth l j ≤ m) : (l.filter fun x => decide (m < x)).length ≤ l.length - k := by
  have e : l.filter (fun x => decide (m < x)) = (l.drop k).filter (fun x => decide (m < x)) := by
    conv => lhs; rw [← List.take_append_drop k l]
    rw [List.filter_append]
    have : (l.take k).filter (fun x => decide (m < x)) = [] := by
      rw [List.filter_eq_nil_iff]
      intro x hx
      obtain ⟨j, hj, rfl⟩ := List.getElem_of_mem hx
      rw [List.length_take] at hj
      have := h j (by omega) (by omega)
      rw [nth_some (List.getElem?_eq_getElem (by omega))] at this
      rw [List.getElem_take]
      simpa using this
    rw [this, List.nil_append]
  rw [e]
  exact Nat.le_trans (List.length_filter_le _ _) (by rw [List.length_drop]; omega)
def medI (l : List Int) : Int := nth (sortI l) ((l.length - 1) / 2)
theorem med_low {l : List Int} (h : 1 ≤ l.length) : 2 * (l.filter fun x => decide (x < medI l)).length ≤ l.length := by
  rw [← count_perm (sortI_perm l)]
  have := count_low (l := sortI l) ((l.length - 1) / 2) (medI l) (fun j hj hl => sortI_mono hj (by rw [sortI_len] at hl; exact hl))
  omega
theorem med_high {l : List Int} (h : 1 ≤ l.length) : 2 * (l.filter fun x => decide (medI l < x)).length ≤ l.length := by
  rw [← count_perm (sortI_perm l)]
  have := count_high (l := sortI l) ((l.length - 1) / 2 + 1) (medI l) (fun j hj hl => sortI_mono (by omega) (by omega))
  rw [sortI_len] at this
  omega
def spreadI (l : List Int) : Int := nth (sortI l) (l.length - 1) - nth (sortI l) 0
theorem spread_nn {l : List Int} (h : 1 ≤ l.length) : 0 ≤ spreadI l := by
  have := sortI_mono (l := l) (i := 0) (j := l.length - 1) (by omega) (by omega)
  rw [spreadI]; omega
theorem sortI_bound {l : List Int} {M : Int} (h : ∀ x ∈ l, -M ≤ x ∧ x ≤ M) : ∀ x ∈ sortI l, -M ≤ x ∧ x ≤ M := fun x hx => h x ((sortI_perm l).subset hx)
theorem nth_sort_bound {l : List Int} {M : Int} (h : ∀ x ∈ l, -M ≤ x ∧ x ≤ M) {j : Nat} (hj : j < l.length) : -M ≤ nth (sortI l) j ∧ nth (sortI l) j ≤ M := by
  have hl := sortI_len l
  rw [nth_some (List.getElem?_eq_getElem (by omega : j < (sortI l).length))]
  exact sortI_bound h _ (List.getElem_mem _)
def spreadA (l : List Int) : Int × Bool := if trialB l then (spreadI l, true) else (0, false)
def medA (l : List Int) : Int × Bool := if trialB l then (medI l, true) else (0, false)

/-! ### Means -/
def absI (n : Int) : Int := max n (-n)
theorem absI_nat (n : Int) : absI n = n.natAbs := by unfold absI; omega
def gcdI (a b : Int) : Int := (Nat.gcd a.toNat b.toNat : Nat)
theorem gcdI_step {a b : Int} (ha : 0 ≤ a) (hb : 0 < b) : gcdI a b = gcdI b (a % b) := by
  have h1 : (a % b).toNat = a.toNat % b.toNat := by
    rw [Int.toNat_emod ha (by omega)]
  rw [gcdI, gcdI, h1, Nat.gcd_comm a.toNat, Nat.gcd_rec, Nat.gcd_comm]
theorem gcdI_zero {a : Int} (ha : 0 ≤ a) : gcdI a 0 = a := by rw [gcdI]; simp; omega
theorem gcdI_pos {a b : Int} (hb : 1 ≤ b) : 1 ≤ gcdI a b := by
  rw [gcdI]
  have := Nat.gcd_pos_of_pos_right a.toNat (n := b.toNat) (by omega)
  omega
theorem gcdI_le {a b : Int} (hb : 1 ≤ b) : gcdI a b ≤ b := by
  rw [gcdI]
  have := Nat.gcd_le_right a.toNat (n := b.toNat) (by omega)
  omega
def meanA (l : List Int) : Int × Int × Bool :=
  if trialB l then (l.sum.tdiv (gcdI (absI l.sum) l.length), (l.length : Int) / gcdI (absI l.sum) l.length, true) else (0, 0, false)
theorem mean_ok {l : List Int} {a b : Int} (h : (a, b, true) = meanA l) : a * l.length = l.sum * b ∧ 1 ≤ b ∧ b ≤ 40 ∧ -20000 ≤ a ∧ a ≤ 20000 ∧ TrialOk l := by
  unfold meanA at h
  split at h
  · rename_i ht
    have ok := trialB_spec ht
    have hl := ok.len
    have hs := ok.sum
    obtain ⟨rfl, h2⟩ := Prod.mk.inj h
    obtain ⟨rfl, _⟩ := Prod.mk.inj h2
    have hg := gcdI_pos (a := absI l.sum) (b := l.length) hl.1
    have hle := gcdI_le (a := absI l.sum) (b := l.length) hl.1
    have d1 : gcdI (absI l.sum) l.length ∣ l.sum := by
      rw [absI_nat, gcdI, ← Int.dvd_natAbs]
      exact Int.natCast_dvd_natCast.2 (by simpa using Nat.gcd_dvd_left l.sum.natAbs l.length)
    have d2 : gcdI (absI l.sum) l.length ∣ (l.length : Int) := by
      rw [gcdI]
      exact Int.natCast_dvd_natCast.2 (by simpa using Nat.gcd_dvd_right (absI l.sum).toNat l.length)
    generalize gcdI (absI l.sum) l.length = g at *
    obtain ⟨u, hu⟩ := d1
    obtain ⟨v, hv⟩ := d2
    have e1 : l.sum.tdiv g = u := by rw [hu]; exact Int.mul_tdiv_cancel_left u (by omega)
    have e2 : (l.length : Int) / g = v := by rw [hv]; exact Int.mul_ediv_cancel_left v (by omega)
    have hv1 : 1 ≤ v := by
      rcases Int.lt_or_le v 1 with h' | h'
      · have : g * v ≤ 0 := Int.mul_nonpos_of_nonneg_of_nonpos (by omega) (by omega)
        omega
      · exact h'
    have hv2 : v ≤ g * v := by
      have := Int.mul_le_mul_of_nonneg_right (a := 1) (b := g) (c := v) hg (by omega)
      omega
    rw [e1, e2]
    refine ⟨by rw [hv, hu, ← Int.mul_assoc, Int.mul_comm u g], hv1, by omega, ?_, ?_, ok⟩
    · rcases Int.lt_or_le u 0 with h' | h'
      · have := Int.mul_le_mul_of_nonpos_right (a := g) (b := 1) (c := u) hg (by omega)
        omega
      · omega
    · rcases Int.lt_or_le u 0 with h' | h'
      · omega
      · have := Int.mul_le_mul_of_nonneg_right (a := 1) (b := g) (c := u) hg h'
        omega
  · simp at h

/-! ### Tolerances -/
def outG (m : Int) : List Int → Int → List Int
  | [], _ => []
  | x :: r, i => if m < absI x then i :: outG m r (i + 1) else outG m r (i + 1)
def outI (l : List Int) (m : Int) : List Int := outG m l 0
theorem outG_take {m : Int} : ∀ {l : List Int} {i : Nat} {x : Int} (k : Int), l[i]? = some x → outG m (l.take (i + 1)) k = outG m (l.take i) k ++ (if m < absI x then [k + i] else [])
  | [], i, x, k, h => by simp at h
  | y :: r, 0, x, k, h => by
    simp at h; subst h
    simp only [List.take_succ_cons, List.take_zero, outG]
    split <;> simp
  | y :: r, i + 1, x, k, h => by
    have := outG_take (m := m) (l := r) (i := i) (x := x) (k + 1) (by simpa using h)
    simp only [List.take_succ_cons, outG, this]
    have e : k + 1 + (i : Int) = k + ((i + 1 : Nat) : Int) := by omega
    rw [e]
    split <;> simp
theorem outI_take {m : Int} {l : List Int} {i : Nat} {x : Int} (h : l[i]? = some x) : outI (l.take (i + 1)) m = outI (l.take i) m ++ (if m < absI x then [(i : Int)] else []) := by
  rw [outI, outG_take 0 h, outI, Int.zero_add]
theorem outG_len (m : Int) : ∀ (l : List Int) (k : Int), (outG m l k).length = (l.filter fun x => decide (m < absI x)).length
  | [], _ => rfl
  | x :: r, k => by
    rw [outG, List.filter_cons]
    by_cases e : m < absI x
    · rw [if_pos e, if_pos (by simpa using e), List.length_cons, List.length_cons, outG_len m r]
    · rw [if_neg e, if_neg (by simpa using e), outG_len m r]
def cntO (l : List Int) (m : Int) : Nat := (l.filter fun x => decide (m < absI x)).length
theorem outI_len (l : List Int) (m : Int) : (outI l m).length = cntO l m := outG_len m l 0
theorem cntO_le (l : List Int) (m : Int) : cntO l m ≤ l.length := List.length_filter_le _ _
theorem cntO_zero {l : List Int} {m : Int} (h : ∀ x ∈ l, absI x ≤ m) : cntO l m = 0 := by
  rw [cntO, List.length_eq_zero_iff, List.filter_eq_nil_iff]
  intro x hx
  have := h x hx
  simp; omega
def insI (l : List Int) (m : Int) : List Int := l.filter fun x => decide (absI x ≤ m)
theorem insI_take {m : Int} {l : List Int} {i : Nat} {x : Int} (h : l[i]? = some x) : insI (l.take (i + 1)) m = insI (l.take i) m ++ (if absI x ≤ m then [x] else []) := by
  have hi := (List.getElem?_eq_some_iff.1 h).1
  rw [insI, List.take_succ_eq_append_getElem hi, List.filter_append, (List.getElem?_eq_some_iff.1 h).2]
  congr 1
  by_cases e : absI x ≤ m
  · rw [if_pos e]; simp [e]
  · rw [if_neg e]; simp; omega
theorem ins_out (m : Int) : ∀ l : List Int, (insI l m).length + cntO l m = l.length
  | [] => rfl
  | x :: r => by
    have := ins_out m r
    rw [insI, cntO] at this ⊢
    rw [List.filter_cons, List.filter_cons]
    by_cases e : absI x ≤ m
    · rw [if_pos (by simpa using e), if_neg (by simp; omega), List.length_cons, List.length_cons]; omega
    · rw [if_neg (by simpa using e), if_pos (by simp; omega), List.length_cons, List.length_cons]; omega
/-- The least tolerance from m on that lets enough pass. -/
def leastG (l : List Int) (al : Int) : Nat → Int → Int
  | 0, m => m
  | n + 1, m => if al < (cntO l m : Int) then leastG l al n (m + 1) else m
def leastA (l : List Int) (al : Int) : Int × Bool := if trialB l && inB al 0 40 then (leastG l al 500 0, true) else (0, false)
theorem leastG_spec (l : List Int) (al : Int) : ∀ (n : Nat) (m : Int), (leastG l al n m ≤ m + n ∧ m ≤ leastG l al n m) ∧ (leastG l al n m < m + n → (cntO l (leastG l al n m) : Int) ≤ al) ∧ (m < leastG l al n m → al < (cntO l (leastG l al n m - 1) : Int))
  | 0, m => by rw [leastG]; refine ⟨by omega, fun h => by omega, fun h => by omega⟩
  | n + 1, m => by
    rw [leastG]
    split
    · rename_i e
      obtain ⟨h1, h2, h3⟩ := leastG_spec l al n (m + 1)
      refine ⟨by omega, fun h => h2 (by omega), fun h => ?_⟩
      by_cases e' : m + 1 < leastG l al n (m + 1)
      · exact h3 e'
      · rw [show leastG l al n (m + 1) - 1 = m by omega]; exact e
    · rename_i e
      exact ⟨by omega, fun h => by omega, fun h => by omega⟩
theorem leastG_done {l : List Int} {al : Int} (n : Nat) (m : Int) (h : (cntO l m : Int) ≤ al) : leastG l al n m = m := by
  cases n with
  | zero => rfl
  | succ n => rw [leastG, if_neg (by omega)]
theorem leastG_step {l : List Int} {al : Int} {n : Nat} {m : Int} (h : al < (cntO l m : Int)) : leastG l al (n + 1) m = leastG l al n (m + 1) := by rw [leastG, if_pos h]
theorem trial_out {l : List Int} (h : TrialOk l) {m : Int} (hm : 500 ≤ m) : cntO l m = 0 := cntO_zero fun x hx => by have := h.bound x hx; unfold absI; omega
theorem least_facts {l : List Int} {al t : Int} (h : (t, true) = leastA l al) : TrialOk l ∧ (0 ≤ al ∧ al ≤ 40) ∧ (0 ≤ t ∧ t ≤ 500) ∧ (cntO l t : Int) ≤ al ∧ (0 < t → al < (cntO l (t - 1) : Int)) := by
  unfold leastA at h
  split at h
  · rename_i hc
    rw [Bool.and_eq_true] at hc
    have ok := trialB_spec hc.1
    have ha := inB_spec hc.2
    obtain rfl := (Prod.mk.inj h).1
    obtain ⟨h1, h2, h3⟩ := leastG_spec l al 500 0
    refine ⟨ok, ha, by omega, ?_, h3⟩
    by_cases e : leastG l al 500 0 < 0 + (500 : Nat)
    · exact h2 e
    · rw [trial_out ok (by omega)]; omega
  · simp at h
def acceptA (l : List Int) (m al : Int) : Bool × Bool := if trialB l && (inB m 0 500 && inB al 0 40) then (decide ((cntO l m : Int) ≤ al), true) else (false, false)
def outA (l : List Int) (m : Int) : List Int × Bool := if trialB l && inB m 0 500 then (outI l m, true) else ([], false)
def withA (l : List Int) (m : Int) : List Int × Bool := if trialB l && inB m 0 500 then (insI l m, decide (0 < (insI l m).length)) else ([], false)
theorem accept_at {l : List Int} {al t : Int} (h : (t, true) = leastA l al) : acceptA l t al = (true, true) ∧ (0 < t → acceptA l (t - 1) al = (false, true)) := by
  obtain ⟨ok, ha, ht, h1, h2⟩ := least_facts h
  have hb : trialB l = true := by
    unfold leastA at h
    split at h
    · rename_i hc; rw [Bool.and_eq_true] at hc; exact hc.1
    · simp at h
  have e1 : inB al 0 40 = true := by rw [inB, decide_eq_true ha.1, decide_eq_true ha.2]; rfl
  refine ⟨?_, fun hp => ?_⟩
  · rw [acceptA, hb, e1, show inB t 0 500 = true by rw [inB, decide_eq_true ht.1, decide_eq_true ht.2]; rfl, decide_eq_true h1]; rfl
  · rw [acceptA, hb, e1, show inB (t - 1) 0 500 = true by rw [inB, decide_eq_true (by omega), decide_eq_true (by omega)]; rfl, decide_eq_false (by have := h2 hp; omega)]; rfl
theorem with_nine {v w o : List Int} {m : Int} {seven nine : Bool} (ho : (o, seven) = outA v m) (hw : (w, nine) = withA v m) : nine = (seven && decide ((o.length : Int) < v.length)) := by
  unfold outA at ho
  unfold withA at hw
  have hio := ins_out m v
  split at ho
  · rename_i hc
    rw [if_pos hc] at hw
    obtain ⟨rfl, rfl⟩ := Prod.mk.inj ho
    obtain ⟨rfl, rfl⟩ := Prod.mk.inj hw
    rw [outI_len, Bool.true_and, decide_eq_decide]; omega
  · rename_i hc
    rw [if_neg hc] at hw
    obtain ⟨rfl, rfl⟩ := Prod.mk.inj ho
    obtain ⟨rfl, rfl⟩ := Prod.mk.inj hw
    rfl
theorem with_left {v w : List Int} {m : Int} (hw : (w, true) = withA v m) : ∃ q, outA w m = (q, true) ∧ q = [] ∧ ∀ o s, (o, s) = outA v m → (w.length : Int) + o.length = v.length := by
  unfold withA at hw
  split at hw
  · rename_i hc
    obtain ⟨rfl, hd⟩ := Prod.mk.inj hw
    have hd := of_decide_eq_true hd.symm
    have hc' := hc
    rw [Bool.and_eq_true] at hc
    have ok := trialB_spec hc.1
    have hio := ins_out m v
    have hle : (insI v m).length ≤ v.length := by omega
    have hb : trialB (insI v m) = true := by
      rw [trialB, Bool.and_eq_true]
      refine ⟨List.all_eq_true.2 fun x hx => ?_, ?_⟩
      · have := ok.bound x ((List.mem_filter.1 hx).1)
        rw [inB, decide_eq_true this.1, decide_eq_true this.2]; rfl
      · have := ok.len
        rw [inB, decide_eq_true (by omega), decide_eq_true (by omega)]; rfl
    have hz : cntO (insI v m) m = 0 := cntO_zero fun x hx => by simpa using (List.mem_filter.1 hx).2
    refine ⟨outI (insI v m) m, by rw [outA, hb, hc.2]; rfl, ?_, fun o s ho => ?_⟩
    · exact List.length_eq_zero_iff.1 (by rw [outI_len, hz])
    · unfold outA at ho
      rw [if_pos hc'] at ho
      obtain ⟨rfl, _⟩ := Prod.mk.inj ho
      rw [outI_len]; omega
  · simp at hw

/- The bodies behind a function of the library, as this program numbers them. -/
def lays191_ren : Go.Shelf.Ren := ⟨fun | 191 => 145 | 189 => 158 | 125 => 163 | 257 => 162 | 128 => 173 | 129 => 174 | 294 => 164 | 295 => 165 | 296 => 166 | 297 => 167 | 298 => 168 | 299 => 169 | 216 => 170 | 300 => 171 | 301 => 172 | 328 => 175 | 329 => 176 | 330 => 177 | 331 => 178 | 332 => 179 | 215 => 180 | 343 => 181 | n => n, fun | 28 => 29 | 0 => 0 | 3 => 3 | 46 => 87 | 51 => 150 | 53 => 79 | 4 => 4 | 183 => 144 | 182 => 143 | 131 => 33 | 5 => 5 | 9 => 9 | 218 => 152 | 222 => 156 | 228 => 158 | 229 => 159 | n => n, fun | n => n⟩
theorem lays191 : Go.Proofs.Lays.n191 Try.prog lays191_ren :=
  { mixed := by kernel_rfl,
    f125 := Try.func163.trans (congrArg some (by kernel_rfl)),
    f128 := Try.func173.trans (congrArg some (by kernel_rfl)),
    f129 := Try.func174.trans (congrArg some (by kernel_rfl)),
    f189 := Try.func158.trans (congrArg some (by kernel_rfl)),
    f191 := Try.func145.trans (congrArg some (by kernel_rfl)),
    f215 := Try.func180.trans (congrArg some (by kernel_rfl)),
    f216 := Try.func170.trans (congrArg some (by kernel_rfl)),
    f257 := Try.func162.trans (congrArg some (by kernel_rfl)),
    f294 := Try.func164.trans (congrArg some (by kernel_rfl)),
    f295 := Try.func165.trans (congrArg some (by kernel_rfl)),
    f296 := Try.func166.trans (congrArg some (by kernel_rfl)),
    f297 := Try.func167.trans (congrArg some (by kernel_rfl)),
    f298 := Try.func168.trans (congrArg some (by kernel_rfl)),
    f299 := Try.func169.trans (congrArg some (by kernel_rfl)),
    f300 := Try.func171.trans (congrArg some (by kernel_rfl)),
    f301 := Try.func172.trans (congrArg some (by kernel_rfl)),
    f328 := Try.func175.trans (congrArg some (by kernel_rfl)),
    f329 := Try.func176.trans (congrArg some (by kernel_rfl)),
    f330 := Try.func177.trans (congrArg some (by kernel_rfl)),
    f331 := Try.func178.trans (congrArg some (by kernel_rfl)),
    f332 := Try.func179.trans (congrArg some (by kernel_rfl)),
    f343 := Try.func181.trans (congrArg some (by kernel_rfl)),
    t0 := Try.underlying0,
    a0 := Try.isAgg0,
    z0 := Try.sizeOf0,
    v0 := Try.zeroValue0,
    t3 := Try.underlying3,
    a3 := Try.isAgg3,
    z3 := Try.sizeOf3,
    v3 := Try.zeroValue3,
    t4 := Try.underlying4,
    a4 := Try.isAgg4,
    z4 := Try.sizeOf4,
    v4 := Try.zeroValue4,
    t5 := Try.underlying5,
    a5 := Try.isAgg5,
    z5 := Try.sizeOf5,
    v5 := Try.zeroValue5,
    t9 := Try.underlying9,
    a9 := Try.isAgg9,
    z9 := Try.sizeOf9,
    v9 := Try.zeroValue9,
    t28 := Try.underlying29,
    a28 := Try.isAgg29,
    z28 := Try.sizeOf29,
    v28 := Try.zeroValue29,
    t46 := Try.underlying87,
    a46 := Try.isAgg87,
    z46 := Try.sizeOf87,
    v46 := Try.zeroValue87,
    t51 := Try.underlying150,
    a51 := Try.isAgg150,
    z51 := Try.sizeOf150,
    v51 := Try.zeroValue150,
    t53 := Try.underlying79,
    a53 := Try.isAgg79,
    z53 := Try.sizeOf79,
    v53 := Try.zeroValue79,
    t131 := Try.underlying33,
    a131 := Try.isAgg33,
    z131 := Try.sizeOf33,
    v131 := Try.zeroValue33,
    t182 := Try.underlying143,
    a182 := Try.isAgg143,
    z182 := Try.sizeOf143,
    v182 := Try.zeroValue143,
    t183 := Try.underlying144,
    a183 := Try.isAgg144,
    z183 := Try.sizeOf144,
    v183 := Try.zeroValue144,
    t218 := Try.underlying152,
    a218 := Try.isAgg152,
    z218 := Try.sizeOf152,
    v218 := Try.zeroValue152,
    t222 := Try.underlying156,
    a222 := Try.isAgg156,
    z222 := Try.sizeOf156,
    v222 := Try.zeroValue156,
    t228 := Try.underlying158,
    a228 := Try.isAgg158,
    z228 := Try.sizeOf158,
    v228 := Try.zeroValue158,
    t229 := Try.underlying159,
    a229 := Try.isAgg159,
    z229 := Try.sizeOf159,
    v229 := Try.zeroValue159 }

/- The library's sort on an own row of numbers: what the abstract machine makes of its call. -/

section
variable {P : Program} {κ : Ctx} [NoZ κ] {η : Own} {s : St} {a : Act} {w : World} {o : Oper} {Q' : Exit → Act → World → Prop}

theorem repIs_ints {I : Nat → Prop} : ∀ {l : List Int} {vs : List Value}, RepIs w I (l.map cInt).flatten vs → vs = l.map (Value.int .i64) ∧ ∀ x ∈ l, IntKind.i64.wrap x = x
  | [], _, h => by cases h; exact ⟨rfl, fun x hx => by cases hx⟩
  | x :: r, _, h => by
    simp only [List.map_cons, List.flatten_cons, cInt, List.cons_append, List.nil_append] at h
    cases h with
    | cons h1 h2 =>
      cases h1 with
      | int k n hn =>
        obtain ⟨rfl, h3⟩ := repIs_ints h2
        refine ⟨rfl, fun y hy => ?_⟩
        rcases List.mem_cons.1 hy with rfl | hy
        · exact hn
        · exact h3 y hy
theorem repIs_ofInts {I : Nat → Prop} : ∀ {l : List Int}, (∀ x ∈ l, IntKind.i64.wrap x = x) → RepIs w I (l.map cInt).flatten (l.map (Value.int .i64))
  | [], _ => .nil
  | x :: r, h => .cons (.int _ _ (h x (by simp))) (repIs_ofInts fun y hy => h y (by simp [hy]))

/-- The contract of sort.Ints, as the kit has it. -/
def SortsInts (P : Program) (f : FuncId) : Prop := Callable P f ∧
  (∀ (blk off cap : Nat) (zs : List Int) (w : World), Sort.Holds (Value.int .i64) w blk off zs.toArray → blk < w.heap.size → zs.length < 4611686018427387904 →
    Calls P f #[.slice (some ⟨blk, off, none⟩) zs.length cap] w fun e w' => e = .returned (.tuple #[]) ∧ ∃ n os, w' = Sort.grow (Sort.putRow (Value.int .i64) (Sort.ahead w n) blk off (zs.mergeSort fun x y => decide (x ≤ y)).toArray) os)

theorem sim_sort (h : Sim κ η s a w) {id ver e g cap n : Nat} {xs : List Int} {cur : Array Value} {os : Array Obj} (he : s.H.get id = (ver, .row e 1 (rows cInt xs))) (hc : η.cur id = ver) (hv : η.val id = some (.slice (some ⟨g, 0, none⟩) xs.length cap))
    (hside : Side κ id ver (.slice (some ⟨g, 0, none⟩) xs.length cap)) (hh : w.heap[g]? = some (.cells cur e (0, 0))) (h1 : xs.length ≤ cap) (h2 : cap ≤ maxLen) (h3 : cur.size = cap * 1) (hr : ∀ x ∈ xs, IntKind.i64.wrap x = x) :
    Sim κ η ⟨s.T, s.H.put id (ver, .row e 1 (rows cInt (sortI xs)))⟩ a (Sort.grow (Sort.putRow (Value.int .i64) (Sort.ahead w n) g 0 (sortI xs).toArray) os) := by
  have hg : g < w.heap.size := (Array.getElem?_eq_some_iff.1 hh).1
  have hother : ∀ k, k ≠ g → (Sort.putRow (Value.int .i64) (Sort.ahead w n) g 0 (sortI xs).toArray).heap[k]? = w.heap[k]? := fun k hk => by
    have : g ≠ k := fun e => hk e.symm
    simp [Sort.putRow, Sort.mapBlock, Sort.ahead, Array.getElem?_modify, this]
  have hsz : (Sort.putRow (Value.int .i64) (Sort.ahead w n) g 0 (sortI xs).toArray).heap.size = w.heap.size := by simp [Sort.putRow, Sort.mapBlock, Sort.ahead]
  have hs := h.write (w' := Sort.putRow (Value.int .i64) (Sort.ahead w n) g 0 (sortI xs).toArray) id ver (.row e 1 (rows cInt (sortI xs))) (.slice (some ⟨g, 0, none⟩) xs.length cap) g hc hv rfl hother (by omega)
    (h.kept.step rfl rfl rfl (by omega) fun k hk hm => hother k fun e => by
      rcases hside.new g rfl with h1 | h1
      · omega
      · exact hm (e ▸ h1)) (by rw [he]; rfl) fun hI => by
      refine ⟨hc, _, (sortI xs).map (Value.int .i64), hv, ?_, ?_, ?_⟩
      · have := ownsRow_sortedI (w := w) (n := n) (base := 0) (os := #[]) (ss := xs) (ts := sortI xs) (sortI_len xs) (Nat.zero_le _) hh h1 h2 h3
        rw [Sort.grow_empty] at this
        rw [rows_eq, List.length_map, sortI_len]
        exact ⟨this, hside⟩
      · rw [rows_eq]
        exact repIs_ofInts fun x hx => hr x ((sortI_perm xs).subset hx)
      · intro x hx
        rw [rows_eq] at hx
        obtain ⟨y, _, rfl⟩ := List.mem_map.1 hx
        rfl
  refine hs.below ⟨rfl, rfl, rfl, by simp, fun k hk => ?_⟩
  rw [Sort.heap_grow_old _ _ hk]

/-- The call of sort.Ints: the row is sorted. -/
theorem call_sort {f : FuncId} (hf : SortsInts P f) (h : Sim κ η s a w) {K : St → Prop} {x : Operand} {ts : Array TypeId} (ho : o.op = .call { callee := .value (.func f), args := #[x], argTypes := ts }) {id ver e : Nat} {xs : List Int}
    (hx : s.ev x = .osl id ver) (he : s.H.get id = (ver, .row e 1 (rows cInt xs))) (hne : xs ≠ []) (hl : xs.length < 4611686018427387904)
    (hK : K (St.put ⟨s.T, s.H.put id (ver, .row e 1 (rows cInt (sortI xs)))⟩ o.dst (.tup []))) : o.wp P a w (Then κ K) Q' := by
  have hr := h.ev x
  rw [hx] at hr
  obtain ⟨hv, hc⟩ := own_value h he hr
  have hob := h.heap id
  rw [he] at hob
  obtain ⟨_, v, vals, hv', hown, hrep, hlen⟩ := hob
  obtain rfl := Option.some.inj (hv.symm.trans hv')
  rw [rows_eq] at hrep hown
  obtain ⟨rfl, hwr⟩ := repIs_ints hrep
  unfold Oper.wp
  rw [execOp_call ho hf.1]
  rw [Oper.upon_enter]
  rw [List.length_map] at hown
  obtain ⟨⟨-, hrow⟩, hside⟩ := hown
  rcases hrow with ⟨hnil, h0⟩ | ⟨g, cap, cur, hav, -, hh, h1, h2, h3, h4⟩
  · exact absurd (List.length_eq_zero_iff.1 (by simpa using h0)) hne
  · have hargs : (#[x].map a.eval) = #[.slice (some ⟨g, 0, none⟩) xs.length cap] := by simp [hav]
    rw [hargs]
    have hcell := holds_of_blockI (ss := xs) hh (by simpa using h4)
    refine (hf.2 g 0 cap xs w hcell (Array.getElem?_eq_some_iff.1 hh).1 hl).mono ?_
    rintro en w' ⟨rfl, n, os, rfl⟩
    rw [hav] at hv hside
    have hs := sim_sort (n := n) (os := os) h he hc hv hside hh h1 h2 h3 hwr
    exact ⟨η, _, hs.put o.dst (.tup [] [] .nil), hK⟩

theorem W_sortInts {G : Env} {X Y : Req → (PV → Prop) → Prop} {L : Code → (Ex → St → Prop) → St → Prop} (m : Mach P G κ X Y L) {f : FuncId} (hf : SortsInts P f) {Q : Ex → St → Prop} {id : Nat} {o1 o2 : Oper} {c : Code} {t3 t7 : Nat} {ts : Array TypeId}
    (h1 : o1.op = .move (.tmp t3)) (g1 : o1.guard = none) (d1 : o1.dst = some t7) (h2 : o2.op = .call { callee := .value (.func f), args := #[.tmp t7], argTypes := ts }) (g2 : o2.guard = none)
    {ver e idr : Nat} {xs : List Int} (hx : s.ev (.tmp t3) = .osl idr ver) (hx7 : (s.put (some t7) (.osl idr ver)).ev (.tmp t7) = .osl idr ver) (he : s.H.get idr = (ver, .row e 1 (rows cInt xs))) (hne : xs ≠ []) (hl : xs.length < 4611686018427387904)
    (rest : W P κ c Q (St.put ⟨(s.put (some t7) (.osl idr ver)).T, s.H.put idr (ver, .row e 1 (rows cInt (sortI xs)))⟩ o2.dst (.tup []))) : W P κ (.seq (.region id #[o1, o2] false) c) Q s := by
  intro η a w h
  refine wp_seq ?_
  refine wp_region_list ?_
  show wpList P #[o1, o2] _ [o1, o2] a w
  unfold wpList
  rw [if_pos (by simp [Region.wanted, g1])]
  refine .inl (Oper.wp_mono (K := Then κ fun s' => s' = s.put (some t7) (.osl idr ver)) ?_ (sound_move h (.tmp t3) (.inl h1) (by rw [d1, hx])))
  rintro a1 w1 ⟨η1, s1, hs1, rfl⟩
  unfold wpList
  rw [if_pos (by simp [Region.wanted, g2])]
  refine .inl (Oper.wp_mono (K := Then κ fun s' => s' = St.put ⟨(s.put (some t7) (.osl idr ver)).T, s.H.put idr (ver, .row e 1 (rows cInt (sortI xs)))⟩ o2.dst (.tup [])) ?_ (call_sort hf hs1 h2 hx7 he hne hl rfl))
  rintro a2 w2 ⟨η2, s2, hs2, rfl⟩
  unfold wpList
  exact rest η2 a2 w2 hs2
end

theorem sortsInts : SortsInts Try.prog 145 :=
  ⟨⟨_, Try.func145, rfl, rfl⟩, fun blk off cap zs w hH hb hl => calls_of_every_depth fun D => AnyS.sort_Ints_in lays191 D blk off cap zs w hH hb hl⟩

theorem sorted_ok (l : List Int) (hne : l ≠ []) (hl : l.length ≤ 1000000) : OkA Try.prog 105 [.isl 1 (rows cInt l)] (· = .fr 3 1 (rows cInt (sortI l))) :=
  fn_introW envOk fieldsOk mixed Try.func105 rfl rfl fun κ X Y L Q m hQ => by
    have := m.z
    refine W_cut m 2 10 [] [⟨3, 25, 3, 1, 0⟩] (fun σ : List Int => [(3, .osl 25 0)]) (fun σ => [(25, 0, .row 3 1 (rows cInt σ))]) (fun σ => σ = l) (fun E hE => ?_) (fun σ hσ => ?_)
    · conv => cbv
      refine r_append0R m.sX (by first | omega | (dsimp only; omega)) (by first | omega | (dsimp only; omega)) fun z hz => ?_
      conv => cbv
      exact hE _ z (by cbv) (by cbv) hz
    · subst hσ
      refine W_sortInts m sortsInts (t3 := 3) (t7 := 7) rfl rfl rfl rfl rfl (idr := 25) (ver := 0) rfl rfl rfl hne (by omega) ?_
      refine W_last m ?_
      generalize sortI σ = z at *
      conv => cbv
      exact hQ _ rfl

/- The library's sort, of a list without elements, too. -/
set_option maxHeartbeats 1600000 in
theorem insNil (w : World) : Calls Try.prog 164 #[.slice none 0 0, .int .i64 0, .int .i64 0] w fun e w' => e = .returned (.tuple #[]) ∧ w' = w := by
  go_enter Try.func164, Try.ntmps164
  go_wp2
  refine wp_loop_once ?_
  go_wp2
  first | go_end0 | ((try simp only [Exit.inBlock, Exit.then]); refine bodyPost_ret (results_none rfl _ _ _) rfl ?_)
  exact ⟨rfl, rfl⟩
set_option maxHeartbeats 1600000 in
theorem pdqNil (w : World) (l : Int) : Calls Try.prog 162 #[.slice none 0 0, .int .i64 0, .int .i64 0, .int .i64 l] w fun e w' => e = .returned (.tuple #[]) ∧ w' = w := by
  go_enter Try.func162, Try.ntmps162
  go_wp2
  refine wp_loop_once ?_
  go_wp2_with (refine (insNil _).mono ?_; rintro e w1 ⟨rfl, rfl⟩)
  first | go_end0 | ((try simp only [Exit.inBlock, Exit.then]); refine bodyPost_ret (results_none rfl _ _ _) rfl ?_)
  exact ⟨rfl, rfl⟩
set_option maxHeartbeats 1600000 in
theorem lenNil (w : World) : Calls Try.prog 163 #[.int .u64 0] w fun e w' => ∃ n, e = .returned (.int .i64 n) ∧ w' = w := by
  go_enter Try.func163, Try.ntmps163
  go_wp2
  go_ret
  exact ⟨_, rfl, rfl⟩
set_option maxHeartbeats 1600000 in
theorem sSortNil (w : World) : Calls Try.prog 158 #[.slice none 0 0] w fun e w' => e = .returned (.tuple #[]) ∧ w' = w := by
  go_enter Try.func158, Try.ntmps158
  go_wp2_with (first | (refine (lenNil _).mono ?_; rintro e w1 ⟨n, rfl, rfl⟩) | (refine (pdqNil _ _).mono ?_; rintro e w1 ⟨rfl, rfl⟩))
  first | go_end0 | ((try simp only [Exit.inBlock, Exit.then]); refine bodyPost_ret (results_none rfl _ _ _) rfl ?_)
  exact ⟨rfl, rfl⟩
set_option maxHeartbeats 1600000 in
theorem sortNil (w : World) : Calls Try.prog 145 #[.slice none 0 0] w fun e w' => e = .returned (.tuple #[]) ∧ w' = w := by
  go_enter Try.func145, Try.ntmps145
  go_wp2_with (refine (sSortNil _).mono ?_; rintro e w1 ⟨rfl, rfl⟩)
  first | go_end0 | ((try simp only [Exit.inBlock, Exit.then]); refine bodyPost_ret (results_none rfl _ _ _) rfl ?_)
  exact ⟨rfl, rfl⟩

section
variable {P : Program} {κ : Ctx} [NoZ κ] {η : Own} {s : St} {a : Act} {w : World} {o : Oper} {Q' : Exit → Act → World → Prop}
theorem Sim.sameH (h : Sim κ η s a w) {H' : Heap} (e : ∀ i, H'.get i = s.H.get i) : Sim κ η ⟨s.T, H'⟩ a w :=
  ⟨h.tmps, h.defers, fun i => by rw [e i]; exact h.heap i, h.apart, fun i => by rw [e i]; exact h.sub i, h.kept⟩
/-- The call of sort.Ints: the row is sorted. -/
theorem call_sort0 {f : FuncId} (hf : SortsInts P f) (hf0 : ∀ w : World, Calls P f #[.slice none 0 0] w fun e w' => e = .returned (.tuple #[]) ∧ w' = w) (h : Sim κ η s a w) {K : St → Prop} {x : Operand} {ts : Array TypeId} (ho : o.op = .call { callee := .value (.func f), args := #[x], argTypes := ts }) {id ver e : Nat} {xs : List Int}
    (hx : s.ev x = .osl id ver) (he : s.H.get id = (ver, .row e 1 (rows cInt xs))) (hl : xs.length < 4611686018427387904)
    (hK : K (St.put ⟨s.T, s.H.put id (ver, .row e 1 (rows cInt (sortI xs)))⟩ o.dst (.tup []))) : o.wp P a w (Then κ K) Q' := by
  have hr := h.ev x
  rw [hx] at hr
  obtain ⟨hv, hc⟩ := own_value h he hr
  have hob := h.heap id
  rw [he] at hob
  obtain ⟨_, v, vals, hv', hown, hrep, hlen⟩ := hob
  obtain rfl := Option.some.inj (hv.symm.trans hv')
  rw [rows_eq] at hrep hown
  obtain ⟨rfl, hwr⟩ := repIs_ints hrep
  unfold Oper.wp
  rw [execOp_call ho hf.1]
  rw [Oper.upon_enter]
  rw [List.length_map] at hown
  obtain ⟨⟨-, hrow⟩, hside⟩ := hown
  rcases hrow with ⟨hnil, h0⟩ | ⟨g, cap, cur, hav, -, hh, h1, h2, h3, h4⟩
  · obtain rfl : xs = [] := List.length_eq_zero_iff.1 (by simpa using h0)
    have hargs : (#[x].map a.eval) = #[.slice none 0 0] := by simp [hnil]
    rw [hargs]
    refine (hf0 w).mono ?_
    rintro en w' ⟨rfl, rfl⟩
    have e0 : sortI ([] : List Int) = [] := by simp [sortI]
    have hs : Sim κ η ⟨s.T, s.H.put id (ver, .row e 1 (rows cInt (sortI [])))⟩ a w' := h.sameH fun i => by
      rw [Heap.get_put, e0]
      split
      · rename_i e'; rw [e', he]
      · rfl
    exact ⟨η, _, hs.put o.dst (.tup [] [] .nil), hK⟩
  · have hargs : (#[x].map a.eval) = #[.slice (some ⟨g, 0, none⟩) xs.length cap] := by simp [hav]
    rw [hargs]
    have hcell := holds_of_blockI (ss := xs) hh (by simpa using h4)
    refine (hf.2 g 0 cap xs w hcell (Array.getElem?_eq_some_iff.1 hh).1 hl).mono ?_
    rintro en w' ⟨rfl, n, os, rfl⟩
    rw [hav] at hv hside
    have hs := sim_sort (n := n) (os := os) h he hc hv hside hh h1 h2 h3 hwr
    exact ⟨η, _, hs.put o.dst (.tup [] [] .nil), hK⟩

theorem W_sortInts0 {G : Env} {X Y : Req → (PV → Prop) → Prop} {L : Code → (Ex → St → Prop) → St → Prop} (m : Mach P G κ X Y L) {f : FuncId} (hf : SortsInts P f) (hf0 : ∀ w : World, Calls P f #[.slice none 0 0] w fun e w' => e = .returned (.tuple #[]) ∧ w' = w) {Q : Ex → St → Prop} {id : Nat} {o1 o2 : Oper} {c : Code} {t3 t7 : Nat} {ts : Array TypeId}
    (h1 : o1.op = .move (.tmp t3)) (g1 : o1.guard = none) (d1 : o1.dst = some t7) (h2 : o2.op = .call { callee := .value (.func f), args := #[.tmp t7], argTypes := ts }) (g2 : o2.guard = none)
    {ver e idr : Nat} {xs : List Int} (hx : s.ev (.tmp t3) = .osl idr ver) (hx7 : (s.put (some t7) (.osl idr ver)).ev (.tmp t7) = .osl idr ver) (he : s.H.get idr = (ver, .row e 1 (rows cInt xs))) (hl : xs.length < 4611686018427387904)
    (rest : W P κ c Q (St.put ⟨(s.put (some t7) (.osl idr ver)).T, s.H.put idr (ver, .row e 1 (rows cInt (sortI xs)))⟩ o2.dst (.tup []))) : W P κ (.seq (.region id #[o1, o2] false) c) Q s := by
  intro η a w h
  refine wp_seq ?_
  refine wp_region_list ?_
  show wpList P #[o1, o2] _ [o1, o2] a w
  unfold wpList
  rw [if_pos (by simp [Region.wanted, g1])]
  refine .inl (Oper.wp_mono (K := Then κ fun s' => s' = s.put (some t7) (.osl idr ver)) ?_ (sound_move h (.tmp t3) (.inl h1) (by rw [d1, hx])))
  rintro a1 w1 ⟨η1, s1, hs1, rfl⟩
  unfold wpList
  rw [if_pos (by simp [Region.wanted, g2])]
  refine .inl (Oper.wp_mono (K := Then κ fun s' => s' = St.put ⟨(s.put (some t7) (.osl idr ver)).T, s.H.put idr (ver, .row e 1 (rows cInt (sortI xs)))⟩ o2.dst (.tup [])) ?_ (call_sort0 hf hf0 hs1 h2 hx7 he hl rfl))
  rintro a2 w2 ⟨η2, s2, hs2, rfl⟩
  unfold wpList
  exact rest η2 a2 w2 hs2
end

theorem sorted0_ok (l : List Int) (hl : l.length ≤ 100000000) : OkA Try.prog 105 [.isl 1 (rows cInt l)] (· = .fr 3 1 (rows cInt (sortI l))) :=
  fn_introW envOk fieldsOk mixed Try.func105 rfl rfl fun κ X Y L Q m hQ => by
    have := m.z
    refine W_cut m 2 10 [] [⟨3, 25, 3, 1, 0⟩] (fun σ : List Int => [(3, .osl 25 0)]) (fun σ => [(25, 0, .row 3 1 (rows cInt σ))]) (fun σ => σ = l) (fun E hE => ?_) (fun σ hσ => ?_)
    · conv => cbv
      refine r_append0R m.sX (by first | omega | (dsimp only; omega)) (by first | omega | (dsimp only; omega)) fun z hz => ?_
      conv => cbv
      exact hE _ z (by cbv) (by cbv) hz
    · subst hσ
      refine W_sortInts0 m sortsInts sortNil (t3 := 3) (t7 := 7) rfl rfl rfl rfl rfl (idr := 25) (ver := 0) rfl rfl rfl (by omega) ?_
      refine W_last m ?_
      generalize sortI σ = z at *
      conv => cbv
      exact hQ _ rfl

end Go.Proofs.Ytjmjepdlclehoaa.Ai
