/- Plain laws on trials: sorted rows, means, tolerances. -/
import Derived.Test.YtnamefdhmlbcpaaCommonC
namespace Go.Proofs.Ytnamefdhmlbcpaa.Ai
open Go Go.Proofs
set_option linter.unusedVariables false

def trialB (l : List Int) : Bool := allB l (-500) 500 && inB l.length 1 40
structure TrialOk (l : List Int) : Prop where
  bound : ∀ x ∈ l, -500 ≤ x ∧ x ≤ 500
  len : 1 ≤ (l.length : Int) ∧ (l.length : Int) ≤ 40
theorem trialB_spec {l : List Int} (h : trialB l = true) : TrialOk l := by
  rw [trialB, Bool.and_eq_true] at h
  exact ⟨allB_mem h.1, inB_spec h.2⟩
theorem sum_abs {l : List Int} : ∀ (M : Int), (∀ x ∈ l, -M ≤ x ∧ x ≤ M) → -(M * l.length) ≤ l.sum ∧ l.sum ≤ M * l.length := by
  induction l with
  | nil => intro M _; simp
  | cons x r ih =>
    intro M h
    have h1 := ih M (fun y hy => h y (by simp [hy]))
    have h2 := h x (by simp)
    simp only [List.sum_cons, List.length_cons, Int.natCast_add, Int.mul_add]
    omega
theorem TrialOk.fits {l : List Int} (h : TrialOk l) : SumFits l := sumfits_of 500 h.bound (by have := h.len; omega)
theorem TrialOk.sum {l : List Int} (h : TrialOk l) : -20000 ≤ l.sum ∧ l.sum ≤ 20000 := by
  have := sum_abs 500 h.bound
  have := h.len
  omega

/-! ### Sorted rows -/
def sortI (l : List Int) : List Int := l.mergeSort fun x y => decide (x ≤ y)
theorem sortI_perm (l : List Int) : (sortI l).Perm l := List.mergeSort_perm _ _
theorem sortI_len (l : List Int) : (sortI l).length = l.length := (sortI_perm l).length_eq
theorem sortI_le (l : List Int) : (sortI l).Pairwise (fun x y => x ≤ y) := by
  have := List.pairwise_mergeSort (le := fun x y : Int => decide (x ≤ y)) (fun a b c h1 h2 => by simp only [decide_eq_true_eq] at *; omega) (fun a b => by simp only [Bool.or_eq_true, decide_eq_true_eq]; omega) l
  exact this.imp fun h => by simpa using h
theorem sortI_eq {l s : List Int} (h1 : s.Perm l) (h2 : s.Pairwise (fun x y => x ≤ y)) : s = sortI l :=
  List.Perm.eq_of_pairwise (le := fun x y => x ≤ y) (fun a b _ _ h h' => by omega) h2 (sortI_le l) (h1.trans (sortI_perm l).symm)
/-- One more among sorted ones. -/
def putS (l : List Int) (n : Int) : List Int := l.takeWhile (fun x => decide (x < n)) ++ n :: l.dropWhile (fun x => decide (x < n))
theorem putS_perm (l : List Int) (n : Int) : (putS l n).Perm (n :: l) := by
  have h := List.takeWhile_append_dropWhile (p := fun x => decide (x < n)) (l := l)
  have : (putS l n).Perm (n :: (l.takeWhile (fun x => decide (x < n)) ++ l.dropWhile (fun x => decide (x < n)))) := List.perm_middle
  rwa [h] at this
theorem putS_le {n : Int} : ∀ {l : List Int}, l.Pairwise (fun x y => x ≤ y) → (putS l n).Pairwise (fun x y => x ≤ y)
  | [], _ => by simp [putS]
  | x :: r, h => by
    rw [List.pairwise_cons] at h
    by_cases e : x < n
    · have e1 : putS (x :: r) n = x :: putS r n := by simp [putS, e]
      rw [e1, List.pairwise_cons]
      refine ⟨fun y hy => ?_, putS_le h.2⟩
      rcases List.mem_cons.1 ((putS_perm r n).subset hy) with rfl | hy
      · omega
      · exact h.1 y hy
    · have e1 : putS (x :: r) n = n :: x :: r := by simp [putS, e]
      rw [e1, List.pairwise_cons]
      refine ⟨fun y hy => ?_, List.pairwise_cons.2 h⟩
      rcases List.mem_cons.1 hy with rfl | hy
      · omega
      · have := h.1 y hy; omega
def insS (l : List Int) (a : List Int) : List Int := l.foldl putS a
theorem insS_cons (x : Int) (r a : List Int) : insS (x :: r) a = insS r (putS a x) := rfl
theorem insS_drop {l : List Int} {i : Nat} {x : Int} (a : List Int) (h : l[i]? = some x) : insS (l.drop i) a = insS (l.drop (i + 1)) (putS a x) := by
  have hi := (List.getElem?_eq_some_iff.1 h).1
  rw [List.drop_eq_getElem_cons hi, insS_cons, (List.getElem?_eq_some_iff.1 h).2]
theorem insS_spec : ∀ (l a : List Int), a.Pairwise (fun x y => x ≤ y) → (insS l a).Perm (l ++ a) ∧ (insS l a).Pairwise (fun x y => x ≤ y)
  | [], a, h => ⟨List.Perm.refl _, h⟩
  | x :: r, a, h => by
    have ih := insS_spec r (putS a x) (putS_le h)
    rw [insS_cons]
    refine ⟨ih.1.trans ?_, ih.2⟩
    exact (List.Perm.append_left r (putS_perm a x)).trans List.perm_middle
theorem insS_sort (l : List Int) : insS l [] = sortI l := by
  have := insS_spec l [] List.Pairwise.nil
  exact sortI_eq (by simpa using this.1) this.2
/-- The place of the next one: as many are less. -/
theorem putS_at {l : List Int} {n : Int} {k : Nat} (h1 : ∀ j : Nat, j < k → nth l j < n) (hk : k ≤ l.length) (h2 : k < l.length → n ≤ nth l k) : putS l n = (l.take k ++ [n]) ++ l.drop k := by
  induction l generalizing k with
  | nil => simp [putS]
  | cons x r ih =>
    cases k with
    | zero =>
      have : n ≤ x := by simpa [nth] using h2 (by simp)
      have e : ¬ x < n := by omega
      simp [putS, e]
    | succ k =>
      have e : x < n := by simpa [nth] using h1 0 (by omega)
      have e1 : putS (x :: r) n = x :: putS r n := by simp [putS, e]
      rw [e1, ih (k := k) (fun j hj => by simpa [nth] using h1 (j + 1) (by omega)) (by simpa using hk) (fun hj => by simpa [nth] using h2 (by simpa using hj))]
      simp
theorem sortI_mono {l : List Int} {i j : Nat} (h : i ≤ j) (hj : j < l.length) : nth (sortI l) i ≤ nth (sortI l) j := by
  have hl := sortI_len l
  rw [nth_some (List.getElem?_eq_getElem (by omega : i < (sortI l).length)), nth_some (List.getElem?_eq_getElem (by omega : j < (sortI l).length))]
  rcases Nat.lt_or_eq_of_le h with h | rfl
  · exact List.pairwise_iff_getElem.1 (sortI_le l) i j _ _ h
  · exact Int.le_refl _
theorem count_perm {p : Int → Bool} {a b : List Int} (h : a.Perm b) : (a.filter p).length = (b.filter p).length := (h.filter p).length_eq
theorem count_low {l : List Int} (k : Nat) (m : Int) (h : ∀ j : Nat, k ≤ j → j < l.length → m ≤ nth l j) : (l.filter fun x => decide (x < m)).length ≤ k := by
  have e : l.filter (fun x => decide (x < m)) = (l.take k).filter (fun x => decide (x < m)) := by
    conv => lhs; rw [← List.take_append_drop k l]
    rw [List.filter_append]
    have : (l.drop k).filter (fun x => decide (x < m)) = [] := by
      rw [List.filter_eq_nil_iff]
      intro x hx
      obtain ⟨j, hj, rfl⟩ := List.getElem_of_mem hx
      rw [List.length_drop] at hj
      have := h (k + j) (by omega) (by omega)
      rw [nth_some (List.getElem?_eq_getElem (by omega))] at this
      rw [List.getElem_drop]
      simpa using this
    rw [this, List.append_nil]
  rw [e]
  exact Nat.le_trans (List.length_filter_le _ _) (by rw [List.length_take]; omega)
theorem count_high {l : List Int} (k : Nat) (m : Int) (h : ∀ j : Nat, j < k → j < l.length → nth l j ≤ m) : (l.filter fun x => decide (m < x)).length ≤ l.length - k := by
  have e : l.filter (fun x => decide (m < x)) = (l.drop k).filter (fun x => decide (m < x)) := by
    conv => lhs; rw [← List.take_append_drop k l]
    rw [List.filter_append]
    have : (l.take k).filter (fun x => decide (m < x)) = [] := by
      rw [List.filter_eq_nil_iff]
      intro x hx
      obtain ⟨j, hj, rfl⟩ := List.getElem_of_mem hx
      rw [List.length_take] at hj
      have := h j (by omega) (by omega)
      rw [nth_some (List.getElem?_eq_getElem (by omega))] at this
      rw [List.getElem_take]
      simpa using this
    rw [this, List.nil_append]
  rw [e]
  exact Nat.le_trans (List.length_filter_le _ _) (by rw [List.length_drop]; omega)
def medI (l : List Int) : Int := nth (sortI l) ((l.length - 1) / 2)
theorem med_low {l : List Int} (h : 1 ≤ l.length) : 2 * (l.filter fun x => decide (x < medI l)).length ≤ l.length := by
  rw [← count_perm (sortI_perm l)]
  have := count_low (l := sortI l) ((l.length - 1) / 2) (medI l) (fun j hj hl => sortI_mono hj (by rw [sortI_len] at hl; exact hl))
  omega
theorem med_high {l : List Int} (h : 1 ≤ l.length) : 2 * (l.filter fun x => decide (medI l < x)).length ≤ l.length := by
  rw [← count_perm (sortI_perm l)]
  have := count_high (l := sortI l) ((l.length - 1) / 2 + 1) (medI l) (fun j hj hl => sortI_mono (by omega) (by omega))
  rw [sortI_len] at this
  omega
def spreadI (l : List Int) : Int := nth (sortI l) (l.length - 1) - nth (sortI l) 0
theorem spread_nn {l : List Int} (h : 1 ≤ l.length) : 0 ≤ spreadI l := by
  have := sortI_mono (l := l) (i := 0) (j := l.length - 1) (by omega) (by omega)
  rw [spreadI]; omega
theorem sortI_bound {l : List Int} {M : Int} (h : ∀ x ∈ l, -M ≤ x ∧ x ≤ M) : ∀ x ∈ sortI l, -M ≤ x ∧ x ≤ M := fun x hx => h x ((sortI_perm l).subset hx)
theorem nth_sort_bound {l : List Int} {M : Int} (h : ∀ x ∈ l, -M ≤ x ∧ x ≤ M) {j : Nat} (hj : j < l.length) : -M ≤ nth (sortI l) j ∧ nth (sortI l) j ≤ M := by
  have hl := sortI_len l
  rw [nth_some (List.getElem?_eq_getElem (by omega : j < (sortI l).length))]
  exact sortI_bound h _ (List.getElem_mem _)
def spreadA (l : List Int) : Int × Bool := if trialB l then (spreadI l, true) else (0, false)
def medA (l : List Int) : Int × Bool := if trialB l then (medI l, true) else (0, false)

/-! ### Means -/
def absI (n : Int) : Int := max n (-n)
theorem absI_nat (n : Int) : absI n = n.natAbs := by unfold absI; omega
def gcdI (a b : Int) : Int := (Nat.gcd a.toNat b.toNat : Nat)
theorem gcdI_step {a b : Int} (ha : 0 ≤ a) (hb : 0 < b) : gcdI a b = gcdI b (a % b) := by
  have h1 : (a % b).toNat = a.toNat % b.toNat := by
    rw [Int.toNat_emod ha (by omega)]
  rw [gcdI, gcdI, h1, Nat.gcd_comm a.toNat, Nat.gcd_rec, Nat.gcd_comm]
theorem gcdI_zero {a : Int} (ha : 0 ≤ a) : gcdI a 0 = a := by rw [gcdI]; simp; omega
theorem gcdI_pos {a b : Int} (hb : 1 ≤ b) : 1 ≤ gcdI a b := by
  rw [gcdI]
  have := Nat.gcd_pos_of_pos_right a.toNat (n := b.toNat) (by omega)
  omega
theorem gcdI_le {a b : Int} (hb : 1 ≤ b) : gcdI a b ≤ b := by
  rw [gcdI]
  have := Nat.gcd_le_right a.toNat (n := b.toNat) (by omega)
  omega
def meanA (l : List Int) : Int × Int × Bool :=
  if trialB l then (l.sum.tdiv (gcdI (absI l.sum) l.length), (l.length : Int) / gcdI (absI l.sum) l.length, true) else (0, 0, false)
theorem mean_ok {l : List Int} {a b : Int} (h : (a, b, true) = meanA l) : a * l.length = l.sum * b ∧ 1 ≤ b ∧ b ≤ 40 ∧ -20000 ≤ a ∧ a ≤ 20000 ∧ TrialOk l := by
  unfold meanA at h
  split at h
  · rename_i ht
    have ok := trialB_spec ht
    have hl := ok.len
    have hs := ok.sum
    obtain ⟨rfl, h2⟩ := Prod.mk.inj h
    obtain ⟨rfl, _⟩ := Prod.mk.inj h2
    have hg := gcdI_pos (a := absI l.sum) (b := l.length) hl.1
    have hle := gcdI_le (a := absI l.sum) (b := l.length) hl.1
    have d1 : gcdI (absI l.sum) l.length ∣ l.sum := by
      rw [absI_nat, gcdI, ← Int.dvd_natAbs]
      exact Int.natCast_dvd_natCast.2 (by simpa using Nat.gcd_dvd_left l.sum.natAbs l.length)
    have d2 : gcdI (absI l.sum) l.length ∣ (l.length : Int) := by
      rw [gcdI]
      exact Int.natCast_dvd_natCast.2 (by simpa using Nat.gcd_dvd_right (absI l.sum).toNat l.length)
    generalize gcdI (absI l.sum) l.length = g at *
    obtain ⟨u, hu⟩ := d1
    obtain ⟨v, hv⟩ := d2
    have e1 : l.sum.tdiv g = u := by rw [hu]; exact Int.mul_tdiv_cancel_left u (by omega)
    have e2 : (l.length : Int) / g = v := by rw [hv]; exact Int.mul_ediv_cancel_left v (by omega)
    have hv1 : 1 ≤ v := by
      rcases Int.lt_or_le v 1 with h' | h'
      · have : g * v ≤ 0 := Int.mul_nonpos_of_nonneg_of_nonpos (by omega) (by omega)
        omega
      · exact h'
    have hv2 : v ≤ g * v := by
      have := Int.mul_le_mul_of_nonneg_right (a := 1) (b := g) (c := v) hg (by omega)
      omega
    rw [e1, e2]
    refine ⟨by rw [hv, hu, ← Int.mul_assoc, Int.mul_comm u g], hv1, by omega, ?_, ?_, ok⟩
    · rcases Int.lt_or_le u 0 with h' | h'
      · have := Int.mul_le_mul_of_nonpos_right (a := g) (b := 1) (c := u) hg (by omega)
        omega
      · omega
    · rcases Int.lt_or_le u 0 with h' | h'
      · omega
      · have := Int.mul_le_mul_of_nonneg_right (a := 1) (b := g) (c := u) hg h'
        omega
  · simp at h

/-! ### Tolerances -/
def outG (m : Int) : List Int → Int → List Int
  | [], _ => []
  | x :: r, i => if m < absI x then i :: outG m r (i + 1) else outG m r (i + 1)
def outI (l : List Int) (m : Int) : List Int := outG m l 0
theorem outG_take {m : Int} : ∀ {l : List Int} {i : Nat} {x : Int} (k : Int), l[i]? = some x → outG m (l.take (i + 1)) k = outG m (l.take i) k ++ (if m < absI x then [k + i] else [])
  | [], i, x, k, h => by simp at h
  | y :: r, 0, x, k, h => by
    simp at h; subst h
    simp only [List.take_succ_cons, List.take_zero, outG]
    split <;> simp
  | y :: r, i + 1, x, k, h => by
    have := outG_take (m := m) (l := r) (i := i) (x := x) (k + 1) (by simpa using h)
    simp only [List.take_succ_cons, outG, this]
    have e : k + 1 + (i : Int) = k + ((i + 1 : Nat) : Int) := by omega
    rw [e]
    split <;> simp
theorem outI_take {m : Int} {l : List Int} {i : Nat} {x : Int} (h : l[i]? = some x) : outI (l.take (i + 1)) m = outI (l.take i) m ++ (if m < absI x then [(i : Int)] else []) := by
  rw [outI, outG_take 0 h, outI, Int.zero_add]
theorem outG_len (m : Int) : ∀ (l : List Int) (k : Int), (outG m l k).length = (l.filter fun x => decide (m < absI x)).length
  | [], _ => rfl
  | x :: r, k => by
    rw [outG, List.filter_cons]
    by_cases e : m < absI x
    · rw [if_pos e, if_pos (by simpa using e), List.length_cons, List.length_cons, outG_len m r]
    · rw [if_neg e, if_neg (by simpa using e), outG_len m r]
def cntO (l : List Int) (m : Int) : Nat := (l.filter fun x => decide (m < absI x)).length
theorem outI_len (l : List Int) (m : Int) : (outI l m).length = cntO l m := outG_len m l 0
theorem cntO_le (l : List Int) (m : Int) : cntO l m ≤ l.length := List.length_filter_le _ _
theorem cntO_zero {l : List Int} {m : Int} (h : ∀ x ∈ l, absI x ≤ m) : cntO l m = 0 := by
  rw [cntO, List.length_eq_zero_iff, List.filter_eq_nil_iff]
  intro x hx
  have := h x hx
  simp; omega
def insI (l : List Int) (m : Int) : List Int := l.filter fun x => decide (absI x ≤ m)
theorem insI_take {m : Int} {l : List Int} {i : Nat} {x : Int} (h : l[i]? = some x) : insI (l.take (i + 1)) m = insI (l.take i) m ++ (if absI x ≤ m then [x] else []) := by
  have hi := (List.getElem?_eq_some_iff.1 h).1
  rw [insI, List.take_succ_eq_append_getElem hi, List.filter_append, (List.getElem?_eq_some_iff.1 h).2]
  congr 1
  by_cases e : absI x ≤ m
  · rw [if_pos e]; simp [e]
  · rw [if_neg e]; simp; omega
theorem ins_out (m : Int) : ∀ l : List Int, (insI l m).length + cntO l m = l.length
  | [] => rfl
  | x :: r => by
    have := ins_out m r
    rw [insI, cntO] at this ⊢
    rw [List.filter_cons, List.filter_cons]
    by_cases e : absI x ≤ m
    · rw [if_pos (by simpa using e), if_neg (by simp; omega), List.length_cons, List.length_cons]; omega
    · rw [if_neg (by simpa using e), if_pos (by simp; omega), List.length_cons, List.length_cons]; omega
/-- The least tolerance from m on that lets enough pass. -/
def leastG (l : List Int) (al : Int) : Nat → Int → Int
  | 0, m => m
  | n + 1, m => if al < (cntO l m : Int) then leastG l al n (m + 1) else m
def leastA (l : List Int) (al : Int) : Int × Bool := if trialB l && inB al 0 40 then (leastG l al 500 0, true) else (0, false)
theorem leastG_spec (l : List Int) (al : Int) : ∀ (n : Nat) (m : Int), (leastG l al n m ≤ m + n ∧ m ≤ leastG l al n m) ∧ (leastG l al n m < m + n → (cntO l (leastG l al n m) : Int) ≤ al) ∧ (m < leastG l al n m → al < (cntO l (leastG l al n m - 1) : Int))
  | 0, m => by rw [leastG]; refine ⟨by omega, fun h => by omega, fun h => by omega⟩
  | n + 1, m => by
    rw [leastG]
    split
    · rename_i e
      obtain ⟨h1, h2, h3⟩ := leastG_spec l al n (m + 1)
      refine ⟨by omega, fun h => h2 (by omega), fun h => ?_⟩
      by_cases e' : m + 1 < leastG l al n (m + 1)
      · exact h3 e'
      · rw [show leastG l al n (m + 1) - 1 = m by omega]; exact e
    · rename_i e
      exact ⟨by omega, fun h => by omega, fun h => by omega⟩
theorem leastG_done {l : List Int} {al : Int} (n : Nat) (m : Int) (h : (cntO l m : Int) ≤ al) : leastG l al n m = m := by
  cases n with
  | zero => rfl
  | succ n => rw [leastG, if_neg (by omega)]
theorem leastG_step {l : List Int} {al : Int} {n : Nat} {m : Int} (h : al < (cntO l m : Int)) : leastG l al (n + 1) m = leastG l al n (m + 1) := by rw [leastG, if_pos h]
theorem trial_out {l : List Int} (h : TrialOk l) {m : Int} (hm : 500 ≤ m) : cntO l m = 0 := cntO_zero fun x hx => by have := h.bound x hx; unfold absI; omega
theorem least_facts {l : List Int} {al t : Int} (h : (t, true) = leastA l al) : TrialOk l ∧ (0 ≤ al ∧ al ≤ 40) ∧ (0 ≤ t ∧ t ≤ 500) ∧ (cntO l t : Int) ≤ al ∧ (0 < t → al < (cntO l (t - 1) : Int)) := by
  unfold leastA at h
  split at h
  · rename_i hc
    rw [Bool.and_eq_true] at hc
    have ok := trialB_spec hc.1
    have ha := inB_spec hc.2
    obtain rfl := (Prod.mk.inj h).1
    obtain ⟨h1, h2, h3⟩ := leastG_spec l al 500 0
    refine ⟨ok, ha, by omega, ?_, h3⟩
    by_cases e : leastG l al 500 0 < 0 + (500 : Nat)
    · exact h2 e
    · rw [trial_out ok (by omega)]; omega
  · simp at h
def acceptA (l : List Int) (m al : Int) : Bool × Bool := if trialB l && (inB m 0 500 && inB al 0 40) then (decide ((cntO l m : Int) ≤ al), true) else (false, false)
def outA (l : List Int) (m : Int) : List Int × Bool := if trialB l && inB m 0 500 then (outI l m, true) else ([], false)
def withA (l : List Int) (m : Int) : List Int × Bool := if trialB l && inB m 0 500 then (insI l m, decide (0 < (insI l m).length)) else ([], false)
theorem accept_at {l : List Int} {al t : Int} (h : (t, true) = leastA l al) : acceptA l t al = (true, true) ∧ (0 < t → acceptA l (t - 1) al = (false, true)) := by
  obtain ⟨ok, ha, ht, h1, h2⟩ := least_facts h
  have hb : trialB l = true := by
    unfold leastA at h
    split at h
    · rename_i hc; rw [Bool.and_eq_true] at hc; exact hc.1
    · simp at h
  have e1 : inB al 0 40 = true := by rw [inB, decide_eq_true ha.1, decide_eq_true ha.2]; rfl
  refine ⟨?_, fun hp => ?_⟩
  · rw [acceptA, hb, e1, show inB t 0 500 = true by rw [inB, decide_eq_true ht.1, decide_eq_true ht.2]; rfl, decide_eq_true h1]; rfl
  · rw [acceptA, hb, e1, show inB (t - 1) 0 500 = true by rw [inB, decide_eq_true (by omega), decide_eq_true (by omega)]; rfl, decide_eq_false (by have := h2 hp; omega)]; rfl
theorem with_nine {v w o : List Int} {m : Int} {seven nine : Bool} (ho : (o, seven) = outA v m) (hw : (w, nine) = withA v m) : nine = (seven && decide ((o.length : Int) < v.length)) := by
  unfold outA at ho
  unfold withA at hw
  have hio := ins_out m v
  split at ho
  · rename_i hc
    rw [if_pos hc] at hw
    obtain ⟨rfl, rfl⟩ := Prod.mk.inj ho
    obtain ⟨rfl, rfl⟩ := Prod.mk.inj hw
    rw [outI_len, Bool.true_and, decide_eq_decide]; omega
  · rename_i hc
    rw [if_neg hc] at hw
    obtain ⟨rfl, rfl⟩ := Prod.mk.inj ho
    obtain ⟨rfl, rfl⟩ := Prod.mk.inj hw
    rfl
theorem with_left {v w : List Int} {m : Int} (hw : (w, true) = withA v m) : ∃ q, outA w m = (q, true) ∧ q = [] ∧ ∀ o s, (o, s) = outA v m → (w.length : Int) + o.length = v.length := by
  unfold withA at hw
  split at hw
  · rename_i hc
    obtain ⟨rfl, hd⟩ := Prod.mk.inj hw
    have hd := of_decide_eq_true hd.symm
    have hc' := hc
    rw [Bool.and_eq_true] at hc
    have ok := trialB_spec hc.1
    have hio := ins_out m v
    have hle : (insI v m).length ≤ v.length := by omega
    have hb : trialB (insI v m) = true := by
      rw [trialB, Bool.and_eq_true]
      refine ⟨List.all_eq_true.2 fun x hx => ?_, ?_⟩
      · have := ok.bound x ((List.mem_filter.1 hx).1)
        rw [inB, decide_eq_true this.1, decide_eq_true this.2]; rfl
      · have := ok.len
        rw [inB, decide_eq_true (by omega), decide_eq_true (by omega)]; rfl
    have hz : cntO (insI v m) m = 0 := cntO_zero fun x hx => by simpa using (List.mem_filter.1 hx).2
    refine ⟨outI (insI v m) m, by rw [outA, hb, hc.2]; rfl, ?_, fun o s ho => ?_⟩
    · exact List.length_eq_zero_iff.1 (by rw [outI_len, hz])
    · unfold outA at ho
      rw [if_pos hc'] at ho
      obtain ⟨rfl, _⟩ := Prod.mk.inj ho
      rw [outI_len]; omega
  · simp at hw
end Go.Proofs.Ytnamefdhmlbcpaa.Ai
