/- Plain laws on drifts, corrections and sums. -/
import Derived.Test.YtfnfjgdepilgkaaTrialLaw
namespace Go.Proofs.Ytfnfjgdepilgkaa.Ai
open Go Go.Proofs
set_option linter.unusedVariables false

/-- The step to place k. -/
def dif (l : List Int) (k : Nat) : Int := nth l k - nth l (k - 1)
def driftN (l : List Int) (sg : Int) (f : Nat) : Nat → Nat → Nat
  | 0, n => n
  | m + 1, n => if f + n < l.length ∧ 0 < sg * dif l (f + n) then driftN l sg f m (n + 1) else n
theorem driftN_stop {l : List Int} {sg : Int} {f n : Nat} (m : Nat) (h : ¬ (f + n < l.length ∧ 0 < sg * dif l (f + n))) : driftN l sg f m n = n := by
  cases m with
  | zero => rfl
  | succ m => rw [driftN, if_neg h]
theorem driftN_step {l : List Int} {sg : Int} {f n : Nat} (m : Nat) (h : f + n < l.length ∧ 0 < sg * dif l (f + n)) : driftN l sg f (m + 1) n = driftN l sg f m (n + 1) := by rw [driftN, if_pos h]
def driftI (l : List Int) (f sg : Int) : Int := (driftN l sg f.toNat l.length 1 : Nat)
/-- So many places from f on go one way. -/
structure IsRun (l : List Int) (sg : Int) (f n : Nat) : Prop where
  pos : 1 ≤ n
  fit : f + n ≤ l.length
  run : ∀ j : Nat, 1 ≤ j → j < n → 0 < sg * dif l (f + j)
theorem driftN_run {l : List Int} {sg : Int} {f : Nat} : ∀ (m n : Nat), f + n ≤ l.length → 1 ≤ n → (∀ j : Nat, 1 ≤ j → j < n → 0 < sg * dif l (f + j)) → IsRun l sg f (driftN l sg f m n)
  | 0, n, h1, h2, h3 => ⟨h2, h1, h3⟩
  | m + 1, n, h1, h2, h3 => by
    rw [driftN]
    split
    · rename_i e
      refine driftN_run m (n + 1) (by omega) (by omega) fun j a b => ?_
      by_cases e' : j = n
      · rw [e']; exact e.2
      · exact h3 j a (by omega)
    · exact ⟨h2, h1, h3⟩
theorem driftN_eq {l : List Int} {sg : Int} {f n : Nat} (hr : IsRun l sg f n) (hs : f + n < l.length → ¬ 0 < sg * dif l (f + n)) : ∀ (m k : Nat), 1 ≤ k → k ≤ n → n - k ≤ m → driftN l sg f m k = n
  | 0, k, h1, h2, h3 => by rw [driftN]; omega
  | m + 1, k, h1, h2, h3 => by
    by_cases e : k = n
    · rw [e]
      exact driftN_stop _ fun h => hs h.1 h.2
    · have hf := hr.fit
      rw [driftN_step m ⟨by omega, hr.run k h1 (by omega)⟩]
      exact driftN_eq hr hs m (k + 1) (by omega) (by omega) (by omega)
theorem driftI_eq {l : List Int} {sg : Int} {f n : Nat} (hr : IsRun l sg f n) (hs : f + n < l.length → ¬ 0 < sg * dif l (f + n)) : driftI l f sg = n := by
  have h1 := hr.pos
  have h2 := hr.fit
  rw [driftI, show (f : Int).toNat = f by omega, driftN_eq hr hs l.length 1 (by omega) h1 (by omega)]
def longI (l : List Int) (f : Int) : Int := max (driftI l f 1) (driftI l f (-1))
theorem long_eq {l : List Int} {sg : Int} {f n : Nat} (hsg : sg = 1 ∨ sg = -1) (hr : IsRun l sg f n) (hs : f + n < l.length → ¬ 0 < sg * dif l (f + n)) (ho : n = 1 → f + 1 < l.length → ¬ 0 < -sg * dif l (f + 1)) : longI l f = n := by
  have h1 := driftI_eq hr hs
  have hp := hr.pos
  have hf := hr.fit
  have h2 : driftI l f (-sg) = 1 := by
    refine driftI_eq (n := 1) ⟨by omega, by omega, fun j a b => by omega⟩ fun h => ?_
    by_cases e : n = 1
    · exact ho e h
    · have := hr.run 1 (by omega) (by omega)
      rcases hsg with rfl | rfl <;> omega
  rcases hsg with rfl | rfl
  · rw [longI, h1, h2]; omega
  · rw [longI, h1, show driftI l f 1 = 1 by simpa using h2]; omega
theorem long_run {l : List Int} {f : Nat} (h : f < l.length) : ∃ sg n, (sg = 1 ∨ sg = -1) ∧ longI l f = (n : Nat) ∧ IsRun l sg f n := by
  have r := fun sg => driftN_run (l := l) (sg := sg) (f := f) l.length 1 (by omega) (by omega) (fun j a b => by omega)
  rcases Int.le_total (driftI l f (-1)) (driftI l f 1) with h' | h'
  · exact ⟨1, _, .inl rfl, by rw [longI, Int.max_eq_left h', driftI, show (f : Int).toNat = f by omega], r 1⟩
  · exact ⟨-1, _, .inr rfl, by rw [longI, Int.max_eq_right h', driftI, show (f : Int).toNat = f by omega], r (-1)⟩
def ldS (l : List Int) (i : Int) (p : Int × Int) : Int × Int := if p.2 < longI l i then (i, longI l i) else p
def ldG (l : List Int) : Nat → Int → Int × Int → Int × Int
  | 0, _, p => p
  | n + 1, i, p => ldG l n (i + 1) (ldS l i p)
def ldA (l : List Int) : Int × Int × Bool := if trialB l then ((ldG l l.length 0 (0, 0)).1, (ldG l l.length 0 (0, 0)).2, true) else (0, 0, false)
theorem ldG_one {l : List Int} (h : 1 ≤ l.length) : ldG l l.length 0 (0, 1) = ldG l l.length 0 (0, 0) := by
  obtain ⟨n, hn⟩ : ∃ n, l.length = n + 1 := ⟨l.length - 1, by omega⟩
  have h1 : 1 ≤ longI l 0 := by
    obtain ⟨sg, k, _, e, r⟩ := long_run (l := l) (f := 0) (by omega)
    have := r.pos
    rw [show ((0 : Nat) : Int) = 0 from rfl] at e
    omega
  rw [hn, ldG, ldG]
  congr 1
  unfold ldS
  by_cases e : 1 < longI l 0
  · rw [if_pos e, if_pos (by simp only; omega)]
  · rw [if_neg e, if_pos (by simp only; omega), show longI l 0 = 1 by omega]
theorem ldG_step {l : List Int} {i b m : Int} {n : Nat} {p : Int × Int} (h : p = ldS l i (b, m)) : ldG l (n + 1) i (b, m) = ldG l n (i + 1) p := by rw [ldG, h]
def GoodRun (l : List Int) (p : Int × Int) : Prop := p = (0, 0) ∨ ∃ (sg : Int) (f n : Nat), (sg = 1 ∨ sg = -1) ∧ p = ((f : Int), (n : Int)) ∧ IsRun l sg f n
theorem ldG_good {l : List Int} : ∀ (n : Nat) (i : Nat) (p : Int × Int), i + n = l.length → GoodRun l p → GoodRun l (ldG l n i p) ∧ p.2 ≤ (ldG l n i p).2
  | 0, i, p, _, h => ⟨h, Int.le_refl _⟩
  | n + 1, i, p, hn, h => by
    rw [ldG]
    have hs : GoodRun l (ldS l i p) ∧ p.2 ≤ (ldS l i p).2 := by
      unfold ldS
      split
      · rename_i e
        obtain ⟨sg, k, h1, h2, h3⟩ := long_run (l := l) (f := i) (by omega)
        exact ⟨.inr ⟨sg, i, k, h1, by rw [h2], h3⟩, by simp only; omega⟩
      · exact ⟨h, Int.le_refl _⟩
    have ih := ldG_good n (i + 1) _ (by omega) hs.1
    rw [show ((i + 1 : Nat) : Int) = (i : Int) + 1 by omega] at ih
    exact ⟨ih.1, by omega⟩
theorem ld_facts {l : List Int} {f n : Int} (h : (f, n, true) = ldA l) : TrialOk l ∧ ∃ (sg : Int) (f' n' : Nat), (sg = 1 ∨ sg = -1) ∧ f = f' ∧ n = n' ∧ IsRun l sg f' n' := by
  unfold ldA at h
  split at h
  · rename_i ht
    have ok := trialB_spec ht
    obtain ⟨rfl, h2⟩ := Prod.mk.inj h
    obtain ⟨rfl, _⟩ := Prod.mk.inj h2
    have hl := ok.len
    have g := ldG_good (l := l) l.length 0 (0, 1) (by omega) (.inr ⟨1, 0, 1, .inl rfl, rfl, by omega, by omega, fun j a b => by omega⟩)
    rw [show ((0 : Nat) : Int) = 0 from rfl, ldG_one (by omega)] at g
    refine ⟨ok, ?_⟩
    rcases g.1 with e | ⟨sg, f', n', h1, e, h3⟩
    · exfalso
      have := g.2
      rw [e] at this; simp at this
    · exact ⟨sg, f', n', h1, by rw [e], by rw [e], h3⟩
  · simp at h
/-- The sign of a number. -/
def sgnI (n : Int) : Int := if 0 < n then 1 else if n < 0 then -1 else 0
theorem sgn_mul {n sg : Int} (h : sgnI n = sg) (h0 : sg ≠ 0) : (sg = 1 ∨ sg = -1) ∧ 0 < sg * n := by
  unfold sgnI at h
  split at h
  · subst h; exact ⟨.inl rfl, by omega⟩
  · split at h
    · subst h; exact ⟨.inr rfl, by omega⟩
    · omega
theorem sgn_not {n sg : Int} (h : sgnI n ≠ sg) (h0 : sg = 1 ∨ sg = -1) : ¬ 0 < sg * n := by
  unfold sgnI at h
  intro h'
  rcases h0 with rfl | rfl
  · rw [if_pos (by omega)] at h; exact h rfl
  · rw [if_neg (by omega), if_pos (by omega)] at h; exact h rfl
/-- What the inner loop has seen: all steps so far go the way of the first one. -/
def SameWay (l : List Int) (i k : Nat) : Prop := ∀ j : Nat, i + 1 ≤ j → j < k → sgnI (dif l j) = sgnI (dif l (i + 1)) ∧ sgnI (dif l (i + 1)) ≠ 0
theorem same_long {l : List Int} {i k : Nat} (hs : SameWay l i k) (h1 : i + 1 ≤ k) (h2 : k ≤ l.length) (he : k < l.length → sgnI (dif l (i + 1)) = 0 ∨ sgnI (dif l k) ≠ sgnI (dif l (i + 1))) : longI l i = (k : Int) - i := by
  obtain ⟨n, rfl⟩ : ∃ n, k = i + (n + 1) := ⟨k - i - 1, by omega⟩
  by_cases h0 : sgnI (dif l (i + 1)) = 0
  · have hn : n = 0 := by
      by_cases e : n = 0
      · exact e
      · exact absurd h0 (hs (i + 1) (by omega) (by omega)).2
    subst hn
    have hd : dif l (i + 1) = 0 := by
      unfold sgnI at h0
      split at h0
      · omega
      · split at h0 <;> omega
    rw [long_eq (sg := 1) (n := 1) (.inl rfl) ⟨by omega, by omega, fun j a b => by omega⟩ (fun _ => by rw [hd]; omega) (fun _ _ => by rw [hd]; omega)]
    omega
  · obtain ⟨hsg, hp⟩ := sgn_mul (n := dif l (i + 1)) rfl h0
    rw [long_eq (n := n + 1) hsg ⟨by omega, by omega, fun j a b => ?_⟩ (fun h => ?_) (fun _ _ => ?_)]
    · omega
    · exact (sgn_mul (hs (i + j) (by omega) (by omega)).1 h0).2
    · rcases he h with e | e
      · exact absurd e h0
      · exact sgn_not e hsg
    · have e : -sgnI (dif l (i + 1)) * dif l (i + 1) = -(sgnI (dif l (i + 1)) * dif l (i + 1)) := Int.neg_mul _ _
      rw [e]; omega
theorem same_next {l : List Int} {i k : Nat} (hs : SameWay l i k) (h1 : sgnI (dif l (i + 1)) ≠ 0) (h2 : sgnI (dif l k) = sgnI (dif l (i + 1))) : SameWay l i (k + 1) := by
  intro j a b
  by_cases e : j = k
  · subst e; exact ⟨h2, h1⟩
  · exact hs j a (by omega)

/-! ### Corrections -/
def corrI (l : List Int) : Int := min (-nth (sortI l) ((l.length - 1) / 2)) (max (-nth (sortI l) (l.length / 2)) 0)
def corrA (l : List Int) : Int × Bool := if trialB l then (corrI l, true) else (0, false)
/-- The sum of the deviations. -/
def devI (c : Int) : List Int → Int
  | [] => 0
  | x :: r => absI (x + c) + devI c r
theorem devI_take (c : Int) : ∀ {l : List Int} {i : Nat} {x : Int}, l[i]? = some x → devI c (l.take (i + 1)) = devI c (l.take i) + absI (x + c)
  | [], i, x, h => by simp at h
  | y :: r, 0, x, h => by simp at h; subst h; simp [devI]
  | y :: r, i + 1, x, h => by
    have := devI_take c (l := r) (i := i) (x := x) (by simpa using h)
    simp only [List.take_succ_cons, devI, this]; omega
theorem dev_up (c : Int) : ∀ l : List Int, devI (c + 1) l = devI c l + l.length - 2 * (l.filter fun x => decide (x < -c)).length
  | [] => rfl
  | x :: r => by
    rw [devI, devI, dev_up c r, List.filter_cons]
    by_cases e : x < -c
    · rw [if_pos (by simpa using e), List.length_cons, List.length_cons]
      have : absI (x + (c + 1)) = absI (x + c) - 1 := by unfold absI; omega
      omega
    · rw [if_neg (by simpa using e), List.length_cons]
      have : absI (x + (c + 1)) = absI (x + c) + 1 := by unfold absI; omega
      omega
theorem dev_down (c : Int) : ∀ l : List Int, devI (c - 1) l = devI c l + l.length - 2 * (l.filter fun x => decide (-c < x)).length
  | [] => rfl
  | x :: r => by
    rw [devI, devI, dev_down c r, List.filter_cons]
    by_cases e : -c < x
    · rw [if_pos (by simpa using e), List.length_cons, List.length_cons]
      have : absI (x + (c - 1)) = absI (x + c) - 1 := by unfold absI; omega
      omega
    · rw [if_neg (by simpa using e), List.length_cons]
      have : absI (x + (c - 1)) = absI (x + c) + 1 := by unfold absI; omega
      omega
theorem filter_le {p q : Int → Bool} (h : ∀ x, p x = true → q x = true) : ∀ l : List Int, (l.filter p).length ≤ (l.filter q).length
  | [] => Nat.le_refl _
  | x :: r => by
    have := filter_le h r
    rw [List.filter_cons, List.filter_cons]
    by_cases e : p x = true
    · rw [if_pos e, if_pos (h x e), List.length_cons, List.length_cons]; omega
    · rw [if_neg e]
      split
      · rw [List.length_cons]; omega
      · exact this
theorem corr_least {l : List Int} (h : 1 ≤ l.length) : devI (corrI l) l ≤ devI (corrI l + 1) l ∧ devI (corrI l) l ≤ devI (corrI l - 1) l := by
  have hm := sortI_mono (l := l) (i := (l.length - 1) / 2) (j := l.length / 2) (by omega) (by omega)
  have c1 : -corrI l ≤ nth (sortI l) (l.length / 2) := by unfold corrI; omega
  have c2 : nth (sortI l) ((l.length - 1) / 2) ≤ -corrI l := by unfold corrI; omega
  constructor
  · rw [dev_up, ← count_perm (sortI_perm l)]
    have := count_low (l := sortI l) (l.length / 2) (-corrI l) (fun j hj hl => by
      have := sortI_mono (l := l) hj (by rw [sortI_len] at hl; exact hl)
      omega)
    omega
  · rw [dev_down, ← count_perm (sortI_perm l)]
    have := count_high (l := sortI l) ((l.length - 1) / 2 + 1) (-corrI l) (fun j hj hl => by
      have := sortI_mono (l := l) (i := j) (j := (l.length - 1) / 2) (by omega) (by omega)
      omega)
    rw [sortI_len] at this
    omega
theorem corr_bound {l : List Int} (h : TrialOk l) : -500 ≤ corrI l ∧ corrI l ≤ 500 := by
  have hl := h.len
  have h1 := nth_sort_bound h.bound (j := (l.length - 1) / 2) (by omega)
  have h2 := nth_sort_bound h.bound (j := l.length / 2) (by omega)
  unfold corrI; omega

/-! ### Sums -/
def smAt (l : List Int) (aim : Int) (i : Nat) : Int := (l.take (i + 1)).sum - aim * ((i : Int) + 1)
def smsI (l : List Int) (aim : Int) : List Int := (List.range l.length).map (smAt l aim)
theorem sms_len (l : List Int) (aim : Int) : (smsI l aim).length = l.length := by simp [smsI]
theorem sms_at {l : List Int} {aim : Int} {i : Nat} (h : i < l.length) : nth (smsI l aim) i = smAt l aim i := by
  rw [nth, smsI, List.getElem?_map, List.getElem?_range h]; rfl
def alG (limit : Int) : List Int → Int → Int × Bool
  | [], _ => (0, false)
  | n :: r, i => if limit < absI n then (i, true) else alG limit r (i + 1)
theorem alG_drop {limit : Int} {l : List Int} {i : Nat} {x : Int} (k : Int) (h : l[i]? = some x) : alG limit (l.drop i) k = if limit < absI x then (k, true) else alG limit (l.drop (i + 1)) (k + 1) := by
  have hi := (List.getElem?_eq_some_iff.1 h).1
  rw [List.drop_eq_getElem_cons hi, alG, (List.getElem?_eq_some_iff.1 h).2]
theorem alG_end {limit : Int} {l : List Int} {i : Nat} (k : Int) (h : l.length ≤ i) : alG limit (l.drop i) k = (0, false) := by rw [List.drop_of_length_le h, alG]
theorem alG_spec {limit : Int} : ∀ (l : List Int) (k a : Int), (a, true) = alG limit l k → ∃ j : Nat, a = k + j ∧ j < l.length ∧ limit < absI (nth l j) ∧ ∀ i : Nat, i < j → ¬ limit < absI (nth l i)
  | [], k, a, h => by simp [alG] at h
  | x :: r, k, a, h => by
    rw [alG] at h
    split at h
    · rename_i e
      obtain rfl := (Prod.mk.inj h).1
      exact ⟨0, by omega, by simp, by simpa [nth] using e, fun i hi => by omega⟩
    · rename_i e
      obtain ⟨j, h1, h2, h3, h4⟩ := alG_spec r (k + 1) a h
      refine ⟨j + 1, by omega, by simpa using h2, by simpa [nth] using h3, fun i hi => ?_⟩
      cases i with
      | zero => simpa [nth] using e
      | succ i => simpa [nth] using h4 i (by omega)
def smsA (l : List Int) (aim : Int) : List Int × Bool := if trialB l && inB aim (-500) 500 then (smsI l aim, true) else ([], false)
def alA (l : List Int) (aim limit : Int) : Int × Bool := if (trialB l && inB aim (-500) 500) && inB limit 0 20000 then alG limit (smsI l aim) 0 else (0, false)
theorem sm_bound {l : List Int} (h : TrialOk l) {aim : Int} (ha : -500 ≤ aim ∧ aim ≤ 500) (i : Nat) (hi : i ≤ l.length) : -40000 ≤ (l.take i).sum - aim * (i : Int) ∧ (l.take i).sum - aim * (i : Int) ≤ 40000 := by
  have h1 := sum_abs (l := l.take i) 500 (fun x hx => h.bound x (List.mem_of_mem_take hx))
  rw [List.length_take] at h1
  have hl := h.len
  have h2 : -(500 * (i : Int)) ≤ aim * (i : Int) ∧ aim * (i : Int) ≤ 500 * (i : Int) := by
    constructor
    · have := Int.mul_le_mul_of_nonneg_right (a := -500) (b := aim) (c := (i : Int)) ha.1 (by omega)
      omega
    · exact Int.mul_le_mul_of_nonneg_right ha.2 (by omega)
  omega
theorem sm_at_bound {l : List Int} (h : TrialOk l) {aim : Int} (ha : -500 ≤ aim ∧ aim ≤ 500) {i : Nat} (hi : i < l.length) : -40000 ≤ smAt l aim i ∧ smAt l aim i ≤ 40000 := by
  have := sm_bound h ha (i + 1) (by omega)
  rw [smAt]
  simpa using this
theorem sms_bound {l : List Int} (h : TrialOk l) {aim : Int} (ha : -500 ≤ aim ∧ aim ≤ 500) : ∀ x ∈ smsI l aim, -40000 ≤ x ∧ x ≤ 40000 := by
  intro x hx
  obtain ⟨i, hi, rfl⟩ := List.mem_map.1 hx
  exact sm_at_bound h ha (List.mem_range.1 hi)
theorem sm_next {l : List Int} {aim : Int} {i : Nat} {x : Int} (h : l[i]? = some x) : smAt l aim i = (l.take i).sum - aim * (i : Int) + (x - aim) := by
  rw [smAt, sum_take h, Int.mul_add]; omega
theorem al_sums {l : List Int} {aim limit a : Int} (h : (a, true) = alA l aim limit) : ∃ s, smsA l aim = (s, true) ∧ (0 ≤ limit ∧ limit ≤ 20000) ∧ ∃ j : Nat, a = j ∧ j < s.length ∧ s.length ≤ 40 ∧ limit < absI (nth s j) ∧ ∀ i : Nat, i < j → ¬ limit < absI (nth s i) := by
  unfold alA at h
  split at h
  · rename_i hc
    rw [Bool.and_eq_true] at hc
    have hc1 := hc.1
    rw [Bool.and_eq_true] at hc1
    have ok := trialB_spec hc1.1
    have hl := ok.len
    obtain ⟨j, h1, h2, h3, h4⟩ := alG_spec _ _ _ h
    refine ⟨smsI l aim, by rw [smsA, if_pos hc.1], inB_spec hc.2, j, by omega, h2, by rw [sms_len]; omega, h3, h4⟩
  · simp at h
theorem al_fail {l : List Int} {aim limit a : Int} {three five : Bool} {s : List Int} (h : (a, three) = alA l aim limit) (hs : (s, five) = smsA l aim) : three = true → five = true := by
  rintro rfl
  obtain ⟨q, e, _⟩ := al_sums h
  exact (Prod.mk.inj (hs.trans e)).2
def joinT (a b : List Int) : List Int × Bool := if trialB a && (trialB b && decide (a.length + b.length ≤ 40)) then (a ++ b, true) else ([], false)
theorem join_facts {a b j : List Int} (h : (j, true) = joinT a b) : ∃ z, smsA j 0 = (z, true) ∧ z.length = a.length + b.length ∧ nth z (z.length - 1) = a.sum + b.sum ∧ TrialOk a ∧ TrialOk b ∧ z.length ≠ 0 ∧ z.length ≤ 40 := by
  unfold joinT at h
  split at h
  · rename_i hc
    rw [Bool.and_eq_true, Bool.and_eq_true, decide_eq_true_eq] at hc
    obtain rfl := (Prod.mk.inj h).1
    have ha := trialB_spec hc.1
    have hb := trialB_spec hc.2.1
    have h1 := ha.len
    have h2 := hb.len
    have ht : trialB (a ++ b) = true := by
      rw [trialB, Bool.and_eq_true]
      refine ⟨List.all_eq_true.2 fun x hx => ?_, ?_⟩
      · have : -500 ≤ x ∧ x ≤ 500 := by
          rcases List.mem_append.1 hx with hx | hx
          · exact ha.bound x hx
          · exact hb.bound x hx
        rw [inB, decide_eq_true this.1, decide_eq_true this.2]; rfl
      · rw [List.length_append, inB, decide_eq_true (by omega), decide_eq_true (by omega)]; rfl
    refine ⟨smsI (a ++ b) 0, by rw [smsA, ht]; rfl, by rw [sms_len, List.length_append], ?_, ha, hb, by rw [sms_len, List.length_append]; omega, by rw [sms_len, List.length_append]; omega⟩
    rw [sms_len, sms_at (by rw [List.length_append]; omega), smAt, List.take_of_length_le (by omega), List.sum_append]
    omega
  · simp at h
/-! ### Three sums of deviations beside each other -/
theorem nth_setD {a : List Int} {i : Nat} {v : Int} (j : Nat) (h : i < a.length) : nth (a.set i v) j = if j = i then v else nth a j := by
  rw [nth, nth, List.getElem?_set]
  by_cases e : i = j
  · subst e; rw [if_pos rfl, if_pos rfl, if_pos h]; rfl
  · rw [if_neg e, if_neg (fun h => e h.symm)]
def DevS (l : List Int) (c : Int) (i : Nat) (k : Int) (s : List Int) : Prop := s.length = 3 ∧ ∀ j : Nat, j < 3 → nth s j = devI (c - 1 + (j : Int)) (l.take (if (j : Int) < k then i + 1 else i))
theorem dev_zero (l : List Int) (c : Int) : DevS l c 0 0 [0, 0, 0] := by
  refine ⟨rfl, fun j hj => ?_⟩
  rw [if_neg (by omega), List.take_zero, devI]
  match j, hj with
  | 0, _ => rfl
  | 1, _ => rfl
  | 2, _ => rfl
theorem dev_set {l s : List Int} {c i2 d x : Int} {i : Nat} (h : DevS l c i i2 s) (hd : l[i]? = some d) (hx : s[i2.toNat]? = some x) (h0 : 0 ≤ i2) : DevS l c i (i2 + 1) (s.set i2.toNat (x + absI (d + c + i2 - 1))) := by
  have hi := (List.getElem?_eq_some_iff.1 hx).1
  refine ⟨by rw [List.length_set]; exact h.1, fun j hj => ?_⟩
  rw [nth_setD j hi]
  have hjv := h.2 j hj
  by_cases e : j = i2.toNat
  · subst e
    rw [if_pos rfl, if_pos (by omega), devI_take _ hd]
    rw [if_neg (by omega), nth_some hx] at hjv
    rw [hjv, show ((i2.toNat : Nat) : Int) = i2 by omega, show d + c + i2 - 1 = d + (c - 1 + i2) by omega]
  · rw [if_neg e, hjv]
    congr 2
    by_cases e2 : (j : Int) < i2
    · rw [if_pos e2, if_pos (by omega)]
    · rw [if_neg e2, if_neg (by omega)]
theorem dev_done {l s : List Int} {c : Int} {i : Nat} (h : DevS l c i 3 s) : DevS l c (i + 1) 0 s := ⟨h.1, fun j hj => by rw [h.2 j hj, if_pos (by omega), if_neg (by omega)]⟩
theorem dev_fin {l s : List Int} {c : Int} (h : DevS l c l.length 0 s) : nth s 0 = devI (c - 1) l ∧ nth s 1 = devI c l ∧ nth s 2 = devI (c + 1) l := by
  have a := h.2 0 (by omega)
  have b := h.2 1 (by omega)
  have d := h.2 2 (by omega)
  rw [if_neg (by omega), List.take_of_length_le (Nat.le_refl _)] at a b d
  refine ⟨?_, ?_, ?_⟩
  · rw [a]; congr 1; omega
  · rw [b]; congr 1; omega
  · rw [d]; congr 1; omega
theorem dev_bound {c : Int} (hc : -502 ≤ c ∧ c ≤ 502) : ∀ {l : List Int}, (∀ x ∈ l, -500 ≤ x ∧ x ≤ 500) → 0 ≤ devI c l ∧ devI c l ≤ 1002 * l.length
  | [], _ => by simp [devI]
  | x :: r, h => by
    have ih := dev_bound hc (l := r) (fun y hy => h y (by simp [hy]))
    have hx := h x (by simp)
    have : 0 ≤ absI (x + c) ∧ absI (x + c) ≤ 1002 := by unfold absI; omega
    rw [devI, List.length_cons]
    omega
theorem dev_le {l s : List Int} {c i2 x : Int} {i : Nat} (ok : TrialOk l) (hc : -500 ≤ c ∧ c ≤ 500) (h : DevS l c i i2 s) {k : Nat} (hx : s[k]? = some x) : 0 ≤ x ∧ x ≤ 1002 * 40 := by
  have hk := (List.getElem?_eq_some_iff.1 hx).1
  have h3 := h.1
  have hv := h.2 k (by omega)
  rw [nth_some hx] at hv
  have := dev_bound (c := c - 1 + (k : Int)) (by omega) (l := l.take (if (k : Int) < i2 then i + 1 else i)) (fun y hy => ok.bound y (List.mem_of_mem_take hy))
  rw [← hv, List.length_take] at this
  have hl := ok.len
  omega
theorem ld_two {l : List Int} {f n : Int} {ok : Bool} (h : (f, n, ok) = ldA l) : trialB l = ok := by
  unfold ldA at h
  split at h <;> simp_all
theorem corr_two {l : List Int} {c : Int} {ok : Bool} (h : (c, ok) = corrA l) : trialB l = ok := by
  unfold corrA at h
  split at h <;> simp_all
theorem corr_val {l : List Int} {c : Int} (h : (c, true) = corrA l) : c = corrI l := by
  unfold corrA at h
  split at h
  · exact (Prod.mk.inj h).1
  · simp at h
theorem slice_nth {s zs : List Int} {j i : Nat} {k : Int} (hz : zs = (s.take j).drop (Int.toNat 0)) (h : zs[i]? = some k) : nth s i = k := by
  subst hz
  have h' : (s.take j)[i]? = some k := h
  rw [List.getElem?_take] at h'
  split at h'
  · exact nth_some h'
  · cases h'
end Go.Proofs.Ytfnfjgdepilgkaa.Ai
