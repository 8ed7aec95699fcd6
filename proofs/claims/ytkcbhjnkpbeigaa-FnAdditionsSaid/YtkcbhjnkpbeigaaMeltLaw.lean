/- Plain laws on melts and blends. -/
import Derived.Test.YtkcbhjnkpbeigaaCommon
namespace Go.Proofs.Ytkcbhjnkpbeigaa.Ai
open Go Go.Proofs
set_option linter.unusedVariables false

/-- Lead, Tin, Antimony. -/
abbrev Melt := Int × Int × Int
/-- LowTin, HighTin, LowAntimony, HighAntimony. -/
abbrev Blend := Int × Int × Int × Int
def cMelt (m : Melt) : List PV := [.int .i64 m.1, .int .i64 m.2.1, .int .i64 m.2.2]
def cBlend (b : Blend) : List PV := [.int .i64 b.1, .int .i64 b.2.1, .int .i64 b.2.2.1, .int .i64 b.2.2.2]

def okMelt (m : Melt) : Bool := inB m.1 0 1000000 && (inB m.2.1 0 1000000 && inB m.2.2 0 1000000)
def gr (m : Melt) : Int := m.1 + m.2.1 + m.2.2
def okMetal (m : Melt) : Bool := okMelt m && decide (0 < gr m)
def okSh (lo hi : Int) : Bool := decide (0 ≤ lo) && (decide (lo ≤ hi) && decide (hi ≤ 1000))
def okBlend (b : Blend) : Bool := okSh b.1 b.2.1 && okSh b.2.2.1 b.2.2.2
def fitsF (m : Melt) (b : Blend) : Bool := inB (1000 * m.2.1) (b.1 * gr m) (b.2.1 * gr m) && inB (1000 * m.2.2) (b.2.2.1 * gr m) (b.2.2.2 * gr m)
def doesAns (m : Melt) (b : Blend) : Bool × Bool := if okMetal m && okBlend b then (fitsF m b, true) else (false, false)

theorem okMelt_spec {m : Melt} (h : okMelt m = true) : (0 ≤ m.1 ∧ m.1 ≤ 1000000) ∧ (0 ≤ m.2.1 ∧ m.2.1 ≤ 1000000) ∧ (0 ≤ m.2.2 ∧ m.2.2 ≤ 1000000) := by
  simp only [okMelt, Bool.and_eq_true] at h
  exact ⟨inB_spec h.1, inB_spec h.2.1, inB_spec h.2.2⟩
theorem okSh_spec {lo hi : Int} (h : okSh lo hi = true) : 0 ≤ lo ∧ lo ≤ hi ∧ hi ≤ 1000 := by
  simp only [okSh, Bool.and_eq_true, decide_eq_true_eq] at h
  exact h
theorem okSh_eq (lo hi : Int) : (inB lo 0 1000 && inB hi lo 1000) = okSh lo hi := by
  rw [Bool.eq_iff_iff]
  simp only [okSh, inB, Bool.and_eq_true, decide_eq_true_eq]
  omega
theorem okBlend_spec {b : Blend} (h : okBlend b = true) : (0 ≤ b.1 ∧ b.1 ≤ b.2.1 ∧ b.2.1 ≤ 1000) ∧ (0 ≤ b.2.2.1 ∧ b.2.2.1 ≤ b.2.2.2 ∧ b.2.2.2 ≤ 1000) := by
  rw [okBlend, Bool.and_eq_true] at h
  exact ⟨okSh_spec h.1, okSh_spec h.2⟩
theorem okMetal_spec {m : Melt} (h : okMetal m = true) : okMelt m = true ∧ 0 < gr m := by
  simpa [okMetal] using h

/-! ### The least number for which something is so -/
def isLeast (p : Int → Bool) (n : Int) : Prop := 0 ≤ n ∧ n ≤ 1000000 ∧ p n = true ∧ ∀ k, 0 ≤ k → k < n → p k = false
open Classical in
noncomputable def leastF (p : Int → Bool) : Int × Bool := if h : ∃ n, isLeast p n then (Classical.choose h, true) else (0, false)
theorem leastF_some {p : Int → Bool} {n : Int} (h : isLeast p n) : leastF p = (n, true) := by
  have he : ∃ n, isLeast p n := ⟨n, h⟩
  rw [leastF, dif_pos he]
  have hc := Classical.choose_spec he
  have : Classical.choose he = n := by
    rcases Int.lt_trichotomy (Classical.choose he) n with hl | hl | hl
    · have := h.2.2.2 _ hc.1 hl
      rw [hc.2.2.1] at this; cases this
    · exact hl
    · have := hc.2.2.2 n h.1 hl
      rw [h.2.2.1] at this; cases this
  rw [this]
theorem leastF_none {p : Int → Bool} (h : ∀ n, 0 ≤ n → n ≤ 1000000 → p n = false) : leastF p = (0, false) := by
  rw [leastF, dif_neg]
  rintro ⟨n, h1, h2, h3, _⟩
  rw [h n h1 h2] at h3; cases h3
theorem leastF_spec {p : Int → Bool} {n : Int} (h : (n, true) = leastF p) : isLeast p n := by
  unfold leastF at h
  split at h
  · rename_i he
    have := (Prod.mk.inj h).1
    rw [this]
    exact Classical.choose_spec he
  · simp at h
theorem leastF_false {p : Int → Bool} {n : Int} (h : (n, false) = leastF p) : n = 0 ∧ ¬ ∃ n, isLeast p n := by
  unfold leastF at h
  split at h
  · simp at h
  · rename_i he
    exact ⟨(Prod.mk.inj h).1, he⟩
/-- What stays so. -/
def stays (p : Int → Bool) : Prop := ∀ a b, 0 ≤ a → a ≤ b → b ≤ 1000000 → p a = true → p b = true
theorem not_before {p : Int → Bool} (hs : stays p) {n : Int} (hn : n ≤ 1000000) (h : p n = false) : ∀ k, 0 ≤ k → k ≤ n → p k = false := fun k h0 h1 => by
  cases hk : p k with
  | false => rfl
  | true => rw [hs k n h0 h1 hn hk] at h; cases h

/-- Rounded up: the least n with lack ≤ d * n. -/
def upF (lack d : Int) : Int × Bool := if lack ≤ 0 then (0, true) else if d = 0 ∨ 1000000 < (lack + d - 1) / d then (0, false) else ((lack + d - 1) / d, true)
theorem up_least {lack d : Int} (hd : 0 ≤ d) : upF lack d = leastF fun n => decide (lack ≤ d * n) := by
  unfold upF
  split
  · rename_i h
    refine (leastF_some ⟨Int.le_refl _, by omega, ?_, fun k h0 h1 => by omega⟩).symm
    rw [decide_eq_true_eq, Int.mul_zero]; exact h
  · rename_i h
    split
    · rename_i hN
      refine (leastF_none fun n h0 h1 => ?_).symm
      rw [decide_eq_false_iff_not]
      intro hle
      rcases hN with rfl | hN
      · rw [Int.zero_mul] at hle; omega
      · have hd1 : 0 < d := by
          rcases Int.lt_or_eq_of_le hd with h2 | h2
          · exact h2
          · rw [← h2, Int.zero_mul] at hle; omega
        have h3 : (lack + d - 1) / d ≤ n := by
          have h4 : lack + d - 1 < (n + 1) * d := by rw [Int.add_mul, Int.one_mul, Int.mul_comm n d]; omega
          exact Int.lt_add_one_iff.1 (Int.ediv_lt_of_lt_mul hd1 h4)
        omega
    · rename_i hN
      have hd1 : 0 < d := by omega
      have l1 := Int.lt_mul_ediv_self_add (x := lack + d - 1) hd1
      have l2 := Int.mul_ediv_self_le (x := lack + d - 1) (k := d) (by omega)
      have h0 : 0 ≤ (lack + d - 1) / d := Int.ediv_nonneg (by omega) (by omega)
      refine (leastF_some ⟨h0, by omega, ?_, fun k h1 h2 => ?_⟩).symm
      · rw [decide_eq_true_eq]; omega
      · rw [decide_eq_false_iff_not]
        intro hle
        have h3 : d * (k + 1) ≤ d * ((lack + d - 1) / d) := Int.mul_le_mul_of_nonneg_left (by omega) hd
        rw [Int.mul_add, Int.mul_one] at h3
        omega
/-- Enough of a part, when n of it are added. -/
def lowP (g all share n : Int) : Bool := decide (share * (all + n) ≤ 1000 * (g + n))
/-- Not too much of a part, when n of another are added. -/
def highP (g all share n : Int) : Bool := decide (1000 * g ≤ share * (all + n))
theorem low_eq (g all share : Int) : (fun n => lowP g all share n) = fun n => decide (share * all - 1000 * g ≤ (1000 - share) * n) := funext fun n => by
  rw [lowP, decide_eq_decide, Int.mul_add, Int.mul_add, Int.sub_mul]
  constructor <;> intro h <;> omega
theorem high_eq (g all share : Int) : (fun n => highP g all share n) = fun n => decide (1000 * g - share * all ≤ share * n) := funext fun n => by
  rw [highP, decide_eq_decide, Int.mul_add]
  constructor <;> intro h <;> omega
theorem low_stays {g all share : Int} (h : share ≤ 1000) : stays fun n => lowP g all share n := fun a b h0 h1 h2 hp => by
  rw [low_eq] at *
  rw [decide_eq_true_eq] at *
  have := Int.mul_le_mul_of_nonneg_left h1 (show 0 ≤ 1000 - share by omega)
  omega
theorem high_stays {g all share : Int} (h : 0 ≤ share) : stays fun n => highP g all share n := fun a b h0 h1 h2 hp => by
  rw [high_eq] at *
  rw [decide_eq_true_eq] at *
  have := Int.mul_le_mul_of_nonneg_left h1 h
  omega
theorem low_least {g all share : Int} (h : share ≤ 1000) : upF (share * all - 1000 * g) (1000 - share) = leastF fun n => lowP g all share n := by
  rw [low_eq]; exact up_least (by omega)
theorem high_least {g all share : Int} (h : 0 ≤ share) : upF (1000 * g - share * all) share = leastF fun n => highP g all share n := by
  rw [high_eq]; exact up_least h
theorem both_stay {p q : Int → Bool} (hp : stays p) (hq : stays q) : stays fun n => p n && q n := fun a b h0 h1 h2 h => by
  rw [Bool.and_eq_true] at *
  exact ⟨hp a b h0 h1 h2 h.1, hq a b h0 h1 h2 h.2⟩
theorem exists_least {p : Int → Bool} {n : Int} (h : p n = true) (h0 : 0 ≤ n) (hm : n ≤ 1000000) : ∃ n, isLeast p n := by
  have main : ∀ (k : Nat) (n : Int), n.toNat = k → 0 ≤ n → n ≤ 1000000 → p n = true → ∃ n, isLeast p n := by
    intro k
    induction k using Nat.strongRecOn with
    | ind k ih =>
      intro n hk h0 hm h
      by_cases hx : ∃ j, 0 ≤ j ∧ j < n ∧ p j = true
      · obtain ⟨j, j0, jn, hj⟩ := hx
        exact ih j.toNat (by omega) j rfl j0 (by omega) hj
      · refine ⟨n, h0, hm, h, fun j j0 jn => ?_⟩
        cases hj : p j with
        | false => rfl
        | true => exact absurd ⟨j, j0, jn, hj⟩ hx
  exact main _ n rfl h0 hm h
/-- The least number for both. -/
theorem both_least {p q : Int → Bool} (hp : stays p) (hq : stays q) {t a : Int} {b c : Bool} (h1 : (t, b) = leastF p) (h2 : (a, c) = leastF q) : leastF (fun n => p n && q n) = if b && c then (if t > a then t else a, true) else (0, false) := by
  cases b with
  | false =>
    have hn := (leastF_false h1).2
    rw [if_neg (by simp)]
    refine leastF_none fun n h0 hm => ?_
    cases hb : p n with
    | false => rfl
    | true => exact absurd (exists_least hb h0 hm) hn
  | true =>
    cases c with
    | false =>
      have hn := (leastF_false h2).2
      rw [if_neg (by simp)]
      refine leastF_none fun n h0 hm => ?_
      cases hb : q n with
      | false => simp
      | true => exact absurd (exists_least hb h0 hm) hn
    | true =>
      have l1 := leastF_spec h1
      have l2 := leastF_spec h2
      rw [if_pos (show (true && true) = true from rfl)]
      split
      · rename_i hta
        exact leastF_some ⟨l1.1, l1.2.1, by show (p t && q t) = true; rw [l1.2.2.1, hq a t l2.1 (by omega) l1.2.1 l2.2.2.1]; rfl, fun k h0 hk => by show (p k && q k) = false; rw [l1.2.2.2 k h0 hk]; rfl⟩
      · rename_i hta
        exact leastF_some ⟨l2.1, l2.2.1, by show (p a && q a) = true; rw [l2.2.2.1, hp t a l1.1 (by omega) l2.2.1 l1.2.2.1]; rfl, fun k h0 hk => by show (p k && q k) = false; rw [l2.2.2.2 k h0 hk]; simp⟩

def tinAns (m : Melt) (b : Blend) : Int × Bool := if okMetal m && okBlend b then upF (b.1 * gr m - 1000 * m.2.1) (1000 - b.1) else (0, false)
def antAns (m : Melt) (b : Blend) : Int × Bool := if okMetal m && okBlend b then upF (b.2.2.1 * gr m - 1000 * m.2.2) (1000 - b.2.2.1) else (0, false)
noncomputable def leadAns (m : Melt) (b : Blend) : Int × Bool := if okMetal m && okBlend b then leastF fun n => highP m.2.1 (gr m) b.2.1 n && highP m.2.2 (gr m) b.2.2.2 n else (0, false)

/-! ### How often another melt has to be added -/
def mPlus (a b : Melt) : Melt := (a.1 + b.1, a.2.1 + b.2.1, a.2.2 + b.2.2)
def mTimes (a b : Melt) (k : Int) : Melt := (a.1 + k * b.1, a.2.1 + k * b.2.1, a.2.2 + k * b.2.2)
theorem mTimes_next (a b : Melt) (k : Int) : mPlus (mTimes a b k) b = mTimes a b (k + 1) := by
  simp only [mPlus, mTimes, Int.add_mul, Int.one_mul, Int.add_assoc]
theorem mTimes_zero (a b : Melt) : mTimes a b 0 = a := by simp [mTimes]
def goodAt (m : Melt) (b : Blend) : Bool := decide (0 < gr m) && fitsF m b
def othF (m o : Melt) (b : Blend) : Nat → Int → Int × Bool
  | 0, _ => (0, false)
  | k + 1, n => if okMelt (mTimes m o n) then (if goodAt (mTimes m o n) b then (n, true) else othF m o b k (n + 1)) else (0, false)
def othAns (m o : Melt) (b : Blend) : Int × Bool := if okMelt m && (okMelt o && okBlend b) then othF m o b 201 0 else (0, false)
theorem othF_spec {m o : Melt} {b : Blend} : ∀ {k : Nat} {n t : Int}, (t, true) = othF m o b k n → n ≤ t ∧ t < n + k ∧ goodAt (mTimes m o t) b = true ∧ (∀ j, n ≤ j → j ≤ t → okMelt (mTimes m o j) = true) ∧ ∀ j, n ≤ j → j < t → goodAt (mTimes m o j) b = false
  | 0, _, _, h => by simp [othF] at h
  | k + 1, n, t, h => by
    unfold othF at h
    split at h
    case isFalse => simp at h
    rename_i ho
    split at h
    · rename_i hg
      obtain rfl := (Prod.mk.inj h).1
      exact ⟨Int.le_refl _, by omega, hg, fun j h1 h2 => by rw [show j = t by omega]; exact ho, fun j h1 h2 => by omega⟩
    · rename_i hg
      obtain ⟨h1, h2, h3, h4, h5⟩ := othF_spec h
      refine ⟨by omega, by omega, h3, fun j j1 j2 => ?_, fun j j1 j2 => ?_⟩
      · rcases Int.lt_or_eq_of_le j1 with hl | rfl
        · exact h4 j (by omega) j2
        · exact ho
      · rcases Int.lt_or_eq_of_le j1 with hl | rfl
        · exact h5 j (by omega) j2
        · simpa using hg
/-! ### Melts joined -/
def sumG : Melt → List Melt → Melt
  | a, [] => a
  | a, x :: r => sumG (mPlus a x) r
def joinA (l : List Melt) : Melt × Bool := if l.all okMelt && (decide (l.length ≤ 20) && okMelt (sumG (0, 0, 0) l)) then (sumG (0, 0, 0) l, true) else ((0, 0, 0), false)
def mbR (r : Melt × Bool) : PV := .tup [.agg (cMelt r.1), .bool r.2]
theorem flat_mbR {v : Melt × Bool} : ∀ r, r = mbR v → flatR r := fun r h => by
  subst h
  intro q hq
  rcases List.mem_cons.1 hq with rfl | hq
  · intro c hc
    simp only [cMelt, List.mem_cons, List.not_mem_nil, or_false] at hc
    rcases hc with rfl | rfl | rfl <;> trivial
  · rw [List.mem_singleton.1 hq]; trivial
theorem all_cons_bad {l : List Melt} {x : Melt} {r : List Melt} (h : l.all okMelt = (x :: r).all okMelt) (hx : okMelt x = false) : l.all okMelt = false := by
  rw [h, List.all_cons, hx]; rfl
theorem othF_step {m o : Melt} {b : Blend} {n : Int} (h0 : 0 ≤ n) (h : n ≤ 200) : othF m o b (201 - n).toNat n = if okMelt (mTimes m o n) then (if goodAt (mTimes m o n) b then (n, true) else othF m o b (201 - (n + 1)).toNat (n + 1)) else (0, false) := by
  rw [show (201 - n).toNat = (201 - (n + 1)).toNat + 1 by omega, othF]
theorem othF_out {m o : Melt} {b : Blend} {n : Int} (h : 200 < n) : othF m o b (201 - n).toNat n = (0, false) := by
  rw [show (201 - n).toNat = 0 by omega, othF]
/-- The k-th melt and its place. -/
theorem oth_at {m o : Melt} {b : Blend} {t : Int} (h : (t, true) = othAns m o b) : okMelt m = true ∧ okMelt o = true ∧ okBlend b = true ∧ 0 ≤ t ∧ t ≤ 200 ∧ (∀ j, 0 ≤ j → j ≤ t → okMelt (mTimes m o j) = true ∧ doesAns (mTimes m o j) b = (if 0 < gr (mTimes m o j) then (fitsF (mTimes m o j) b, true) else (false, false))) ∧ ∀ j, 0 ≤ j → j ≤ t → goodAt (mTimes m o j) b = decide (j = t) := by
  unfold othAns at h
  split at h
  case isFalse => simp at h
  rename_i hc
  simp only [Bool.and_eq_true] at hc
  obtain ⟨h1, h2, h3, h4, h5⟩ := othF_spec h
  refine ⟨hc.1, hc.2.1, hc.2.2, h1, by omega, fun j j0 j1 => ⟨h4 j j0 j1, ?_⟩, fun j j0 j1 => ?_⟩
  · rw [doesAns, okMetal, h4 j j0 j1, hc.2.2]
    by_cases hg : 0 < gr (mTimes m o j)
    · rw [if_pos hg, decide_eq_true hg]; rfl
    · rw [if_neg hg, decide_eq_false hg]; rfl
  · rcases Int.lt_or_eq_of_le j1 with hl | rfl
    · rw [h5 j j0 hl, decide_eq_false (by omega)]
    · rw [h3, decide_eq_true rfl]
/-- Two melts of a row of them, joined. -/
theorem join_two {a o : Melt} (ha : okMelt a = true) (ho : okMelt o = true) (hp : okMelt (mPlus a o) = true) : joinA [a, o] = (mPlus a o, true) := by
  have e : sumG (0, 0, 0) [a, o] = mPlus a o := by
    show mPlus (mPlus (0, 0, 0) a) o = mPlus a o
    congr 1
    show ((0 + a.1, 0 + a.2.1, 0 + a.2.2) : Melt) = a
    rw [Int.zero_add, Int.zero_add, Int.zero_add]
  rw [joinA, e, hp]
  simp [ha, ho]
theorem does_fits {m : Melt} {b : Blend} {f : Bool} (h : (f, true) = doesAns m b) : okMetal m = true ∧ okBlend b = true ∧ f = fitsF m b := by
  unfold doesAns at h
  split at h
  · rename_i hc
    rw [Bool.and_eq_true] at hc
    exact ⟨hc.1, hc.2, (Prod.mk.inj h).1⟩
  · simp at h
theorem tin_spec {m : Melt} {b : Blend} {t : Int} (h : (t, true) = tinAns m b) : okMetal m = true ∧ okBlend b = true ∧ isLeast (fun n => lowP m.2.1 (gr m) b.1 n) t := by
  unfold tinAns at h
  split at h
  · rename_i hc
    rw [Bool.and_eq_true] at hc
    have hb := okBlend_spec hc.2
    rw [low_least (by omega)] at h
    exact ⟨hc.1, hc.2, leastF_spec h⟩
  · simp at h
theorem ant_spec {m : Melt} {b : Blend} {t : Int} (h : (t, true) = antAns m b) : okMetal m = true ∧ okBlend b = true ∧ isLeast (fun n => lowP m.2.2 (gr m) b.2.2.1 n) t := by
  unfold antAns at h
  split at h
  · rename_i hc
    rw [Bool.and_eq_true] at hc
    have hb := okBlend_spec hc.2
    rw [low_least (by omega)] at h
    exact ⟨hc.1, hc.2, leastF_spec h⟩
  · simp at h
theorem lead_spec {m : Melt} {b : Blend} {t : Int} (h : (t, true) = leadAns m b) : okMetal m = true ∧ okBlend b = true ∧ isLeast (fun n => highP m.2.1 (gr m) b.2.1 n && highP m.2.2 (gr m) b.2.2.2 n) t := by
  unfold leadAns at h
  split at h
  · rename_i hc
    rw [Bool.and_eq_true] at hc
    exact ⟨hc.1, hc.2, leastF_spec h⟩
  · simp at h
/-- What fits needs nothing. -/
theorem fits_none {m : Melt} {b : Blend} (hm : okMetal m = true) (hb : okBlend b = true) (hf : fitsF m b = true) : tinAns m b = (0, true) ∧ antAns m b = (0, true) ∧ leadAns m b = (0, true) := by
  rw [fitsF, Bool.and_eq_true] at hf
  have h1 := inB_spec hf.1
  have h2 := inB_spec hf.2
  refine ⟨?_, ?_, ?_⟩
  · rw [tinAns, hm, hb]; simp only [Bool.and_self, if_true, upF]; rw [if_pos (by omega)]
  · rw [antAns, hm, hb]; simp only [Bool.and_self, if_true, upF]; rw [if_pos (by omega)]
  · rw [leadAns, hm, hb]
    simp only [Bool.and_self, if_true]
    refine leastF_some ⟨Int.le_refl _, by omega, ?_, fun k h0 h1 => by omega⟩
    simp only [highP, Int.add_zero, Bool.and_eq_true, decide_eq_true_eq]
    omega
theorem asked_spec {m : Melt} {b : Blend} (h : (okMetal m && okBlend b) = true) : okMelt m = true ∧ ((0 ≤ m.1 ∧ m.1 ≤ 1000000) ∧ (0 ≤ m.2.1 ∧ m.2.1 ≤ 1000000) ∧ (0 ≤ m.2.2 ∧ m.2.2 ≤ 1000000)) ∧ (0 < gr m ∧ gr m ≤ 3000000) ∧ ((0 ≤ b.1 ∧ b.1 ≤ b.2.1 ∧ b.2.1 ≤ 1000) ∧ (0 ≤ b.2.2.1 ∧ b.2.2.1 ≤ b.2.2.2 ∧ b.2.2.2 ≤ 1000)) ∧ okBlend b = true := by
  rw [Bool.and_eq_true] at h
  obtain ⟨h1, h2⟩ := okMetal_spec h.1
  have h3 := okMelt_spec h1
  exact ⟨h1, h3, ⟨h2, by simp only [gr]; omega⟩, okBlend_spec h.2, h.2⟩
theorem gr_bound {m : Melt} (h : okMelt m = true) : 0 ≤ gr m ∧ gr m ≤ 3000000 := by
  have := okMelt_spec h
  simp only [gr]; omega
theorem lead_eq {m : Melt} {b : Blend} (h : (okMetal m && okBlend b) = true) {t a : Int} {p q : Bool} (h1 : (t, p) = upF (1000 * m.2.1 - b.2.1 * gr m) b.2.1) (h2 : (a, q) = upF (1000 * m.2.2 - b.2.2.2 * gr m) b.2.2.2) :
    leadAns m b = if p && q then (max t a, true) else (0, false) := by
  obtain ⟨-, -, -, hb, -⟩ := asked_spec h
  rw [high_least (by omega)] at h1 h2
  rw [leadAns, if_pos h, both_least (high_stays (by omega)) (high_stays (by omega)) h1 h2]
  have e : (if t > a then t else a) = max t a := by split <;> omega
  rw [e]
theorem oth_next {m o x : Melt} {b : Blend} {n : Int} (h0 : 0 ≤ n) (h : n ≤ 200) (w : x = mTimes m o n) (hx : okMelt x = true) (hg : goodAt x b = false) : othF m o b (201 - n).toNat n = othF m o b (201 - (n + 1)).toNat (n + 1) := by
  rw [othF_step h0 h, ← w, if_pos hx, hg]; rfl
theorem oth_good {m o x : Melt} {b : Blend} {n : Int} (h0 : 0 ≤ n) (h : n ≤ 200) (w : x = mTimes m o n) (hx : okMelt x = true) (hg : goodAt x b = true) : othF m o b (201 - n).toNat n = (n, true) := by
  rw [othF_step h0 h, ← w, if_pos hx, hg]; rfl
theorem oth_bad {m o x : Melt} {b : Blend} {n : Int} (h0 : 0 ≤ n) (h : n ≤ 200) (w : x = mTimes m o n) (hx : okMelt x = false) : othF m o b (201 - n).toNat n = (0, false) := by
  rw [othF_step h0 h, ← w, hx]; rfl
theorem good_yes {x : Melt} {b : Blend} {r : Int} (h1 : r = gr x) (h2 : 0 < r) (h3 : fitsF x b = true) : goodAt x b = true := by rw [goodAt, decide_eq_true (by omega), h3]; rfl
theorem good_no {x : Melt} {b : Blend} {r : Int} (h1 : r = gr x) (h2 : r ≤ 0 ∨ fitsF x b = false) : goodAt x b = false := by
  rcases h2 with h2 | h2
  · rw [goodAt, decide_eq_false (by omega)]; rfl
  · rw [goodAt, h2]; simp
theorem tin_facts {m : Melt} {b : Blend} {t : Int} (h : (t, true) = tinAns m b) : (0 ≤ t ∧ t ≤ 1000000) ∧ ((0 ≤ m.1 ∧ m.1 ≤ 1000000) ∧ (0 ≤ m.2.1 ∧ m.2.1 ≤ 1000000) ∧ (0 ≤ m.2.2 ∧ m.2.2 ≤ 1000000)) ∧ (0 ≤ b.1 * (m.1 + m.2.1 + m.2.2 + t) ∧ b.1 * (m.1 + m.2.1 + m.2.2 + t) ≤ 10000000000) ∧
    (0 < t → 0 ≤ b.1 * (m.1 + m.2.1 + m.2.2 + t - 1) ∧ b.1 * (m.1 + m.2.1 + m.2.2 + t - 1) ≤ 10000000000) ∧ b.1 * (m.1 + m.2.1 + m.2.2 + t) ≤ 1000 * (m.2.1 + t) ∧ (0 < t → 1000 * (m.2.1 + t - 1) < b.1 * (m.1 + m.2.1 + m.2.2 + t - 1)) := by
  obtain ⟨h1, h2, h3⟩ := tin_spec h
  have hm := okMelt_spec (okMetal_spec h1).1
  have hb := okBlend_spec h2
  obtain ⟨i1, i2, i3, i4⟩ := h3
  have m1 := mul_bound (a := b.1) (A := 1000) (b := m.1 + m.2.1 + m.2.2 + t) (B := 4000000) (by omega) (by omega) (by omega) (by omega)
  refine ⟨⟨i1, i2⟩, hm, by omega, fun h0 => ?_, of_decide_eq_true i3, fun h0 => ?_⟩
  · have := mul_bound (a := b.1) (A := 1000) (b := m.1 + m.2.1 + m.2.2 + t - 1) (B := 4000000) (by omega) (by omega) (by omega) (by omega)
    omega
  · have := of_decide_eq_false (i4 (t - 1) (by omega) (by omega))
    rw [show gr m + (t - 1) = m.1 + m.2.1 + m.2.2 + t - 1 by simp only [gr]; omega] at this
    omega
theorem ant_facts {m : Melt} {b : Blend} {t : Int} (h : (t, true) = antAns m b) : (0 ≤ t ∧ t ≤ 1000000) ∧ ((0 ≤ m.1 ∧ m.1 ≤ 1000000) ∧ (0 ≤ m.2.1 ∧ m.2.1 ≤ 1000000) ∧ (0 ≤ m.2.2 ∧ m.2.2 ≤ 1000000)) ∧ (0 ≤ b.2.2.1 * (m.1 + m.2.1 + m.2.2 + t) ∧ b.2.2.1 * (m.1 + m.2.1 + m.2.2 + t) ≤ 10000000000) ∧
    (0 < t → 0 ≤ b.2.2.1 * (m.1 + m.2.1 + m.2.2 + t - 1) ∧ b.2.2.1 * (m.1 + m.2.1 + m.2.2 + t - 1) ≤ 10000000000) ∧ b.2.2.1 * (m.1 + m.2.1 + m.2.2 + t) ≤ 1000 * (m.2.2 + t) ∧ (0 < t → 1000 * (m.2.2 + t - 1) < b.2.2.1 * (m.1 + m.2.1 + m.2.2 + t - 1)) := by
  obtain ⟨h1, h2, h3⟩ := ant_spec h
  have hm := okMelt_spec (okMetal_spec h1).1
  have hb := okBlend_spec h2
  obtain ⟨i1, i2, i3, i4⟩ := h3
  have m1 := mul_bound (a := b.2.2.1) (A := 1000) (b := m.1 + m.2.1 + m.2.2 + t) (B := 4000000) (by omega) (by omega) (by omega) (by omega)
  refine ⟨⟨i1, i2⟩, hm, by omega, fun h0 => ?_, of_decide_eq_true i3, fun h0 => ?_⟩
  · have := mul_bound (a := b.2.2.1) (A := 1000) (b := m.1 + m.2.1 + m.2.2 + t - 1) (B := 4000000) (by omega) (by omega) (by omega) (by omega)
    omega
  · have := of_decide_eq_false (i4 (t - 1) (by omega) (by omega))
    rw [show gr m + (t - 1) = m.1 + m.2.1 + m.2.2 + t - 1 by simp only [gr]; omega] at this
    omega
theorem lead_facts {m : Melt} {b : Blend} {t : Int} (h : (t, true) = leadAns m b) : (0 ≤ t ∧ t ≤ 1000000) ∧ ((0 ≤ m.1 ∧ m.1 ≤ 1000000) ∧ (0 ≤ m.2.1 ∧ m.2.1 ≤ 1000000) ∧ (0 ≤ m.2.2 ∧ m.2.2 ≤ 1000000)) ∧ (0 ≤ b.2.1 * (m.1 + m.2.1 + m.2.2 + t) ∧ b.2.1 * (m.1 + m.2.1 + m.2.2 + t) ≤ 10000000000) ∧ (0 ≤ b.2.2.2 * (m.1 + m.2.1 + m.2.2 + t) ∧ b.2.2.2 * (m.1 + m.2.1 + m.2.2 + t) ≤ 10000000000) ∧
    1000 * m.2.1 ≤ b.2.1 * (m.1 + m.2.1 + m.2.2 + t) ∧ 1000 * m.2.2 ≤ b.2.2.2 * (m.1 + m.2.1 + m.2.2 + t) := by
  obtain ⟨h1, h2, h3⟩ := lead_spec h
  have hm := okMelt_spec (okMetal_spec h1).1
  have hb := okBlend_spec h2
  obtain ⟨i1, i2, i3, i4⟩ := h3
  have m1 := mul_bound (a := b.2.1) (A := 1000) (b := m.1 + m.2.1 + m.2.2 + t) (B := 4000000) (by omega) (by omega) (by omega) (by omega)
  have m2 := mul_bound (a := b.2.2.2) (A := 1000) (b := m.1 + m.2.1 + m.2.2 + t) (B := 4000000) (by omega) (by omega) (by omega) (by omega)
  have i5 : (highP m.2.1 (gr m) b.2.1 t && highP m.2.2 (gr m) b.2.2.2 t) = true := i3
  rw [Bool.and_eq_true] at i5
  exact ⟨⟨i1, i2⟩, hm, by omega, by omega, of_decide_eq_true i5.1, of_decide_eq_true i5.2⟩
theorem fits_no {m : Melt} {b : Blend} {f o1 o2 o3 : Bool} {t a l : Int} (hf : (f, true) = doesAns m b) (h1 : (t, o1) = tinAns m b) (h2 : (a, o2) = antAns m b) (h3 : (l, o3) = leadAns m b) (e : f = true) : (t = 0 ∧ o1 = true) ∧ (a = 0 ∧ o2 = true) ∧ (l = 0 ∧ o3 = true) ∧ okBlend b = true := by
  subst e
  obtain ⟨k1, k2, k3⟩ := does_fits hf
  obtain ⟨e1, e2, e3⟩ := fits_none k1 k2 k3.symm
  rw [e1] at h1; rw [e2] at h2; rw [e3] at h3
  exact ⟨Prod.mk.inj h1, Prod.mk.inj h2, Prod.mk.inj h3, k2⟩
theorem does_good {x m o : Melt} {b : Blend} {t k : Int} {now nine : Bool} (h : (t, true) = othAns m o b) (w : x = mTimes m o k) (h0 : 0 ≤ k) (h1 : k ≤ t) (hd : (now, nine) = doesAns x b) : (nine && now) = decide (k = t) := by
  obtain ⟨-, -, -, -, -, h6, h7⟩ := oth_at h
  rw [← h7 k h0 h1]
  subst w
  rw [(h6 k h0 h1).2] at hd
  unfold goodAt
  split at hd
  · rename_i hg
    obtain ⟨rfl, rfl⟩ := Prod.mk.inj hd
    rw [decide_eq_true hg]
  · rename_i hg
    obtain ⟨rfl, rfl⟩ := Prod.mk.inj hd
    rw [decide_eq_false hg]; rfl
theorem join_at {x m o : Melt} {b : Blend} {t k : Int} (h : (t, true) = othAns m o b) (w : x = mTimes m o k) (h0 : 0 ≤ k) (h1 : k < t) : joinA [x, o] = (mPlus x o, true) := by
  obtain ⟨-, ho, -, -, -, h6, -⟩ := oth_at h
  refine join_two (by rw [w]; exact (h6 k h0 (by omega)).1) ho ?_
  rw [w, mTimes_next]; exact (h6 (k + 1) (by omega) (by omega)).1
theorem oth_bd {x m o : Melt} {b : Blend} {t k : Int} (h : (t, true) = othAns m o b) (w : x = mTimes m o k) (h0 : 0 ≤ k) (h1 : k ≤ t) :
    ((0 ≤ x.1 ∧ x.1 ≤ 1000000) ∧ (0 ≤ x.2.1 ∧ x.2.1 ≤ 1000000) ∧ (0 ≤ x.2.2 ∧ x.2.2 ≤ 1000000)) ∧ ((0 ≤ o.1 ∧ o.1 ≤ 1000000) ∧ (0 ≤ o.2.1 ∧ o.2.1 ≤ 1000000) ∧ (0 ≤ o.2.2 ∧ o.2.2 ≤ 1000000)) := by
  obtain ⟨-, ho, -, -, -, h6, -⟩ := oth_at h
  exact ⟨okMelt_spec (by rw [w]; exact (h6 k h0 h1).1), okMelt_spec ho⟩
end Go.Proofs.Ytkcbhjnkpbeigaa.Ai
