/- Plain laws on tables: the least starts of columns, widths. -/
import Derived.Test.YtpjmpgbgglhoeaaCommon
namespace Go.Proofs.Ytpjmpgbgglhoeaa.Ai
open Go Go.Proofs
set_option linter.unusedVariables false

/-- Column, Span, Wide. -/
abbrev Entry := Int × Int × Int
def cEntry (x : Entry) : List PV := [.int .i64 x.1, .int .i64 x.2.1, .int .i64 x.2.2]
theorem flat_cEntry : ∀ x, ∀ c ∈ cEntry x, flat c := fun x c hc => by
  simp only [cEntry, List.mem_cons, List.not_mem_nil, or_false] at hc
  rcases hc with rfl | rfl | rfl <;> trivial

def okE (n : Int) (x : Entry) : Bool := inB x.1 0 (n - 1) && (inB x.2.1 1 (n - x.1) && inB x.2.2 0 600)
def okT (n : Int) (l : List Entry) : Bool := l.all (okE n) && (inB n 1 10 && decide ((l.length : Int) ≤ 20))
def okG (n : Int) (l : List Entry) (g : Int) : Bool := okT n l && inB g 0 36

theorem okE_spec {n : Int} {x : Entry} (h : okE n x = true) : (0 ≤ x.1 ∧ x.1 ≤ n - 1) ∧ (1 ≤ x.2.1 ∧ x.2.1 ≤ n - x.1) ∧ (0 ≤ x.2.2 ∧ x.2.2 ≤ 600) := by
  simp only [okE, Bool.and_eq_true] at h
  exact ⟨inB_spec h.1, inB_spec h.2.1, inB_spec h.2.2⟩
theorem okT_spec {n : Int} {l : List Entry} (h : okT n l = true) : (∀ x ∈ l, okE n x = true) ∧ (1 ≤ n ∧ n ≤ 10) ∧ (l.length : Int) ≤ 20 := by
  simp only [okT, Bool.and_eq_true, List.all_eq_true, decide_eq_true_eq] at h
  exact ⟨h.1, inB_spec h.2.1, h.2.2⟩

/-- Columns, entries and a gap that fit. -/
structure TabIn (n : Int) (l : List Entry) (g : Int) : Prop where
  ent : ∀ x ∈ l, okE n x = true
  cols : 1 ≤ n ∧ n ≤ 10
  len : (l.length : Int) ≤ 20
  gap : 0 ≤ g ∧ g ≤ 36
theorem okG_in {n : Int} {l : List Entry} {g : Int} (h : okG n l g = true) : TabIn n l g := by
  simp only [okG, Bool.and_eq_true] at h
  have a := okT_spec h.1
  exact ⟨a.1, a.2.1, a.2.2, inB_spec h.2⟩

/-- One column's start. -/
def stepS (g : Int) (p : List Int) (c : Int) : Int → List Entry → Int
  | a, [] => a
  | a, x :: r => stepS g p c (if x.1 + x.2.1 = c then max a (nth p x.1.toNat + x.2.2 + g) else a) r
def startsF (l : List Entry) (g : Int) : Nat → List Int
  | 0 => [0]
  | k + 1 => startsF l g k ++ [stepS g (startsF l g k) ((k : Int) + 1) (nth (startsF l g k) k + g) l]

theorem startsF_length (l : List Entry) (g : Int) : ∀ k, (startsF l g k).length = k + 1
  | 0 => rfl
  | k + 1 => by simp [startsF, startsF_length l g k]

theorem stepS_le (g : Int) (p : List Int) (c : Int) : ∀ (l : List Entry) (a : Int), a ≤ stepS g p c a l
  | [], a => Int.le_refl _
  | x :: r, a => by
    simp only [stepS]
    refine Int.le_trans ?_ (stepS_le g p c r _)
    split <;> omega
theorem stepS_ge {g : Int} {p : List Int} {c : Int} {x : Entry} (hx : x.1 + x.2.1 = c) : ∀ {l : List Entry} (a : Int), x ∈ l → nth p x.1.toNat + x.2.2 + g ≤ stepS g p c a l
  | y :: r, a, h => by
    simp only [stepS]
    rcases List.mem_cons.1 h with rfl | h
    · rw [if_pos hx]
      exact Int.le_trans (Int.le_max_right _ _) (stepS_le g p c r _)
    · exact stepS_ge hx _ h
theorem stepS_bound {g B : Int} {p : List Int} {c : Int} (hg : 0 ≤ g ∧ g ≤ 36) (hp : ∀ i, 0 ≤ nth p i ∧ nth p i ≤ B) : ∀ {l : List Entry} {a : Int}, (∀ x ∈ l, 0 ≤ x.2.2 ∧ x.2.2 ≤ 600) → 0 ≤ a → a ≤ B + 636 → 0 ≤ stepS g p c a l ∧ stepS g p c a l ≤ B + 636
  | [], a, _, h1, h2 => ⟨h1, h2⟩
  | x :: r, a, hl, h1, h2 => by
    simp only [stepS]
    have := hl x (by simp)
    have := hp x.1.toNat
    exact stepS_bound hg hp (fun y hy => hl y (by simp [hy])) (by split <;> omega) (by split <;> omega)
theorem stepS_mono {g : Int} {p q : List Int} {c : Int} (hpq : ∀ i, nth p i ≤ nth q i) : ∀ {l : List Entry} {a b : Int}, a ≤ b → stepS g p c a l ≤ stepS g q c b l
  | [], a, b, h => h
  | x :: r, a, b, h => by
    simp only [stepS]
    have := hpq x.1.toNat
    exact stepS_mono hpq (by split <;> omega)
theorem stepS_append (g : Int) (p : List Int) (c : Int) : ∀ (l m : List Entry) (a : Int), stepS g p c a (l ++ m) = stepS g p c (stepS g p c a l) m
  | [], m, a => rfl
  | x :: r, m, a => by simp only [List.cons_append, stepS, stepS_append g p c r m]

theorem starts_bound {n : Int} {l : List Entry} {g : Int} (h : TabIn n l g) : ∀ (k i : Nat), 0 ≤ nth (startsF l g k) i ∧ nth (startsF l g k) i ≤ 636 * k
  | 0, i => by
    rcases Nat.eq_zero_or_pos i with rfl | hi
    · simp [startsF, nth]
    · rw [nth_out (by simp [startsF]; omega)]; simp
  | k + 1, i => by
    have ih := starts_bound h k
    have hw : ∀ x ∈ l, 0 ≤ x.2.2 ∧ x.2.2 ≤ 600 := fun x hx => (okE_spec (h.ent x hx)).2.2
    have hs := stepS_bound (c := (k : Int) + 1) (l := l) (a := nth (startsF l g k) k + g) (B := 636 * k) h.gap ih hw (by have := ih k; have := h.gap; omega) (by have := ih k; have := h.gap; omega)
    have hl := startsF_length l g k
    simp only [startsF]
    rcases Nat.lt_trichotomy i (k + 1) with hi | hi | hi
    · rw [nth_left (by omega)]
      have := ih i
      omega
    · rw [nth_mid (by omega)]
      omega
    · rw [nth_out (by simp; omega)]
      omega

theorem starts_mem {n : Int} {l : List Entry} {g : Int} (h : TabIn n l g) (k : Nat) : ∀ x ∈ startsF l g k, 0 ≤ x ∧ x ≤ 636 * k := fun x hx => by
  obtain ⟨i, hi⟩ := List.mem_iff_getElem?.1 hx
  have := starts_bound h k i
  rwa [nth_some hi] at this

/-- The start of a column. -/
def sAt (l : List Entry) (g : Int) (i : Nat) : Int := nth (startsF l g i) i
theorem starts_at (l : List Entry) (g : Int) : ∀ (k i : Nat), i ≤ k → nth (startsF l g k) i = sAt l g i
  | 0, i, h => by rw [show i = 0 by omega]; rfl
  | k + 1, i, h => by
    rcases Nat.lt_or_ge k i with hi | hi
    · rw [show i = k + 1 by omega]; rfl
    · simp only [startsF]
      rw [nth_left (by rw [startsF_length]; omega)]
      exact starts_at l g k i hi
theorem sAt_zero (l : List Entry) (g : Int) : sAt l g 0 = 0 := rfl
theorem sAt_succ (l : List Entry) (g : Int) (k : Nat) : sAt l g (k + 1) = stepS g (startsF l g k) ((k : Int) + 1) (sAt l g k + g) l := by
  rw [sAt, startsF, nth_mid (by rw [startsF_length]), sAt]
theorem sAt_next (l : List Entry) (g : Int) (k : Nat) : sAt l g k + g ≤ sAt l g (k + 1) := by
  rw [sAt_succ]; exact stepS_le _ _ _ _ _
theorem sAt_entry {n : Int} {l : List Entry} {g : Int} (h : TabIn n l g) {x : Entry} (hx : x ∈ l) : sAt l g x.1.toNat + x.2.2 + g ≤ sAt l g (x.1 + x.2.1).toNat := by
  have e := okE_spec (h.ent x hx)
  obtain ⟨k, hk⟩ : ∃ k : Nat, (x.1 + x.2.1).toNat = k + 1 := ⟨(x.1 + x.2.1).toNat - 1, by omega⟩
  rw [hk, sAt_succ, ← starts_at l g k x.1.toNat (by omega)]
  exact stepS_ge (by omega) _ hx
theorem sAt_bound {n : Int} {l : List Entry} {g : Int} (h : TabIn n l g) (k : Nat) : 0 ≤ sAt l g k ∧ sAt l g k ≤ 636 * k := starts_bound h k k

theorem starts_mono {l : List Entry} {g : Int} (x : Entry) : ∀ k i : Nat, nth (startsF l g k) i ≤ nth (startsF (l ++ [x]) g k) i
  | 0, _ => Int.le_refl _
  | k + 1, i => by
    have ih := starts_mono (l := l) (g := g) x k
    have h1 := startsF_length l g k
    have h2 := startsF_length (l ++ [x]) g k
    simp only [startsF]
    rcases Nat.lt_trichotomy i (k + 1) with hi | hi | hi
    · rw [nth_left (by omega), nth_left (by omega)]
      exact ih i
    · rw [nth_mid (by omega), nth_mid (by omega), stepS_append]
      have := ih k
      exact Int.le_trans (stepS_mono ih (by omega)) (stepS_le _ _ _ _ _)
    · rw [nth_out (by simp; omega), nth_out (by simp; omega)]
      exact Int.le_refl _
theorem sAt_mono {l : List Entry} {g : Int} (x : Entry) (k : Nat) : sAt l g k ≤ sAt (l ++ [x]) g k := starts_mono x k k

/-! ### Widths -/
def wAt (l : List Entry) (g : Int) (k : Nat) : Int := sAt l g (k + 1) - sAt l g k - g
def widthsF (l : List Entry) (g : Int) (n : Nat) : List Int := (List.range n).map (wAt l g)
theorem widths_sum (l : List Entry) (g : Int) (n : Nat) : ∀ k : Nat, k ≤ n → ((widthsF l g n).take k).sum = sAt l g k - k * g
  | 0, _ => by simp [sAt_zero]
  | k + 1, h => by
    rw [List.take_add_one, List.sum_append, widths_sum l g n k (by omega), widthsF, List.getElem?_map, List.getElem?_range (by omega)]
    simp [wAt, Int.add_mul]
    omega
theorem widths_part (l : List Entry) (g : Int) (n a b : Nat) (h1 : a ≤ b) (h2 : b ≤ n) : (((widthsF l g n).take b).drop a).sum = sAt l g b - sAt l g a - ((b : Int) - a) * g := by
  have h := widths_sum l g n b h2
  rw [← List.take_append_drop a ((widthsF l g n).take b), List.sum_append, List.take_take, Nat.min_eq_left h1, widths_sum l g n a (by omega)] at h
  rw [Int.sub_mul]
  omega
theorem widths_length (l : List Entry) (g : Int) (n : Nat) : (widthsF l g n).length = n := by simp [widthsF]
theorem widths_at {l : List Entry} {g : Int} {n k : Nat} {x : Int} (h : (widthsF l g n)[k]? = some x) : x = wAt l g k ∧ k < n := by
  have hk := (List.getElem?_eq_some_iff.1 h).1
  rw [widths_length] at hk
  rw [widthsF, List.getElem?_map, List.getElem?_range hk] at h
  exact ⟨(Option.some.inj h).symm, hk⟩
theorem widths_mem {n : Int} {l : List Entry} {g : Int} (h : TabIn n l g) {m : Nat} (hm : m ≤ 10) : ∀ x ∈ widthsF l g m, 0 ≤ x ∧ x ≤ 6360 := fun x hx => by
  obtain ⟨k, hk, rfl⟩ := List.mem_map.1 hx
  have := List.mem_range.1 hk
  have := sAt_next l g k
  have := sAt_bound h (k + 1)
  have := sAt_bound h k
  have := h.gap
  unfold wAt
  omega

theorem add_iff {n : Int} {l : List Entry} {x : Entry} (h : okT n l = true) : okT n (l ++ [x]) = (okE n x && decide ((l.length : Int) ≠ 20)) := by
  have t := okT_spec h
  simp only [okT, Bool.and_eq_true, decide_eq_true_eq] at h
  rw [okT, List.all_append, h.1, h.2.1, Bool.eq_iff_iff]
  simp only [Bool.true_and, Bool.and_eq_true, List.all_cons, List.all_nil, Bool.and_true, List.length_append, List.length_singleton, decide_eq_true_eq]
  constructor <;> rintro ⟨a, b⟩ <;> exact ⟨a, by omega⟩

def leastF (n : Int) (l : List Entry) (g : Int) : List Int × Bool := if okG n l g then ((startsF l g n.toNat).take n.toNat, true) else ([], false)
def totF (n : Int) (l : List Entry) (g : Int) : Int × Bool := if okG n l g then (sAt l g n.toNat - g, true) else (0, false)
def colsF (n : Int) (l : List Entry) (g : Int) : List Int × Bool := if okG n l g then (widthsF l g n.toNat, true) else ([], false)
def addE (n : Int) (l : List Entry) (x : Entry) : List Entry × Bool := if okT n l && okT n (l ++ [x]) then (l ++ [x], true) else ([], false)
def withoutF (n : Int) (l : List Entry) (g i : Int) : Int × Bool := if okG n l g && inB i 0 (l.length - 1) then (sAt (l.eraseIdx i.toNat) g n.toNat - g, true) else (0, false)
def overL (c : Int) : Int → List Entry → List Int
  | _, [] => []
  | i, x :: r => if inB c x.1 (x.1 + x.2.1 - 1) then i :: overL c (i + 1) r else overL c (i + 1) r
def overF (n : Int) (l : List Entry) (c : Int) : List Int × Bool := if okT n l && inB c 0 (n - 1) then (overL c 0 l, true) else ([], false)

theorem TabIn.erase {n : Int} {l : List Entry} {g : Int} (h : TabIn n l g) (i : Nat) : TabIn n (l.eraseIdx i) g :=
  ⟨fun x hx => h.ent x (List.mem_of_mem_eraseIdx hx), h.cols, by have := List.length_eraseIdx_le l i; have := h.len; omega, h.gap⟩
theorem erase_eq {l z1 z2 z3 z4 : List Entry} {i : Int} (h0 : 0 ≤ i) (h1 : z1 = (l.take i.toNat).drop (Int.toNat 0)) (h2 : z2 = z1) (h3 : z3 = l.drop (i + 1).toNat) (h4 : z4 = z2 ++ z3) : z4 = l.eraseIdx i.toNat := by
  rw [h4, h2, h1, h3, List.eraseIdx_eq_take_drop_succ, show (i + 1).toNat = i.toNat + 1 by omega]; rfl
theorem tbw {l : List Entry} {g : Int} {n : Nat} : ((List.range ((startsF l g n).length - 1)).map fun j => nth (startsF l g n) (j + 1) - nth (startsF l g n) j - g) = widthsF l g n := by
  rw [startsF_length, Nat.add_sub_cancel, widthsF]
  refine List.map_congr_left fun k hk => ?_
  have := List.mem_range.1 hk
  rw [starts_at _ _ _ _ (by omega), starts_at _ _ _ _ (by omega), wAt]
end Go.Proofs.Ytpjmpgbgglhoeaa.Ai
