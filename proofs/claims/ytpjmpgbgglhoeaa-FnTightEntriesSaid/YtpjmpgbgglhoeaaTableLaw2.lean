/- Plain laws on tables: the greatest starts, rooms, spread widths. -/
import Derived.Test.YtpjmpgbgglhoeaaTableLaw
namespace Go.Proofs.Ytpjmpgbgglhoeaa.Ai
open Go Go.Proofs
set_option linter.unusedVariables false

/-- One column's greatest start; p: those of the columns behind it. -/
def stepL (g : Int) (p : List Int) (c : Int) : Int → List Entry → Int
  | a, [] => a
  | a, x :: r => stepL g p c (if x.1 = c then min a (nth p (x.2.1 - 1).toNat - x.2.2 - g) else a) r
/-- The greatest starts of the last j columns, and of one behind them. -/
def latF (n : Int) (l : List Entry) (g tot : Int) : Nat → List Int
  | 0 => [tot + g]
  | j + 1 => stepL g (latF n l g tot j) (n - 1 - j) (nth (latF n l g tot j) 0 - g) l :: latF n l g tot j

theorem latF_length (n : Int) (l : List Entry) (g tot : Int) : ∀ j, (latF n l g tot j).length = j + 1
  | 0 => rfl
  | j + 1 => by simp [latF, latF_length n l g tot j]
theorem nth_cons (x : Int) (l : List Int) (i : Nat) : nth (x :: l) (i + 1) = nth l i := by simp [nth]
theorem nth_zero (x : Int) (l : List Int) : nth (x :: l) 0 = x := rfl
theorem nth_drop (l : List Int) (k i : Nat) : nth (l.drop k) i = nth l (k + i) := by rw [nth, nth, List.getElem?_drop]

theorem stepL_le (g : Int) (p : List Int) (c : Int) : ∀ (l : List Entry) (a : Int), stepL g p c a l ≤ a
  | [], a => Int.le_refl _
  | x :: r, a => by
    simp only [stepL]
    refine Int.le_trans (stepL_le g p c r _) ?_
    split <;> omega
theorem stepL_entry {g : Int} {p : List Int} {c : Int} {x : Entry} (hx : x.1 = c) : ∀ {l : List Entry} (a : Int), x ∈ l → stepL g p c a l ≤ nth p (x.2.1 - 1).toNat - x.2.2 - g
  | y :: r, a, h => by
    simp only [stepL]
    rcases List.mem_cons.1 h with rfl | h
    · rw [if_pos hx]
      exact Int.le_trans (stepL_le g p c r _) (Int.min_le_right _ _)
    · exact stepL_entry hx _ h
theorem stepL_ge {g : Int} {p : List Int} {c B : Int} : ∀ {l : List Entry} {a : Int}, B ≤ a → (∀ x ∈ l, x.1 = c → B ≤ nth p (x.2.1 - 1).toNat - x.2.2 - g) → B ≤ stepL g p c a l
  | [], a, h, _ => h
  | x :: r, a, h, hl => by
    simp only [stepL]
    refine stepL_ge ?_ fun y hy => hl y (by simp [hy])
    split
    · have := hl x (by simp) (by assumption); omega
    · exact h

/-- The greatest start of column i. -/
def lAt (n : Int) (l : List Entry) (g tot : Int) (i : Nat) : Int := nth (latF n l g tot (n.toNat - i)) 0
theorem lat_at (n : Int) (l : List Entry) (g tot : Int) : ∀ (j i : Nat), i ≤ j → nth (latF n l g tot j) i = nth (latF n l g tot (j - i)) 0
  | j, 0, _ => rfl
  | j + 1, i + 1, h => by
    rw [show j + 1 - (i + 1) = j - i by omega]
    simp only [latF, nth_cons]
    exact lat_at n l g tot j i (by omega)
theorem lAt_of {n : Int} {l : List Entry} {g tot : Int} {j i : Nat} (h : i ≤ j) (hj : j ≤ n.toNat) : nth (latF n l g tot j) i = lAt n l g tot (n.toNat - j + i) := by
  rw [lat_at n l g tot j i h, lAt, show n.toNat - (n.toNat - j + i) = j - i by omega]
theorem lAt_last (n : Int) (l : List Entry) (g tot : Int) : lAt n l g tot n.toNat = tot + g := by rw [lAt, Nat.sub_self]; rfl
theorem lAt_step {n : Int} {l : List Entry} {g tot : Int} {c : Nat} (h : c < n.toNat) : lAt n l g tot c = stepL g (latF n l g tot (n.toNat - (c + 1))) c (lAt n l g tot (c + 1) - g) l := by
  rw [lAt, show n.toNat - c = n.toNat - (c + 1) + 1 by omega, latF, nth_zero]
  rw [show n - 1 - ((n.toNat - (c + 1) : Nat) : Int) = (c : Int) by omega]
  rfl
theorem lAt_next {n : Int} {l : List Entry} {g tot : Int} {c : Nat} (h : c < n.toNat) : lAt n l g tot c ≤ lAt n l g tot (c + 1) - g := by
  rw [lAt_step h]; exact stepL_le _ _ _ _ _

theorem lAt_ge {n : Int} {l : List Entry} {g tot : Int} (h : TabIn n l g) (ht : sAt l g n.toNat - g ≤ tot) : ∀ (j c : Nat), n.toNat - c = j → c ≤ n.toNat → sAt l g c ≤ lAt n l g tot c
  | 0, c, e, hc => by
    rw [show c = n.toNat by omega, lAt_last]; omega
  | j + 1, c, e, hc => by
    have ih := lAt_ge h ht j (c + 1) (by omega) (by omega)
    rw [lAt_step (by omega)]
    refine stepL_ge (by have := sAt_next l g c; omega) fun x hx hxc => ?_
    have ex := okE_spec (h.ent x hx)
    have e1 := sAt_entry h hx
    rw [lAt_of (by omega) (by omega)]
    have ih2 := lAt_ge h ht (j + 1 - x.2.1.toNat) (x.1 + x.2.1).toNat (by omega) (by omega)
    rw [show n.toNat - (n.toNat - (c + 1)) + (x.2.1 - 1).toNat = (x.1 + x.2.1).toNat by omega]
    rw [show x.1.toNat = c by omega] at e1
    omega
termination_by j => j
decreasing_by all_goals omega

/-- By how much an entry could be wider. -/
def roomF (n : Int) (l : List Entry) (g : Int) (x : Entry) : Int := lAt n l g (sAt l g n.toNat - g) (x.1 + x.2.1).toNat - g - sAt l g x.1.toNat - x.2.2
theorem room_nonneg {n : Int} {l : List Entry} {g : Int} (h : TabIn n l g) {x : Entry} (hx : x ∈ l) : 0 ≤ roomF n l g x := by
  have ex := okE_spec (h.ent x hx)
  have e1 := sAt_entry h hx
  have e2 := lAt_ge (n := n) (l := l) (g := g) (tot := sAt l g n.toNat - g) h (Int.le_refl _) _ (x.1 + x.2.1).toNat rfl (by omega)
  rw [roomF]; omega

theorem stepS_eq {g : Int} {p : List Int} {c : Int} : ∀ {l : List Entry} {a : Int}, stepS g p c a l = a ∨ ∃ x ∈ l, x.1 + x.2.1 = c ∧ stepS g p c a l = nth p x.1.toNat + x.2.2 + g
  | [], a => .inl rfl
  | x :: r, a => by
    simp only [stepS]
    by_cases hx : x.1 + x.2.1 = c
    · rw [if_pos hx]
      rcases stepS_eq (g := g) (p := p) (c := c) (l := r) (a := max a (nth p x.1.toNat + x.2.2 + g)) with e | ⟨y, hy, h1, h2⟩
      · rw [e]
        rcases Int.le_total a (nth p x.1.toNat + x.2.2 + g) with h | h
        · exact .inr ⟨x, by simp, hx, by omega⟩
        · exact .inl (by omega)
      · exact .inr ⟨y, by simp [hy], h1, h2⟩
    · rw [if_neg hx]
      rcases stepS_eq (g := g) (p := p) (c := c) (l := r) (a := a) with e | ⟨y, hy, h1, h2⟩
      · exact .inl e
      · exact .inr ⟨y, by simp [hy], h1, h2⟩

theorem tight_chain {n : Int} {l : List Entry} {g : Int} (h : TabIn n l g) (hr : ∀ x ∈ l, roomF n l g x ≠ 0) : ∀ (j c : Nat), n.toNat - c = j → c ≤ n.toNat → lAt n l g (sAt l g n.toNat - g) c = sAt l g c ∧ sAt l g n.toNat = sAt l g c + j * g
  | 0, c, e, hc => by
    obtain rfl : c = n.toNat := by omega
    rw [lAt_last]; exact ⟨by omega, by simp⟩
  | j + 1, c, e, hc => by
    obtain ⟨i1, i2⟩ := tight_chain h hr j (c + 1) (by omega) (by omega)
    have ge := lAt_ge (n := n) (l := l) (g := g) (tot := sAt l g n.toNat - g) h (Int.le_refl _) _ c rfl hc
    have nx := lAt_next (n := n) (l := l) (g := g) (tot := sAt l g n.toNat - g) (c := c) (by omega)
    have es : sAt l g (c + 1) = sAt l g c + g := by
      rw [sAt_succ]
      rcases stepS_eq (g := g) (p := startsF l g c) (c := (c : Int) + 1) (l := l) (a := sAt l g c + g) with e | ⟨x, hx, h1, h2⟩
      · exact e
      · exfalso
        have ex := okE_spec (h.ent x hx)
        refine hr x hx ?_
        rw [roomF, show (x.1 + x.2.1).toNat = c + 1 by omega, i1, sAt_succ, h2, starts_at l g c x.1.toNat (by omega)]
        omega
    refine ⟨by omega, ?_⟩
    rw [i2, es, Int.natCast_add, Int.add_mul]
    omega

theorem tight_some {n : Int} {l : List Entry} {g : Int} (h : TabIn n l g) (hw : (n - 1) * g < sAt l g n.toNat - g) : ∃ x ∈ l, roomF n l g x = 0 := by
  apply Classical.byContradiction
  intro hn
  have := (tight_chain h (fun x hx e => hn ⟨x, hx, e⟩) n.toNat 0 (by omega) (by omega)).2
  rw [sAt_zero] at this
  have hc := h.cols
  rw [Int.toNat_of_nonneg (by omega)] at this
  rw [Int.sub_mul] at hw
  omega

/-! ### Fewer entries -/
theorem stepS_sub {g : Int} {p q : List Int} {c : Int} (hpq : ∀ i, nth p i ≤ nth q i) {l m : List Entry} (h : l.Sublist m) : ∀ {a b : Int}, a ≤ b → stepS g p c a l ≤ stepS g q c b m := by
  induction h with
  | slnil => exact fun h => h
  | cons x _ ih =>
    intro a b hab
    simp only [stepS]
    exact ih (by split <;> omega)
  | cons_cons x _ ih =>
    intro a b hab
    simp only [stepS]
    have := hpq x.1.toNat
    exact ih (by split <;> omega)
theorem starts_sub {l m : List Entry} {g : Int} (h : l.Sublist m) : ∀ k i : Nat, nth (startsF l g k) i ≤ nth (startsF m g k) i
  | 0, _ => Int.le_refl _
  | k + 1, i => by
    have ih := starts_sub (g := g) h k
    have h1 := startsF_length l g k
    have h2 := startsF_length m g k
    simp only [startsF]
    rcases Nat.lt_trichotomy i (k + 1) with hi | hi | hi
    · rw [nth_left (by omega), nth_left (by omega)]
      exact ih i
    · rw [nth_mid (by omega), nth_mid (by omega)]
      have := ih k
      exact stepS_sub ih h (by omega)
    · rw [nth_out (by simp; omega), nth_out (by simp; omega)]
      exact Int.le_refl _
theorem sAt_erase (l : List Entry) (g : Int) (i k : Nat) : sAt (l.eraseIdx i) g k ≤ sAt l g k := starts_sub (List.eraseIdx_sublist l i) k k

theorem nth_append {xs ys : List Int} {i : Nat} (h : xs.length ≤ i) : nth (xs ++ ys) i = nth ys (i - xs.length) := by rw [nth, nth, List.getElem?_append_right h]
theorem lat_bound {n : Int} {l : List Entry} {g tot : Int} (h : TabIn n l g) (ht : 0 ≤ tot ∧ tot ≤ 10000) : ∀ (j i : Nat), -(700 * (j : Int)) ≤ nth (latF n l g tot j) i ∧ nth (latF n l g tot j) i ≤ 10036
  | 0, i => by
    have := h.gap
    rcases Nat.eq_zero_or_pos i with rfl | hi
    · simp only [latF, nth_zero]; omega
    · rw [nth_out (by simp [latF]; omega)]; omega
  | j + 1, i => by
    have hg := h.gap
    have ih := lat_bound h ht j
    cases i with
    | zero =>
      simp only [latF, nth_zero]
      have i0 := ih 0
      refine ⟨stepL_ge (by omega) fun x hx _ => ?_, Int.le_trans (stepL_le _ _ _ _ _) (by omega)⟩
      have ex := okE_spec (h.ent x hx)
      have := ih (x.2.1 - 1).toNat
      omega
    | succ i =>
      simp only [latF, nth_cons]
      have := ih i
      omega
theorem sAt_gap {n : Int} {l : List Entry} {g : Int} (h : TabIn n l g) : 0 ≤ sAt l g n.toNat - g ∧ sAt l g n.toNat - g ≤ 6360 := by
  have hc := h.cols
  obtain ⟨k, hk⟩ : ∃ k : Nat, n.toNat = k + 1 := ⟨n.toNat - 1, by omega⟩
  have h1 := sAt_next l g k
  have h2 := sAt_bound h k
  have h3 := sAt_bound h (k + 1)
  have := h.gap
  rw [hk]
  omega

def isTot (n : Int) (l : List Entry) (g tot : Int) : Bool := okG n l g && (inB tot 0 5000 && decide (sAt l g n.toNat - g ≤ tot))
theorem isTot_spec {n : Int} {l : List Entry} {g tot : Int} (h : isTot n l g tot = true) : okG n l g = true ∧ TabIn n l g ∧ (0 ≤ tot ∧ tot ≤ 5000) ∧ sAt l g n.toNat - g ≤ tot := by
  simp only [isTot, Bool.and_eq_true, decide_eq_true_eq] at h
  exact ⟨h.1, okG_in h.1, inB_spec h.2.1, h.2.2⟩
def latAns (n : Int) (l : List Entry) (g tot : Int) : List Int × Bool := if isTot n l g tot then (0 :: (latF n l g tot (n - 1).toNat).take (n - 1).toNat, true) else ([], false)
def roomAt (n : Int) (l : List Entry) (g i : Int) : Int := match l[i.toNat]? with
  | some x => roomF n l g x
  | none => 0
def roomAns (n : Int) (l : List Entry) (g i : Int) : Int × Bool := if okG n l g && inB i 0 (l.length - 1) then (roomAt n l g i, true) else (0, false)
def tightL (n : Int) (l : List Entry) (g : Int) : Int → List Entry → List Int
  | _, [] => []
  | i, x :: r => if roomF n l g x = 0 then i :: tightL n l g (i + 1) r else tightL n l g (i + 1) r
def tightAns (n : Int) (l : List Entry) (g : Int) : List Int × Bool := if okG n l g then (tightL n l g 0 l, true) else ([], false)
theorem tight_mem {n : Int} {l : List Entry} {g : Int} {j : Int} : ∀ {i : Int} {r : List Entry}, j ∈ tightL n l g i r ↔ i ≤ j ∧ ∃ x, r[(j - i).toNat]? = some x ∧ roomF n l g x = 0
  | i, [] => by simp [tightL]
  | i, y :: r => by
    have ih := tight_mem (n := n) (l := l) (g := g) (j := j) (i := i + 1) (r := r)
    have key : (i + 1 ≤ j ∧ ∃ x, r[(j - (i + 1)).toNat]? = some x ∧ roomF n l g x = 0) ↔ (i < j ∧ ∃ x, (y :: r)[(j - i).toNat]? = some x ∧ roomF n l g x = 0) := by
      constructor
      · rintro ⟨h, x, hx, h0⟩
        exact ⟨by omega, x, by rw [show (j - i).toNat = (j - (i + 1)).toNat + 1 by omega]; simpa using hx, h0⟩
      · rintro ⟨h, x, hx, h0⟩
        rw [show (j - i).toNat = (j - (i + 1)).toNat + 1 by omega] at hx
        exact ⟨by omega, x, by simpa using hx, h0⟩
    have zero : ∀ x, (y :: r)[(i - i).toNat]? = some x ↔ y = x := fun x => by simp
    rw [tightL]
    split
    · rename_i h
      rw [List.mem_cons, ih, key]
      constructor
      · rintro (rfl | ⟨h1, h2⟩)
        · exact ⟨Int.le_refl _, y, by simp, h⟩
        · exact ⟨by omega, h2⟩
      · rintro ⟨h1, h2⟩
        rcases Int.lt_or_le i j with hlt | hle
        · exact .inr ⟨hlt, h2⟩
        · exact .inl (by omega)
    · rename_i h
      rw [ih, key]
      constructor
      · rintro ⟨h1, h2⟩; exact ⟨by omega, h2⟩
      · rintro ⟨h1, x, hx, h2⟩
        refine ⟨?_, x, hx, h2⟩
        rcases Int.lt_or_le i j with hlt | hle
        · exact hlt
        · obtain rfl : i = j := by omega
          rw [(zero x).1 hx] at h
          exact absurd h2 h

/-! ### Spread widths -/
def spread (m n : Int) (ws : List Int) : List Int := (List.range ws.length).map fun i => nth ws i + m / n + if (i : Int) < m % n then 1 else 0
theorem spread_sum {m n : Int} {ws : List Int} (hn : 0 < n) (hl : (ws.length : Int) = n) : (spread m n ws).sum = ws.sum + m := by
  have h0 := Int.emod_nonneg m (show n ≠ 0 by omega)
  have h1 := Int.emod_lt_of_pos m hn
  have h2 := Int.mul_ediv_add_emod m n
  have go : ∀ k : Nat, k ≤ ws.length → ((List.range k).map fun i : Nat => nth ws i + m / n + if (i : Int) < m % n then 1 else 0).sum = (ws.take k).sum + k * (m / n) + min (k : Int) (m % n) := by
    intro k
    induction k with
    | zero => intro _; simp; omega
    | succ k ih =>
      intro hk
      have hx : ws[k]? = some (ws[k]'(by omega)) := List.getElem?_eq_getElem (by omega)
      rw [List.range_succ, List.map_append, List.sum_append, ih (by omega), sum_take hx, ← nth_some hx]
      simp only [List.map_cons, List.map_nil, List.sum_cons, List.sum_nil, Int.natCast_add, Int.add_mul]
      split <;> simp <;> omega
  have h := go ws.length (Nat.le_refl _)
  rw [List.take_of_length_le (Nat.le_refl _), hl] at h
  rw [spread, h]
  omega
theorem spread_length (m n : Int) (ws : List Int) : (spread m n ws).length = ws.length := by simp [spread]
theorem spread_step {m n : Int} {ws zs : List Int} {i : Nat} {v : Int} (hq : zs = (spread m n ws).take i ++ ws.drop i) (hi : i < ws.length) (hv : v = nth ws i + m / n + if (i : Int) < m % n then 1 else 0) : zs.set i v = (spread m n ws).take (i + 1) ++ ws.drop (i + 1) := by
  have hs : (spread m n ws)[i]? = some v := by rw [spread, List.getElem?_map, List.getElem?_range hi, hv]; rfl
  rw [hq, List.drop_eq_getElem_cons hi, set_mid (by rw [List.length_take, spread_length]; omega), List.take_add_one, hs, List.append_assoc]
  rfl
theorem spread_at {m n : Int} {ws zs : List Int} {i : Nat} (hq : zs = (spread m n ws).take i ++ ws.drop i) (hi : i < ws.length) : nth zs i = nth ws i := by
  have hl : ((spread m n ws).take i).length = i := by rw [List.length_take, spread_length]; omega
  rw [hq, nth_append (by omega), hl, Nat.sub_self, nth_drop, Nat.add_zero]
def spreadAns (n : Int) (l : List Entry) (g tot : Int) : List Int × Bool := if isTot n l g tot then (spread (tot - (sAt l g n.toNat - g)) n (widthsF l g n.toNat), true) else ([], false)
end Go.Proofs.Ytpjmpgbgglhoeaa.Ai
