/- Plain laws on the last word that lines can reach (paragraphs that cannot be set). -/
import Derived.Test.YtiaodmfipeoegaaParagT
import Derived.Test.YtiaodmfipeoegaaSpecP
import Derived.Test.YtiaodmfipeoegaaLit
import Derived.Test.YtiaodmfipeoegaaGreedLaw
namespace Go.Proofs.Ytiaodmfipeoegaa.Ai
open Go Go.Proofs
set_option linter.unusedSimpArgs false
set_option linter.unusedVariables false
set_option maxRecDepth 10000
set_option maxHeartbeats 4000000
/-- A number put into a list of rising numbers. -/
def putF (l : List Int) (n : Int) : List Int := if (l.dropWhile fun x => decide (x < n)).head? = some n then l else l.takeWhile (fun x => decide (x < n)) ++ n :: l.dropWhile fun x => decide (x < n)
theorem put_at {l : List Int} {n : Int} : ∀ {k : Nat}, (∀ z ∈ l.take k, z < n) → (∀ x, l[k]? = some x → n ≤ x) → l.takeWhile (fun x => decide (x < n)) = l.take k ∧ l.dropWhile (fun x => decide (x < n)) = l.drop k := by
  induction l with
  | nil => intro k _ _; simp
  | cons a r ih =>
    intro k h1 h2
    cases k with
    | zero =>
      have := h2 a rfl
      simp only [List.take_zero, List.drop_zero]
      rw [List.takeWhile_cons, List.dropWhile_cons, decide_eq_false (by omega)]
      exact ⟨rfl, rfl⟩
    | succ k =>
      have ha : a < n := h1 a (by simp)
      obtain ⟨e1, e2⟩ := ih (k := k) (fun z hz => h1 z (by simp [hz])) fun x hx => h2 x (by simpa using hx)
      simp only [List.take_succ_cons, List.drop_succ_cons]
      rw [List.takeWhile_cons, List.dropWhile_cons, decide_eq_true ha, if_pos rfl, if_pos rfl, e1, e2]
      exact ⟨rfl, rfl⟩
theorem put_same {l : List Int} {n : Int} {k : Nat} (h1 : ∀ z ∈ l.take k, z < n) (h2 : l[k]? = some n) : putF l n = l := by
  obtain ⟨_, e⟩ := put_at h1 fun x hx => by rw [h2] at hx; obtain rfl := Option.some.inj hx; omega
  unfold putF
  rw [e, if_pos (by rw [List.head?_drop]; exact h2)]
theorem put_new {l : List Int} {n : Int} {k : Nat} (h1 : ∀ z ∈ l.take k, z < n) (h2 : ∀ x, l[k]? = some x → n < x) : putF l n = l.take k ++ n :: l.drop k := by
  obtain ⟨e1, e2⟩ := put_at h1 fun x hx => by have := h2 x hx; omega
  unfold putF
  rw [e1, e2, if_neg]
  rw [List.head?_drop]
  intro h
  have := h2 n h
  omega
section
variable (L : Nat → Nat → Option Int)
def bR : Nat → Nat → Bool
  | 0, _ => false
  | d + 1, j => decide (j = 0) || (List.range j).any fun i => bR d i && (L i j).isSome
/-- Whether lines can end ahead of word j. -/
def rch (j : Nat) : Bool := bR L (j + 1) j
/-- The same, with lines that begin ahead of word f. -/
def preR (f t : Nat) : Bool := decide (t = 0) || (List.range (min f t)).any fun i => rch L i && (L i t).isSome
end
section
variable {L : Nat → Nat → Option Int} {n : Nat}
theorem bR_fuel : ∀ (d d' j : Nat), j < d → j < d' → bR L d j = bR L d' j
  | 0, _, _, h, _ => by omega
  | _ + 1, 0, _, _, h => by omega
  | d + 1, d' + 1, j, h, h' => by
    rw [bR, bR]
    congr 1
    rw [Bool.eq_iff_iff, List.any_eq_true, List.any_eq_true]
    constructor
    · rintro ⟨i, hi, hb⟩
      have := List.mem_range.1 hi
      exact ⟨i, hi, by rw [← bR_fuel d d' i (by omega) (by omega)]; exact hb⟩
    · rintro ⟨i, hi, hb⟩
      have := List.mem_range.1 hi
      exact ⟨i, hi, by rw [bR_fuel d d' i (by omega) (by omega)]; exact hb⟩
theorem rch_eq (j : Nat) : rch L j = (decide (j = 0) || (List.range j).any fun i => rch L i && (L i j).isSome) := by
  unfold rch
  rw [bR]
  congr 1
  rw [Bool.eq_iff_iff, List.any_eq_true, List.any_eq_true]
  constructor
  · rintro ⟨i, hi, hb⟩
    have := List.mem_range.1 hi
    exact ⟨i, hi, by rw [bR_fuel (i + 1) j i (by omega) (by omega)]; exact hb⟩
  · rintro ⟨i, hi, hb⟩
    have := List.mem_range.1 hi
    exact ⟨i, hi, by rw [bR_fuel j (i + 1) i (by omega) (by omega)]; exact hb⟩
theorem preR_zero (t : Nat) : preR L 0 t = decide (t = 0) := by
  unfold preR
  rw [Nat.zero_min]; simp
theorem preR_full {f t : Nat} (h : t ≤ f) : preR L f t = rch L t := by
  unfold preR
  rw [Nat.min_eq_right h, ← rch_eq]
theorem preR_skip {f t : Nat} (h : t ≤ f) : preR L (f + 1) t = preR L f t := by
  rw [preR_full h, preR_full (by omega)]
theorem preR_step {f t : Nat} (h : f < t) : preR L (f + 1) t = (preR L f t || (rch L f && (L f t).isSome)) := by
  unfold preR
  rw [Nat.min_eq_left (by omega), Nat.min_eq_left (by omega), List.range_succ, List.any_append]
  simp [Bool.or_assoc]
/-- m is the greatest place below n with p, or 0. -/
structure MostI (p : Nat → Bool) (n : Nat) (m : Int) : Prop where
  at_ : m = 0 ∨ ∃ t : Nat, m = t ∧ t < n ∧ p t = true
  all : ∀ t : Nat, t < n → p t = true → (t : Int) ≤ m
theorem MostI.pos {p : Nat → Bool} {m : Int} (h : MostI p n m) : 0 ≤ m := by
  rcases h.at_ with e | ⟨t, e, -⟩ <;> omega
theorem MostI.uniq {p : Nat → Bool} {m m' : Int} (h : MostI p n m) (h' : MostI p n m') : m = m' := by
  have h1 := h.pos; have h2 := h'.pos
  have a : m ≤ m' := by
    rcases h.at_ with e | ⟨t, e, ht, hp⟩
    · omega
    · have := h'.all t ht hp; omega
  have b : m' ≤ m := by
    rcases h'.at_ with e | ⟨t, e, ht, hp⟩
    · omega
    · have := h.all t ht hp; omega
  omega
theorem MostI.congr {p q : Nat → Bool} {m : Int} (h : MostI p n m) (e : ∀ t, t < n → p t = q t) : MostI q n m :=
  ⟨h.at_.imp id fun ⟨t, a, b, c⟩ => ⟨t, a, b, by rw [← e t b]; exact c⟩, fun t a b => h.all t a (by rw [e t a]; exact b)⟩
theorem MostI.upd {p q : Nat → Bool} {m : Int} {t : Nat} (h : MostI p n m) (ht : t < n) (e : ∀ u, u < n → q u = (p u || decide (u = t))) : MostI q n (max m t) := by
  have h0 := h.pos
  refine ⟨?_, fun u a b => ?_⟩
  · by_cases c : m ≤ t
    · exact .inr ⟨t, by omega, ht, by rw [e t ht]; simp⟩
    · rcases h.at_ with e1 | ⟨u, e1, hu, hp⟩
      · omega
      · exact .inr ⟨u, by omega, hu, by rw [e u hu, hp]; rfl⟩
  · rw [e u a, Bool.or_eq_true] at b
    rcases b with b | b
    · have := h.all u a b; omega
    · have := of_decide_eq_true b; omega
def mostF (p : Nat → Bool) : Nat → Int
  | 0 => 0
  | k + 1 => if p k then (k : Int) else mostF p k
theorem mostF_is (p : Nat → Bool) : ∀ k, MostI p k (mostF p k)
  | 0 => ⟨.inl rfl, fun t h => by omega⟩
  | k + 1 => by
    have ih := mostF_is p k
    unfold mostF
    by_cases hp : p k = true
    · rw [if_pos hp]
      exact ⟨.inr ⟨k, rfl, by omega, hp⟩, fun t h _ => by omega⟩
    · rw [if_neg hp]
      refine ⟨ih.at_.imp id fun ⟨t, a, b, c⟩ => ⟨t, a, by omega, c⟩, fun t h hq => ?_⟩
      by_cases e : t = k
      · subst e; exact absurd hq hp
      · exact ih.all t (by omega) hq
/-! ### impl's table -/
def tabR (n : Nat) (p : Nat → Bool) : List Bool := (List.range n).map p
theorem tabR_length (p : Nat → Bool) : (tabR n p).length = n := by simp [tabR]
theorem tabR_at {p : Nat → Bool} {i : Nat} {x : Bool} (h : (tabR n p)[i]? = some x) : i < n ∧ x = p i := by
  have hi : i < n := by have := (List.getElem?_eq_some_iff.1 h).1; rwa [tabR_length] at this
  unfold tabR at h
  rw [List.getElem?_map, List.getElem?_range hi] at h
  exact ⟨hi, (Option.some.inj h).symm⟩
theorem tabR_set {p q : Nat → Bool} {i : Nat} {x : Bool} (h : ∀ u, u < n → q u = if u = i then x else p u) : (tabR n p).set i x = tabR n q := by
  apply List.ext_getElem
  · simp [tabR]
  · intro j h1 h2
    rw [tabR_length] at h2
    rw [List.getElem_set]
    have := h j h2
    simp only [tabR, List.getElem_map, List.getElem_range]
    rw [this]
    by_cases e : i = j
    · subst e; simp
    · rw [if_neg e, if_neg (Ne.symm e)]
theorem tabR_congr {p q : Nat → Bool} (h : ∀ u, u < n → p u = q u) : tabR n p = tabR n q := by
  unfold tabR
  exact List.map_congr_left fun u hu => h u (List.mem_range.1 hu)
/-- Ahead of word f. -/
structure SO (L : Nat → Nat → Option Int) (n f : Nat) (reached : List Bool) (most : Int) : Prop where
  tab : reached = tabR n (preR L f)
  top : MostI (preR L f) n most
/-- At the line from f to t. -/
def midR (L : Nat → Nat → Option Int) (f t u : Nat) : Bool := if u < t then preR L (f + 1) u else preR L f u
structure SI (L : Nat → Nat → Option Int) (n : Nat) (f t : Int) (reached : List Bool) (most : Int) : Prop where
  lo : 0 ≤ f ∧ f < t ∧ t ≤ n
  tab : reached = tabR n (midR L f.toNat t.toNat)
  top : MostI (midR L f.toNat t.toNat) n most
theorem SO.start : SO L n 0 ((List.replicate n false).set 0 true) 0 := by
  have e : List.replicate n false = tabR n fun _ => false := by
    unfold tabR
    rw [List.map_const']; simp
  refine ⟨?_, .inl rfl, fun t h hp => ?_⟩
  · rw [e]
    refine tabR_set fun u hu => ?_
    rw [preR_zero]
    by_cases e2 : u = 0 <;> simp [e2]
  · rw [preR_zero] at hp
    have := of_decide_eq_true hp
    omega
theorem SO.line {f : Int} {t : Int} {reached : List Bool} {most : Int} (h : SO L n f.toNat reached most) (h0 : 0 ≤ f) (h1 : f < n) (ht : t = f + 1) : SI L n f t reached most := by
  subst ht
  have e : ∀ u, u < n → preR L f.toNat u = midR L f.toNat (f + 1).toNat u := fun u hu => by
    unfold midR
    split
    · rw [preR_skip (by omega)]
    · rfl
  exact ⟨⟨h0, by omega, by omega⟩, by rw [h.tab]; exact tabR_congr e, h.top.congr e⟩
theorem SI.at_ {f t : Int} {reached : List Bool} {most : Int} {x : Bool} (h : SI L n f t reached most) (hx : reached[f.toNat]? = some x) : x = rch L f.toNat := by
  have := h.lo
  rw [h.tab] at hx
  rw [(tabR_at hx).2, midR, if_pos (by omega), preR_full (by omega)]
theorem SI.yes {f t t' : Int} {reached reached' : List Bool} {most most' : Int} (h : SI L n f t reached most) (ht : t < n) (hr : rch L f.toNat = true) (hL : (L f.toNat t.toNat).isSome = true) (e1 : reached' = reached.set t.toNat true) (e2 : most' = max most t) (e3 : t' = t + 1) : SI L n f t' reached' most' := by
  subst e1 e2 e3
  have hl := h.lo
  have e : ∀ u, u < n → midR L f.toNat (t + 1).toNat u = (midR L f.toNat t.toNat u || decide (u = t.toNat)) := fun u hu => by
    unfold midR
    by_cases q : u = t.toNat
    · subst q
      rw [if_pos (by omega), if_neg (by omega), preR_step (by omega), hr, hL]; simp
    · rw [decide_eq_false q, Bool.or_false]
      by_cases q2 : u < t.toNat
      · rw [if_pos (by omega), if_pos q2]
      · rw [if_neg (by omega), if_neg q2]
  refine ⟨⟨hl.1, by omega, by omega⟩, ?_, ?_⟩
  · rw [h.tab]
    refine tabR_set fun u hu => ?_
    rw [e u hu]
    by_cases q : u = t.toNat <;> simp [q]
  · have := h.top.upd (t := t.toNat) (by omega) e
    rwa [show ((t.toNat : Nat) : Int) = t by omega] at this
theorem SI.no {f t t' : Int} {reached : List Bool} {most : Int} (h : SI L n f t reached most) (ht : t < n) (hL : L f.toNat t.toNat = none) (e3 : t' = t + 1) : SI L n f t' reached most := by
  subst e3
  have hl := h.lo
  have e : ∀ u, u < n → midR L f.toNat t.toNat u = midR L f.toNat (t + 1).toNat u := fun u hu => by
    unfold midR
    by_cases q : u = t.toNat
    · subst q
      rw [if_neg (by omega), if_pos (by omega), preR_step (by omega), hL]; simp
    · by_cases q2 : u < t.toNat
      · rw [if_pos q2, if_pos (by omega)]
      · rw [if_neg q2, if_neg (by omega)]
  exact ⟨⟨hl.1, by omega, by omega⟩, by rw [h.tab]; exact tabR_congr e, h.top.congr e⟩
theorem SI.done {f t : Int} {f' : Nat} {reached : List Bool} {most : Int} (h : SI L n f t reached most) (hd : (n : Int) ≤ t ∨ rch L f.toNat = false) (e : f' = f.toNat + 1) : SO L n f' reached most := by
  subst e
  have hl := h.lo
  have e : ∀ u, u < n → midR L f.toNat t.toNat u = preR L (f.toNat + 1) u := fun u hu => by
    unfold midR
    split
    · rfl
    · rename_i q
      rcases hd with hd | hd
      · omega
      · rw [preR_step (by omega), hd]; simp
  exact ⟨by rw [h.tab]; exact tabR_congr e, h.top.congr e⟩
theorem SO.ans {reached : List Bool} {most : Int} {f : Nat} (h : SO L n f reached most) (hf : n ≤ f) : most = mostF (rch L) n :=
  (h.top.congr fun t ht => preR_full (by omega)).uniq (mostF_is _ n)
/-! ### The reference's list -/
def rchL (L : Nat → Nat → Option Int) (j : Nat) : List Int := ((List.range j).filter fun i => rch L i).map fun i : Nat => (i : Int)
theorem rchL_succ (j : Nat) : rchL L (j + 1) = if rch L j then rchL L j ++ [(j : Int)] else rchL L j := by
  unfold rchL
  rw [List.range_succ, List.filter_append]
  by_cases h : rch L j = true
  · simp [h]
  · simp [h]
theorem rchL_mem {j : Nat} {x : Int} : x ∈ rchL L j ↔ ∃ i : Nat, x = i ∧ i < j ∧ rch L i = true := by
  unfold rchL
  simp only [List.mem_map, List.mem_filter, List.mem_range]
  constructor
  · rintro ⟨i, ⟨h1, h2⟩, rfl⟩; exact ⟨i, rfl, h1, h2⟩
  · rintro ⟨i, rfl, h1, h2⟩; exact ⟨i, ⟨h1, h2⟩, rfl⟩
theorem put_last {l : List Int} {n : Int} (h : ∀ x ∈ l, x < n) : putF l n = l ++ [n] := by
  have := put_new (l := l) (n := n) (k := l.length) (fun z hz => h z (List.mem_of_mem_take hz)) fun x hx => by simp at hx
  rw [this]; simp
theorem put_again {l : List Int} {n : Int} (h : ∀ x ∈ l, x < n) : putF (l ++ [n]) n = l ++ [n] :=
  put_same (k := l.length) (fun z hz => by rw [List.take_append_of_le_length (Nat.le_refl _)] at hz; exact h z (List.mem_of_mem_take hz)) (by simp)
structure SS (L : Nat → Nat → Option Int) (j : Int) (reached : List Int) (most : Int) : Prop where
  lo : 1 ≤ j
  tab : reached = rchL L j.toNat
  top : most = mostF (rch L) j.toNat
theorem rchL_len (j : Nat) : (rchL L j).length ≤ j := by
  unfold rchL
  rw [List.length_map]
  exact Nat.le_trans (List.length_filter_le _ _) (by simp)
theorem SS.len {j : Int} {reached : List Int} {most : Int} (h : SS L j reached most) : (reached.length : Int) ≤ j := by
  have := rchL_len (L := L) j.toNat
  have := h.lo
  rw [h.tab]; omega
theorem SS.start {L : Nat → Nat → Option Int} : SS L 1 [0] 0 := by
  refine ⟨by omega, ?_, ?_⟩
  · show _ = rchL L (0 + 1)
    rw [rchL_succ, if_pos (by rw [rch_eq]; rfl)]; rfl
  · show _ = mostF (rch L) (0 + 1)
    unfold mostF mostF
    split <;> rfl
/-- While the lines that end ahead of j are tried: i of the places are done. -/
structure ST (L : Nat → Nat → Option Int) (j i : Int) (reached : List Int) (most : Int) : Prop where
  pos : 1 ≤ j
  tab : reached = if (((rchL L j.toNat).take i.toNat).any fun x => (L x.toNat j.toNat).isSome) then rchL L j.toNat ++ [j] else rchL L j.toNat
  top : most = if (((rchL L j.toNat).take i.toNat).any fun x => (L x.toNat j.toNat).isSome) then j else mostF (rch L) j.toNat
theorem ST.len {j i : Int} {reached : List Int} {most : Int} (h : ST L j i reached most) : (reached.length : Int) ≤ j + 1 := by
  have := rchL_len (L := L) j.toNat
  have := h.pos
  rw [h.tab]
  split
  · rw [List.length_append, List.length_singleton]; omega
  · omega
theorem SS.line {j : Int} {reached : List Int} {most : Int} (h : SS L j reached most) : ST L j 0 reached most :=
  ⟨h.lo, by rw [h.tab]; simp, by rw [h.top]; simp⟩
theorem rchL_lt {j : Int} (hj : 1 ≤ j) : ∀ x ∈ rchL L j.toNat, x < j := fun x hx => by
  obtain ⟨i, rfl, h, -⟩ := rchL_mem.1 hx
  omega
theorem ST.yes {j i i' x : Int} {reached reached' : List Int} {most : Int} (h : ST L j i reached most) (h0 : 0 ≤ i) (hx : (rchL L j.toNat)[i.toNat]? = some x) (hL : (L x.toNat j.toNat).isSome = true) (e1 : reached' = putF reached j) (e2 : i' = i + 1) : ST L j i' reached' j := by
  subst e1 e2
  have ht : (((rchL L j.toNat).take (i + 1).toNat).any fun x => (L x.toNat j.toNat).isSome) = true := by
    rw [show (i + 1).toNat = i.toNat + 1 by omega, List.take_add_one, hx, List.any_append]
    simp [hL]
  refine ⟨h.pos, ?_, by rw [ht]; rfl⟩
  rw [ht, if_pos rfl, h.tab]
  split
  · exact put_again (rchL_lt h.pos)
  · exact put_last (rchL_lt h.pos)
theorem ST.no {j i i' x : Int} {reached : List Int} {most : Int} (h : ST L j i reached most) (h0 : 0 ≤ i) (hx : (rchL L j.toNat)[i.toNat]? = some x) (hL : L x.toNat j.toNat = none) (e2 : i' = i + 1) : ST L j i' reached most := by
  subst e2
  have ht : (((rchL L j.toNat).take (i + 1).toNat).any fun x => (L x.toNat j.toNat).isSome) = (((rchL L j.toNat).take i.toNat).any fun x => (L x.toNat j.toNat).isSome) := by
    rw [show (i + 1).toNat = i.toNat + 1 by omega, List.take_add_one, hx, List.any_append]
    simp [hL]
  exact ⟨h.pos, by rw [ht]; exact h.tab, by rw [ht]; exact h.top⟩
theorem ST.done {j j' i : Int} {reached : List Int} {most : Int} (h : ST L j i reached most) (hi : ((rchL L j.toNat).length : Int) ≤ i) (e : j' = j + 1) : SS L j' reached most := by
  subst e
  have hp := h.pos
  have t := h.tab; have u := h.top
  rw [List.take_of_length_le (by omega)] at t u
  have hr : (rchL L j.toNat).any (fun x => (L x.toNat j.toNat).isSome) = rch L j.toNat := by
    rw [rch_eq, decide_eq_false (by omega), Bool.false_or, Bool.eq_iff_iff, List.any_eq_true, List.any_eq_true]
    constructor
    · rintro ⟨x, hx, hs⟩
      obtain ⟨i, rfl, h1, h2⟩ := rchL_mem.1 hx
      exact ⟨i, List.mem_range.2 h1, by rw [h2]; simpa using hs⟩
    · rintro ⟨i, hi, hs⟩
      rw [Bool.and_eq_true] at hs
      exact ⟨i, rchL_mem.2 ⟨i, rfl, List.mem_range.1 hi, hs.1⟩, by simpa using hs.2⟩
  rw [hr] at t u
  have ej : (j + 1).toNat = j.toNat + 1 := by omega
  refine ⟨by omega, ?_, ?_⟩
  · rw [ej, rchL_succ, t, show ((j.toNat : Nat) : Int) = j by omega]
  · rw [ej, mostF, u, show ((j.toNat : Nat) : Int) = j by omega]
end
section
variable {ws : List Int} {r : JRule} {m : Int}
abbrev mostP (ws : List Int) (r : JRule) (m : Int) : Int := mostF (rch (paL ws r m)) ws.length
def stuckA (ws : List Int) (r : JRule) (m : Int) : Int × Bool := if askP ws r m = true ∧ ¬ 0 ≤ pC ws r m (-1) 0 then (mostP ws r m, true) else (0, false)
theorem mostP_in (h : 0 < ws.length) : 0 ≤ mostP ws r m ∧ mostP ws r m < ws.length := by
  have := mostF_is (rch (paL ws r m)) ws.length
  have h0 := this.pos
  refine ⟨h0, ?_⟩
  rcases this.at_ with e | ⟨t, e, ht, -⟩
  · show mostP ws r m < _
    unfold mostP; omega
  · show mostP ws r m < _
    unfold mostP; omega
end

/- Contracts of the functions on lines of a given number, and on paragraphs that are stuck. -/
theorem put_some {l : List Int} {n : Int} {k : Nat} {x : Int} (h1 : ∀ z ∈ l.take k, z < n) (h : l[k]? = some x) (hx : n < x) : putF l n = l.take k ++ n :: l.drop k := put_new h1 fun y hy => by rw [h] at hy; obtain rfl := Option.some.inj hy; exact hx
theorem put_none {l : List Int} {n : Int} {k : Nat} (h1 : ∀ z ∈ l.take k, z < n) (h : l.length ≤ k) : putF l n = l.take k ++ n :: l.drop k := put_new h1 fun x hx => by rw [List.getElem?_eq_none h] at hx; cases hx
theorem l1Put_ok (l : List Int) (n : Int) (hl : l.length ≤ 100000000) : OkA Try.prog 90 [.isl 1 (rows cInt l), .int .i64 n] (· = .isl 1 (rows cInt (putF l n))) :=
  OkA.iceI 1 (fn_intro envOk fieldsOk mixed Try.func90 rfl fun κ X Y L Q m hQ => by
    conv => cbv
    refine r_loopF (α := Int) m 48 [0, 1, 5] [] (fun σ => [(0, .isl 1 (rows cInt l)), (1, .int .i64 n), (5, .int .i64 σ)]) (fun σ => [])
      (fun σ => (0 ≤ σ ∧ σ ≤ l.length) ∧ (∀ z ∈ l.take σ.toNat, z < n)) (fun σ => (l.length - σ).toNat) 0 ?_ ?_ ?_ ?_
    · cbv
    · cbv
    · exact ⟨(by (try dsimp only) <;> (omega)), (by (try dsimp only) <;> (intro z hz; simp at hz))⟩
    rintro k ⟨kb, q⟩ E hE F hF
    conv => cbv
    refine r_lenR m.sX fun n1 hn1 mn1 => ?_
    conv => cbv
    refine r_lss m.sX (fun h1 => ?_) (fun h1 => ?_) <;> conv => cbv
    · refine r_index m.sX (by omega) (by omega) fun x1 hx1 => ?_
      conv => cbv
      have mx1 := get_mem hx1
      have vx1 := nth_some hx1
      refine r_lss m.sX (fun h2 => ?_) (fun h2 => ?_) <;> conv => cbv
      · refine r_addf m.sX (by omega) (by omega) fun k_2 hk_2 => ?_
        conv => cbv
        refine hE _ k_2 ?_ ?_ ⟨(by (try dsimp only) <;> (omega)), (by (try dsimp only) <;> (intro z hz; rw [show k_2.toNat = k.toNat + 1 by omega, List.take_add_one, hx1] at hz; simp only [Option.toList_some, List.mem_append, List.mem_singleton] at hz; rcases hz with hz | hz; (exact q z hz); omega))⟩ (by first | omega | (dsimp only; omega))
        · cbv
        · cbv
      · refine hF _ _ ?_
        conv => cbv
        refine r_lenR m.sX fun n2 hn2 mn2 => ?_
        conv => cbv
        refine r_lss m.sX (fun h3 => ?_) (fun h3 => ?_) <;> conv => cbv
        · refine r_index m.sX (by omega) (by omega) fun x2 hx2 => ?_
          conv => cbv
          have mx2 := get_mem hx2
          have vx2 := nth_some hx2
          obtain rfl : x1 = x2 := Option.some.inj (hx1.symm.trans hx2)
          refine r_eql m.sX (fun h4 => ?_) (fun h4 => ?_) <;> conv => cbv
          · exact hQ (.isl 1 (rows cInt l)) (Eq.trans (by first | rfl | (simp only [lb, lbI, rows_cons, rows_nil, unnilT, unnil, unnilTI, unnilI]; try rfl)) (congrArg (fun l => PV.isl 1 (rows cInt l)) (show l = putF l n from by first | exact (put_same q (by rw [hx1, h4])).symm | exact (put_same q (by rw [hx3, h6])).symm | (rw [put_some q hx1 (by omega)]; subst_vars; simp; done) | (rw [put_some q hx3 (by omega)]; subst_vars; simp; done) | (rw [put_none q (by omega)]; subst_vars; simp; done))))
          · refine r_islice (i := 0) (j := k) m.sX (by omega) (by omega) (by omega) fun zs1 hzs1 => ?_
            have lzs1 : (zs1.length : Int) = k - 0 := by rw [hzs1]; first | done | (simp; done) | (simp; omega)
            conv => cbv
            refine r_append0R m.sX (by first | omega | (dsimp only; omega)) (by first | omega | (dsimp only; omega)) fun out hout => ?_
            conv => cbv
            have lout : (out.length : Int) = zs1.length := by rw [hout]; first | done | (simp; done) | (simp; omega)
            refine r_append1 (n) m.sX rfl (by first | omega | (dsimp only; omega)) (by first | omega | (dsimp only; omega)) fun out_2 hout_2 => ?_
            conv => cbv
            have lout_2 : (out_2.length : Int) = out.length + 1 := by rw [hout_2]; first | done | (simp; done) | (simp; omega)
            refine r_islice' (i := k) m.sX (by omega) (by omega) fun zs2 hzs2 => ?_
            have lzs2 : (zs2.length : Int) = l.length - k := by rw [hzs2]; first | done | (simp; done) | (simp; omega)
            conv => cbv
            refine r_append m.sX (by first | omega | (dsimp only; omega)) (by first | omega | (dsimp only; omega)) fun zs3 hzs3 => ?_
            conv => cbv
            have lzs3 : (zs3.length : Int) = out_2.length + zs2.length := by rw [hzs3]; first | done | (simp; done) | (simp; omega)
            exact hQ (.fr 3 1 (rows cInt zs3)) (Eq.trans (by first | rfl | (simp only [lb, lbI, rows_cons, rows_nil, unnilT, unnil, unnilTI, unnilI]; try rfl)) (congrArg (fun l => PV.isl 1 (rows cInt l)) (show zs3 = putF l n from by first | exact (put_same q (by rw [hx1, h4])).symm | exact (put_same q (by rw [hx3, h6])).symm | (rw [put_some q hx1 (by omega)]; subst_vars; simp; done) | (rw [put_some q hx3 (by omega)]; subst_vars; simp; done) | (rw [put_none q (by omega)]; subst_vars; simp; done))))
        · refine r_islice (i := 0) (j := k) m.sX (by omega) (by omega) (by omega) fun zs4 hzs4 => ?_
          have lzs4 : (zs4.length : Int) = k - 0 := by rw [hzs4]; first | done | (simp; done) | (simp; omega)
          conv => cbv
          refine r_append0R m.sX (by first | omega | (dsimp only; omega)) (by first | omega | (dsimp only; omega)) fun out_3 hout_3 => ?_
          conv => cbv
          have lout_3 : (out_3.length : Int) = zs4.length := by rw [hout_3]; first | done | (simp; done) | (simp; omega)
          refine r_append1 (n) m.sX rfl (by first | omega | (dsimp only; omega)) (by first | omega | (dsimp only; omega)) fun out_4 hout_4 => ?_
          conv => cbv
          have lout_4 : (out_4.length : Int) = out_3.length + 1 := by rw [hout_4]; first | done | (simp; done) | (simp; omega)
          refine r_islice' (i := k) m.sX (by omega) (by omega) fun zs5 hzs5 => ?_
          have lzs5 : (zs5.length : Int) = l.length - k := by rw [hzs5]; first | done | (simp; done) | (simp; omega)
          conv => cbv
          refine r_append m.sX (by first | omega | (dsimp only; omega)) (by first | omega | (dsimp only; omega)) fun zs6 hzs6 => ?_
          conv => cbv
          have lzs6 : (zs6.length : Int) = out_4.length + zs5.length := by rw [hzs6]; first | done | (simp; done) | (simp; omega)
          exact hQ (.fr 3 1 (rows cInt zs6)) (Eq.trans (by first | rfl | (simp only [lb, lbI, rows_cons, rows_nil, unnilT, unnil, unnilTI, unnilI]; try rfl)) (congrArg (fun l => PV.isl 1 (rows cInt l)) (show zs6 = putF l n from by first | exact (put_same q (by rw [hx1, h4])).symm | exact (put_same q (by rw [hx3, h6])).symm | (rw [put_some q hx1 (by omega)]; subst_vars; simp; done) | (rw [put_some q hx3 (by omega)]; subst_vars; simp; done) | (rw [put_none q (by omega)]; subst_vars; simp; done))))
    · refine hF _ _ ?_
      conv => cbv
      refine r_lenR m.sX fun n3 hn3 mn3 => ?_
      conv => cbv
      refine r_lss m.sX (fun h5 => ?_) (fun h5 => ?_) <;> conv => cbv
      · refine r_index m.sX (by omega) (by omega) fun x3 hx3 => ?_
        conv => cbv
        have mx3 := get_mem hx3
        have vx3 := nth_some hx3
        refine r_eql m.sX (fun h6 => ?_) (fun h6 => ?_) <;> conv => cbv
        · exact hQ (.isl 1 (rows cInt l)) (Eq.trans (by first | rfl | (simp only [lb, lbI, rows_cons, rows_nil, unnilT, unnil, unnilTI, unnilI]; try rfl)) (congrArg (fun l => PV.isl 1 (rows cInt l)) (show l = putF l n from by first | exact (put_same q (by rw [hx1, h4])).symm | exact (put_same q (by rw [hx3, h6])).symm | (rw [put_some q hx1 (by omega)]; subst_vars; simp; done) | (rw [put_some q hx3 (by omega)]; subst_vars; simp; done) | (rw [put_none q (by omega)]; subst_vars; simp; done))))
        · refine r_islice (i := 0) (j := k) m.sX (by omega) (by omega) (by omega) fun zs7 hzs7 => ?_
          have lzs7 : (zs7.length : Int) = k - 0 := by rw [hzs7]; first | done | (simp; done) | (simp; omega)
          conv => cbv
          refine r_append0R m.sX (by first | omega | (dsimp only; omega)) (by first | omega | (dsimp only; omega)) fun out_5 hout_5 => ?_
          conv => cbv
          have lout_5 : (out_5.length : Int) = zs7.length := by rw [hout_5]; first | done | (simp; done) | (simp; omega)
          refine r_append1 (n) m.sX rfl (by first | omega | (dsimp only; omega)) (by first | omega | (dsimp only; omega)) fun out_6 hout_6 => ?_
          conv => cbv
          have lout_6 : (out_6.length : Int) = out_5.length + 1 := by rw [hout_6]; first | done | (simp; done) | (simp; omega)
          refine r_islice' (i := k) m.sX (by omega) (by omega) fun zs8 hzs8 => ?_
          have lzs8 : (zs8.length : Int) = l.length - k := by rw [hzs8]; first | done | (simp; done) | (simp; omega)
          conv => cbv
          refine r_append m.sX (by first | omega | (dsimp only; omega)) (by first | omega | (dsimp only; omega)) fun zs9 hzs9 => ?_
          conv => cbv
          have lzs9 : (zs9.length : Int) = out_6.length + zs8.length := by rw [hzs9]; first | done | (simp; done) | (simp; omega)
          exact hQ (.fr 3 1 (rows cInt zs9)) (Eq.trans (by first | rfl | (simp only [lb, lbI, rows_cons, rows_nil, unnilT, unnil, unnilTI, unnilI]; try rfl)) (congrArg (fun l => PV.isl 1 (rows cInt l)) (show zs9 = putF l n from by first | exact (put_same q (by rw [hx1, h4])).symm | exact (put_same q (by rw [hx3, h6])).symm | (rw [put_some q hx1 (by omega)]; subst_vars; simp; done) | (rw [put_some q hx3 (by omega)]; subst_vars; simp; done) | (rw [put_none q (by omega)]; subst_vars; simp; done))))
      · refine r_islice (i := 0) (j := k) m.sX (by omega) (by omega) (by omega) fun zs10 hzs10 => ?_
        have lzs10 : (zs10.length : Int) = k - 0 := by rw [hzs10]; first | done | (simp; done) | (simp; omega)
        conv => cbv
        refine r_append0R m.sX (by first | omega | (dsimp only; omega)) (by first | omega | (dsimp only; omega)) fun out_7 hout_7 => ?_
        conv => cbv
        have lout_7 : (out_7.length : Int) = zs10.length := by rw [hout_7]; first | done | (simp; done) | (simp; omega)
        refine r_append1 (n) m.sX rfl (by first | omega | (dsimp only; omega)) (by first | omega | (dsimp only; omega)) fun out_8 hout_8 => ?_
        conv => cbv
        have lout_8 : (out_8.length : Int) = out_7.length + 1 := by rw [hout_8]; first | done | (simp; done) | (simp; omega)
        refine r_islice' (i := k) m.sX (by omega) (by omega) fun zs11 hzs11 => ?_
        have lzs11 : (zs11.length : Int) = l.length - k := by rw [hzs11]; first | done | (simp; done) | (simp; omega)
        conv => cbv
        refine r_append m.sX (by first | omega | (dsimp only; omega)) (by first | omega | (dsimp only; omega)) fun zs12 hzs12 => ?_
        conv => cbv
        have lzs12 : (zs12.length : Int) = out_8.length + zs11.length := by rw [hzs12]; first | done | (simp; done) | (simp; omega)
        exact hQ (.fr 3 1 (rows cInt zs12)) (Eq.trans (by first | rfl | (simp only [lb, lbI, rows_cons, rows_nil, unnilT, unnil, unnilTI, unnilI]; try rfl)) (congrArg (fun l => PV.isl 1 (rows cInt l)) (show zs12 = putF l n from by first | exact (put_same q (by rw [hx1, h4])).symm | exact (put_same q (by rw [hx3, h6])).symm | (rw [put_some q hx1 (by omega)]; subst_vars; simp; done) | (rw [put_some q hx3 (by omega)]; subst_vars; simp; done) | (rw [put_none q (by omega)]; subst_vars; simp; done)))))

def withA (ws : List Int) (r : JRule) (m k : Int) : List Int × Int × Bool := if askP ws r m && inB k 1 24 then bestF ws r m k else ([], 0, false)
theorem BestWithLines_ok (words : List Int) (r : JRule) (measure : Int) (lines : Int)  : OkA Try.prog 47 [.isl 1 (rows cInt words), .agg (cRule r), .int .i64 measure, .int .i64 lines] (· = (lic 3 1 cInt) (withA words r measure lines)) := by
  obtain ⟨rA, rB, rC⟩ := r
  try dsimp only at *
  exact OkA.unnil 3 1 (fn_intro envOk fieldsOk mixed Try.func47 rfl fun κ X Y L Q m hQ => by
    conv => cbv
    refine r_callB m.sX (isSetParagraph_ok words (rA, rB, rC) measure) (fun h1 => ?_) (fun h1 => ?_) <;> conv => cbv
    · have hp := askP_in h1
      try dsimp only at hp
      refine r_callB m.sX (within_ok lines 1 24) (fun h2 => ?_) (fun h2 => ?_) <;> conv => cbv
      · have h3 := inB_spec h2
        try dsimp only at h3
        refine r_callF (lic 3 1 cInt) m.sX (bestBreaks_ok words (rA, rB, rC) measure lines (by first | rfl | assumption | omega | (simp at *; omega)) (by first | rfl | assumption | omega | (simp at *; omega))) fun v hv1 => ?_
        obtain ⟨v1, v2, v3⟩ := v
        conv => cbv
        try dsimp only at hv1
        exact hQ (.tup [.fr 3 1 (rows cInt v1), .int .i64 v2, .bool v3]) (Eq.trans (by first | rfl | (simp only [lic, licI, lb, lbI, rows_cons, rows_nil, unnilT, unnil, unnilTI, unnilI]; try rfl)) (congrArg ((lic 3 1 cInt)) (show (v1, v2, v3) = withA words (rA, rB, rC) measure lines from by rw [withA, h1, h2]; exact hv1)))
      · exact hQ (.tup [.fr 3 1 [], .int .i64 0, .bool false]) (Eq.trans (by first | rfl | (simp only [lic, licI, lb, lbI, rows_cons, rows_nil, unnilT, unnil, unnilTI, unnilI]; try rfl)) (congrArg ((lic 3 1 cInt)) (show ([], 0, false) = withA words (rA, rB, rC) measure lines from by rw [withA, h1, h2]; rfl)))
    · exact hQ (.tup [.fr 3 1 [], .int .i64 0, .bool false]) (Eq.trans (by first | rfl | (simp only [lic, licI, lb, lbI, rows_cons, rows_nil, unnilT, unnil, unnilTI, unnilI]; try rfl)) (congrArg ((lic 3 1 cInt)) (show ([], 0, false) = withA words (rA, rB, rC) measure lines from by rw [withA, h1]; rfl))))

theorem specBestWithLines_ok (words : List Int) (r : JRule) (measure : Int) (lines : Int)  : OkA Try.prog 48 [.isl 1 (rows cInt words), .agg (cRule r), .int .i64 measure, .int .i64 lines] (· = (licI 1 cInt) (withA words r measure lines)) := by
  obtain ⟨rA, rB, rC⟩ := r
  try dsimp only at *
  exact OkA.iceI 1 (fn_intro envOk fieldsOk mixed Try.func48 rfl fun κ X Y L Q m hQ => by
    conv => cbv
    refine r_callB m.sX (paAsked_ok words (rA, rB, rC) measure) (fun h1 => ?_) (fun h1 => ?_) <;> conv => cbv
    · have hp := askP_in h1
      try dsimp only at hp
      refine r_callB m.sX (l1In_ok lines 1 24) (fun h2 => ?_) (fun h2 => ?_) <;> conv => cbv
      · have h3 := inB_spec h2
        try dsimp only at h3
        refine r_callF (licI 1 cInt) m.sX (paBest_ok words (rA, rB, rC) measure lines (by first | rfl | assumption | omega | (simp at *; omega)) (by first | rfl | assumption | omega | (simp at *; omega))) fun v hv1 => ?_
        obtain ⟨v1, v2, v3⟩ := v
        conv => cbv
        try dsimp only at hv1
        exact hQ (.tup [.isl 1 (rows cInt v1), .int .i64 v2, .bool v3]) (Eq.trans (by first | rfl | (simp only [lic, licI, lb, lbI, rows_cons, rows_nil, unnilT, unnil, unnilTI, unnilI]; try rfl)) (congrArg ((licI 1 cInt)) (show (v1, v2, v3) = withA words (rA, rB, rC) measure lines from by rw [withA, h1, h2]; rw [show md lines lines = lines from if_neg (by omega)] at hv1; exact hv1)))
      · exact hQ (.tup [.nil, .int .i64 0, .bool false]) (Eq.trans (by first | rfl | (simp only [lic, licI, lb, lbI, rows_cons, rows_nil, unnilT, unnil, unnilTI, unnilI]; try rfl)) (congrArg ((licI 1 cInt)) (show ([], 0, false) = withA words (rA, rB, rC) measure lines from by rw [withA, h1, h2]; rfl)))
    · exact hQ (.tup [.nil, .int .i64 0, .bool false]) (Eq.trans (by first | rfl | (simp only [lic, licI, lb, lbI, rows_cons, rows_nil, unnilT, unnil, unnilTI, unnilI]; try rfl)) (congrArg ((licI 1 cInt)) (show ([], 0, false) = withA words (rA, rB, rC) measure lines from by rw [withA, h1]; rfl))))

theorem StuckAt_ok (words : List Int) (r : JRule) (measure : Int)  : OkA Try.prog 51 [.isl 1 (rows cInt words), .agg (cRule r), .int .i64 measure] (· = ib (stuckA words r measure)) := by
  obtain ⟨rA, rB, rC⟩ := r
  try dsimp only at *
  exact fn_intro envOk fieldsOk mixed Try.func51 rfl fun κ X Y L Q m hQ => by
    conv => cbv
    refine r_callB m.sX (isSetParagraph_ok words (rA, rB, rC) measure) (fun h1 => ?_) (fun h1 => ?_) <;> conv => cbv
    · have hp := askP_in h1
      try dsimp only at hp
      have sp := okPara_spec hp.para
      try dsimp only at sp
      have z4 := hp.rule; have z5 := hp.meas
      try dsimp only at z4
      refine r_callF (fun l => PV.isl _ (rows _ l)) m.sX (leastCostsI_ok words (rA, rB, rC) measure (-1) (by assumption) (by omega)) fun v1 hv1 => ?_
      conv => cbv
      try dsimp only at hv1
      have vl : v1.length = words.length := by rw [hv1, tabC_length]
      refine r_index m.sX (by omega) (by omega) fun x1 hx1 => ?_
      conv => cbv
      have mx1 := get_mem hx1
      have vx1 := nth_some hx1
      have e1 : x1 = pC words (rA, rB, rC) measure (-1) 0 := tabC_at (by rw [← hv1]; exact hx1)
      refine r_geq m.sX (fun h2 => ?_) (fun h2 => ?_) <;> conv => cbv
      · exact hQ (.tup [.int .i64 0, .bool false]) (Eq.trans (by first | rfl | (simp only [lb, lbI, rows_cons, rows_nil, unnilT, unnil, unnilTI, unnilI]; try rfl)) (congrArg (ib) (show (0, false) = stuckA words (rA, rB, rC) measure from by rw [stuckA, if_neg (fun e => e.2 (by rw [← e1]; omega))])))
      · refine r_lenR m.sX fun n1 hn1 mn1 => ?_
        conv => cbv
        refine r_make cBool false m.sX rfl (by omega) (by omega) (by dsimp only; omega) (by omega) fun reached hreached => ?_
        have lreached : (reached.length : Int) = n1 := by rw [hreached]; first | done | (simp; done) | (simp; omega)
        conv => cbv
        refine r_oindex m.sX (by omega) (by omega) ?_
        conv => cbv
        obtain ⟨y1, hy1⟩ := get_ex (xs := reached) (i := Int.toNat 0) (by omega)
        refine r_ostore (l := Int.toNat 0) true m.sX hy1 (Nat.le_of_ble_eq_true rfl) rfl fun zs1 hzs1 => ?_
        have lzs1 : (zs1.length : Int) = reached.length := by rw [hzs1]; first | done | (simp; done) | (simp; omega)
        conv => cbv
        refine r_lenR m.sX fun n2 hn2 mn2 => ?_
        conv => cbv
        refine r_loopF (α := List Bool × Int × Int) m 71 [0, 2, 9, 34, 35] [⟨4, 33, 0, 0, 0⟩, ⟨8, 65, 4, 1, 0⟩] (fun σ => [(0, .isl 1 (rows cInt words)), (2, .int .i64 measure), (4, .optr 33 0 3 0 0), (8, .osl 65 0), (9, .int .i64 σ.2.1), (34, .int .i64 n2), (35, .int .i64 σ.2.2)]) (fun σ => [(33, 0, .box [.int .i64 rA, .int .i64 rB, .int .i64 rC]), (65, 0, .row 4 1 (rows cBool σ.1))])
          (fun σ => (0 ≤ σ.2.2) ∧ (σ.2.2 ≤ n2) ∧ (SO (paL words (rA, rB, rC) measure) words.length σ.2.2.toNat σ.1 σ.2.1)) (fun σ => (n2 - σ.2.2).toNat) (zs1, 0, 0) ?_ ?_ ?_ ?_
        · cbv
        · cbv
        · exact ⟨(by (try dsimp only); first | omega | (simp; omega)), (by (try dsimp only); first | omega | (simp; omega)), (by (try dsimp only) <;> (rw [hzs1, hreached, show Int.toNat n1 = words.length by omega]; exact SO.start))⟩
        rintro ⟨reached_2, most, i1⟩ ⟨lo1, hi1, so⟩ E hE F hF
        dsimp only at lo1 hi1 so
        have rl : reached_2.length = words.length := by rw [so.tab, tabR_length]
        conv => cbv
        refine r_lss m.sX (fun h3 => ?_) (fun h3 => ?_) <;> conv => cbv
        · refine r_addf m.sX (by omega) (by omega) fun to_ hto_ => ?_
          conv => cbv
          refine r_loopF (α := List Bool × Int × Int) m 71 [0, 2, 9, 10, 11, 34, 35] [⟨4, 33, 0, 0, 0⟩, ⟨8, 65, 4, 1, 0⟩] (fun σ => [(0, .isl 1 (rows cInt words)), (2, .int .i64 measure), (4, .optr 33 0 3 0 0), (8, .osl 65 0), (9, .int .i64 σ.2.1), (10, .int .i64 i1), (11, .int .i64 σ.2.2), (34, .int .i64 n2), (35, .int .i64 i1)]) (fun σ => [(33, 0, .box [.int .i64 rA, .int .i64 rB, .int .i64 rC]), (65, 0, .row 4 1 (rows cBool σ.1))])
            (fun σ => SI (paL words (rA, rB, rC) measure) words.length i1 σ.2.2 σ.1 σ.2.1) (fun σ => ((words.length : Int) - σ.2.2).toNat) (reached_2, most, to_) ?_ ?_ ?_ ?_
          · cbv
          · cbv
          · exact (by (try dsimp only) <;> (exact so.line (by omega) (by omega) (by omega)))
          rintro ⟨reached_3, most_2, to__2⟩ si E2 hE2 F2 hF2
          dsimp only at si
          have sl := si.lo
          try dsimp only at sl
          have rl2 : reached_3.length = words.length := by rw [si.tab, tabR_length]
          conv => cbv
          refine r_oindex m.sX (by omega) (by omega) ?_
          conv => cbv
          obtain ⟨x2, hx2⟩ := get_ex (xs := reached_3) (i := Int.toNat i1) (by omega)
          have mx2 := get_mem hx2
          have dx2 := drop_cons hx2
          have kx2 := take_snoc hx2
          have jx2 : (i1 + 1).toNat = Int.toNat i1 + 1 := by omega
          have sx := si.at_ hx2
          try dsimp only at sx
          refine r_oload m.sX hx2 (Nat.le_of_ble_eq_true rfl) ?_
          conv => cbv
          rcases Bool.eq_false_or_eq_true x2 with rfl | rfl <;> conv => cbv
          · refine r_lenR m.sX fun n3 hn3 mn3 => ?_
            conv => cbv
            refine r_lss m.sX (fun h4 => ?_) (fun h4 => ?_) <;> conv => cbv
            · refine r_draw m (by kernel_rfl) ?_
              conv => cbv
              refine r_islice (i := i1) (j := to__2) m.sY (by omega) (by omega) (by omega) fun zs2 hzs2 => ?_
              have lzs2 : (zs2.length : Int) = to__2 - i1 := by rw [hzs2]; first | done | (simp; done) | (simp; omega)
              obtain ⟨z1, z2, z3⟩ := hp.cut (i := i1.toNat) (j := to__2.toNat) (by omega) (by omega) hzs2
              conv => cbv
              refine r_callFS ib m.sY (lineCost_ok zs2 (rA, rB, rC) measure (by first | rfl | assumption | omega | (simp at *; omega)) (by first | rfl | assumption | omega | (simp at *; omega)) (by first | rfl | assumption | omega | (simp at *; omega)) (by first | rfl | assumption | omega | (simp at *; omega))) (by first | trivial | exact noFr_tup2 trivial trivial | exact noFr_tup3 trivial trivial trivial) fun v hv2 => ?_
              obtain ⟨v2, ok⟩ := v
              conv => cbv
              try dsimp only at hv2
              have lp := lineA_paL z3 hv2
              try dsimp only at lp
              rcases Bool.eq_false_or_eq_true ok with rfl | rfl <;> conv => cbv
              · refine r_oindex m.sX (by omega) (by omega) ?_
                conv => cbv
                obtain ⟨y2, hy2⟩ := get_ex (xs := reached_3) (i := Int.toNat to__2) (by omega)
                refine r_ostore (l := Int.toNat to__2) true m.sX hy2 (Nat.le_of_ble_eq_true rfl) rfl fun reached_4 hreached_4 => ?_
                have lreached_4 : (reached_4.length : Int) = reached_3.length := by rw [hreached_4]; first | done | (simp; done) | (simp; omega)
                conv => cbv
                refine r_max m.sX fun most_3 hmost_3 => ?_
                conv => cbv
                refine r_addf m.sX (by omega) (by omega) fun to__3 hto__3 => ?_
                conv => cbv
                refine hE2 _ (reached_4, most_3, to__3) ?_ ?_ (by (try dsimp only) <;> (first | exact si.yes (by omega) sx.symm (by rw [lp]; rfl) hreached_4 hmost_3 (by omega) | exact si.no (by omega) (by simpa using lp) (by omega))) (by first | omega | (dsimp only; omega))
                · cbv
                · cbv
              · refine r_addf m.sX (by omega) (by omega) fun to__4 hto__4 => ?_
                conv => cbv
                refine hE2 _ (reached_3, most_2, to__4) ?_ ?_ (by (try dsimp only) <;> (first | exact si.yes (by omega) sx.symm (by rw [lp]; rfl) hreached_4 hmost_3 (by omega) | exact si.no (by omega) (by simpa using lp) (by omega))) (by first | omega | (dsimp only; omega))
                · cbv
                · cbv
            · refine hF2 _ _ ?_
              conv => cbv
              refine r_addf m.sX (by omega) (by omega) fun r1 hr1 => ?_
              conv => cbv
              try have tr1 : Int.toNat r1 = Int.toNat i1 + 1 := by omega
              refine hE _ (reached_3, most_2, r1) ?_ ?_ ⟨(by (try dsimp only); first | omega | (simp; omega)), (by (try dsimp only); first | omega | (simp; omega)), (by (try dsimp only) <;> (first | exact si.done (.inl (by omega)) (by omega) | exact si.done (.inr sx.symm) (by omega)))⟩ (by first | omega | (dsimp only; omega))
              · cbv
              · cbv
          · refine hF2 _ _ ?_
            conv => cbv
            refine r_addf m.sX (by omega) (by omega) fun r2 hr2 => ?_
            conv => cbv
            try have tr2 : Int.toNat r2 = Int.toNat i1 + 1 := by omega
            refine hE _ (reached_3, most_2, r2) ?_ ?_ ⟨(by (try dsimp only); first | omega | (simp; omega)), (by (try dsimp only); first | omega | (simp; omega)), (by (try dsimp only) <;> (first | exact si.done (.inl (by omega)) (by omega) | exact si.done (.inr sx.symm) (by omega)))⟩ (by first | omega | (dsimp only; omega))
            · cbv
            · cbv
        · have dz_i1 := drop_end (xs := words) (i := Int.toNat i1) (by omega)
          have tz_i1 := take_end (xs := words) (i := Int.toNat i1) (by omega)
          refine hF _ _ ?_
          conv => cbv
          exact hQ (.tup [.int .i64 most, .bool true]) (Eq.trans (by first | rfl | (simp only [lb, lbI, rows_cons, rows_nil, unnilT, unnil, unnilTI, unnilI]; try rfl)) (congrArg (ib) (show (most, true) = stuckA words (rA, rB, rC) measure from by rw [stuckA, if_pos ⟨h1, by rw [← e1]; omega⟩, so.ans (by omega)])))
    · exact hQ (.tup [.int .i64 0, .bool false]) (Eq.trans (by first | rfl | (simp only [lb, lbI, rows_cons, rows_nil, unnilT, unnil, unnilTI, unnilI]; try rfl)) (congrArg (ib) (show (0, false) = stuckA words (rA, rB, rC) measure from by rw [stuckA, if_neg (fun e => by rw [h1] at e; exact absurd e.1 (by simp))])))

theorem specStuckAt_ok (words : List Int) (r : JRule) (measure : Int)  : OkA Try.prog 52 [.isl 1 (rows cInt words), .agg (cRule r), .int .i64 measure] (· = ib (stuckA words r measure)) := by
  obtain ⟨rA, rB, rC⟩ := r
  try dsimp only at *
  exact fn_intro envOk fieldsOk mixed Try.func52 rfl fun κ X Y L Q m hQ => by
    conv => cbv
    refine r_callB m.sX (paAsked_ok words (rA, rB, rC) measure) (fun h1 => ?_) (fun h1 => ?_) <;> conv => cbv
    · have hp := askP_in h1
      try dsimp only at hp
      have sp := okPara_spec hp.para
      try dsimp only at sp
      have z4 := hp.rule; have z5 := hp.meas
      try dsimp only at z4
      refine r_callF (fun x => PV.agg (cPaWay x)) m.sX (paFrom_ok words (rA, rB, rC) measure 0 hp (by omega)) fun v hv1A => ?_
      obtain ⟨v1A, v1B, v1C, v1D⟩ := v
      conv => cbv
      try dsimp only at hv1
      have hv1 := hv1A
      rcases Bool.eq_false_or_eq_true v1A with rfl | rfl <;> conv => cbv
      · exact hQ (.tup [.int .i64 0, .bool false]) (Eq.trans (by first | rfl | (simp only [lb, lbI, rows_cons, rows_nil, unnilT, unnil, unnilTI, unnilI]; try rfl)) (congrArg (ib) (show (0, false) = stuckA words (rA, rB, rC) measure from by rw [stuckA, if_neg (fun e => e.2 (of_decide_eq_true (congrArg (·.1) hv1).symm))])))
      · refine r_seal 8 m rfl rfl ?_
        conv => cbv
        refine r_loopF (α := List Int × Int × Int) m 58 [0, 2, 8, 9, 10] [⟨4, 33, 0, 0, 0⟩] (fun σ => [(0, .isl 1 (rows cInt words)), (2, .int .i64 measure), (4, .optr 33 0 3 0 0), (8, .isl 1 (rows cInt σ.1)), (9, .int .i64 σ.2.1), (10, .int .i64 σ.2.2)]) (fun σ => [(33, 0, .box [.int .i64 rA, .int .i64 rB, .int .i64 rC])])
          (fun σ => (SS (paL words (rA, rB, rC) measure) σ.2.2 σ.1 σ.2.1) ∧ (σ.2.2 ≤ words.length)) (fun σ => ((words.length : Int) - σ.2.2).toNat) ([0], 0, 1) ?_ ?_ ?_ ?_
        · cbv
        · (try dsimp only); (try simp only [rows_cons, rows_nil]); cbv
        · exact ⟨(by (try dsimp only) <;> (exact SS.start)), (by (try dsimp only) <;> (omega))⟩
        rintro ⟨reached, most, j⟩ ⟨ss, jb⟩ E hE F hF
        dsimp only at ss jb
        have sj := ss.lo
        try dsimp only at sj
        have rl := ss.len
        try dsimp only at rl
        conv => cbv
        refine r_lenR m.sX fun n1 hn1 mn1 => ?_
        conv => cbv
        refine r_lss m.sX (fun h2 => ?_) (fun h2 => ?_) <;> conv => cbv
        · refine r_callF (fun l => PV.fr _ _ (rows _ l)) m.sX (l1Own_ok reached (by first | rfl | assumption | omega | (simp at *; omega))) fun v2 hv2 => ?_
          conv => cbv
          try dsimp only at hv2
          have vq : v2 = rchL (paL words (rA, rB, rC) measure) j.toNat := hv2.trans ss.tab
          refine r_lenR m.sX fun n2 hn2 mn2 => ?_
          conv => cbv
          refine r_loopF (α := List Int × Int × Int) m 58 [0, 2, 8, 9, 10, 36, 37] [⟨4, 33, 0, 0, 0⟩, ⟨35, 281, 3, 1, 0⟩] (fun σ => [(0, .isl 1 (rows cInt words)), (2, .int .i64 measure), (4, .optr 33 0 3 0 0), (8, .isl 1 (rows cInt σ.1)), (9, .int .i64 σ.2.1), (10, .int .i64 j), (35, .osl 281 0), (36, .int .i64 n2), (37, .int .i64 σ.2.2)]) (fun σ => [(33, 0, .box [.int .i64 rA, .int .i64 rB, .int .i64 rC]), (281, 0, .row 3 1 (rows cInt v2))])
            (fun σ => (0 ≤ σ.2.2) ∧ (σ.2.2 ≤ n2) ∧ (ST (paL words (rA, rB, rC) measure) j σ.2.2 σ.1 σ.2.1)) (fun σ => (n2 - σ.2.2).toNat) (reached, most, 0) ?_ ?_ ?_ ?_
          · cbv
          · cbv
          · exact ⟨(by (try dsimp only); first | omega | (simp; omega)), (by (try dsimp only); first | omega | (simp; omega)), (by (try dsimp only) <;> (exact ss.line))⟩
          rintro ⟨reached_2, most_2, i1⟩ ⟨lo2, hi2, st⟩ E2 hE2 F2 hF2
          dsimp only at lo2 hi2 st
          have rl2 := st.len
          try dsimp only at rl2
          conv => cbv
          refine r_lss m.sX (fun h3 => ?_) (fun h3 => ?_) <;> conv => cbv
          · refine r_oindex m.sX (by omega) (by omega) ?_
            conv => cbv
            obtain ⟨i, hi⟩ := get_ex (xs := v2) (i := Int.toNat i1) (by omega)
            have mi := get_mem hi
            have di := drop_cons hi
            have ki := take_snoc hi
            have ji : (i1 + 1).toNat = Int.toNat i1 + 1 := by omega
            have vi := nth_some hi
            have hi2 : (rchL (paL words (rA, rB, rC) measure) j.toNat)[i1.toNat]? = some i := by rw [← vq]; exact hi
            obtain ⟨i0, e0, l0, -⟩ := rchL_mem.1 (List.mem_of_getElem? hi2)
            refine r_oload m.sX hi (Nat.le_of_ble_eq_true rfl) ?_
            conv => cbv
            refine r_draw m (by kernel_rfl) ?_
            conv => cbv
            refine r_islice (i := i) (j := j) m.sY (by omega) (by omega) (by omega) fun zs1 hzs1 => ?_
            have lzs1 : (zs1.length : Int) = j - i := by rw [hzs1]; first | done | (simp; done) | (simp; omega)
            obtain ⟨z1, z2, z3⟩ := hp.cut (i := i.toNat) (j := j.toNat) (by omega) (by omega) hzs1
            conv => cbv
            refine r_callFS ib m.sY (paLine_ok zs1 (rA, rB, rC) measure false (by first | rfl | assumption | omega | (simp at *; omega)) (by first | rfl | assumption | omega | (simp at *; omega)) (by first | rfl | assumption | omega | (simp at *; omega)) (by first | rfl | assumption | omega | (simp at *; omega))) (by first | trivial | exact noFr_tup2 trivial trivial | exact noFr_tup3 trivial trivial trivial) fun v hv3 => ?_
            obtain ⟨v3, ok⟩ := v
            conv => cbv
            try dsimp only at hv3
            have lp := lineA_paL z3 hv3
            try dsimp only at lp
            rcases Bool.eq_false_or_eq_true ok with rfl | rfl <;> conv => cbv
            · refine r_callF (fun l => PV.isl _ (rows _ l)) m.sX (l1Put_ok reached_2 j (by first | rfl | assumption | omega | (simp at *; omega))) fun reached_3 hreached_3 => ?_
              conv => cbv
              try dsimp only at hreached_3
              refine r_addf m.sX (by omega) (by omega) fun r1 hr1 => ?_
              conv => cbv
              try have tr1 : Int.toNat r1 = Int.toNat i1 + 1 := by omega
              refine hE2 _ (reached_3, j, r1) ?_ ?_ ⟨(by (try dsimp only); first | omega | (simp; omega)), (by (try dsimp only); first | omega | (simp; omega)), (by (try dsimp only) <;> (first | exact st.yes (by omega) hi2 (by rw [lp]; rfl) hreached_3 (by omega) | exact st.no (by omega) hi2 (by simpa using lp) (by omega)))⟩ (by first | omega | (dsimp only; omega))
              · cbv
              · cbv
            · refine r_addf m.sX (by omega) (by omega) fun r2 hr2 => ?_
              conv => cbv
              try have tr2 : Int.toNat r2 = Int.toNat i1 + 1 := by omega
              refine hE2 _ (reached_2, most_2, r2) ?_ ?_ ⟨(by (try dsimp only); first | omega | (simp; omega)), (by (try dsimp only); first | omega | (simp; omega)), (by (try dsimp only) <;> (first | exact st.yes (by omega) hi2 (by rw [lp]; rfl) hreached_3 (by omega) | exact st.no (by omega) hi2 (by simpa using lp) (by omega)))⟩ (by first | omega | (dsimp only; omega))
              · cbv
              · cbv
          · have dz_i1 := drop_end (xs := v2) (i := Int.toNat i1) (by omega)
            have tz_i1 := take_end (xs := v2) (i := Int.toNat i1) (by omega)
            refine hF2 _ _ ?_
            conv => cbv
            refine r_addf m.sX (by omega) (by omega) fun j_2 hj_2 => ?_
            conv => cbv
            refine hE _ (reached_2, most_2, j_2) ?_ ?_ ⟨(by (try dsimp only) <;> (exact st.done (by rw [← vq]; omega) (by omega))), (by (try dsimp only) <;> (omega))⟩ (by first | omega | (dsimp only; omega))
            · cbv
            · cbv
        · refine hF _ _ ?_
          conv => cbv
          exact hQ (.tup [.int .i64 most, .bool true]) (Eq.trans (by first | rfl | (simp only [lb, lbI, rows_cons, rows_nil, unnilT, unnil, unnilTI, unnilI]; try rfl)) (congrArg (ib) (show (most, true) = stuckA words (rA, rB, rC) measure from by rw [stuckA, if_pos ⟨h1, of_decide_eq_false (congrArg (·.1) hv1).symm⟩, ss.top, show j.toNat = words.length by omega])))
    · exact hQ (.tup [.int .i64 0, .bool false]) (Eq.trans (by first | rfl | (simp only [lb, lbI, rows_cons, rows_nil, unnilT, unnil, unnilTI, unnilI]; try rfl)) (congrArg (ib) (show (0, false) = stuckA words (rA, rB, rC) measure from by rw [stuckA, if_neg (fun e => by rw [h1] at e; exact absurd e.1 (by simp))])))


/- Rules for strings. -/
section
variable {P : Program} {b : Bool} {X : Req → (PV → Prop) → Prop} {K : PV → Prop} {u v : List UInt8}
theorem r_tostr {es : List (List PV)} (l : List Int) (h : Std P b X) (he : es = l.map fun n => [PV.int .u8 n]) (H : ∀ zs, zs = l.map (fun n => UInt8.ofNat n.toNat) → K (.str zs)) : X (.tostr es) K := by
  rw [h.eq]; exact ⟨l, he, H _ rfl⟩
end
theorem OkA.iceR {P : Program} {f : FuncId} {args : List PV} {Q : PV → Prop} (h : OkA P f args (fun r => Q (Ai.ice r))) : OkA P f args Q := (OkA.iceE h).mono fun _ ⟨_, q, e⟩ => by rw [e]; exact q

/- Contracts of the functions on register marks. -/

-- lacks impl.areMarksOf
-- lacks impl.abs
-- lacks impl.RegisterShift
-- lacks spec.l1Abs
-- lacks spec.coApart
-- lacks spec.RegisterShift
-- lacks laws.qAway

/- Contracts of the functions on fonts and inked lines. -/

theorem areLetters_ok (s_ : List UInt8) (low : Int) (high : Int)  : OkA Try.prog 172 [.str s_, .int .i64 low, .int .i64 high] (· = .bool (lettersB s_ && inB s_.length low high)) :=
  fn_intro envOk fieldsOk mixed Try.func172 rfl fun κ X Y L Q m hQ => by
    conv => cbv
    refine r_loopF (α := Int) m 29 [0, 1, 2, 7] [] (fun σ => [(0, .str s_), (1, .int .i64 low), (2, .int .i64 high), (7, .int .i64 σ)]) (fun σ => [])
      (fun σ => (0 ≤ σ) ∧ (σ ≤ (s_.length : Int)) ∧ (lettersB s_ = (s_.drop σ.toNat).all letB)) (fun σ => ((s_.length : Int) - σ).toNat) 0 ?_ ?_ ?_ ?_
    · cbv
    · cbv
    · exact ⟨(by (try dsimp only); first | omega | (simp; omega)), (by (try dsimp only); first | omega | (simp; omega)), (by (try dsimp only) <;> (rfl))⟩
    rintro i ⟨lo1, hi1, q⟩ E hE F hF
    conv => cbv
    refine r_slen (u := s_) m.sX fun n1 hn1 mn1 => ?_
    conv => cbv
    refine r_lss m.sX (fun h1 => ?_) (fun h1 => ?_) <;> conv => cbv
    · refine r_sidx (u := s_) (i := i) m.sX (by omega) (by first | omega | (simp only [List.length_cons, List.length_nil]; omega) | (simp; omega)) fun x1 hx1 c1 hc1 bc1 => ?_
      have dx1 := drop_cons hx1
      have kx1 := take_snoc hx1
      have jx1 : (i + 1).toNat = Int.toNat i + 1 := by omega
      conv => cbv
      refine r_lss m.sX (fun h2 => ?_) (fun h2 => ?_) <;> conv => cbv
      · have lb : letB x1 = false := letB_lo hc1 h2
        refine hF _ _ ?_
        conv => cbv
        exact hQ _ (congrArg PV.bool (by rw [q, all_drop hx1, lb]; rfl))
      · refine r_sidx (u := s_) (i := i) m.sX (by omega) (by first | omega | (simp only [List.length_cons, List.length_nil]; omega) | (simp; omega)) fun x2 hx2 c2 hc2 bc2 => ?_
        obtain rfl := Option.some.inj (hx1.symm.trans hx2)
        obtain rfl := hc1.trans hc2.symm
        conv => cbv
        refine r_gtr m.sX (fun h3 => ?_) (fun h3 => ?_) <;> conv => cbv
        · have lb : letB x1 = false := letB_hi hc1 h3
          refine hF _ _ ?_
          conv => cbv
          exact hQ _ (congrArg PV.bool (by rw [q, all_drop hx1, lb]; rfl))
        · have lb : letB x1 = true := letB_in hc1 (by omega)
          refine r_addf m.sX (by omega) (by omega) fun i_2 hi_2 => ?_
          conv => cbv
          try have ti_2 : Int.toNat i_2 = Int.toNat i + 1 := by omega
          refine hE _ i_2 ?_ ?_ ⟨(by (try dsimp only); first | omega | (simp; omega)), (by (try dsimp only); first | omega | (simp; omega)), (by (try dsimp only) <;> (rw [q, all_drop hx1, lb, Bool.true_and, ti_2]))⟩ (by first | omega | (dsimp only; omega))
          · cbv
          · cbv
    · refine hF _ _ ?_
      conv => cbv
      refine r_slen (u := s_) m.sX fun n2 hn2 mn2 => ?_
      conv => cbv
      refine r_callB m.sX (within_ok n2 low high) (fun h4 => ?_) (fun h4 => ?_) <;> conv => cbv
      · exact hQ _ (congrArg PV.bool (by rw [q, all_end (by omega), ← hn2, h4]; rfl))
      · exact hQ _ (congrArg PV.bool (by rw [q, all_end (by omega), ← hn2, h4]; rfl))

theorem isCode_ok (s_ : List UInt8)  : OkA Try.prog 177 [.str s_] (· = .bool (lettersB s_ && inB s_.length 1 3)) :=
  fn_intro envOk fieldsOk mixed Try.func177 rfl fun κ X Y L Q m hQ => by
    conv => cbv
    refine r_callB m.sX (areLetters_ok s_ 1 3) (fun h1 => ?_) (fun h1 => ?_) <;> conv => cbv
    · exact hQ _ (congrArg PV.bool (by exact h1.symm))
    · exact hQ _ (congrArg PV.bool (by exact h1.symm))

theorem IsSort_ok (s_ : FSort)  : OkA Try.prog 171 [.agg (cSort s_)] (· = .bool (okSort s_)) := by
  obtain ⟨s_A, s_B⟩ := s_
  try dsimp only at *
  exact fn_intro envOk fieldsOk mixed Try.func171 rfl fun κ X Y L Q m hQ => by
    conv => cbv
    refine r_callB m.sX (isCode_ok s_A) (fun h1 => ?_) (fun h1 => ?_) <;> conv => cbv
    · refine r_callB m.sX (within_ok s_B 1 54) (fun h2 => ?_) (fun h2 => ?_) <;> conv => cbv
      · exact hQ _ (congrArg PV.bool (by rw [okSort, h1, h2]; rfl))
      · exact hQ _ (congrArg PV.bool (by rw [okSort, h1, h2]; rfl))
    · exact hQ _ (congrArg PV.bool (by rw [okSort, h1]; rfl))

theorem IsFont_ok (f : List FSort)  : OkA Try.prog 159 [.isl 2 (rows cSort f)] (· = .bool (okFont f)) :=
  fn_intro envOk fieldsOk mixed Try.func159 rfl fun κ X Y L Q m hQ => by
    conv => cbv
    refine r_lenR m.sX fun n1 hn1 mn1 => ?_
    conv => cbv
    refine r_loopF (α := Int) m 34 [0, 5, 6, 7] [] (fun σ => [(0, .isl 2 (rows cSort f)), (5, .isl 2 (rows cSort f)), (6, .int .i64 n1), (7, .int .i64 σ)]) (fun σ => [])
      (fun σ => (0 ≤ σ) ∧ (σ ≤ n1) ∧ (okFontG none f = okFontG (prevF f σ) (f.drop σ.toNat))) (fun σ => (n1 - σ).toNat) 0 ?_ ?_ ?_ ?_
    · cbv
    · cbv
    · exact ⟨(by (try dsimp only); first | omega | (simp; omega)), (by (try dsimp only); first | omega | (simp; omega)), (by (try dsimp only) <;> (rw [prevF_zero (by omega) (by omega)]; rfl))⟩
    rintro i1 ⟨lo1, hi1, q⟩ E hE F hF
    conv => cbv
    refine r_lss m.sX (fun h1 => ?_) (fun h1 => ?_) <;> conv => cbv
    · refine r_index m.sX (by omega) (by omega) fun v hs_A => ?_
      obtain ⟨s_A, s_B⟩ := v
      conv => cbv
      have hs_ := hs_A
      have ms_ := get_mem hs_
      have ds_ := drop_cons hs_
      have ks_ := take_snoc hs_
      have js_ : (i1 + 1).toNat = Int.toNat i1 + 1 := by omega
      have pn : prevF f (i1 + 1) = some s_A := prevF_some (x := (s_A, s_B)) (by omega) (by rw [show i1 + 1 - 1 = i1 by omega]; exact hs_)
      refine r_draw m (by kernel_rfl) ?_
      conv => cbv
      refine r_callBS m.sY (IsSort_ok (s_A, s_B)) (fun h2 => ?_) (fun h2 => ?_) <;> conv => cbv
      · refine r_gtr m.sY (fun h3 => ?_) (fun h3 => ?_) <;> conv => cbv
        · refine r_subf m.sY (by omega) (by omega) fun r1 hr1 => ?_
          conv => cbv
          refine r_index m.sY (by omega) (by omega) fun v hx1A => ?_
          obtain ⟨x1A, x1B⟩ := v
          conv => cbv
          have hx1 := hx1A
          have mx1 := get_mem hx1
          have pv : prevF f i1 = some x1A := prevF_some (x := (x1A, x1B)) (by omega) (by rw [← hr1]; exact hx1)
          refine r_sgeq m.sY (fun h4 => ?_) (fun h4 => ?_) <;> conv => cbv
          · have sb : lessB (prevF f i1) s_A = false := by rw [pv]; exact h4
            refine hF _ _ ?_
            conv => cbv
            exact hQ _ (congrArg PV.bool (by rw [okFont, q, ds_, okFontG_bad (.inr sb)]; rfl))
          · have sp : lessB (prevF f i1) s_A = true := by rw [pv]; exact h4
            refine r_addf m.sX (by omega) (by omega) fun r2 hr2 => ?_
            conv => cbv
            try have tr2 : Int.toNat r2 = Int.toNat i1 + 1 := by omega
            refine hE _ r2 ?_ ?_ ⟨(by (try dsimp only); first | omega | (simp; omega)), (by (try dsimp only); first | omega | (simp; omega)), (by (try dsimp only) <;> (rw [q, ds_, okFontG_step h2 sp, tr2, show r2 = i1 + 1 by omega, pn]))⟩ (by first | omega | (dsimp only; omega))
            · cbv
            · cbv
        · have sp : lessB (prevF f i1) s_A = true := by rw [prevF_zero (by omega) lo1]; rfl
          refine r_addf m.sX (by omega) (by omega) fun r3 hr3 => ?_
          conv => cbv
          try have tr3 : Int.toNat r3 = Int.toNat i1 + 1 := by omega
          refine hE _ r3 ?_ ?_ ⟨(by (try dsimp only); first | omega | (simp; omega)), (by (try dsimp only); first | omega | (simp; omega)), (by (try dsimp only) <;> (rw [q, ds_, okFontG_step h2 sp, tr3, show r3 = i1 + 1 by omega, pn]))⟩ (by first | omega | (dsimp only; omega))
          · cbv
          · cbv
      · refine hF _ _ ?_
        conv => cbv
        exact hQ _ (congrArg PV.bool (by rw [okFont, q, ds_, okFontG_bad (.inl h2)]; rfl))
    · have dz_i1 := drop_end (xs := f) (i := Int.toNat i1) (by omega)
      have tz_i1 := take_end (xs := f) (i := Int.toNat i1) (by omega)
      refine hF _ _ ?_
      conv => cbv
      refine r_lenR m.sX fun n2 hn2 mn2 => ?_
      conv => cbv
      refine r_callB m.sX (within_ok n2 1 32) (fun h5 => ?_) (fun h5 => ?_) <;> conv => cbv
      · exact hQ _ (congrArg PV.bool (by rw [okFont, q, dz_i1, ← hn2, h5]; rfl))
      · exact hQ _ (congrArg PV.bool (by rw [okFont, q, dz_i1, ← hn2, h5]; rfl))

theorem tyLetters_ok (s_ : List UInt8) (most : Int)  : OkA Try.prog 168 [.str s_, .int .i64 most] (· = .bool (lettersB s_ && inB s_.length 1 most)) :=
  fn_intro envOk fieldsOk mixed Try.func168 rfl fun κ X Y L Q m hQ => by
    conv => cbv
    refine r_loopF (α := Int) m 26 [0, 1, 5] [] (fun σ => [(0, .str s_), (1, .int .i64 most), (5, .int .i64 σ)]) (fun σ => [])
      (fun σ => (0 ≤ σ) ∧ (σ ≤ (s_.length : Int)) ∧ (lettersB s_ = (s_.drop σ.toNat).all letB)) (fun σ => ((s_.length : Int) - σ).toNat) 0 ?_ ?_ ?_ ?_
    · cbv
    · cbv
    · exact ⟨(by (try dsimp only); first | omega | (simp; omega)), (by (try dsimp only); first | omega | (simp; omega)), (by (try dsimp only) <;> (rfl))⟩
    rintro i ⟨lo1, hi1, q⟩ E hE F hF
    conv => cbv
    refine r_slen (u := s_) m.sX fun n1 hn1 mn1 => ?_
    conv => cbv
    refine r_lss m.sX (fun h1 => ?_) (fun h1 => ?_) <;> conv => cbv
    · refine r_sidx (u := s_) (i := i) m.sX (by omega) (by first | omega | (simp only [List.length_cons, List.length_nil]; omega) | (simp; omega)) fun x1 hx1 c1 hc1 bc1 => ?_
      have dx1 := drop_cons hx1
      have kx1 := take_snoc hx1
      have jx1 : (i + 1).toNat = Int.toNat i + 1 := by omega
      conv => cbv
      refine r_lss m.sX (fun h2 => ?_) (fun h2 => ?_) <;> conv => cbv
      · have lb : letB x1 = false := letB_lo hc1 h2
        refine hF _ _ ?_
        conv => cbv
        exact hQ _ (congrArg PV.bool (by rw [q, all_drop hx1, lb]; rfl))
      · refine r_sidx (u := s_) (i := i) m.sX (by omega) (by first | omega | (simp only [List.length_cons, List.length_nil]; omega) | (simp; omega)) fun x2 hx2 c2 hc2 bc2 => ?_
        obtain rfl := Option.some.inj (hx1.symm.trans hx2)
        obtain rfl := hc1.trans hc2.symm
        conv => cbv
        refine r_gtr m.sX (fun h3 => ?_) (fun h3 => ?_) <;> conv => cbv
        · have lb : letB x1 = false := letB_hi hc1 h3
          refine hF _ _ ?_
          conv => cbv
          exact hQ _ (congrArg PV.bool (by rw [q, all_drop hx1, lb]; rfl))
        · have lb : letB x1 = true := letB_in hc1 (by omega)
          refine r_addf m.sX (by omega) (by omega) fun i_2 hi_2 => ?_
          conv => cbv
          try have ti_2 : Int.toNat i_2 = Int.toNat i + 1 := by omega
          refine hE _ i_2 ?_ ?_ ⟨(by (try dsimp only); first | omega | (simp; omega)), (by (try dsimp only); first | omega | (simp; omega)), (by (try dsimp only) <;> (rw [q, all_drop hx1, lb, Bool.true_and, ti_2]))⟩ (by first | omega | (dsimp only; omega))
          · cbv
          · cbv
    · refine hF _ _ ?_
      conv => cbv
      refine r_slen (u := s_) m.sX fun n2 hn2 mn2 => ?_
      conv => cbv
      refine r_callB m.sX (l1In_ok n2 1 most) (fun h4 => ?_) (fun h4 => ?_) <;> conv => cbv
      · exact hQ _ (congrArg PV.bool (by rw [q, all_end (by omega), ← hn2, h4]; rfl))
      · exact hQ _ (congrArg PV.bool (by rw [q, all_end (by omega), ← hn2, h4]; rfl))

theorem tySort_ok (s_ : FSort)  : OkA Try.prog 156 [.agg (cSort s_)] (· = .bool (okSort s_)) := by
  obtain ⟨s_A, s_B⟩ := s_
  try dsimp only at *
  exact fn_intro envOk fieldsOk mixed Try.func156 rfl fun κ X Y L Q m hQ => by
    conv => cbv
    refine r_callB m.sX (tyLetters_ok s_A 3) (fun h1 => ?_) (fun h1 => ?_) <;> conv => cbv
    · refine r_callB m.sX (l1In_ok s_B 1 54) (fun h2 => ?_) (fun h2 => ?_) <;> conv => cbv
      · exact hQ _ (congrArg PV.bool (by rw [okSort, h1, h2]; rfl))
      · exact hQ _ (congrArg PV.bool (by rw [okSort, h1, h2]; rfl))
    · exact hQ _ (congrArg PV.bool (by rw [okSort, h1]; rfl))

theorem tyFont_ok (f : List FSort)  : OkA Try.prog 116 [.isl 2 (rows cSort f)] (· = .bool (okFont f)) :=
  fn_intro envOk fieldsOk mixed Try.func116 rfl fun κ X Y L Q m hQ => by
    conv => cbv
    refine r_lenR m.sX fun n1 hn1 mn1 => ?_
    conv => cbv
    refine r_loopF (α := Int) m 34 [0, 5, 6, 7] [] (fun σ => [(0, .isl 2 (rows cSort f)), (5, .isl 2 (rows cSort f)), (6, .int .i64 n1), (7, .int .i64 σ)]) (fun σ => [])
      (fun σ => (0 ≤ σ) ∧ (σ ≤ n1) ∧ (okFontG none f = okFontG (prevF f σ) (f.drop σ.toNat))) (fun σ => (n1 - σ).toNat) 0 ?_ ?_ ?_ ?_
    · cbv
    · cbv
    · exact ⟨(by (try dsimp only); first | omega | (simp; omega)), (by (try dsimp only); first | omega | (simp; omega)), (by (try dsimp only) <;> (rw [prevF_zero (by omega) (by omega)]; rfl))⟩
    rintro i1 ⟨lo1, hi1, q⟩ E hE F hF
    conv => cbv
    refine r_lss m.sX (fun h1 => ?_) (fun h1 => ?_) <;> conv => cbv
    · refine r_index m.sX (by omega) (by omega) fun v hs_A => ?_
      obtain ⟨s_A, s_B⟩ := v
      conv => cbv
      have hs_ := hs_A
      have ms_ := get_mem hs_
      have ds_ := drop_cons hs_
      have ks_ := take_snoc hs_
      have js_ : (i1 + 1).toNat = Int.toNat i1 + 1 := by omega
      have pn : prevF f (i1 + 1) = some s_A := prevF_some (x := (s_A, s_B)) (by omega) (by rw [show i1 + 1 - 1 = i1 by omega]; exact hs_)
      refine r_draw m (by kernel_rfl) ?_
      conv => cbv
      refine r_callBS m.sY (tySort_ok (s_A, s_B)) (fun h2 => ?_) (fun h2 => ?_) <;> conv => cbv
      · refine r_gtr m.sY (fun h3 => ?_) (fun h3 => ?_) <;> conv => cbv
        · refine r_subf m.sY (by omega) (by omega) fun r1 hr1 => ?_
          conv => cbv
          refine r_index m.sY (by omega) (by omega) fun v hx1A => ?_
          obtain ⟨x1A, x1B⟩ := v
          conv => cbv
          have hx1 := hx1A
          have mx1 := get_mem hx1
          have pv : prevF f i1 = some x1A := prevF_some (x := (x1A, x1B)) (by omega) (by rw [← hr1]; exact hx1)
          refine r_sgeq m.sY (fun h4 => ?_) (fun h4 => ?_) <;> conv => cbv
          · have sb : lessB (prevF f i1) s_A = false := by rw [pv]; exact h4
            refine hF _ _ ?_
            conv => cbv
            exact hQ _ (congrArg PV.bool (by rw [okFont, q, ds_, okFontG_bad (.inr sb)]; rfl))
          · have sp : lessB (prevF f i1) s_A = true := by rw [pv]; exact h4
            refine r_addf m.sX (by omega) (by omega) fun r2 hr2 => ?_
            conv => cbv
            try have tr2 : Int.toNat r2 = Int.toNat i1 + 1 := by omega
            refine hE _ r2 ?_ ?_ ⟨(by (try dsimp only); first | omega | (simp; omega)), (by (try dsimp only); first | omega | (simp; omega)), (by (try dsimp only) <;> (rw [q, ds_, okFontG_step h2 sp, tr2, show r2 = i1 + 1 by omega, pn]))⟩ (by first | omega | (dsimp only; omega))
            · cbv
            · cbv
        · have sp : lessB (prevF f i1) s_A = true := by rw [prevF_zero (by omega) lo1]; rfl
          refine r_addf m.sX (by omega) (by omega) fun r3 hr3 => ?_
          conv => cbv
          try have tr3 : Int.toNat r3 = Int.toNat i1 + 1 := by omega
          refine hE _ r3 ?_ ?_ ⟨(by (try dsimp only); first | omega | (simp; omega)), (by (try dsimp only); first | omega | (simp; omega)), (by (try dsimp only) <;> (rw [q, ds_, okFontG_step h2 sp, tr3, show r3 = i1 + 1 by omega, pn]))⟩ (by first | omega | (dsimp only; omega))
          · cbv
          · cbv
      · refine hF _ _ ?_
        conv => cbv
        exact hQ _ (congrArg PV.bool (by rw [okFont, q, ds_, okFontG_bad (.inl h2)]; rfl))
    · have dz_i1 := drop_end (xs := f) (i := Int.toNat i1) (by omega)
      have tz_i1 := take_end (xs := f) (i := Int.toNat i1) (by omega)
      refine hF _ _ ?_
      conv => cbv
      refine r_lenR m.sX fun n2 hn2 mn2 => ?_
      conv => cbv
      refine r_callB m.sX (l1In_ok n2 1 32) (fun h5 => ?_) (fun h5 => ?_) <;> conv => cbv
      · exact hQ _ (congrArg PV.bool (by rw [okFont, q, dz_i1, ← hn2, h5]; rfl))
      · exact hQ _ (congrArg PV.bool (by rw [okFont, q, dz_i1, ← hn2, h5]; rfl))

-- lacks spec.coText
-- lacks spec.coGood
-- lacks spec.coInk
theorem tyFind_ok (f : List FSort) (code : List UInt8)  : OkA Try.prog 176 [.isl 2 (rows cSort f), .str code] (· = .int .i64 (idxF code f 0)) :=
  fn_intro envOk fieldsOk mixed Try.func176 rfl fun κ X Y L Q m hQ => by
    conv => cbv
    refine r_lenR m.sX fun n1 hn1 mn1 => ?_
    conv => cbv
    refine r_loopF (α := Int) m 20 [1, 7, 8, 9] [] (fun σ => [(1, .str code), (7, .isl 2 (rows cSort f)), (8, .int .i64 n1), (9, .int .i64 σ)]) (fun σ => [])
      (fun σ => (0 ≤ σ) ∧ (σ ≤ n1) ∧ (idxF code f 0 = idxF code (f.drop σ.toNat) σ)) (fun σ => (n1 - σ).toNat) 0 ?_ ?_ ?_ ?_
    · cbv
    · cbv
    · exact ⟨(by (try dsimp only); first | omega | (simp; omega)), (by (try dsimp only); first | omega | (simp; omega)), (by (try dsimp only) <;> (rfl))⟩
    rintro i1 ⟨lo1, hi1, q⟩ E hE F hF
    conv => cbv
    refine r_lss m.sX (fun h1 => ?_) (fun h1 => ?_) <;> conv => cbv
    · refine r_index m.sX (by omega) (by omega) fun v hs_A => ?_
      obtain ⟨s_A, s_B⟩ := v
      conv => cbv
      have hs_ := hs_A
      have ms_ := get_mem hs_
      have ds_ := drop_cons hs_
      have ks_ := take_snoc hs_
      have js_ : (i1 + 1).toNat = Int.toNat i1 + 1 := by omega
      refine r_seql m.sX (fun h2 => ?_) (fun h2 => ?_) <;> conv => cbv
      · refine hF _ _ ?_
        conv => cbv
        exact hQ (.int .i64 i1) (Eq.trans (by first | rfl | (simp only [lb, lbI, rows_cons, rows_nil, unnilT, unnil, unnilTI, unnilI]; try rfl)) (congrArg (PV.int .i64) (show i1 = idxF code f 0 from by rw [q, idxF_drop _ hs_, if_pos h2])))
      · refine r_addf m.sX (by omega) (by omega) fun r1 hr1 => ?_
        conv => cbv
        try have tr1 : Int.toNat r1 = Int.toNat i1 + 1 := by omega
        refine hE _ r1 ?_ ?_ ⟨(by (try dsimp only); first | omega | (simp; omega)), (by (try dsimp only); first | omega | (simp; omega)), (by (try dsimp only) <;> (rw [q, idxF_drop _ hs_, if_neg h2, tr1, show r1 = i1 + 1 by omega]))⟩ (by first | omega | (dsimp only; omega))
        · cbv
        · cbv
    · have dz_i1 := drop_end (xs := f) (i := Int.toNat i1) (by omega)
      have tz_i1 := take_end (xs := f) (i := Int.toNat i1) (by omega)
      refine hF _ _ ?_
      conv => cbv
      exact hQ (.int .i64 (-1)) (Eq.trans (by first | rfl | (simp only [lb, lbI, rows_cons, rows_nil, unnilT, unnil, unnilTI, unnilI]; try rfl)) (congrArg (PV.int .i64) (show -1 = idxF code f 0 from by rw [q, dz_i1]; rfl)))


/- Contracts of the functions on setting words and counting sorts. -/

theorem liteHasPrefix_ok (s_ : List UInt8) (prefix_ : List UInt8)  : OkA Try.prog 178 [.str s_, .str prefix_] (· = .bool (preB s_ prefix_)) :=
  fn_intro envOk fieldsOk mixed Try.func178 rfl fun κ X Y L Q m hQ => by
    conv => cbv
    refine r_slen (u := s_) m.sX fun n1 hn1 mn1 => ?_
    conv => cbv
    refine r_slen (u := prefix_) m.sX fun n2 hn2 mn2 => ?_
    conv => cbv
    refine r_geq m.sX (fun h1 => ?_) (fun h1 => ?_) <;> conv => cbv
    · refine r_slen (u := prefix_) m.sX fun n3 hn3 mn3 => ?_
      conv => cbv
      refine r_sslice (u := s_) (i := 0) (j := n3) m.sX (by omega) (by omega) (by first | omega | (simp only [List.length_cons, List.length_nil]; omega) | (simp; omega)) fun s1 hs1 => ?_
      have ls1 : (s1.length : Int) = n3 - 0 := by rw [hs1]; first | done | (simp; done) | (simp; omega)
      conv => cbv
      refine r_seql m.sX (fun h2 => ?_) (fun h2 => ?_) <;> conv => cbv
      · exact hQ _ (congrArg PV.bool (by rw [preB, decide_eq_true (by omega), show s_.take prefix_.length = prefix_ by rw [← h2, hs1, hn3]; simp]; simp))
      · exact hQ _ (congrArg PV.bool (by rw [preB, decide_eq_true (by omega), decide_eq_false (fun e => h2 (by rw [hs1, hn3, ← e]; simp))]; rfl))
    · exact hQ _ (congrArg PV.bool (by rw [preB, decide_eq_false (by omega)]; rfl))

theorem HasPrefix_ok (s_ : List UInt8) (prefix_ : List UInt8)  : OkA Try.prog 173 [.str s_, .str prefix_] (· = .bool (preB s_ prefix_)) :=
  fn_intro envOk fieldsOk mixed Try.func173 rfl fun κ X Y L Q m hQ => by
    conv => cbv
    refine r_callB m.sX (liteHasPrefix_ok s_ prefix_) (fun h1 => ?_) (fun h1 => ?_) <;> conv => cbv
    · exact hQ _ (congrArg PV.bool (by exact h1.symm))
    · exact hQ _ (congrArg PV.bool (by exact h1.symm))

theorem isWord_ok (s_ : List UInt8)  : OkA Try.prog 160 [.str s_] (· = .bool (okWord s_)) :=
  fn_intro envOk fieldsOk mixed Try.func160 rfl fun κ X Y L Q m hQ => by
    conv => cbv
    refine r_callB m.sX (areLetters_ok s_ 1 16) (fun h1 => ?_) (fun h1 => ?_) <;> conv => cbv
    · exact hQ _ (congrArg PV.bool (by exact h1.symm))
    · exact hQ _ (congrArg PV.bool (by exact h1.symm))

-- lacks impl.areWords
theorem sortsOf_ok (f : List FSort) (word : List UInt8) (hc : CodesOk f) (hw : word.length ≤ 16) : OkA Try.prog 161 [.isl 2 (rows cSort f), .str word] (· = (lb 3 1 cInt) (setW f word [])) :=
  OkA.unnil 3 1 (fn_intro envOk fieldsOk mixed Try.func161 rfl fun κ X Y L Q m hQ => by
    conv => cbv
    refine r_loopF (α := List UInt8 × List Int) m 59 [0, 1] [⟨6, 49, 3, 1, 0⟩] (fun σ => [(0, .isl 2 (rows cSort f)), (1, .str σ.1), (6, .osl 49 0)]) (fun σ => [(49, 0, .row 3 1 (rows cInt σ.2))])
      (fun σ => (setW f word [] = setW f σ.1 σ.2) ∧ ((σ.2.length : Int) + (σ.1.length : Int) ≤ 16)) (fun σ => σ.1.length) (word, []) ?_ ?_ ?_ ?_
    · cbv
    · (try dsimp only); (try simp only [rows_cons, rows_nil]); cbv
    · exact ⟨(by (try dsimp only) <;> (rfl)), (by (try dsimp only) <;> (simp; omega))⟩
    rintro ⟨word_2, list⟩ ⟨q, ln⟩ E hE F hF
    dsimp only at q ln
    conv => cbv
    refine r_slen (u := word_2) m.sX fun n1 hn1 mn1 => ?_
    conv => cbv
    refine r_gtr m.sX (fun h1 => ?_) (fun h1 => ?_) <;> conv => cbv
    · refine r_lenR m.sX fun n2 hn2 mn2 => ?_
      conv => cbv
      refine r_loopF (α := Int × Int) m 59 [0, 1, 7, 14, 15, 16] [⟨6, 49, 3, 1, 0⟩] (fun σ => [(0, .isl 2 (rows cSort f)), (1, .str word_2), (6, .osl 49 0), (7, .int .i64 σ.1), (14, .isl 2 (rows cSort f)), (15, .int .i64 n2), (16, .int .i64 σ.2)]) (fun σ => [(49, 0, .row 3 1 (rows cInt list))])
        (fun σ => (0 ≤ σ.2) ∧ (σ.2 ≤ n2) ∧ (bestLg f word_2 = bestG f word_2 (f.drop σ.2.toNat) σ.2 σ.1) ∧ (-1 ≤ σ.1 ∧ σ.1 < n2)) (fun σ => (n2 - σ.2).toNat) (-1, 0) ?_ ?_ ?_ ?_
      · cbv
      · cbv
      · exact ⟨(by (try dsimp only); first | omega | (simp; omega)), (by (try dsimp only); first | omega | (simp; omega)), (by (try dsimp only) <;> (rfl)), (by (try dsimp only) <;> first | omega | rfl | (simp [*]; done))⟩
      rintro ⟨best, i1⟩ ⟨lo2, hi2, q2, bb⟩ E2 hE2 F2 hF2
      dsimp only at lo2 hi2 q2 bb
      conv => cbv
      refine r_lss m.sX (fun h2 => ?_) (fun h2 => ?_) <;> conv => cbv
      · refine r_index m.sX (by omega) (by omega) fun v hs_A => ?_
        obtain ⟨s_A, s_B⟩ := v
        conv => cbv
        have hs_ := hs_A
        have ms_ := get_mem hs_
        have ds_ := drop_cons hs_
        have ks_ := take_snoc hs_
        have js_ : (i1 + 1).toNat = Int.toNat i1 + 1 := by omega
        have cb := hc _ ms_
        try dsimp only at cb
        refine r_draw m (by kernel_rfl) ?_
        conv => cbv
        refine r_callBS m.sY (HasPrefix_ok word_2 s_A) (fun h3 => ?_) (fun h3 => ?_) <;> conv => cbv
        · have pv : preB word_2 s_A = true := h3
          refine r_lss m.sY (fun h4 => ?_) (fun h4 => ?_) <;> conv => cbv
          · have c1 : preB word_2 s_A = true ∧ (best < 0 ∨ codeL f best < (s_A.length : Int)) := ⟨pv, .inl h4⟩
            refine r_addf m.sX (by omega) (by omega) fun r1 hr1 => ?_
            conv => cbv
            try have tr1 : Int.toNat r1 = Int.toNat i1 + 1 := by omega
            refine hE2 _ (i1, r1) ?_ ?_ ⟨(by (try dsimp only); first | omega | (simp; omega)), (by (try dsimp only); first | omega | (simp; omega)), (by (try dsimp only) <;> (first | rw [q2, bestG_drop _ _ _ hs_, if_pos c1, tr1, show r1 = i1 + 1 by omega] | rw [q2, bestG_drop _ _ _ hs_, if_neg c1, tr1, show r1 = i1 + 1 by omega])), (by (try dsimp only) <;> (omega))⟩ (by first | omega | (dsimp only; omega))
            · cbv
            · cbv
          · refine r_slenS (u := s_A) m.sY (by omega) fun n3 hn3 => ?_
            conv => cbv
            refine r_index m.sY (by omega) (by omega) fun v hx1A => ?_
            obtain ⟨x1A, x1B⟩ := v
            conv => cbv
            have hx1 := hx1A
            have mx1 := get_mem hx1
            have cb1 := hc _ mx1
            try dsimp only at cb1
            have cl : codeL f best = x1A.length := codeL_some hx1
            refine r_slenS (u := x1A) m.sY (by omega) fun n4 hn4 => ?_
            conv => cbv
            refine r_gtr m.sY (fun h5 => ?_) (fun h5 => ?_) <;> conv => cbv
            · have c1 : preB word_2 s_A = true ∧ (best < 0 ∨ codeL f best < (s_A.length : Int)) := ⟨pv, .inr (by omega)⟩
              refine r_addf m.sX (by omega) (by omega) fun r2 hr2 => ?_
              conv => cbv
              try have tr2 : Int.toNat r2 = Int.toNat i1 + 1 := by omega
              refine hE2 _ (i1, r2) ?_ ?_ ⟨(by (try dsimp only); first | omega | (simp; omega)), (by (try dsimp only); first | omega | (simp; omega)), (by (try dsimp only) <;> (first | rw [q2, bestG_drop _ _ _ hs_, if_pos c1, tr2, show r2 = i1 + 1 by omega] | rw [q2, bestG_drop _ _ _ hs_, if_neg c1, tr2, show r2 = i1 + 1 by omega])), (by (try dsimp only) <;> (omega))⟩ (by first | omega | (dsimp only; omega))
              · cbv
              · cbv
            · have c1 : ¬ (preB word_2 s_A = true ∧ (best < 0 ∨ codeL f best < (s_A.length : Int))) := fun e => by rcases e.2 with e | e <;> omega
              refine r_addf m.sX (by omega) (by omega) fun r3 hr3 => ?_
              conv => cbv
              try have tr3 : Int.toNat r3 = Int.toNat i1 + 1 := by omega
              refine hE2 _ (best, r3) ?_ ?_ ⟨(by (try dsimp only); first | omega | (simp; omega)), (by (try dsimp only); first | omega | (simp; omega)), (by (try dsimp only) <;> (first | rw [q2, bestG_drop _ _ _ hs_, if_pos c1, tr3, show r3 = i1 + 1 by omega] | rw [q2, bestG_drop _ _ _ hs_, if_neg c1, tr3, show r3 = i1 + 1 by omega])), (by (try dsimp only) <;> (omega))⟩ (by first | omega | (dsimp only; omega))
              · cbv
              · cbv
        · have c1 : ¬ (preB word_2 s_A = true ∧ (best < 0 ∨ codeL f best < (s_A.length : Int))) := fun e => by rw [h3] at e; cases e.1
          refine r_addf m.sX (by omega) (by omega) fun r4 hr4 => ?_
          conv => cbv
          try have tr4 : Int.toNat r4 = Int.toNat i1 + 1 := by omega
          refine hE2 _ (best, r4) ?_ ?_ ⟨(by (try dsimp only); first | omega | (simp; omega)), (by (try dsimp only); first | omega | (simp; omega)), (by (try dsimp only) <;> (first | rw [q2, bestG_drop _ _ _ hs_, if_pos c1, tr4, show r4 = i1 + 1 by omega] | rw [q2, bestG_drop _ _ _ hs_, if_neg c1, tr4, show r4 = i1 + 1 by omega])), (by (try dsimp only) <;> (omega))⟩ (by first | omega | (dsimp only; omega))
          · cbv
          · cbv
      · have dz_i1 := drop_end (xs := f) (i := Int.toNat i1) (by omega)
        have tz_i1 := take_end (xs := f) (i := Int.toNat i1) (by omega)
        refine hF2 _ _ ?_
        conv => cbv
        refine r_lss m.sX (fun h6 => ?_) (fun h6 => ?_) <;> conv => cbv
        · have bq : bestLg f word_2 = best := by rw [q2, dz_i1, bestG]
          refine hF _ _ ?_
          conv => cbv
          exact hQ (.tup [.fr 3 1 [], .bool false]) (Eq.trans (by first | rfl | (simp only [lb, lbI, rows_cons, rows_nil, unnilT, unnil, unnilTI, unnilI]; try rfl)) (congrArg ((lb 3 1 cInt)) (show ([], false) = setW f word [] from by rw [q, setW_none _ (by omega) (by omega)])))
        · have bq : bestLg f word_2 = best := by rw [q2, dz_i1, bestG]
          have bp := best_pos hc (w := word_2) (by omega)
          try dsimp only at bp
          rw [bq] at bp
          refine r_append1 (best) m.sX rfl (by first | omega | (dsimp only; omega)) (by first | omega | (dsimp only; omega)) fun list_2 hlist_2 => ?_
          conv => cbv
          have llist_2 : (list_2.length : Int) = list.length + 1 := by rw [hlist_2]; first | done | (simp; done) | (simp; omega)
          refine r_index m.sX (by omega) (by omega) fun v hx2A => ?_
          obtain ⟨x2A, x2B⟩ := v
          conv => cbv
          have hx2 := hx2A
          have mx2 := get_mem hx2
          have c2 : codeL f best = x2A.length := codeL_some hx2
          refine r_slen (u := x2A) m.sX fun n5 hn5 mn5 => ?_
          conv => cbv
          refine r_sslice' (u := word_2) (i := n5) m.sX (by omega) (by first | omega | (simp only [List.length_cons, List.length_nil]; omega) | (simp; omega)) fun word_3 hword_3 => ?_
          have lword_3 : (word_3.length : Int) = word_2.length - n5 := by rw [hword_3]; first | done | (simp; done) | (simp; omega)
          conv => cbv
          refine hE _ (word_3, list_2) ?_ ?_ ⟨(by (try dsimp only) <;> (rw [q, setW_step hc _ (by omega) (by omega), bq, c2, hword_3, hn5, hlist_2]; first | done | simp)), (by (try dsimp only) <;> (omega))⟩ (by first | omega | (dsimp only; omega))
          · cbv
          · cbv
    · refine hF _ _ ?_
      conv => cbv
      exact hQ (.tup [.fr 3 1 (rows cInt list), .bool true]) (Eq.trans (by first | rfl | (simp only [lb, lbI, rows_cons, rows_nil, unnilT, unnil, unnilTI, unnilI]; try rfl)) (congrArg ((lb 3 1 cInt)) (show (list, true) = setW f word [] from by rw [q, setW_nil (by omega)]))))

-- lacks impl.countSorts
-- lacks impl.CountSorts
-- lacks impl.areCounts
-- lacks impl.needWith
-- lacks impl.IsEnough
-- lacks impl.FirstRunOut
-- lacks impl.TimesToSet
theorem SortsOfWord_ok (f : List FSort) (word : List UInt8)  : OkA Try.prog 124 [.isl 2 (rows cSort f), .str word] (· = (lb 3 1 cInt) (sortsA f word)) :=
  OkA.unnil 3 1 (fn_intro envOk fieldsOk mixed Try.func124 rfl fun κ X Y L Q m hQ => by
    conv => cbv
    refine r_callB m.sX (IsFont_ok f) (fun h1 => ?_) (fun h1 => ?_) <;> conv => cbv
    · refine r_callB m.sX (isWord_ok word) (fun h2 => ?_) (fun h2 => ?_) <;> conv => cbv
      · have hc := okFont_codes h1
        have wl := okWord_len h2
        refine r_callF (lb 3 1 cInt) m.sX (sortsOf_ok f word (by first | rfl | assumption | omega | (simp at *; omega)) (by first | rfl | assumption | omega | (simp at *; omega))) fun v hv1 => ?_
        obtain ⟨v1, v2⟩ := v
        conv => cbv
        exact hQ (.tup [.fr 3 1 (rows cInt v1), .bool v2]) (Eq.trans (by first | rfl | (simp only [lb, lbI, rows_cons, rows_nil, unnilT, unnil, unnilTI, unnilI]; try rfl)) (congrArg ((lb 3 1 cInt)) (show (v1, v2) = sortsA f word from by rw [sortsA, h1, h2]; exact hv1)))
      · exact hQ (.tup [.fr 3 1 [], .bool false]) (Eq.trans (by first | rfl | (simp only [lb, lbI, rows_cons, rows_nil, unnilT, unnil, unnilTI, unnilI]; try rfl)) (congrArg ((lb 3 1 cInt)) (show ([], false) = sortsA f word from by rw [sortsA, h1, h2]; rfl)))
    · exact hQ (.tup [.fr 3 1 [], .bool false]) (Eq.trans (by first | rfl | (simp only [lb, lbI, rows_cons, rows_nil, unnilT, unnil, unnilTI, unnilI]; try rfl)) (congrArg ((lb 3 1 cInt)) (show ([], false) = sortsA f word from by rw [sortsA, h1]; rfl))))

-- lacks impl.LeastRecast
theorem tyWord_ok (s_ : List UInt8)  : OkA Try.prog 157 [.str s_] (· = .bool (okWord s_)) :=
  fn_intro envOk fieldsOk mixed Try.func157 rfl fun κ X Y L Q m hQ => by
    conv => cbv
    refine r_callB m.sX (tyLetters_ok s_ 16) (fun h1 => ?_) (fun h1 => ?_) <;> conv => cbv
    · exact hQ _ (congrArg PV.bool (by exact h1.symm))
    · exact hQ _ (congrArg PV.bool (by exact h1.symm))

theorem tyWords_ok (words : List (List UInt8))  : OkA Try.prog 117 [.isl 1 (rows cStr words)] (· = .bool (okWords words)) :=
  fn_intro envOk fieldsOk mixed Try.func117 rfl fun κ X Y L Q m hQ => by
    conv => cbv
    refine r_lenR m.sX fun n1 hn1 mn1 => ?_
    conv => cbv
    refine r_loopF (α := Int) m 18 [0, 5, 6, 7] [] (fun σ => [(0, .isl 1 (rows cStr words)), (5, .isl 1 (rows cStr words)), (6, .int .i64 n1), (7, .int .i64 σ)]) (fun σ => [])
      (fun σ => (0 ≤ σ) ∧ (σ ≤ n1) ∧ (words.all okWord = (words.drop σ.toNat).all okWord)) (fun σ => (n1 - σ).toNat) 0 ?_ ?_ ?_ ?_
    · cbv
    · cbv
    · exact ⟨(by (try dsimp only); first | omega | (simp; omega)), (by (try dsimp only); first | omega | (simp; omega)), (by (try dsimp only) <;> (rfl))⟩
    rintro i1 ⟨lo1, hi1, q⟩ E hE F hF
    conv => cbv
    refine r_lss m.sX (fun h1 => ?_) (fun h1 => ?_) <;> conv => cbv
    · refine r_index m.sX (by omega) (by omega) fun w hw => ?_
      conv => cbv
      have mw := get_mem hw
      have dw := drop_cons hw
      have kw := take_snoc hw
      have jw : (i1 + 1).toNat = Int.toNat i1 + 1 := by omega
      refine r_callB m.sX (tyWord_ok w) (fun h2 => ?_) (fun h2 => ?_) <;> conv => cbv
      · refine r_addf m.sX (by omega) (by omega) fun r1 hr1 => ?_
        conv => cbv
        try have tr1 : Int.toNat r1 = Int.toNat i1 + 1 := by omega
        refine hE _ r1 ?_ ?_ ⟨(by (try dsimp only); first | omega | (simp; omega)), (by (try dsimp only); first | omega | (simp; omega)), (by (try dsimp only) <;> (rw [q, okWords_drop hw, h2, Bool.true_and, tr1]))⟩ (by first | omega | (dsimp only; omega))
        · cbv
        · cbv
      · refine hF _ _ ?_
        conv => cbv
        exact hQ _ (congrArg PV.bool (by rw [okWords, q, okWords_drop hw, h2]; rfl))
    · have dz_i1 := drop_end (xs := words) (i := Int.toNat i1) (by omega)
      have tz_i1 := take_end (xs := words) (i := Int.toNat i1) (by omega)
      refine hF _ _ ?_
      conv => cbv
      refine r_lenR m.sX fun n2 hn2 mn2 => ?_
      conv => cbv
      refine r_leq m.sX (fun h3 => ?_) (fun h3 => ?_) <;> conv => cbv
      · exact hQ _ (congrArg PV.bool (by rw [okWords, q, dz_i1, decide_eq_true (by omega)]; rfl))
      · exact hQ _ (congrArg PV.bool (by rw [okWords, q, dz_i1, decide_eq_false (by omega)]; rfl))

theorem tySet_ok (f : List FSort) (word : List UInt8) (hc : CodesOk f) (hw : word.length ≤ 16) : OkA Try.prog 169 [.isl 2 (rows cSort f), .str word] (· = (lb 3 1 cInt) (setW f word [])) :=
  OkA.unnil 3 1 (fn_intro envOk fieldsOk mixed Try.func169 rfl fun κ X Y L Q m hQ => by
    conv => cbv
    refine r_loopF (α := List Int × Int) m 50 [0, 1, 7] [⟨6, 49, 3, 1, 0⟩] (fun σ => [(0, .isl 2 (rows cSort f)), (1, .str word), (6, .osl 49 0), (7, .int .i64 σ.2)]) (fun σ => [(49, 0, .row 3 1 (rows cInt σ.1))])
      (fun σ => (0 ≤ σ.2) ∧ (σ.2 ≤ (word.length : Int)) ∧ (setW f word [] = setW f (word.drop σ.2.toNat) σ.1) ∧ ((σ.1.length : Int) ≤ σ.2)) (fun σ => ((word.length : Int) - σ.2).toNat) ([], 0) ?_ ?_ ?_ ?_
    · cbv
    · (try dsimp only); (try simp only [rows_cons, rows_nil]); cbv
    · exact ⟨(by (try dsimp only); first | omega | (simp; omega)), (by (try dsimp only); first | omega | (simp; omega)), (by (try dsimp only) <;> (rfl)), (by (try dsimp only) <;> first | omega | rfl | (simp [*]; done))⟩
    rintro ⟨out, at_⟩ ⟨lo1, hi1, q, ln⟩ E hE F hF
    dsimp only at lo1 hi1 q ln
    conv => cbv
    refine r_slen (u := word) m.sX fun n1 hn1 mn1 => ?_
    conv => cbv
    refine r_lss m.sX (fun h1 => ?_) (fun h1 => ?_) <;> conv => cbv
    · have wd : (word.drop at_.toNat).length = (n1 - at_).toNat := by rw [List.length_drop]; omega
      refine r_slen (u := word) m.sX fun n2 hn2 mn2 => ?_
      conv => cbv
      refine r_subf m.sX (by omega) (by omega) fun r1 hr1 => ?_
      conv => cbv
      refine r_callF (PV.int .i64) m.sX (l1Least_ok 3 r1) fun n hn => ?_
      conv => cbv
      refine r_loopF (α := Int × Int) m 50 [0, 1, 7, 8, 9] [⟨6, 49, 3, 1, 0⟩] (fun σ => [(0, .isl 2 (rows cSort f)), (1, .str word), (6, .osl 49 0), (7, .int .i64 at_), (8, .int .i64 σ.1), (9, .int .i64 σ.2)]) (fun σ => [(49, 0, .row 3 1 (rows cInt out))])
        (fun σ => (bestLg f (word.drop at_.toNat) = if σ.1 < 0 then tryN f (word.drop at_.toNat) σ.2.toNat else σ.1) ∧ (-1 ≤ σ.1 ∧ σ.1 < f.length) ∧ (0 ≤ σ.2 ∧ σ.2 ≤ r1)) (fun σ => σ.2.toNat) (-1, n) ?_ ?_ ?_ ?_
      · cbv
      · cbv
      · exact ⟨(by (try dsimp only) <;> (rw [if_pos (show (-1 : Int) < 0 by omega), ← tryN_best hc, wd, show n.toNat = min 3 (n1 - at_).toNat by omega])), (by (try dsimp only) <;> first | omega | rfl | (simp [*]; done)), (by (try dsimp only) <;> first | omega | rfl | (simp [*]; done))⟩
      rintro ⟨best, n_2⟩ ⟨q2, bb, nb⟩ E2 hE2 F2 hF2
      dsimp only at q2 bb nb
      conv => cbv
      refine r_gtr m.sX (fun h2 => ?_) (fun h2 => ?_) <;> conv => cbv
      · refine r_lss m.sX (fun h3 => ?_) (fun h3 => ?_) <;> conv => cbv
        · refine r_addf m.sX (by omega) (by omega) fun r2 hr2 => ?_
          conv => cbv
          refine r_sslice (u := word) (i := at_) (j := r2) m.sX (by omega) (by omega) (by first | omega | (simp only [List.length_cons, List.length_nil]; omega) | (simp; omega)) fun s1 hs1 => ?_
          have ls1 : (s1.length : Int) = r2 - at_ := by rw [hs1]; first | done | (simp; done) | (simp; omega)
          conv => cbv
          refine r_callF (PV.int .i64) m.sX (tyFind_ok f s1) fun best_2 hbest_2 => ?_
          conv => cbv
          have fi := idxF_in s1 f
          rw [← hbest_2] at fi
          have s1e : s1 = (word.drop at_.toNat).take n_2.toNat := by rw [hs1, List.drop_take]; congr 1; omega
          refine r_subf m.sX (by omega) (by omega) fun n_3 hn_3 => ?_
          conv => cbv
          have st : tryN f (word.drop at_.toNat) n_2.toNat = if 0 ≤ best_2 then best_2 else tryN f (word.drop at_.toNat) n_3.toNat := by rw [show n_2.toNat = n_3.toNat + 1 by omega, tryN, ← show n_2.toNat = n_3.toNat + 1 by omega, ← s1e, ← hbest_2]
          refine hE2 _ (best_2, n_3) ?_ ?_ ⟨(by (try dsimp only) <;> (rw [q2, if_pos h3, st]; by_cases e : best_2 < 0; rw [if_neg (by omega), if_pos e]; rw [if_pos (by omega), if_neg e])), (by (try dsimp only) <;> (omega)), (by (try dsimp only) <;> (omega))⟩ (by first | omega | (dsimp only; omega))
          · cbv
          · cbv
        · have bq : bestLg f (word.drop at_.toNat) = best := by rw [q2, if_neg (by omega)]
          refine hF2 _ _ ?_
          conv => cbv
          refine r_lss m.sX (fun h4 => ?_) (fun h4 => ?_) <;> conv => cbv
          · refine hF _ _ ?_
            conv => cbv
            exact hQ (.tup [.nil, .bool false]) (Eq.trans (by first | rfl | (simp only [lb, lbI, rows_cons, rows_nil, unnilT, unnil, unnilTI, unnilI]; try rfl)) (congrArg ((lb 3 1 cInt)) (show ([], false) = setW f word [] from by rw [q, setW_none _ (by omega) (by omega)])))
          · have bp := best_pos hc (w := word.drop at_.toNat) (by omega)
            rw [bq] at bp
            refine r_append1 (best) m.sX rfl (by first | omega | (dsimp only; omega)) (by first | omega | (dsimp only; omega)) fun out_2 hout_2 => ?_
            conv => cbv
            have lout_2 : (out_2.length : Int) = out.length + 1 := by rw [hout_2]; first | done | (simp; done) | (simp; omega)
            refine r_index m.sX (by omega) (by omega) fun v hx1A => ?_
            obtain ⟨x1A, x1B⟩ := v
            conv => cbv
            have hx1 := hx1A
            have mx1 := get_mem hx1
            have cb1 := hc _ mx1
            try dsimp only at cb1
            have c1 : codeL f best = x1A.length := codeL_some hx1
            refine r_slen (u := x1A) m.sX fun n3 hn3 mn3 => ?_
            conv => cbv
            refine r_addf m.sX (by omega) (by omega) fun at__2 hat__2 => ?_
            conv => cbv
            try have tat__2 : Int.toNat at__2 = Int.toNat at_ + 1 := by omega
            refine hE _ (out_2, at__2) ?_ ?_ ⟨(by (try dsimp only); first | omega | (simp; omega)), (by (try dsimp only); first | omega | (simp; omega)), (by (try dsimp only) <;> (first | (rw [q, setW_step hc _ (by omega) (by omega), bq, c1, List.drop_drop, show at_.toNat + (x1A.length : Int).toNat = at__2.toNat by omega, hout_2]) | (rw [q, setW_step hc _ (by omega) (by omega), bq, c2, List.drop_drop, show at_.toNat + (x2A.length : Int).toNat = at__3.toNat by omega, hout_3]))), (by (try dsimp only) <;> (omega))⟩ (by first | omega | (dsimp only; omega))
            · cbv
            · cbv
      · refine hF2 _ _ ?_
        conv => cbv
        refine r_lss m.sX (fun h5 => ?_) (fun h5 => ?_) <;> conv => cbv
        · have bq : bestLg f (word.drop at_.toNat) = -1 := by rw [q2, if_pos h5, show n_2.toNat = 0 by omega, tryN]
          refine hF _ _ ?_
          conv => cbv
          exact hQ (.tup [.nil, .bool false]) (Eq.trans (by first | rfl | (simp only [lb, lbI, rows_cons, rows_nil, unnilT, unnil, unnilTI, unnilI]; try rfl)) (congrArg ((lb 3 1 cInt)) (show ([], false) = setW f word [] from by rw [q, setW_none _ (by omega) (by omega)])))
        · have bq : bestLg f (word.drop at_.toNat) = best := by rw [q2, if_neg (by omega)]
          have bp := best_pos hc (w := word.drop at_.toNat) (by omega)
          try dsimp only at bp
          rw [bq] at bp
          refine r_append1 (best) m.sX rfl (by first | omega | (dsimp only; omega)) (by first | omega | (dsimp only; omega)) fun out_3 hout_3 => ?_
          conv => cbv
          have lout_3 : (out_3.length : Int) = out.length + 1 := by rw [hout_3]; first | done | (simp; done) | (simp; omega)
          refine r_index m.sX (by omega) (by omega) fun v hx2A => ?_
          obtain ⟨x2A, x2B⟩ := v
          conv => cbv
          have hx2 := hx2A
          have mx2 := get_mem hx2
          have cb2 := hc _ mx2
          try dsimp only at cb2
          have c2 : codeL f best = x2A.length := codeL_some hx2
          refine r_slen (u := x2A) m.sX fun n4 hn4 mn4 => ?_
          conv => cbv
          refine r_addf m.sX (by omega) (by omega) fun at__3 hat__3 => ?_
          conv => cbv
          try have tat__3 : Int.toNat at__3 = Int.toNat at_ + 1 := by omega
          refine hE _ (out_3, at__3) ?_ ?_ ⟨(by (try dsimp only); first | omega | (simp; omega)), (by (try dsimp only); first | omega | (simp; omega)), (by (try dsimp only) <;> (first | (rw [q, setW_step hc _ (by omega) (by omega), bq, c1, List.drop_drop, show at_.toNat + (x1A.length : Int).toNat = at__2.toNat by omega, hout_2]) | (rw [q, setW_step hc _ (by omega) (by omega), bq, c2, List.drop_drop, show at_.toNat + (x2A.length : Int).toNat = at__3.toNat by omega, hout_3]))), (by (try dsimp only) <;> (omega))⟩ (by first | omega | (dsimp only; omega))
          · cbv
          · cbv
    · refine hF _ _ ?_
      conv => cbv
      exact hQ (.tup [.fr 3 1 (rows cInt out), .bool true]) (Eq.trans (by first | rfl | (simp only [lb, lbI, rows_cons, rows_nil, unnilT, unnil, unnilTI, unnilI]; try rfl)) (congrArg ((lb 3 1 cInt)) (show (out, true) = setW f word [] from by rw [q, setW_nil (by rw [List.length_drop]; omega)]))))

-- lacks spec.biNeed
-- lacks spec.biCopy
-- lacks spec.CountSorts
-- lacks spec.biStock
-- lacks spec.biAsked
-- lacks spec.IsEnough
-- lacks spec.FirstRunOut
-- lacks spec.TimesToSet
-- lacks spec.LeastRecast

/- Contracts of the functions on measures. -/

theorem WordsThatFit_ok (words : List Int) (r : JRule) (measure : Int)  : OkA Try.prog 111 [.isl 1 (rows cInt words), .agg (cRule r), .int .i64 measure] (· = ib (fitA words r measure)) := by
  obtain ⟨rA, rB, rC⟩ := r
  try dsimp only at *
  exact fn_intro envOk fieldsOk mixed Try.func111 rfl fun κ X Y L Q m hQ => by
    conv => cbv
    refine r_callB m.sX (isSetLine_ok words (rA, rB, rC) measure) (fun h1 => ?_) (fun h1 => ?_) <;> conv => cbv
    · have hj := askJ_in h1
      try dsimp only at hj
      have s1 := line_sum hj.line
      try dsimp only at s1
      have s2 := okRule_spec hj.rule
      try dsimp only at s2
      have s3 := inB_spec hj.meas
      try dsimp only at s3
      have s4 := (okLine_spec hj.line).1
      try dsimp only at s4
      refine r_loopF (α := Int) m 35 [0, 2, 8] [⟨4, 33, 0, 0, 0⟩] (fun σ => [(0, .isl 1 (rows cInt words)), (2, .int .i64 measure), (4, .optr 33 0 3 0 0), (8, .int .i64 σ)]) (fun σ => [(33, 0, .box [.int .i64 rA, .int .i64 rB, .int .i64 rC])])
        (fun σ => (0 ≤ σ ∧ σ ≤ words.length) ∧ (fitW words (rA, rB, rC) measure words.length 0 = fitW words (rA, rB, rC) measure (words.length - σ.toNat) σ.toNat)) (fun σ => ((words.length : Int) - σ).toNat) 0 ?_ ?_ ?_ ?_
      · cbv
      · cbv
      · exact ⟨(by (try dsimp only) <;> first | omega | rfl | (simp [*]; done)), (by (try dsimp only) <;> (rfl))⟩
      rintro n ⟨nb, q⟩ E hE F hF
      conv => cbv
      refine r_draw m (by kernel_rfl) ?_
      conv => cbv
      refine r_lenRS m.sY (by omega) fun n1 hn1 => ?_
      conv => cbv
      refine r_lss m.sY (fun h2 => ?_) (fun h2 => ?_) <;> conv => cbv
      · refine r_addf m.sY (by omega) (by omega) fun r1 hr1 => ?_
        conv => cbv
        refine r_islice (i := 0) (j := r1) m.sY (by omega) (by omega) (by omega) fun zs1 hzs1 => ?_
        have lzs1 : (zs1.length : Int) = r1 - 0 := by rw [hzs1]; first | done | (simp; done) | (simp; omega)
        have ze : zs1 = words.take (n.toNat + 1) := by rw [hzs1, show r1.toNat = n.toNat + 1 by omega]; rfl
        have zm : ∀ x ∈ zs1, 0 ≤ x ∧ x ≤ 600 := fun x hx => by have z := s4 x (by rw [ze] at hx; exact List.mem_of_mem_take hx); omega
        have zl : (zs1.length : Int) ≤ 20 := by rw [ze, List.length_take]; omega
        have zf : SumFits zs1 := sumfits_of 600 (fun x hx => by have z := zm x hx; omega) (by omega)
        have zb := sum_bound (ws := zs1) (B := 600) (by omega) zm
        try dsimp only at zb
        have mb := mul_bound (a := n) (A := 20) (b := rA) (B := 54) (by omega) (by omega) (by omega) (by omega)
        try dsimp only at mb
        conv => cbv
        refine r_callFS (PV.int .i64) m.sY (sum_ok zs1 (by first | rfl | assumption | omega | (simp at *; omega))) trivial fun r2 hr2 => ?_
        conv => cbv
        try dsimp only at hr2
        refine r_mulf m.sY (by first | omega | (subst_vars; omega)) (by first | omega | (subst_vars; omega)) fun r3 hr3 => ?_
        conv => cbv
        refine r_addf m.sY (by omega) (by omega) fun r4 hr4 => ?_
        conv => cbv
        refine r_leq m.sY (fun h3 => ?_) (fun h3 => ?_) <;> conv => cbv
        · have c : n.toNat < words.length ∧ (words.take (n.toNat + 1)).sum + (n.toNat : Int) * rA ≤ measure := ⟨by omega, by rw [← ze, show ((n.toNat : Nat) : Int) = n by omega]; omega⟩
          refine r_addf m.sX (by omega) (by omega) fun n_2 hn_2 => ?_
          conv => cbv
          refine hE _ n_2 ?_ ?_ ⟨(by (try dsimp only) <;> (omega)), (by (try dsimp only) <;> (rw [q, show words.length - n.toNat = (words.length - n_2.toNat) + 1 by omega, fitW_step _ c, show n.toNat + 1 = n_2.toNat by omega]))⟩ (by first | omega | (dsimp only; omega))
          · cbv
          · cbv
        · refine hF _ _ ?_
          conv => cbv
          exact hQ (.tup [.int .i64 n, .bool true]) (Eq.trans (by first | rfl | (simp only [lb, lbI, rows_cons, rows_nil, unnilT, unnil, unnilTI, unnilI]; try rfl)) (congrArg (ib) (show (n, true) = fitA words (rA, rB, rC) measure from by rw [fitA, if_pos h1, q, fitW_stop _ (fun e => by have e2 := e.2; rw [← ze, show ((n.toNat : Nat) : Int) = n by omega] at e2; dsimp only at e2; omega), show ((n.toNat : Nat) : Int) = n by omega])))
      · refine hF _ _ ?_
        conv => cbv
        exact hQ (.tup [.int .i64 n, .bool true]) (Eq.trans (by first | rfl | (simp only [lb, lbI, rows_cons, rows_nil, unnilT, unnil, unnilTI, unnilI]; try rfl)) (congrArg (ib) (show (n, true) = fitA words (rA, rB, rC) measure from by rw [fitA, if_pos h1, q, fitW_stop _ (fun e => by have e1 := e.1; omega), show ((n.toNat : Nat) : Int) = n by omega])))
    · exact hQ (.tup [.int .i64 0, .bool false]) (Eq.trans (by first | rfl | (simp only [lb, lbI, rows_cons, rows_nil, unnilT, unnil, unnilTI, unnilI]; try rfl)) (congrArg (ib) (show (0, false) = fitA words (rA, rB, rC) measure from by rw [fitA, h1]; rfl)))

theorem tyWide_ok (f : List FSort) (sorts : List Int) (hz : ∀ z ∈ sorts, 0 ≤ z ∧ z < f.length) (hl : sorts.length ≤ 100) (hf : ∀ k, -100 ≤ setAt f k ∧ setAt f k ≤ 100) : OkA Try.prog 170 [.isl 2 (rows cSort f), .isl 1 (rows cInt sorts)] (· = .int .i64 (wideI f sorts)) :=
  fn_intro envOk fieldsOk mixed Try.func170 rfl fun κ X Y L Q m hQ => by
    conv => cbv
    refine r_lenR m.sX fun n1 hn1 mn1 => ?_
    conv => cbv
    refine r_loopF (α := Int × Int) m 23 [0, 5, 8, 9, 10] [] (fun σ => [(0, .isl 2 (rows cSort f)), (5, .int .i64 σ.1), (8, .isl 1 (rows cInt sorts)), (9, .int .i64 n1), (10, .int .i64 σ.2)]) (fun σ => [])
      (fun σ => (0 ≤ σ.2) ∧ (σ.2 ≤ n1) ∧ (σ.1 = wideI f (sorts.take σ.2.toNat)) ∧ (-(100 * σ.2) ≤ σ.1 ∧ σ.1 ≤ 100 * σ.2)) (fun σ => (n1 - σ.2).toNat) (0, 0) ?_ ?_ ?_ ?_
    · cbv
    · cbv
    · exact ⟨(by (try dsimp only); first | omega | (simp only [List.length_nil]; omega)), (by (try dsimp only); first | omega | (simp only [List.length_nil]; omega)), (by (try dsimp only) <;> (rfl)), (by (try dsimp only) <;> first | omega | rfl | (simp [*]; done))⟩
    rintro ⟨sum, i1⟩ ⟨lo1, hi1, q, sb⟩ E hE F hF
    dsimp only at lo1 hi1 q sb
    conv => cbv
    refine r_lss m.sX (fun h1 => ?_) (fun h1 => ?_) <;> conv => cbv
    · refine r_index m.sX (by omega) (by omega) fun i hi => ?_
      conv => cbv
      have mi := get_mem hi
      have di := drop_cons hi
      have ki := take_snoc hi
      have ji : (i1 + 1).toNat = Int.toNat i1 + 1 := by omega
      have vi := nth_some hi
      have bi := hz _ mi
      refine r_index m.sX (by omega) (by omega) fun v hx1A => ?_
      obtain ⟨x1A, x1B⟩ := v
      conv => cbv
      have hx1 := hx1A
      have mx1 := get_mem hx1
      have sv : setAt f i = x1B := setAt_some hx1
      have sb1 := hf i
      try dsimp only at sb1
      refine r_addf m.sX (by omega) (by omega) fun sum_2 hsum_2 => ?_
      conv => cbv
      refine r_addf m.sX (by omega) (by omega) fun r1 hr1 => ?_
      conv => cbv
      try have tr1 : Int.toNat r1 = Int.toNat i1 + 1 := by omega
      refine hE _ (sum_2, r1) ?_ ?_ ⟨(by (try dsimp only); first | omega | (simp only [List.length_nil]; omega)), (by (try dsimp only); first | omega | (simp only [List.length_nil]; omega)), (by (try dsimp only) <;> (rw [hsum_2, q, tr1, wideI_take hi, sv])), (by (try dsimp only) <;> (omega))⟩ (by first | omega | (dsimp only; omega))
      · cbv
      · cbv
    · have dz_i1 := drop_end (xs := sorts) (i := Int.toNat i1) (by omega)
      have tz_i1 := take_end (xs := sorts) (i := Int.toNat i1) (by omega)
      refine hF _ _ ?_
      conv => cbv
      exact hQ (.int .i64 sum) (Eq.trans (by first | rfl | (simp only [lb, lbI, rows_cons, rows_nil, unnilT, unnil, unnilTI, unnilI]; try rfl)) (congrArg (PV.int .i64) (show sum = wideI f sorts from by rw [q, tz_i1])))

theorem tyWidth_ok (f : List FSort) (word : List UInt8) (hc : CodesOk f) (hw : word.length ≤ 16) (hf : ∀ k, -100 ≤ setAt f k ∧ setAt f k ≤ 100) : OkA Try.prog 158 [.isl 2 (rows cSort f), .str word] (· = ib ((wideI f (wordI f word), (setW f word []).2))) :=
  fn_intro envOk fieldsOk mixed Try.func158 rfl fun κ X Y L Q m hQ => by
    conv => cbv
    refine r_callF (lb 3 1 cInt) m.sX (tySet_ok f word (by first | rfl | assumption | omega | (simp at *; omega)) (by first | rfl | assumption | omega | (simp at *; omega))) fun v hsorts => ?_
    obtain ⟨sorts, ok⟩ := v
    conv => cbv
    have we := setW_wordI hsorts
    have wi := wordI_in hc word
    rw [← we] at wi
    have w1 := wi.1
    have w2 : sorts.length ≤ 100 := by omega
    refine .inl (r_callFO intPV m.sX ((tyWide_ok f sorts (by first | rfl | assumption | omega | (simp at *; omega)) (by first | rfl | assumption | omega | (simp at *; omega)) (by first | rfl | assumption | omega | (simp at *; omega))).ok flat_int) fun r1 hr1 => ?_)
    conv => cbv
    exact hQ (.tup [.int .i64 r1, .bool ok]) (Eq.trans (by first | rfl | (simp only [lb, lbI, rows_cons, rows_nil, unnilT, unnil, unnilTI, unnilI]; try rfl)) (congrArg (ib) (show (r1, ok) = (wideI f (wordI f word), (setW f word []).2) from by exact Prod.ext (by show r1 = wideI f (wordI f word); rw [hr1, we]) (by show ok = (setW f word []).2; rw [← hsorts]))))

theorem juWidths_ok (f : List FSort) (words : List (List UInt8)) (hf : okFont f = true) (hk : ∀ w ∈ words, okWord w = true) (hl : words.length ≤ 40) : OkA Try.prog 118 [.isl 2 (rows cSort f), .isl 1 (rows cStr words)] (· = (lb 3 1 cInt) (wdG f words [])) :=
  OkA.unnil 3 1 (fn_intro envOk fieldsOk mixed Try.func118 rfl fun κ X Y L Q m hQ => by
    have hc := okFont_codes hf
    have fs : ∀ k, -100 ≤ setAt f k ∧ setAt f k ≤ 100 := fun k => by have z := font_sets hf k; omega
    conv => cbv
    refine r_lenR m.sX fun n1 hn1 mn1 => ?_
    conv => cbv
    refine r_loopF (α := List Int × Int) m 31 [0, 11, 12, 13] [⟨6, 49, 3, 1, 0⟩] (fun σ => [(0, .isl 2 (rows cSort f)), (6, .osl 49 0), (11, .isl 1 (rows cStr words)), (12, .int .i64 n1), (13, .int .i64 σ.2)]) (fun σ => [(49, 0, .row 3 1 (rows cInt σ.1))])
      (fun σ => (0 ≤ σ.2) ∧ (σ.2 ≤ n1) ∧ (wdG f words [] = wdG f (words.drop σ.2.toNat) σ.1) ∧ ((σ.1.length : Int) ≤ σ.2)) (fun σ => (n1 - σ.2).toNat) ([], 0) ?_ ?_ ?_ ?_
    · cbv
    · (try dsimp only); simp only [rows_cons, rows_nil]; cbv
    · exact ⟨(by (try dsimp only); first | omega | (simp only [List.length_nil]; omega)), (by (try dsimp only); first | omega | (simp only [List.length_nil]; omega)), (by (try dsimp only) <;> (rfl)), (by (try dsimp only) <;> first | omega | rfl | (simp [*]; done))⟩
    rintro ⟨out, i1⟩ ⟨lo1, hi1, q, ln⟩ E hE F hF
    dsimp only at lo1 hi1 q ln
    conv => cbv
    refine r_lss m.sX (fun h1 => ?_) (fun h1 => ?_) <;> conv => cbv
    · refine r_index m.sX (by omega) (by omega) fun w hw => ?_
      conv => cbv
      have mw := get_mem hw
      have dw := drop_cons hw
      have kw := take_snoc hw
      have jw : (i1 + 1).toNat = Int.toNat i1 + 1 := by omega
      have wl := okWord_len (hk w mw)
      refine r_callF ib m.sX (tyWidth_ok f w (by first | rfl | assumption | omega | (simp at *; omega)) (by first | rfl | assumption | omega | (simp at *; omega)) (by first | rfl | assumption | omega | (simp at *; omega))) fun v hn => ?_
      obtain ⟨n, ok⟩ := v
      conv => cbv
      rcases Bool.eq_false_or_eq_true ok with rfl | rfl <;> conv => cbv
      · refine r_append1 (n) m.sX rfl (by first | omega | (dsimp only; omega)) (by first | omega | (dsimp only; omega)) fun out_2 hout_2 => ?_
        conv => cbv
        have lout_2 : (out_2.length : Int) = out.length + 1 := by rw [hout_2]; first | done | (simp; done) | (simp; omega)
        refine r_addf m.sX (by omega) (by omega) fun r1 hr1 => ?_
        conv => cbv
        try have tr1 : Int.toNat r1 = Int.toNat i1 + 1 := by omega
        refine hE _ (out_2, r1) ?_ ?_ ⟨(by (try dsimp only); first | omega | (simp only [List.length_nil]; omega)), (by (try dsimp only); first | omega | (simp only [List.length_nil]; omega)), (by (try dsimp only) <;> (rw [q, wdG_ok _ hw hn, hout_2, tr1])), (by (try dsimp only) <;> (omega))⟩ (by first | omega | (dsimp only; omega))
        · cbv
        · cbv
      · refine hF _ _ ?_
        conv => cbv
        exact hQ (.tup [.nil, .bool false]) (Eq.trans (by first | rfl | (simp only [lb, lbI, rows_cons, rows_nil, unnilT, unnil, unnilTI, unnilI]; try rfl)) (congrArg ((lb 3 1 cInt)) (show ([], false) = wdG f words [] from by rw [q, wdG_no _ hw hn])))
    · have dz_i1 := drop_end (xs := words) (i := Int.toNat i1) (by omega)
      have tz_i1 := take_end (xs := words) (i := Int.toNat i1) (by omega)
      refine hF _ _ ?_
      conv => cbv
      exact hQ (.tup [.fr 3 1 (rows cInt out), .bool true]) (Eq.trans (by first | rfl | (simp only [lb, lbI, rows_cons, rows_nil, unnilT, unnil, unnilTI, unnilI]; try rfl)) (congrArg ((lb 3 1 cInt)) (show (out, true) = wdG f words [] from by rw [q, wdG_end _ (by omega)]))))

theorem widthOf_ok (f : List FSort) (list : List Int) (hz : ∀ z ∈ list, 0 ≤ z ∧ z < f.length) (hl : list.length ≤ 100) (hf : ∀ k, -100 ≤ setAt f k ∧ setAt f k ≤ 100) : OkA Try.prog 125 [.isl 2 (rows cSort f), .isl 1 (rows cInt list)] (· = .int .i64 (wideI f list)) :=
  fn_intro envOk fieldsOk mixed Try.func125 rfl fun κ X Y L Q m hQ => by
    conv => cbv
    refine r_lenR m.sX fun n1 hn1 mn1 => ?_
    conv => cbv
    refine r_loopF (α := Int × Int) m 23 [0, 5, 8, 9, 10] [] (fun σ => [(0, .isl 2 (rows cSort f)), (5, .int .i64 σ.1), (8, .isl 1 (rows cInt list)), (9, .int .i64 n1), (10, .int .i64 σ.2)]) (fun σ => [])
      (fun σ => (0 ≤ σ.2) ∧ (σ.2 ≤ n1) ∧ (σ.1 = wideI f (list.take σ.2.toNat)) ∧ (-(100 * σ.2) ≤ σ.1 ∧ σ.1 ≤ 100 * σ.2)) (fun σ => (n1 - σ.2).toNat) (0, 0) ?_ ?_ ?_ ?_
    · cbv
    · cbv
    · exact ⟨(by (try dsimp only); first | omega | (simp only [List.length_nil]; omega)), (by (try dsimp only); first | omega | (simp only [List.length_nil]; omega)), (by (try dsimp only) <;> (rfl)), (by (try dsimp only) <;> first | omega | rfl | (simp [*]; done))⟩
    rintro ⟨n, i1⟩ ⟨lo1, hi1, q, sb⟩ E hE F hF
    dsimp only at lo1 hi1 q sb
    conv => cbv
    refine r_lss m.sX (fun h1 => ?_) (fun h1 => ?_) <;> conv => cbv
    · refine r_index m.sX (by omega) (by omega) fun i hi => ?_
      conv => cbv
      have mi := get_mem hi
      have di := drop_cons hi
      have ki := take_snoc hi
      have ji : (i1 + 1).toNat = Int.toNat i1 + 1 := by omega
      have vi := nth_some hi
      have bi := hz _ mi
      refine r_index m.sX (by omega) (by omega) fun v hx1A => ?_
      obtain ⟨x1A, x1B⟩ := v
      conv => cbv
      have hx1 := hx1A
      have mx1 := get_mem hx1
      have sv : setAt f i = x1B := setAt_some hx1
      have sb1 := hf i
      try dsimp only at sb1
      refine r_addf m.sX (by omega) (by omega) fun n_2 hn_2 => ?_
      conv => cbv
      refine r_addf m.sX (by omega) (by omega) fun r1 hr1 => ?_
      conv => cbv
      try have tr1 : Int.toNat r1 = Int.toNat i1 + 1 := by omega
      refine hE _ (n_2, r1) ?_ ?_ ⟨(by (try dsimp only); first | omega | (simp only [List.length_nil]; omega)), (by (try dsimp only); first | omega | (simp only [List.length_nil]; omega)), (by (try dsimp only) <;> (rw [hn_2, q, tr1, wideI_take hi, sv])), (by (try dsimp only) <;> (omega))⟩ (by first | omega | (dsimp only; omega))
      · cbv
      · cbv
    · have dz_i1 := drop_end (xs := list) (i := Int.toNat i1) (by omega)
      have tz_i1 := take_end (xs := list) (i := Int.toNat i1) (by omega)
      refine hF _ _ ?_
      conv => cbv
      exact hQ (.int .i64 n) (Eq.trans (by first | rfl | (simp only [lb, lbI, rows_cons, rows_nil, unnilT, unnil, unnilTI, unnilI]; try rfl)) (congrArg (PV.int .i64) (show n = wideI f list from by rw [q, tz_i1])))

theorem WidthOfWord_ok (f : List FSort) (word : List UInt8)  : OkA Try.prog 62 [.isl 2 (rows cSort f), .str word] (· = ib (widA f word)) :=
  fn_intro envOk fieldsOk mixed Try.func62 rfl fun κ X Y L Q m hQ => by
    conv => cbv
    refine r_callF (lb 3 1 cInt) m.sX (SortsOfWord_ok f word) fun v hlist => ?_
    obtain ⟨list, ok⟩ := v
    conv => cbv
    rcases Bool.eq_false_or_eq_true ok with rfl | rfl <;> conv => cbv
    · obtain ⟨fo, wo, we⟩ := sorts_true hlist
      have wi := wordI_in (okFont_codes fo) word
      rw [← we] at wi
      have w1 := wi.1
      have wl := okWord_len wo
      have w2 : list.length ≤ 100 := by omega
      have fs : ∀ k, -100 ≤ setAt f k ∧ setAt f k ≤ 100 := fun k => by have z := font_sets fo k; omega
      refine .inl (r_callFO intPV m.sX ((widthOf_ok f list (by first | rfl | assumption | omega | (simp at *; omega)) (by first | rfl | assumption | omega | (simp at *; omega)) (by first | rfl | assumption | omega | (simp at *; omega))).ok flat_int) fun r1 hr1 => ?_)
      conv => cbv
      exact hQ (.tup [.int .i64 r1, .bool true]) (Eq.trans (by first | rfl | (simp only [lb, lbI, rows_cons, rows_nil, unnilT, unnil, unnilTI, unnilI]; try rfl)) (congrArg (ib) (show (r1, true) = widA f word from by rw [widA, ← hlist, if_pos rfl, hr1])))
    · exact hQ (.tup [.int .i64 0, .bool false]) (Eq.trans (by first | rfl | (simp only [lb, lbI, rows_cons, rows_nil, unnilT, unnil, unnilTI, unnilI]; try rfl)) (congrArg (ib) (show (0, false) = widA f word from by rw [widA, ← hlist]; rfl)))

/- Contracts of the functions on greedy breaks, and on breaks of words that are set with a font. -/
theorem fit_tk {ws zs : List Int} {r : JRule} {m i j n : Int} {b : Bool} (hp : Pin ws r m) (h0 : 0 ≤ i) (hi : i < ws.length) (hj : j = min (ws.length : Int) (i + 20)) (hz : zs = (ws.take j.toNat).drop i.toNat) (h : (n, b) = fitA zs r m) : n = tkF ws r m i.toNat := by
  obtain ⟨z1, z2, z3⟩ := hp.cut (i := i.toNat) (j := j.toNat) (by omega) (by omega) hz
  have zc : zs = cut20 ws i.toNat := by rw [z3, cut20, show j.toNat = min ws.length (i.toNat + 20) by omega]
  have zl := cut20_length (ws := ws) (i := i.toNat) (by omega)
  rw [← zc] at zl
  have ok : okLine zs = true := line_ok z1 z2.1 (by omega)
  have ha : askJ zs r m = true := by rw [askJ, ok, hp.rule, hp.meas]; rfl
  rw [fitA, if_pos ha] at h
  rw [(Prod.mk.inj h).1, tkF, zc]
theorem GreedyBreaks_ok (words : List Int) (r : JRule) (measure : Int)  : OkA Try.prog 55 [.isl 1 (rows cInt words), .agg (cRule r), .int .i64 measure] (· = (lb 3 1 cInt) (greedA words r measure)) := by
  obtain ⟨rA, rB, rC⟩ := r
  try dsimp only at *
  exact OkA.unnil 3 1 (fn_intro envOk fieldsOk mixed Try.func55 rfl fun κ X Y L Q m hQ => by
    conv => cbv
    refine r_callB m.sX (isSetParagraph_ok words (rA, rB, rC) measure) (fun h1 => ?_) (fun h1 => ?_) <;> conv => cbv
    · have hp := askP_in h1
      try dsimp only at hp
      have sp := okPara_spec hp.para
      try dsimp only at sp
      refine r_loopF (α := List Int × Int) m 50 [0, 2, 9] [⟨4, 33, 0, 0, 0⟩, ⟨8, 65, 3, 1, 0⟩] (fun σ => [(0, .isl 1 (rows cInt words)), (2, .int .i64 measure), (4, .optr 33 0 3 0 0), (8, .osl 65 0), (9, .int .i64 σ.2)]) (fun σ => [(33, 0, .box [.int .i64 rA, .int .i64 rB, .int .i64 rC]), (65, 0, .row 3 1 (rows cInt σ.1))])
        (fun σ => GI words (rA, rB, rC) measure σ.2 σ.1) (fun σ => ((words.length : Int) - σ.2).toNat) ([], 0) ?_ ?_ ?_ ?_
      · cbv
      · (try dsimp only); (try simp only [rows_cons, rows_nil]); cbv
      · exact (by (try dsimp only) <;> (exact GI.start (by omega)))
      rintro ⟨breaks, from_⟩ gi E hE F hF
      dsimp only at gi
      have gl := gi.lo
      try dsimp only at gl
      have gn := gi.len
      try dsimp only at gn
      conv => cbv
      refine r_lenR m.sX fun n1 hn1 mn1 => ?_
      conv => cbv
      refine r_lss m.sX (fun h2 => ?_) (fun h2 => ?_) <;> conv => cbv
      · refine r_draw m (by kernel_rfl) ?_
        conv => cbv
        refine r_lenRS m.sY (by omega) fun n2 hn2 => ?_
        conv => cbv
        refine r_addf m.sY (by omega) (by omega) fun r1 hr1 => ?_
        conv => cbv
        refine r_min m.sY fun r2 hr2 => ?_
        conv => cbv
        refine r_islice (i := from_) (j := r2) m.sY (by omega) (by omega) (by omega) fun zs1 hzs1 => ?_
        have lzs1 : (zs1.length : Int) = r2 - from_ := by rw [hzs1]; first | done | (simp; done) | (simp; omega)
        conv => cbv
        refine r_callFS ib m.sY (WordsThatFit_ok zs1 (rA, rB, rC) measure) (by first | trivial | exact noFr_tup2 trivial trivial | exact noFr_tup3 trivial trivial trivial) fun v hn => ?_
        obtain ⟨n, v1⟩ := v
        conv => cbv
        try dsimp only at hn
        have nt := fit_tk hp (i := from_) (by omega) (by omega) (by omega) hzs1 hn
        try dsimp only at nt
        have tl := tk_le words (rA, rB, rC) measure (i := from_.toNat) (by omega)
        try dsimp only at tl
        refine r_eql m.sX (fun h3 => ?_) (fun h3 => ?_) <;> conv => cbv
        · refine hF _ _ ?_
          conv => cbv
          exact hQ (.tup [.fr 3 1 [], .bool false]) (Eq.trans (by first | rfl | (simp only [lb, lbI, rows_cons, rows_nil, unnilT, unnil, unnilTI, unnilI]; try rfl)) (congrArg ((lb 3 1 cInt)) (show ([], false) = greedA words (rA, rB, rC) measure from by first | (rw [greedA, if_pos h1, gi.done (by omega)]; rfl) | (rw [greedA, if_pos h1, gi.stuck (by omega) (by omega)]; rfl) | (rw [greedA, if_neg (by rw [h1]; simp)]))))
        · refine r_gtr m.sX (fun h4 => ?_) (fun h4 => ?_) <;> conv => cbv
          · refine r_append1 (from_) m.sX rfl (by first | omega | (dsimp only; omega)) (by first | omega | (dsimp only; omega)) fun breaks_2 hbreaks_2 => ?_
            conv => cbv
            have lbreaks_2 : (breaks_2.length : Int) = breaks.length + 1 := by rw [hbreaks_2]; first | done | (simp; done) | (simp; omega)
            refine r_addf m.sX (by omega) (by omega) fun from__2 hfrom__2 => ?_
            conv => cbv
            refine hE _ (breaks_2, from__2) ?_ ?_ (by (try dsimp only) <;> (first | exact gi.next (by omega) nt (by omega) (by omega) (by rw [if_pos (by omega)]; assumption) | exact gi.next (by omega) nt (by omega) (by omega) (by rw [if_neg (by omega)]))) (by first | omega | (dsimp only; omega))
            · cbv
            · cbv
          · refine r_addf m.sX (by omega) (by omega) fun from__3 hfrom__3 => ?_
            conv => cbv
            refine hE _ (breaks, from__3) ?_ ?_ (by (try dsimp only) <;> (first | exact gi.next (by omega) nt (by omega) (by omega) (by rw [if_pos (by omega)]; assumption) | exact gi.next (by omega) nt (by omega) (by omega) (by rw [if_neg (by omega)]))) (by first | omega | (dsimp only; omega))
            · cbv
            · cbv
      · refine hF _ _ ?_
        conv => cbv
        exact hQ (.tup [.fr 3 1 (rows cInt breaks), .bool true]) (Eq.trans (by first | rfl | (simp only [lb, lbI, rows_cons, rows_nil, unnilT, unnil, unnilTI, unnilI]; try rfl)) (congrArg ((lb 3 1 cInt)) (show (breaks, true) = greedA words (rA, rB, rC) measure from by first | (rw [greedA, if_pos h1, gi.done (by omega)]; rfl) | (rw [greedA, if_pos h1, gi.stuck (by omega) (by omega)]; rfl) | (rw [greedA, if_neg (by rw [h1]; simp)]))))
    · exact hQ (.tup [.fr 3 1 [], .bool false]) (Eq.trans (by first | rfl | (simp only [lb, lbI, rows_cons, rows_nil, unnilT, unnil, unnilTI, unnilI]; try rfl)) (congrArg ((lb 3 1 cInt)) (show ([], false) = greedA words (rA, rB, rC) measure from by first | (rw [greedA, if_pos h1, gi.done (by omega)]; rfl) | (rw [greedA, if_pos h1, gi.stuck (by omega) (by omega)]; rfl) | (rw [greedA, if_neg (by rw [h1]; simp)])))))

theorem specGreedyBreaks_ok (words : List Int) (r : JRule) (measure : Int)  : OkA Try.prog 56 [.isl 1 (rows cInt words), .agg (cRule r), .int .i64 measure] (· = (lb 3 1 cInt) (greedA words r measure)) := by
  obtain ⟨rA, rB, rC⟩ := r
  try dsimp only at *
  exact OkA.unnil 3 1 (fn_intro envOk fieldsOk mixed Try.func56 rfl fun κ X Y L Q m hQ => by
    conv => cbv
    refine r_callB m.sX (paAsked_ok words (rA, rB, rC) measure) (fun h1 => ?_) (fun h1 => ?_) <;> conv => cbv
    · have hp := askP_in h1
      try dsimp only at hp
      have sp := okPara_spec hp.para
      try dsimp only at sp
      have sr := okRule_spec hp.rule
      try dsimp only at sr
      have sm := inB_spec hp.meas
      try dsimp only at sm
      refine r_callB m.sX (l1All_ok words 1 measure) (fun h2 => ?_) (fun h2 => ?_) <;> conv => cbv
      · refine r_loopF (α := List Int × Int) m 63 [0, 2, 9] [⟨4, 33, 0, 0, 0⟩, ⟨8, 65, 3, 1, 0⟩] (fun σ => [(0, .isl 1 (rows cInt words)), (2, .int .i64 measure), (4, .optr 33 0 3 0 0), (8, .osl 65 0), (9, .int .i64 σ.2)]) (fun σ => [(33, 0, .box [.int .i64 rA, .int .i64 rB, .int .i64 rC]), (65, 0, .row 3 1 (rows cInt σ.1))])
          (fun σ => GR words (rA, rB, rC) measure σ.2 σ.1) (fun σ => ((words.length : Int) - σ.2).toNat) ([], 0) ?_ ?_ ?_ ?_
        · cbv
        · (try dsimp only); (try simp only [rows_cons, rows_nil]); cbv
        · exact (by (try dsimp only) <;> (exact GR.start (by omega)))
        rintro ⟨out, at_⟩ gr E hE F hF
        dsimp only at gr
        have gl := gr.lo
        try dsimp only at gl
        have gn := gr.len
        try dsimp only at gn
        conv => cbv
        refine r_loopF (α := Int) m 63 [0, 2, 9, 10] [⟨4, 33, 0, 0, 0⟩, ⟨8, 65, 3, 1, 0⟩] (fun σ => [(0, .isl 1 (rows cInt words)), (2, .int .i64 measure), (4, .optr 33 0 3 0 0), (8, .osl 65 0), (9, .int .i64 at_), (10, .int .i64 σ)]) (fun σ => [(33, 0, .box [.int .i64 rA, .int .i64 rB, .int .i64 rC]), (65, 0, .row 3 1 (rows cInt out))])
          (fun σ => GN words (rA, rB, rC) measure at_ σ) (fun σ => (20 - σ).toNat) 1 ?_ ?_ ?_ ?_
        · cbv
        · cbv
        · exact (by (try dsimp only) <;> (exact GN.start (by omega) (by omega) h2))
        rintro n gn E2 hE2 F2 hF2
        have nl := gn.lo
        try dsimp only at nl
        conv => cbv
        refine r_draw m (by kernel_rfl) ?_
        conv => cbv
        refine r_addf m.sY (by omega) (by omega) fun r1 hr1 => ?_
        conv => cbv
        refine r_lenRS m.sY (by omega) fun n1 hn1 => ?_
        conv => cbv
        refine r_lss m.sY (fun h3 => ?_) (fun h3 => ?_) <;> conv => cbv
        · refine r_lss m.sY (fun h4 => ?_) (fun h4 => ?_) <;> conv => cbv
          · refine r_addf m.sY (by omega) (by omega) fun r2 hr2 => ?_
            conv => cbv
            refine r_addf m.sY (by omega) (by omega) fun r3 hr3 => ?_
            conv => cbv
            refine r_islice (i := at_) (j := r3) m.sY (by omega) (by omega) (by omega) fun zs1 hzs1 => ?_
            have lzs1 : (zs1.length : Int) = r3 - at_ := by rw [hzs1]; first | done | (simp; done) | (simp; omega)
            obtain ⟨z1, z2, z3⟩ := hp.cut (i := at_.toNat) (j := r3.toNat) (by omega) (by omega) hzs1
            obtain ⟨zf, zb1, zb2⟩ := words_fits z1 z2.2
            have mb := mul_bound (a := n) (A := 20) (b := rA) (B := 54) (by omega) (by omega) (by omega) (by omega)
            try dsimp only at mb
            conv => cbv
            refine r_callFS (PV.int .i64) m.sY (juSum_ok zs1 (by first | rfl | assumption | omega | (simp at *; omega))) trivial fun r4 hr4 => ?_
            conv => cbv
            try dsimp only at hr4
            refine r_mulf m.sY (by first | omega | (subst_vars; omega)) (by first | omega | (subst_vars; omega)) fun r5 hr5 => ?_
            conv => cbv
            refine r_addf m.sY (by omega) (by omega) fun r6 hr6 => ?_
            conv => cbv
            refine r_leq m.sY (fun h5 => ?_) (fun h5 => ?_) <;> conv => cbv
            · have gs : (cutW words at_.toNat (at_ + n + 1).toNat).sum + n * rA ≤ measure := by rw [show (at_ + n + 1).toNat = r3.toNat by omega, ← z3]; omega
              refine r_addf m.sX (by omega) (by omega) fun n_2 hn_2 => ?_
              conv => cbv
              refine hE2 _ n_2 ?_ ?_ (by (try dsimp only) <;> (exact gn.step (by omega) (by omega) (by omega) gs (by omega))) (by first | omega | (dsimp only; omega))
              · cbv
              · cbv
            · have gs : ¬ (cutW words at_.toNat (at_ + n + 1).toNat).sum + n * rA ≤ measure := by rw [show (at_ + n + 1).toNat = r3.toNat by omega, ← z3]; omega
              refine hF2 _ _ ?_
              conv => cbv
              refine r_addf m.sX (by omega) (by omega) fun at__2 hat__2 => ?_
              conv => cbv
              have nt := gn.stop (by omega) (.inr (.inr gs))
              try dsimp only at nt
              refine r_lenR m.sX fun n2 hn2 mn2 => ?_
              conv => cbv
              refine r_eql m.sX (fun h6 => ?_) (fun h6 => ?_) <;> conv => cbv
              · refine hF _ _ ?_
                conv => cbv
                exact hQ (.tup [.fr 3 1 (rows cInt out), .bool true]) (Eq.trans (by first | rfl | (simp only [lb, lbI, rows_cons, rows_nil, unnilT, unnil, unnilTI, unnilI]; try rfl)) (congrArg ((lb 3 1 cInt)) (show (out, true) = greedA words (rA, rB, rC) measure from by first | (rw [greedA, if_pos h1, gr.done nt (by omega) rfl (by omega)]; rfl) | (rw [greed_no (by rw [h1, h2]; rfl)]) | (rw [greed_no (by rw [h1]; rfl)]))))
              · refine r_append1 (at__2) m.sX rfl (by first | omega | (dsimp only; omega)) (by first | omega | (dsimp only; omega)) fun out_2 hout_2 => ?_
                conv => cbv
                have lout_2 : (out_2.length : Int) = out.length + 1 := by rw [hout_2]; first | done | (simp; done) | (simp; omega)
                refine hE _ (out_2, at__2) ?_ ?_ (by (try dsimp only) <;> (exact gr.next nt (by omega) (by omega) (by omega) (by assumption))) (by first | omega | (dsimp only; omega))
                · cbv
                · cbv
          · refine hF2 _ _ ?_
            conv => cbv
            refine r_addf m.sX (by omega) (by omega) fun at__3 hat__3 => ?_
            conv => cbv
            have nt := gn.stop (by omega) (.inr (.inl (by omega)))
            try dsimp only at nt
            refine r_lenR m.sX fun n3 hn3 mn3 => ?_
            conv => cbv
            refine r_eql m.sX (fun h7 => ?_) (fun h7 => ?_) <;> conv => cbv
            · refine hF _ _ ?_
              conv => cbv
              exact hQ (.tup [.fr 3 1 (rows cInt out), .bool true]) (Eq.trans (by first | rfl | (simp only [lb, lbI, rows_cons, rows_nil, unnilT, unnil, unnilTI, unnilI]; try rfl)) (congrArg ((lb 3 1 cInt)) (show (out, true) = greedA words (rA, rB, rC) measure from by first | (rw [greedA, if_pos h1, gr.done nt (by omega) rfl (by omega)]; rfl) | (rw [greed_no (by rw [h1, h2]; rfl)]) | (rw [greed_no (by rw [h1]; rfl)]))))
            · refine r_append1 (at__3) m.sX rfl (by first | omega | (dsimp only; omega)) (by first | omega | (dsimp only; omega)) fun out_3 hout_3 => ?_
              conv => cbv
              have lout_3 : (out_3.length : Int) = out.length + 1 := by rw [hout_3]; first | done | (simp; done) | (simp; omega)
              refine hE _ (out_3, at__3) ?_ ?_ (by (try dsimp only) <;> (exact gr.next nt (by omega) (by omega) (by omega) (by assumption))) (by first | omega | (dsimp only; omega))
              · cbv
              · cbv
        · refine hF2 _ _ ?_
          conv => cbv
          refine r_addf m.sX (by omega) (by omega) fun at__4 hat__4 => ?_
          conv => cbv
          have nt := gn.stop (by omega) (.inl (by omega))
          try dsimp only at nt
          refine r_lenR m.sX fun n4 hn4 mn4 => ?_
          conv => cbv
          refine r_eql m.sX (fun h8 => ?_) (fun h8 => ?_) <;> conv => cbv
          · refine hF _ _ ?_
            conv => cbv
            exact hQ (.tup [.fr 3 1 (rows cInt out), .bool true]) (Eq.trans (by first | rfl | (simp only [lb, lbI, rows_cons, rows_nil, unnilT, unnil, unnilTI, unnilI]; try rfl)) (congrArg ((lb 3 1 cInt)) (show (out, true) = greedA words (rA, rB, rC) measure from by first | (rw [greedA, if_pos h1, gr.done nt (by omega) rfl (by omega)]; rfl) | (rw [greed_no (by rw [h1, h2]; rfl)]) | (rw [greed_no (by rw [h1]; rfl)]))))
          · refine r_append1 (at__4) m.sX rfl (by first | omega | (dsimp only; omega)) (by first | omega | (dsimp only; omega)) fun out_4 hout_4 => ?_
            conv => cbv
            have lout_4 : (out_4.length : Int) = out.length + 1 := by rw [hout_4]; first | done | (simp; done) | (simp; omega)
            refine hE _ (out_4, at__4) ?_ ?_ (by (try dsimp only) <;> (exact gr.next nt (by omega) (by omega) (by omega) (by assumption))) (by first | omega | (dsimp only; omega))
            · cbv
            · cbv
      · exact hQ (.tup [.nil, .bool false]) (Eq.trans (by first | rfl | (simp only [lb, lbI, rows_cons, rows_nil, unnilT, unnil, unnilTI, unnilI]; try rfl)) (congrArg ((lb 3 1 cInt)) (show ([], false) = greedA words (rA, rB, rC) measure from by first | (rw [greedA, if_pos h1, gr.done nt (by omega) rfl (by omega)]; rfl) | (rw [greed_no (by rw [h1, h2]; rfl)]) | (rw [greed_no (by rw [h1]; rfl)]))))
    · exact hQ (.tup [.nil, .bool false]) (Eq.trans (by first | rfl | (simp only [lb, lbI, rows_cons, rows_nil, unnilT, unnil, unnilTI, unnilI]; try rfl)) (congrArg ((lb 3 1 cInt)) (show ([], false) = greedA words (rA, rB, rC) measure from by first | (rw [greedA, if_pos h1, gr.done nt (by omega) rfl (by omega)]; rfl) | (rw [greed_no (by rw [h1, h2]; rfl)]) | (rw [greed_no (by rw [h1]; rfl)])))))

theorem BreakWords_ok (f : List FSort) (words : List (List UInt8)) (r : JRule) (measure : Int)  : OkA Try.prog 58 [.isl 2 (rows cSort f), .isl 1 (rows cStr words), .agg (cRule r), .int .i64 measure] (· = (lb 3 1 cInt) (bwA f words r measure)) := by
  obtain ⟨rA, rB, rC⟩ := r
  try dsimp only at *
  exact OkA.unnil 3 1 (fn_intro envOk fieldsOk mixed Try.func58 rfl fun κ X Y L Q m hQ => by
    conv => cbv
    refine r_lenR m.sX fun n1 hn1 mn1 => ?_
    conv => cbv
    refine r_gtr m.sX (fun h1 => ?_) (fun h1 => ?_) <;> conv => cbv
    · exact hQ (.tup [.fr 3 1 [], .bool false]) (Eq.trans (by first | rfl | (simp only [lb, lbI, rows_cons, rows_nil, unnilT, unnil, unnilTI, unnilI]; try rfl)) (congrArg ((lb 3 1 cInt)) (show ([], false) = bwA f words (rA, rB, rC) measure from by first | (rw [bw_long (by omega)]; done) | (rw [bwA, q, wiG_no _ hw hn, if_neg (by simp)]; done) | (rw [bwA, q, wiG_end _ (by omega), if_pos ⟨by omega, rfl⟩]; dsimp only; rw [← hbreaks]; done))))
    · refine r_lenR m.sX fun n2 hn2 mn2 => ?_
      conv => cbv
      refine r_loopF (α := List Int × Int) m 53 [0, 3, 23, 24, 25] [⟨6, 49, 0, 0, 0⟩, ⟨10, 81, 3, 1, 0⟩] (fun σ => [(0, .isl 2 (rows cSort f)), (3, .int .i64 measure), (6, .optr 49 0 3 0 0), (10, .osl 81 0), (23, .isl 1 (rows cStr words)), (24, .int .i64 n2), (25, .int .i64 σ.2)]) (fun σ => [(49, 0, .box [.int .i64 rA, .int .i64 rB, .int .i64 rC]), (81, 0, .row 3 1 (rows cInt σ.1))])
        (fun σ => (0 ≤ σ.2) ∧ (σ.2 ≤ n2) ∧ (wiG f words [] = wiG f (words.drop σ.2.toNat) σ.1) ∧ ((σ.1.length : Int) ≤ σ.2)) (fun σ => (n2 - σ.2).toNat) ([], 0) ?_ ?_ ?_ ?_
      · cbv
      · (try dsimp only); (try simp only [rows_cons, rows_nil]); cbv
      · exact ⟨(by (try dsimp only); first | omega | (simp; omega)), (by (try dsimp only); first | omega | (simp; omega)), (by (try dsimp only) <;> (rfl)), (by (try dsimp only) <;> first | omega | rfl | (simp [*]; done))⟩
      rintro ⟨widths, i1⟩ ⟨lo1, hi1, q, ln⟩ E hE F hF
      dsimp only at lo1 hi1 q ln
      conv => cbv
      refine r_lss m.sX (fun h2 => ?_) (fun h2 => ?_) <;> conv => cbv
      · refine r_index m.sX (by omega) (by omega) fun w hw => ?_
        conv => cbv
        have mw := get_mem hw
        have dw := drop_cons hw
        have kw := take_snoc hw
        have jw : (i1 + 1).toNat = Int.toNat i1 + 1 := by omega
        refine r_callF ib m.sX (WidthOfWord_ok f w) fun v hn => ?_
        obtain ⟨n, ok⟩ := v
        conv => cbv
        try dsimp only at hn
        rcases Bool.eq_false_or_eq_true ok with rfl | rfl <;> conv => cbv
        · refine r_append1 (n) m.sX rfl (by first | omega | (dsimp only; omega)) (by first | omega | (dsimp only; omega)) fun widths_2 hwidths_2 => ?_
          conv => cbv
          have lwidths_2 : (widths_2.length : Int) = widths.length + 1 := by rw [hwidths_2]; first | done | (simp; done) | (simp; omega)
          refine r_addf m.sX (by omega) (by omega) fun r1 hr1 => ?_
          conv => cbv
          try have tr1 : Int.toNat r1 = Int.toNat i1 + 1 := by omega
          refine hE _ (widths_2, r1) ?_ ?_ ⟨(by (try dsimp only); first | omega | (simp; omega)), (by (try dsimp only); first | omega | (simp; omega)), (by (try dsimp only) <;> (rw [q, wiG_ok _ hw hn, hwidths_2, tr1])), (by (try dsimp only) <;> (omega))⟩ (by first | omega | (dsimp only; omega))
          · cbv
          · cbv
        · refine hF _ _ ?_
          conv => cbv
          exact hQ (.tup [.fr 3 1 [], .bool false]) (Eq.trans (by first | rfl | (simp only [lb, lbI, rows_cons, rows_nil, unnilT, unnil, unnilTI, unnilI]; try rfl)) (congrArg ((lb 3 1 cInt)) (show ([], false) = bwA f words (rA, rB, rC) measure from by first | (rw [bw_long (by omega)]; done) | (rw [bwA, q, wiG_no _ hw hn, if_neg (by simp)]; done) | (rw [bwA, q, wiG_end _ (by omega), if_pos ⟨by omega, rfl⟩]; dsimp only; rw [← hbreaks]; done))))
      · have dz_i1 := drop_end (xs := words) (i := Int.toNat i1) (by omega)
        have tz_i1 := take_end (xs := words) (i := Int.toNat i1) (by omega)
        refine hF _ _ ?_
        conv => cbv
        refine .inl (r_callFO (lic 3 1 cInt) m.sX ((BestBreaks_ok widths (rA, rB, rC) measure).ok (flat_lic flat_cInt)) fun v hbreaks => ?_)
        obtain ⟨breaks, v1, ok_2⟩ := v
        conv => cbv
        try dsimp only at hbreaks
        exact hQ (.tup [.fr 3 1 (rows cInt breaks), .bool ok_2]) (Eq.trans (by first | rfl | (simp only [lb, lbI, rows_cons, rows_nil, unnilT, unnil, unnilTI, unnilI]; try rfl)) (congrArg ((lb 3 1 cInt)) (show (breaks, ok_2) = bwA f words (rA, rB, rC) measure from by first | (rw [bw_long (by omega)]; done) | (rw [bwA, q, wiG_no _ hw hn, if_neg (by simp)]; done) | (rw [bwA, q, wiG_end _ (by omega), if_pos ⟨by omega, rfl⟩]; dsimp only; rw [← hbreaks]; done)))))

theorem specBreakWords_ok (f : List FSort) (words : List (List UInt8)) (r : JRule) (measure : Int)  : OkA Try.prog 59 [.isl 2 (rows cSort f), .isl 1 (rows cStr words), .agg (cRule r), .int .i64 measure] (· = (lbI 1 cInt) (bwA f words r measure)) := by
  obtain ⟨rA, rB, rC⟩ := r
  try dsimp only at *
  exact OkA.iceI 1 (fn_intro envOk fieldsOk mixed Try.func59 rfl fun κ X Y L Q m hQ => by
    conv => cbv
    refine r_callB m.sX (tyFont_ok f) (fun h1 => ?_) (fun h1 => ?_) <;> conv => cbv
    · refine r_callB m.sX (tyWords_ok words) (fun h2 => ?_) (fun h2 => ?_) <;> conv => cbv
      · have ow1 := (okWords_spec h2).1
        try dsimp only at ow1
        have ow2 := (okWords_spec h2).2
        try dsimp only at ow2
        refine r_callF (lbI 1 cInt) m.sX ((juWidths_ok f words h1 ow1 (by omega)).ice) fun v hwidths => ?_
        obtain ⟨widths, ok⟩ := v
        conv => cbv
        try dsimp only at hwidths
        have we := wdG_wiG h1 words [] ow1
        try dsimp only at we
        rw [← hwidths] at we
        rcases Bool.eq_false_or_eq_true ok with rfl | rfl <;> conv => cbv
        · refine r_callB m.sX (paAsked_ok widths (rA, rB, rC) measure) (fun h3 => ?_) (fun h3 => ?_) <;> conv => cbv
          · have hp := askP_in h3
            try dsimp only at hp
            refine r_callF (licI 1 cInt) m.sX (paBest_ok widths (rA, rB, rC) measure 0 (by first | rfl | assumption | omega | (simp at *; omega)) (by first | rfl | assumption | omega | (simp at *; omega))) fun v hbreaks => ?_
            obtain ⟨breaks, v1, fine⟩ := v
            conv => cbv
            try dsimp only at hbreaks
            exact hQ (.tup [.isl 1 (rows cInt breaks), .bool fine]) (Eq.trans (by first | rfl | (simp only [lb, lbI, rows_cons, rows_nil, unnilT, unnil, unnilTI, unnilI]; try rfl)) (congrArg ((lbI 1 cInt)) (show (breaks, fine) = bwA f words (rA, rB, rC) measure from by have bf := bw_few f words (rA, rB, rC) measure (by rw [← we]) (by rw [← we]; exact h3); rw [bwA, ← we, if_pos ⟨bf, rfl⟩]; dsimp only; rw [best_eq h3, show bestF widths (rA, rB, rC) measure (-1) = bestF widths (rA, rB, rC) measure (md 0 0) from rfl, ← hbreaks])))
          · exact hQ (.tup [.nil, .bool false]) (Eq.trans (by first | rfl | (simp only [lb, lbI, rows_cons, rows_nil, unnilT, unnil, unnilTI, unnilI]; try rfl)) (congrArg ((lbI 1 cInt)) (show ([], false) = bwA f words (rA, rB, rC) measure from by rw [bw_ask (by rw [← we]; exact h3)])))
        · exact hQ (.tup [.nil, .bool false]) (Eq.trans (by first | rfl | (simp only [lb, lbI, rows_cons, rows_nil, unnilT, unnil, unnilTI, unnilI]; try rfl)) (congrArg ((lbI 1 cInt)) (show ([], false) = bwA f words (rA, rB, rC) measure from by rw [bwA, ← we, if_neg (by simp)])))
      · exact hQ (.tup [.nil, .bool false]) (Eq.trans (by first | rfl | (simp only [lb, lbI, rows_cons, rows_nil, unnilT, unnil, unnilTI, unnilI]; try rfl)) (congrArg ((lbI 1 cInt)) (show ([], false) = bwA f words (rA, rB, rC) measure from by rw [bw_guard (by rw [h2]; simp)])))
    · exact hQ (.tup [.nil, .bool false]) (Eq.trans (by first | rfl | (simp only [lb, lbI, rows_cons, rows_nil, unnilT, unnil, unnilTI, unnilI]; try rfl)) (congrArg ((lbI 1 cInt)) (show ([], false) = bwA f words (rA, rB, rC) measure from by rw [bw_guard (by rw [h1]; simp)]))))


end Go.Proofs.Ytiaodmfipeoegaa.Ai
