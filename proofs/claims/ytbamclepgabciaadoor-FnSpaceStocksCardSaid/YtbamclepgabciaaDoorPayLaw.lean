/- Plain laws on filling a width with pieces: least numbers of pieces, greatest counts. -/
import Derived.Test.YtbamclepgabciaaDoorCommon
namespace Go.Proofs.YtbamclepgabciaaDoor.Ai
open Go Go.Proofs
set_option linter.unusedSimpArgs false
set_option linter.unusedVariables false

/-- Least number of at least 0 with a property, or -1. -/
def IsMin (S : Int → Prop) (v : Int) : Prop := (v = -1 ∧ ∀ x, 0 ≤ x → ¬ S x) ∨ (0 ≤ v ∧ S v ∧ ∀ x, 0 ≤ x → S x → v ≤ x)
theorem IsMin.uniq {S : Int → Prop} {u v : Int} (h : IsMin S u) (h' : IsMin S v) : u = v := by
  rcases h with ⟨h1, h2⟩ | ⟨h1, h2, h3⟩ <;> rcases h' with ⟨h4, h5⟩ | ⟨h4, h5, h6⟩
  · omega
  · exact absurd h5 (h2 v h4)
  · exact absurd h2 (h5 u h1)
  · have := h3 v h4 h5; have := h6 u h1 h2; omega
theorem IsMin.congr {S S' : Int → Prop} {v : Int} (e : ∀ x, 0 ≤ x → (S x ↔ S' x)) (h : IsMin S v) : IsMin S' v := by
  rcases h with ⟨h1, h2⟩ | ⟨h1, h2, h3⟩
  · exact .inl ⟨h1, fun x hx hs => h2 x hx ((e x hx).2 hs)⟩
  · exact .inr ⟨h1, (e v h1).1 h2, fun x hx hs => h3 x hx ((e x hx).2 hs)⟩
theorem isMin_ex (S : Int → Prop) : ∃ v, IsMin S v := by
  by_cases h : ∃ x, 0 ≤ x ∧ S x
  · obtain ⟨x, hx, hs⟩ := h
    have go : ∀ (k : Nat) (y : Int), 0 ≤ y → y ≤ k → S y → ∃ v, IsMin S v := by
      intro k
      induction k with
      | zero => exact fun y h0 h1 hy => ⟨y, .inr ⟨h0, hy, fun z hz _ => by omega⟩⟩
      | succ k ih =>
        intro y h0 h1 hy
        by_cases hb : ∃ z : Int, 0 ≤ z ∧ z ≤ k ∧ S z
        · obtain ⟨z, a, b, c⟩ := hb
          exact ih z a b c
        · exact ⟨y, .inr ⟨h0, hy, fun z hz hs => by
            rcases Int.lt_or_le k z with hlt | hle
            · omega
            · exact absurd ⟨z, hz, hle, hs⟩ hb⟩⟩
    exact go x.toNat x hx (by omega) hs
  · exact ⟨-1, .inl ⟨rfl, fun x hx hs => h ⟨x, hx, hs⟩⟩⟩
noncomputable def minOf (S : Int → Prop) : Int := Classical.choose (isMin_ex S)
theorem minOf_spec (S : Int → Prop) : IsMin S (minOf S) := Classical.choose_spec (isMin_ex S)
theorem minOf_eq {S : Int → Prop} {v : Int} (h : IsMin S v) : v = minOf S := h.uniq (minOf_spec S)
theorem IsMin.ge {S : Int → Prop} {v : Int} (h : IsMin S v) : -1 ≤ v := by rcases h with ⟨h1, _⟩ | ⟨h1, _⟩ <;> omega
theorem IsMin.pos {S : Int → Prop} {v : Int} (h : IsMin S v) : 0 ≤ v ↔ ∃ x, 0 ≤ x ∧ S x := by
  rcases h with ⟨h1, h2⟩ | ⟨h1, h2, h3⟩
  · exact ⟨fun h => by omega, fun ⟨x, hx, hs⟩ => absurd hs (h2 x hx)⟩
  · exact ⟨fun _ => ⟨v, h1, h2⟩, fun _ => h1⟩
theorem IsMin.mem {S : Int → Prop} {v : Int} (h : IsMin S v) (hv : 0 ≤ v) : S v := by
  rcases h with ⟨h1, h2⟩ | ⟨h1, h2, h3⟩
  · omega
  · exact h2
theorem IsMin.le {S : Int → Prop} {v x : Int} (h : IsMin S v) (hx : 0 ≤ x) (hs : S x) : 0 ≤ v ∧ v ≤ x := by
  rcases h with ⟨h1, h2⟩ | ⟨h1, h2, h3⟩
  · exact absurd hs (h2 x hx)
  · exact ⟨h1, h3 x hx hs⟩
theorem isMin_none : IsMin (fun _ => False) (-1) := .inl ⟨rfl, fun _ _ h => h⟩
/-- One more that may be taken. -/
theorem IsMin.add {S : Int → Prop} {v y : Int} (h : IsMin S v) (hy : 0 ≤ y) : IsMin (fun x => S x ∨ x = y) (if v < 0 ∨ y < v then y else v) := by
  rcases h with ⟨h1, h2⟩ | ⟨h1, h2, h3⟩
  · rw [if_pos (by omega)]
    exact .inr ⟨hy, .inr rfl, fun x hx hs => by
      rcases hs with hs | hs
      · exact absurd hs (h2 x hx)
      · omega⟩
  · split
    · exact .inr ⟨hy, .inr rfl, fun x hx hs => by
        rcases hs with hs | hs
        · have := h3 x hx hs; omega
        · omega⟩
    · exact .inr ⟨h1, .inl h2, fun x hx hs => by
        rcases hs with hs | hs
        · exact h3 x hx hs
        · omega⟩

/-- Pieces out of a stock: (width, number there); the last kind comes first. -/
def Can : List (Int × Int) → Int → Int → Prop
  | [], n, x => n = 0 ∧ x = 0
  | p :: r, n, x => ∃ m, 0 ≤ m ∧ m ≤ p.2 ∧ Can r (n - m * p.1) (x - m)
noncomputable def fewC (l : List (Int × Int)) (n : Int) : Int := minOf (Can l n)

theorem can_pos : ∀ {l : List (Int × Int)} {n x : Int}, (∀ p ∈ l, 1 ≤ p.1) → Can l n x → 0 ≤ x ∧ x ≤ n
  | [], n, x, _, h => by obtain ⟨h1, h2⟩ := h; omega
  | p :: r, n, x, hl, ⟨m, h0, h1, h2⟩ => by
    have h3 := can_pos (fun q hq => hl q (by simp [hq])) h2
    have h4 := hl p (by simp)
    have h5 : m * 1 ≤ m * p.1 := Int.mul_le_mul_of_nonneg_left h4 h0
    omega
theorem fewC_nil (n : Int) : fewC [] n = if n = 0 then 0 else -1 := by
  refine (minOf_eq ?_).symm
  split
  · rename_i h
    exact .inr ⟨Int.le_refl _, ⟨h, rfl⟩, fun x hx _ => hx⟩
  · rename_i h
    exact .inl ⟨rfl, fun x _ hs => h hs.1⟩
/-- What one more kind may do. -/
def Cand (r : List (Int × Int)) (w s n : Int) (t : Int) (x : Int) : Prop := ∃ m, 0 ≤ m ∧ m < t ∧ m ≤ s ∧ 0 ≤ fewC r (n - m * w) ∧ x = fewC r (n - m * w) + m
theorem fewC_cons {r : List (Int × Int)} {w s n t v : Int} (hr : ∀ p ∈ r, 1 ≤ p.1) (hw : 1 ≤ w) (ht : s < t ∨ n < t * w) (h : IsMin (Cand r w s n t) v) : v = fewC ((w, s) :: r) n := by
  refine minOf_eq ?_
  have up : ∀ x, 0 ≤ x → Cand r w s n t x → Can ((w, s) :: r) n x := fun x hx ⟨m, h0, h1, h2, h3, h4⟩ =>
    ⟨m, h0, h2, by rw [h4, Int.add_sub_cancel]; exact (minOf_spec (Can r (n - m * w))).mem h3⟩
  have dn : ∀ x, 0 ≤ x → Can ((w, s) :: r) n x → ∃ y, 0 ≤ y ∧ y ≤ x ∧ Cand r w s n t y := fun x hx ⟨m, h0, h1, h2⟩ => by
    have h3 := can_pos hr h2
    have h4 := (minOf_spec (Can r (n - m * w))).le h3.1 h2
    refine ⟨fewC r (n - m * w) + m, by show 0 ≤ minOf _ + m; omega, by show minOf _ + m ≤ x; omega, m, h0, ?_, h1, h4.1, rfl⟩
    rcases ht with ht | ht
    · dsimp only at h1; omega
    · have h5 : m * w < t * w := by dsimp only at h3; omega
      exact Int.lt_of_mul_lt_mul_right h5 (by omega)
  rcases h with ⟨h1, h2⟩ | ⟨h1, h2, h3⟩
  · exact .inl ⟨h1, fun x hx hs => by obtain ⟨y, a, _, b⟩ := dn x hx hs; exact h2 y a b⟩
  · exact .inr ⟨h1, up v h1 h2, fun x hx hs => by obtain ⟨y, a, b, c⟩ := dn x hx hs; have := h3 y a c; omega⟩
theorem cand_zero (r : List (Int × Int)) (w s n : Int) : IsMin (Cand r w s n 0) (-1) := .inl ⟨rfl, fun x _ ⟨m, h0, h1, _⟩ => by omega⟩
theorem cand_skip {r : List (Int × Int)} {w s n t v : Int} (h : IsMin (Cand r w s n t) v) (hf : fewC r (n - t * w) < 0) : IsMin (Cand r w s n (t + 1)) v :=
  h.congr fun x hx => ⟨fun ⟨m, a, b, c⟩ => ⟨m, a, by omega, c⟩, fun ⟨m, a, b, c, d, e⟩ => ⟨m, a, by
    rcases Int.lt_or_le m t with h1 | h1
    · exact h1
    · rw [show m = t by omega] at d; omega, c, d, e⟩⟩
theorem cand_take {r : List (Int × Int)} {w s n t v : Int} (h : IsMin (Cand r w s n t) v) (ht : 0 ≤ t ∧ t ≤ s) (hf : 0 ≤ fewC r (n - t * w)) :
    IsMin (Cand r w s n (t + 1)) (if v < 0 ∨ fewC r (n - t * w) + t < v then fewC r (n - t * w) + t else v) :=
  (h.add (y := fewC r (n - t * w) + t) (by omega)).congr fun x hx => ⟨fun hs => by
    rcases hs with ⟨m, a, b, c⟩ | hs
    · exact ⟨m, a, by omega, c⟩
    · exact ⟨t, ht.1, by omega, ht.2, hf, hs⟩, fun ⟨m, a, b, c, d, e⟩ => by
    rcases Int.lt_or_le m t with h1 | h1
    · exact .inl ⟨m, a, h1, c, d, e⟩
    · rw [show m = t by omega] at e; exact .inr e⟩

/-- The kinds before the i-th, the last one first. -/
def pre (ws ss : List Int) (i : Nat) : List (Int × Int) := ((ws.zip ss).take i).reverse
theorem pre_succ {ws ss : List Int} {i : Nat} {w s : Int} (hw : ws[i]? = some w) (hs : ss[i]? = some s) : pre ws ss (i + 1) = (w, s) :: pre ws ss i := by
  unfold pre
  rw [List.take_add_one, List.reverse_append]
  rw [show (ws.zip ss)[i]? = some (w, s) from List.getElem?_zip_eq_some.2 ⟨hw, hs⟩]; rfl
theorem pre_mem {ws ss : List Int} {i : Nat} {p : Int × Int} (h : p ∈ pre ws ss i) : p.1 ∈ ws ∧ p.2 ∈ ss := by
  unfold pre at h
  exact List.of_mem_zip (List.mem_of_mem_take (List.mem_reverse.1 h))
/-- A row of the table: the least numbers of pieces for 0 .. n. -/
noncomputable def rowC (l : List (Int × Int)) (n : Int) : List Int := (List.range (n + 1).toNat).map fun k : Nat => fewC l k
theorem rowC_length (l : List (Int × Int)) (n : Int) : (rowC l n).length = (n + 1).toNat := by simp [rowC]
theorem rowC_nth {l : List (Int × Int)} {n : Int} {k : Nat} (h : (k : Int) ≤ n) : nth (rowC l n) k = fewC l k := by
  rw [nth, rowC, List.getElem?_map, List.getElem?_range (by omega)]; rfl
theorem rowC_start (l : List (Int × Int)) : rowC l (0 - 1) = [] := by simp [rowC]
theorem rowC_next {l : List (Int × Int)} {k k' v : Int} {zs : List Int} (h0 : 0 ≤ k) (e : k' = k + 1) (hv : v = fewC l k) : rowC l (k - 1) ++ v :: zs = rowC l (k' - 1) ++ zs := by
  subst e
  rw [rowC, rowC, show (k - 1 + 1).toNat = k.toNat by omega, show (k + 1 - 1 + 1).toNat = k.toNat + 1 by omega, List.range_succ, List.map_append, List.append_assoc, hv, show (fewC l k) = fewC l ((k.toNat : Nat) : Int) by rw [Int.toNat_of_nonneg h0]]
  rfl
theorem rowC_first (m : Nat) : 0 :: List.replicate m 0 = rowC [] (1 - 1) ++ List.replicate m 0 := by
  have := rowC_next (l := []) (k := 0) (k' := 1) (v := 0) (zs := List.replicate m 0) (by omega) rfl (by rw [fewC_nil]; rfl)
  rwa [rowC_start] at this
theorem rowC_zeros (l : List (Int × Int)) (m : Nat) : List.replicate m 0 = rowC l (0 - 1) ++ List.replicate m 0 := by rw [rowC_start]; rfl
theorem rowC_mid {l : List (Int × Int)} {k n : Int} {v : Int} (h0 : 0 ≤ k) (h1 : k ≤ n) : (rowC l (k - 1) ++ List.replicate (n + 1 - k).toNat 0).set k.toNat v = rowC l (k - 1) ++ v :: List.replicate (n - k).toNat 0 := by
  rw [show (n + 1 - k).toNat = (n - k).toNat + 1 by omega, List.replicate_succ, set_mid (by rw [rowC_length]; omega)]
noncomputable def tabC (ws ss : List Int) (n : Int) : List (List Int) := (List.range (ws.length + 1)).map fun i => rowC (pre ws ss i) n

theorem tabC_next {ws ss : List Int} {n : Int} {i i' : Int} (h0 : 0 ≤ i) (e : i' = i + 1) :
    ((List.range (i.toNat + 1)).map fun j => rowC (pre ws ss j) n) ++ [rowC (pre ws ss (i.toNat + 1)) n] = (List.range (i'.toNat + 1)).map fun j => rowC (pre ws ss j) n := by
  rw [show i'.toNat = i.toNat + 1 by omega, List.range_succ (n := i.toNat + 1), List.map_append]; rfl
theorem tabC_get {ws ss : List Int} {n : Int} {m i : Nat} (h : i < m) : ((List.range m).map fun j => rowC (pre ws ss j) n)[i]? = some (rowC (pre ws ss i) n) := by
  rw [List.getElem?_map, List.getElem?_range h]; rfl
/-- Pieces without end. -/
inductive Pay (ks : List Int) : Int → Int → Prop
  | zero : Pay ks 0 0
  | step {n x : Int} (k : Int) (hk : k ∈ ks) (h : Pay ks n x) : Pay ks (n + k) (x + 1)
theorem Pay.pos {ks : List Int} (hk : ∀ k ∈ ks, 1 ≤ k) {n x : Int} (h : Pay ks n x) : 0 ≤ x ∧ x ≤ n := by
  induction h with
  | zero => omega
  | step k hm _ ih => have := hk k hm; omega
theorem Pay.mono {ks ks' : List Int} (hs : ∀ k ∈ ks, k ∈ ks') {n x : Int} (h : Pay ks n x) : Pay ks' n x := by
  induction h with
  | zero => exact .zero
  | step k hm _ ih => exact .step k (hs k hm) ih
theorem Pay.many {ks : List Int} {k : Int} (hk : k ∈ ks) {n x : Int} (h : Pay ks n x) : ∀ m : Nat, Pay ks (n + m * k) (x + m)
  | 0 => by simpa using h
  | m + 1 => by
    have := (Pay.many hk h m).step k hk
    rwa [show n + (m : Int) * k + k = n + ((m + 1 : Nat) : Int) * k by rw [Int.natCast_add, Int.add_mul]; simp [Int.add_assoc], show x + (m : Int) + 1 = x + ((m + 1 : Nat) : Int) by omega] at this
theorem Pay.split {w : Int} {r : List Int} {n x : Int} (h : Pay (w :: r) n x) : ∃ m, 0 ≤ m ∧ Pay r (n - m * w) (x - m) := by
  induction h with
  | zero => exact ⟨0, Int.le_refl _, by simpa using Pay.zero⟩
  | @step n x k hm _ ih =>
    obtain ⟨m, h0, h1⟩ := ih
    rcases List.mem_cons.1 hm with rfl | hm
    · refine ⟨m + 1, by omega, ?_⟩
      rwa [show n + k - (m + 1) * k = n - m * k by rw [Int.add_mul]; omega, show x + 1 - (m + 1) = x - m by omega]
    · refine ⟨m, h0, ?_⟩
      have := h1.step k hm
      rwa [show n - m * w + k = n + k - m * w by omega, show x - m + 1 = x + 1 - m by omega] at this
theorem can_pay {l : List (Int × Int)} {n x : Int} (h : Can l n x) : Pay (l.map Prod.fst) n x := by
  induction l generalizing n x with
  | nil => obtain ⟨rfl, rfl⟩ := h; exact .zero
  | cons p r ih =>
    obtain ⟨m, h0, h1, h2⟩ := h
    have := ((ih h2).mono (ks' := (p :: r).map Prod.fst) fun k hk => by simp only [List.map_cons, List.mem_cons]; exact .inr hk).many (k := p.1) (by simp) m.toNat
    rwa [Int.toNat_of_nonneg h0, show n - m * p.1 + m * p.1 = n by omega, show x - m + m = x by omega] at this
theorem pay_can {l : List (Int × Int)} (hw : ∀ p ∈ l, 1 ≤ p.1) {n x M : Int} (hs : ∀ p ∈ l, M ≤ p.2) (hn : n ≤ M) (h : Pay (l.map Prod.fst) n x) : Can l n x := by
  induction l generalizing n x with
  | nil =>
    cases h with
    | zero => exact ⟨rfl, rfl⟩
    | step k hk => simp at hk
  | cons p r ih =>
    obtain ⟨m, h0, h1⟩ := Pay.split h
    have h2 := hw p (by simp)
    have h3 := hs p (by simp)
    have h4 : m * 1 ≤ m * p.1 := Int.mul_le_mul_of_nonneg_left h2 h0
    have h5 := h1.pos (by
      intro k hk
      obtain ⟨q, hq, rfl⟩ := List.mem_map.1 hk
      exact hw q (by simp [hq]))
    exact ⟨m, h0, by omega, ih (fun q hq => hw q (by simp [hq])) (fun q hq => hs q (by simp [hq])) (by omega) h1⟩
noncomputable def fewP (ks : List Int) (n : Int) : Int := minOf (Pay ks n)
theorem fewP_spec (ks : List Int) (n : Int) : IsMin (Pay ks n) (fewP ks n) := minOf_spec _
theorem fewC_fewP {l : List (Int × Int)} (hw : ∀ p ∈ l, 1 ≤ p.1) {n M : Int} (hs : ∀ p ∈ l, M ≤ p.2) (hn : n ≤ M) : fewC l n = fewP (l.map Prod.fst) n :=
  (minOf_eq ((minOf_spec (Can l n)).congr fun x hx => ⟨can_pay, pay_can hw hs hn⟩))
theorem fewP_same {ks ks' : List Int} (h : ∀ k, k ∈ ks ↔ k ∈ ks') (n : Int) : fewP ks n = fewP ks' n :=
  minOf_eq ((fewP_spec ks n).congr fun x hx => ⟨Pay.mono fun k hk => (h k).1 hk, Pay.mono fun k hk => (h k).2 hk⟩)
theorem fewP_zero {ks : List Int} (hk : ∀ k ∈ ks, 1 ≤ k) : fewP ks 0 = 0 := by
  have h := (fewP_spec ks 0).le (Int.le_refl 0) .zero
  omega
theorem fewP_step {ks : List Int} {n k : Int} (hk : k ∈ ks) (h : 0 ≤ fewP ks n) : 0 ≤ fewP ks (n + k) ∧ fewP ks (n + k) ≤ fewP ks n + 1 :=
  (fewP_spec ks (n + k)).le (by omega) (((fewP_spec ks n).mem h).step k hk)
theorem fewP_many {ks : List Int} {n k m : Int} (hk : k ∈ ks) (hm : 0 ≤ m) (h : 0 ≤ fewP ks (n - m * k)) : 0 ≤ fewP ks n ∧ fewP ks n ≤ fewP ks (n - m * k) + m := by
  have := (fewP_spec ks n).le (x := fewP ks (n - m * k) + m) (by omega) (by
    have := ((fewP_spec ks (n - m * k)).mem h).many hk m.toNat
    rwa [Int.toNat_of_nonneg hm, show n - m * k + m * k = n by omega] at this)
  exact this
theorem fewP_le {ks ks' : List Int} {n : Int} (hs : ∀ k ∈ ks, k ∈ ks') (h : 0 ≤ fewP ks n) : 0 ≤ fewP ks' n ∧ fewP ks' n ≤ fewP ks n :=
  (fewP_spec ks' n).le h (((fewP_spec ks n).mem h).mono hs)
/-- A row of the table without stocks. -/
noncomputable def rowP (ks : List Int) (n : Int) : List Int := (List.range (n + 1).toNat).map fun k : Nat => fewP ks k
theorem rowP_length (ks : List Int) (n : Int) : (rowP ks n).length = (n + 1).toNat := by simp [rowP]
theorem rowP_nth {ks : List Int} {n : Int} {k : Nat} (h : (k : Int) ≤ n) : nth (rowP ks n) k = fewP ks k := by
  rw [nth, rowP, List.getElem?_map, List.getElem?_range (by omega)]; rfl
theorem rowP_next {ks : List Int} {k k' v : Int} {zs : List Int} (h0 : 0 ≤ k) (e : k' = k + 1) (hv : v = fewP ks k) : rowP ks (k - 1) ++ v :: zs = rowP ks (k' - 1) ++ zs := by
  subst e
  rw [rowP, rowP, show (k - 1 + 1).toNat = k.toNat by omega, show (k + 1 - 1 + 1).toNat = k.toNat + 1 by omega, List.range_succ, List.map_append, List.append_assoc, hv, show (fewP ks k) = fewP ks ((k.toNat : Nat) : Int) by rw [Int.toNat_of_nonneg h0]]
  rfl
theorem rowP_first {ks : List Int} (hk : ∀ k ∈ ks, 1 ≤ k) (m : Nat) : 0 :: List.replicate m 0 = rowP ks (1 - 1) ++ List.replicate m 0 := by
  have e : rowP ks (1 - 1) = [fewP ks 0] := by simp [rowP]
  have : fewP ks 0 = 0 := by
    have h := (fewP_spec ks 0).le (Int.le_refl 0) .zero
    omega
  rw [e, this]; rfl
theorem rowP_mid {ks : List Int} {k n : Int} {v : Int} (h0 : 0 ≤ k) (h1 : k ≤ n) : (rowP ks (k - 1) ++ List.replicate (n + 1 - k).toNat 0).set k.toNat v = rowP ks (k - 1) ++ v :: List.replicate (n - k).toNat 0 := by
  rw [show (n + 1 - k).toNat = (n - k).toNat + 1 by omega, List.replicate_succ, set_mid (by rw [rowP_length]; omega)]
/-- With stocks that suffice both rows are the same. -/
theorem rowC_rowP {l : List (Int × Int)} {ks : List Int} (hw : ∀ p ∈ l, 1 ≤ p.1) {n : Int} (hs : ∀ p ∈ l, n ≤ p.2) (hk : ∀ k, k ∈ l.map Prod.fst ↔ k ∈ ks) : rowC l n = rowP ks n := by
  rw [rowC, rowP]
  refine List.map_congr_left fun k hk' => ?_
  have hlt := List.mem_range.1 hk'
  rw [fewC_fewP hw hs (by omega)]
  exact fewP_same hk _
/-- The last piece. -/
def Last (ks done : List Int) (n : Int) (x : Int) : Prop := ∃ k, k ∈ done ∧ 0 ≤ fewP ks (n - k) ∧ x = fewP ks (n - k) + 1
theorem fewP_last {ks : List Int} (hk : ∀ k ∈ ks, 1 ≤ k) {n v : Int} (hn : 1 ≤ n) (h : IsMin (Last ks ks n) v) : v = fewP ks n := by
  refine minOf_eq ?_
  have up : ∀ x, 0 ≤ x → Last ks ks n x → Pay ks n x := fun x hx ⟨k, h1, h2, h3⟩ => by
    have := ((fewP_spec ks (n - k)).mem h2).step k h1
    rwa [← h3, show n - k + k = n by omega] at this
  have dn : ∀ x, 0 ≤ x → Pay ks n x → ∃ y, 0 ≤ y ∧ y ≤ x ∧ Last ks ks n y := fun x hx hp => by
    cases hp with
    | zero => omega
    | @step n' x' k h1 h2 =>
      have h3 := h2.pos hk
      have h4 := (fewP_spec ks n').le h3.1 h2
      exact ⟨fewP ks n' + 1, by omega, by omega, k, h1, by rw [show n' + k - k = n' by omega]; exact h4.1, by rw [show n' + k - k = n' by omega]⟩
  rcases h with ⟨h1, h2⟩ | ⟨h1, h2, h3⟩
  · exact .inl ⟨h1, fun x hx hs => by obtain ⟨y, a, _, b⟩ := dn x hx hs; exact h2 y a b⟩
  · exact .inr ⟨h1, up v h1 h2, fun x hx hs => by obtain ⟨y, a, b, c⟩ := dn x hx hs; have := h3 y a c; omega⟩
theorem last_nil (ks : List Int) (n : Int) : IsMin (Last ks [] n) (-1) := .inl ⟨rfl, fun x _ ⟨k, h, _⟩ => by simp at h⟩
theorem last_skip {ks done : List Int} {n v k : Int} (h : IsMin (Last ks done n) v) (hf : fewP ks (n - k) < 0) : IsMin (Last ks (done ++ [k]) n) v :=
  h.congr fun x hx => ⟨fun ⟨j, a, b⟩ => ⟨j, by simp [a], b⟩, fun ⟨j, a, b, c⟩ => by
    rcases List.mem_append.1 a with a | a
    · exact ⟨j, a, b, c⟩
    · rw [List.mem_singleton.1 a] at b; omega⟩
theorem last_take {ks done : List Int} {n v k : Int} (h : IsMin (Last ks done n) v) (hf : 0 ≤ fewP ks (n - k)) : IsMin (Last ks (done ++ [k]) n) (if v < 0 ∨ fewP ks (n - k) + 1 < v then fewP ks (n - k) + 1 else v) :=
  (h.add (y := fewP ks (n - k) + 1) (by omega)).congr fun x hx => ⟨fun hs => by
    rcases hs with ⟨j, a, b⟩ | hs
    · exact ⟨j, by simp [a], b⟩
    · exact ⟨k, by simp, hf, hs⟩, fun ⟨j, a, b, c⟩ => by
    rcases List.mem_append.1 a with a | a
    · exact .inl ⟨j, a, b, c⟩
    · rw [List.mem_singleton.1 a] at c; exact .inr c⟩
theorem fewP_neg {ks : List Int} (hk : ∀ k ∈ ks, 1 ≤ k) {n : Int} (hn : n < 0) : fewP ks n = -1 := by
  rcases fewP_spec ks n with ⟨h, _⟩ | ⟨h1, h2, _⟩
  · exact h
  · have := h2.pos hk; omega
theorem fewP_bound {ks : List Int} (hk : ∀ k ∈ ks, 1 ≤ k) {n : Int} (hn : 0 ≤ n) : -1 ≤ fewP ks n ∧ fewP ks n ≤ n := by
  rcases fewP_spec ks n with ⟨h, _⟩ | ⟨h1, h2, _⟩
  · omega
  · have := h2.pos hk; omega
theorem fewC_bound {l : List (Int × Int)} (hk : ∀ p ∈ l, 1 ≤ p.1) {n : Int} (hn : 0 ≤ n) : -1 ≤ fewC l n ∧ fewC l n ≤ n := by
  rcases minOf_spec (Can l n) with ⟨h, _⟩ | ⟨h1, h2, _⟩
  · rw [fewC]; omega
  · have := can_pos hk h2; rw [fewC]; omega

/-- The greatest number up to a bound with a property, or 0. -/
def down (p : Int → Bool) : Nat → Int
  | 0 => 0
  | k + 1 => if p ((k : Int) + 1) then (k : Int) + 1 else down p k
theorem down_spec {p : Int → Bool} {hi : Nat} {m : Int} (h0 : 0 ≤ m) (h1 : m ≤ hi) (hp : p m = true) : p (down p hi) = true ∧ m ≤ down p hi ∧ down p hi ≤ hi := by
  induction hi with
  | zero => rw [show m = 0 by omega] at hp; exact ⟨hp, by simp [down]; omega, by simp [down]⟩
  | succ k ih =>
    simp only [down]
    split
    · rename_i h; exact ⟨h, by omega, by omega⟩
    · rename_i h
      rcases Int.lt_or_le (k : Int) m with h2 | h2
      · rw [show m = (k : Int) + 1 by omega] at hp; exact absurd hp h
      · obtain ⟨a, b, c⟩ := ih h2
        exact ⟨a, b, by omega⟩
theorem down_eq {p : Int → Bool} {hi : Nat} {m : Int} (h0 : 0 ≤ m) (h1 : m ≤ hi) (hp : p m = true ∨ m = 0) (hn : ∀ j, m < j → j ≤ hi → p j = false) : down p hi = m := by
  induction hi with
  | zero => simp [down]; omega
  | succ k ih =>
    simp only [down]
    rcases Int.lt_or_le (k : Int) m with h2 | h2
    · rcases hp with hp | hp
      · rw [show (k : Int) + 1 = m by omega, if_pos hp]
      · omega
    · rw [if_neg (by simp [hn ((k : Int) + 1) (by omega) (by omega)])]
      exact ih h2 fun j a b => hn j a (by omega)
end Go.Proofs.YtbamclepgabciaaDoor.Ai
