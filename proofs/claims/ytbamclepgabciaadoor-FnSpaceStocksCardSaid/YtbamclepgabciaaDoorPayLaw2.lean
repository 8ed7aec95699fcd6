/- Plain laws on filling a width with pieces: the counts, the numbers of ways. -/
import Derived.Test.YtbamclepgabciaaDoorPayLaw
namespace Go.Proofs.YtbamclepgabciaaDoor.Ai
open Go Go.Proofs
set_option linter.unusedSimpArgs false
set_option linter.unusedVariables false

/-- Whether m of the last kind is a best choice. -/
noncomputable def best (r : List (Int × Int)) (w s n m : Int) : Bool := decide (0 ≤ fewC r (n - m * w)) && decide (fewC r (n - m * w) + m = fewC ((w, s) :: r) n)
/-- How many of each kind, the last kind first: as many as can be of each. -/
noncomputable def cntC : List (Int × Int) → Int → List Int
  | [], _ => []
  | (w, s) :: r, n => down (best r w s n) (min s (n / w)).toNat :: cntC r (n - down (best r w s n) (min s (n / w)).toNat * w)
theorem cntC_length : ∀ (l : List (Int × Int)) (n : Int), (cntC l n).length = l.length
  | [], _ => rfl
  | (w, s) :: r, n => by simp [cntC, cntC_length r]
theorem best_ex {r : List (Int × Int)} {w s n : Int} (hr : ∀ p ∈ r, 1 ≤ p.1) (hw : 1 ≤ w) (h : 0 ≤ fewC ((w, s) :: r) n) : ∃ m, 0 ≤ m ∧ m ≤ min s (n / w) ∧ best r w s n m = true := by
  have hc := minOf_spec (Can ((w, s) :: r) n)
  obtain ⟨m, h0, h1, h2⟩ := hc.mem h
  have h3 := can_pos hr h2
  have h4 := (minOf_spec (Can r (n - m * w))).le h3.1 h2
  have h5 : Can ((w, s) :: r) n (fewC r (n - m * w) + m) := ⟨m, h0, h1, by rw [Int.add_sub_cancel]; exact (minOf_spec (Can r (n - m * w))).mem h4.1⟩
  have h6 := hc.le (x := fewC r (n - m * w) + m) (by have : 0 ≤ fewC r (n - m * w) := h4.1; omega) h5
  refine ⟨m, h0, ?_, ?_⟩
  · have : m ≤ n / w := by
      rw [Int.le_ediv_iff_mul_le (by omega)]
      dsimp only at h3
      omega
    dsimp only at h1
    omega
  · have e1 : 0 ≤ fewC r (n - m * w) := h4.1
    have e2 : fewC r (n - m * w) + m ≤ fewC ((w, s) :: r) n := by
      have : fewC r (n - m * w) ≤ minOf (Can ((w, s) :: r) n) - m := h4.2
      have e3 : fewC ((w, s) :: r) n = minOf (Can ((w, s) :: r) n) := rfl
      omega
    have e4 : fewC ((w, s) :: r) n ≤ fewC r (n - m * w) + m := h6.2
    simp only [best, Bool.and_eq_true, decide_eq_true_eq]
    omega
theorem best_down {r : List (Int × Int)} {w s n : Int} (hr : ∀ p ∈ r, 1 ≤ p.1) (hw : 1 ≤ w) (h : 0 ≤ fewC ((w, s) :: r) n) :
    best r w s n (down (best r w s n) (min s (n / w)).toNat) = true ∧ 0 ≤ down (best r w s n) (min s (n / w)).toNat ∧ down (best r w s n) (min s (n / w)).toNat ≤ min s (n / w) := by
  obtain ⟨m, h0, h1, h2⟩ := best_ex hr hw h
  obtain ⟨a, b, c⟩ := down_spec (hi := (min s (n / w)).toNat) h0 (by omega) h2
  exact ⟨a, by omega, by omega⟩
theorem best_spec {r : List (Int × Int)} {w s n m : Int} (h : best r w s n m = true) : 0 ≤ fewC r (n - m * w) ∧ fewC r (n - m * w) + m = fewC ((w, s) :: r) n := by
  simpa only [best, Bool.and_eq_true, decide_eq_true_eq] using h
def dot : List Int → List Int → Int
  | x :: xs, y :: ys => x * y + dot xs ys
  | _, _ => 0
theorem dot_append : ∀ {a b a' b' : List Int}, a.length = b.length → dot (a ++ a') (b ++ b') = dot a b + dot a' b'
  | [], [], a', b', _ => by simp [dot]
  | x :: xs, y :: ys, a', b', h => by
    simp only [List.cons_append, dot, dot_append (a := xs) (b := ys) (by simpa using h)]; omega
  | [], y :: ys, _, _, h => by simp at h
  | x :: xs, [], _, _, h => by simp at h
theorem dot_reverse : ∀ {a b : List Int}, a.length = b.length → dot a.reverse b.reverse = dot a b
  | [], [], _ => rfl
  | x :: xs, y :: ys, h => by
    have h' : xs.length = ys.length := by simpa using h
    rw [List.reverse_cons, List.reverse_cons, dot_append (by simpa using h'), dot_reverse h']
    simp [dot]; omega
  | [], y :: ys, h => by simp at h
  | x :: xs, [], h => by simp at h
theorem cntC_dot : ∀ {l : List (Int × Int)} {n : Int}, (∀ p ∈ l, 1 ≤ p.1) → 0 ≤ fewC l n → dot (cntC l n) (l.map Prod.fst) = n
  | [], n, _, h => by
    rw [fewC_nil] at h
    simp only [cntC, List.map_nil, dot]
    split at h <;> omega
  | (w, s) :: r, n, hl, h => by
    have hr : ∀ p ∈ r, 1 ≤ p.1 := fun p hp => hl p (by simp [hp])
    have hw : 1 ≤ w := hl (w, s) (by simp)
    obtain ⟨h1, h2, h3⟩ := best_down hr hw h
    simp only [cntC, List.map_cons, dot]
    rw [cntC_dot hr (best_spec h1).1]
    omega
theorem cntC_mem : ∀ {l : List (Int × Int)} {n : Int}, (∀ p ∈ l, 1 ≤ p.1) → 0 ≤ fewC l n → ∀ x ∈ cntC l n, 0 ≤ x ∧ x ≤ n
  | [], n, _, h, x, hx => by simp [cntC] at hx
  | (w, s) :: r, n, hl, h, x, hx => by
    have hr : ∀ p ∈ r, 1 ≤ p.1 := fun p hp => hl p (by simp [hp])
    have hw : 1 ≤ w := hl (w, s) (by simp)
    obtain ⟨h1, h2, h3⟩ := best_down hr hw h
    have hp := can_pos hl ((minOf_spec (Can ((w, s) :: r) n)).mem h)
    have e1 : n / w ≤ n := Int.ediv_le_self w (by omega)
    simp only [cntC, List.mem_cons] at hx
    rcases hx with rfl | hx
    · omega
    · have := cntC_mem hr (best_spec h1).1 x hx
      have := Int.mul_nonneg h2 (show 0 ≤ w by omega)
      omega
/-- At most as many as there are. -/
theorem cntC_stock : ∀ {l : List (Int × Int)} {n : Int}, (∀ p ∈ l, 1 ≤ p.1) → 0 ≤ fewC l n → ∀ (i : Nat) (x : Int) (p : Int × Int), (cntC l n)[i]? = some x → l[i]? = some p → 0 ≤ x ∧ x ≤ p.2
  | [], n, _, h, i, x, p, hx, hp => by simp at hp
  | (w, s) :: r, n, hl, h, i, x, p, hx, hp => by
    have hr : ∀ p ∈ r, 1 ≤ p.1 := fun p hp => hl p (by simp [hp])
    have hw : 1 ≤ w := hl (w, s) (by simp)
    obtain ⟨h1, h2, h3⟩ := best_down hr hw h
    cases i with
    | zero =>
      simp [cntC] at hx hp
      subst hx hp
      dsimp only
      omega
    | succ i =>
      simp [cntC] at hx hp
      exact cntC_stock hr (best_spec h1).1 i x p hx hp

/-! ### Numbers of ways -/
def accW (f : Int → Int) (k : Int) : Nat → Int → Int
  | 0, _ => 0
  | t + 1, n => f n + accW f k t (n - k)
def wayW : List Int → Int → Int
  | [], n => if n = 0 then 1 else 0
  | k :: r, n => accW (wayW r) k (n / k + 1).toNat n
theorem wayW_low {k : Int} {r : List Int} {n : Int} (h0 : 0 ≤ n) (h : n < k) : wayW (k :: r) n = wayW r n := by
  have e : n / k = 0 := Int.ediv_eq_zero_of_lt h0 h
  simp [wayW, e, accW]
theorem wayW_high {k : Int} {r : List Int} {n : Int} (hk : 1 ≤ k) (h : k ≤ n) : wayW (k :: r) n = wayW r n + wayW (k :: r) (n - k) := by
  have e : n / k = (n - k) / k + 1 := by
    have := Int.sub_ediv_of_dvd n (Int.dvd_refl k)
    rw [this, Int.ediv_self (by omega)]; omega
  have e1 : 0 ≤ (n - k) / k := Int.ediv_nonneg (by omega) (by omega)
  simp only [wayW]
  rw [e, show ((n - k) / k + 1 + 1).toNat = ((n - k) / k + 1).toNat + 1 by omega, accW]
theorem accW_bound {f : Int → Int} {k M N : Int} (hk : 1 ≤ k) (hM : 0 ≤ M) (hf : ∀ m, 0 ≤ m → m ≤ N → 0 ≤ f m ∧ f m ≤ M) : ∀ (t : Nat) (n : Int), n ≤ N → (t : Int) * k ≤ n + k → 0 ≤ accW f k t n ∧ accW f k t n ≤ t * M
  | 0, n, _, _ => by simp [accW]
  | t + 1, n, hn, ht => by
    have e1 : ((t + 1 : Nat) : Int) * k = t * k + k := by rw [Int.natCast_add, Int.add_mul]; simp
    have e2 : ((t + 1 : Nat) : Int) * M = t * M + M := by rw [Int.natCast_add, Int.add_mul]; simp
    have h0 : 0 ≤ (t : Int) * k := Int.mul_nonneg (by omega) (by omega)
    have h1 := hf n (by omega) hn
    have h2 := accW_bound hk hM hf t (n - k) (by omega) (by omega)
    rw [accW, e2]
    omega
theorem wayW_bound : ∀ {ks : List Int} {n : Int}, (∀ k ∈ ks, 1 ≤ k) → 0 ≤ n → n ≤ 400 → 0 ≤ wayW ks n ∧ wayW ks n ≤ 401 ^ ks.length
  | [], n, _, _, _ => by simp only [wayW]; split <;> simp
  | k :: r, n, hk, h0, h1 => by
    have hk1 := hk k (by simp)
    have hr : ∀ k ∈ r, 1 ≤ k := fun j hj => hk j (by simp [hj])
    have hM : (0 : Int) ≤ 401 ^ r.length := Int.pow_nonneg (by omega)
    have hb := accW_bound (f := wayW r) (N := 400) hk1 hM (fun m a b => wayW_bound hr a b) (n / k + 1).toNat n h1 (by
      have := Int.ediv_nonneg h0 (show 0 ≤ k by omega)
      rw [Int.toNat_of_nonneg (by omega), Int.add_mul]
      have := Int.ediv_mul_le n (show k ≠ 0 by omega)
      omega)
    have h2 : ((n / k + 1).toNat : Int) ≤ 401 := by
      have := Int.ediv_le_self k h0
      omega
    have h3 : ((n / k + 1).toNat : Int) * 401 ^ r.length ≤ 401 * 401 ^ r.length := Int.mul_le_mul_of_nonneg_right h2 hM
    rw [List.length_cons, Int.pow_succ, Int.mul_comm]
    simp only [wayW]
    omega
theorem accW_pos {f : Int → Int} {k : Int} (hf : ∀ m, 0 ≤ f m) : ∀ (t : Nat) (n : Int), 0 ≤ accW f k t n ∧ (0 < accW f k t n ↔ ∃ m : Nat, m < t ∧ 0 < f (n - m * k))
  | 0, n => by simp [accW]
  | t + 1, n => by
    obtain ⟨h1, h2⟩ := accW_pos (k := k) hf t (n - k)
    have h3 := hf n
    refine ⟨by rw [accW]; omega, ⟨fun h => ?_, fun ⟨m, a, b⟩ => ?_⟩⟩
    · rw [accW] at h
      rcases Int.lt_or_le 0 (f n) with h4 | h4
      · exact ⟨0, by omega, by simpa using h4⟩
      · obtain ⟨m, a, b⟩ := h2.1 (by omega)
        refine ⟨m + 1, by omega, ?_⟩
        rwa [show n - ((m + 1 : Nat) : Int) * k = n - k - m * k by rw [Int.natCast_add, Int.add_mul]; omega]
    · rw [accW]
      cases m with
      | zero => simp at b; omega
      | succ m =>
        have := h2.2 ⟨m, by omega, by rwa [show n - k - (m : Int) * k = n - ((m + 1 : Nat) : Int) * k by rw [Int.natCast_add, Int.add_mul]; omega]⟩
        omega
theorem wayW_nonneg : ∀ (ks : List Int) (n : Int), 0 ≤ wayW ks n
  | [], n => by simp only [wayW]; split <;> simp
  | k :: r, n => (accW_pos (wayW_nonneg r) _ _).1
theorem wayW_pos : ∀ {ks : List Int} {n : Int}, (∀ k ∈ ks, 1 ≤ k) → 0 ≤ n → (0 < wayW ks n ↔ ∃ x, 0 ≤ x ∧ Pay ks n x)
  | [], n, _, _ => by
    simp only [wayW]
    constructor
    · intro h
      split at h
      · rename_i e; subst e; exact ⟨0, Int.le_refl _, .zero⟩
      · omega
    · rintro ⟨x, hx, hp⟩
      cases hp with
      | zero => simp
      | step k hk => simp at hk
  | k :: r, n, hk, h0 => by
    have hk1 := hk k (by simp)
    have hr : ∀ k ∈ r, 1 ≤ k := fun j hj => hk j (by simp [hj])
    show 0 < accW (wayW r) k (n / k + 1).toNat n ↔ _
    rw [(accW_pos (wayW_nonneg r) _ _).2]
    constructor
    · rintro ⟨m, a, b⟩
      have h1 : (m : Int) ≤ n / k := by omega
      have h2 : (m : Int) * k ≤ n := (Int.le_ediv_iff_mul_le (by omega)).1 h1
      obtain ⟨x, hx, hp⟩ := (wayW_pos hr (show 0 ≤ n - m * k by omega)).1 b
      have := (hp.mono (ks' := k :: r) fun j hj => by simp [hj]).many (k := k) (by simp) m
      exact ⟨x + m, by omega, by rwa [show n - (m : Int) * k + m * k = n by omega] at this⟩
    · rintro ⟨x, hx, hp⟩
      obtain ⟨m, h1, h2⟩ := hp.split
      have h3 := h2.pos hr
      refine ⟨m.toNat, ?_, ?_⟩
      · have : m ≤ n / k := (Int.le_ediv_iff_mul_le (by omega)).2 (by omega)
        omega
      · rw [Int.toNat_of_nonneg h1]
        exact (wayW_pos hr (by omega)).2 ⟨x - m, h3.1, h2⟩
/-- The row while one kind is added: its places below x are done. -/
def mixW (w : Int) (r : List Int) (x n : Int) : List Int := (List.range (n + 1).toNat).map fun j : Nat => if (j : Int) < x then wayW (w :: r) j else wayW r j
def rowW (r : List Int) (n : Int) : List Int := (List.range (n + 1).toNat).map fun j : Nat => wayW r j
theorem mixW_first (w : Int) (r : List Int) (n : Int) : rowW r n = mixW w r w n := by
  refine List.map_congr_left fun j hj => ?_
  split
  · rw [wayW_low (by omega) (by assumption)]
  · rfl
theorem mixW_last {w x n : Int} (r : List Int) (h : n < x) : mixW w r x n = rowW (w :: r) n := by
  refine List.map_congr_left fun j hj => ?_
  have := List.mem_range.1 hj
  rw [if_pos (by omega)]
theorem mixW_length (w : Int) (r : List Int) (x n : Int) : (mixW w r x n).length = (n + 1).toNat := by simp [mixW]
theorem rowW_length (r : List Int) (n : Int) : (rowW r n).length = (n + 1).toNat := by simp [rowW]
theorem mixW_nth {w x n : Int} {r : List Int} {j : Nat} (h : (j : Int) ≤ n) : nth (mixW w r x n) j = if (j : Int) < x then wayW (w :: r) j else wayW r j := by
  rw [nth, mixW, List.getElem?_map, List.getElem?_range (by omega)]; rfl
theorem rowW_nth {n : Int} {r : List Int} {j : Nat} (h : (j : Int) ≤ n) : nth (rowW r n) j = wayW r j := by
  rw [nth, rowW, List.getElem?_map, List.getElem?_range (by omega)]; rfl
theorem rowW_first {n : Int} (h : 0 ≤ n) : (List.replicate (n.toNat + 1) (0 : Int)).set (Int.toNat 0) 1 = rowW [] n := by
  rw [rowW, show (n + 1).toNat = n.toNat + 1 by omega, List.range_succ_eq_map, List.map_cons, List.replicate_succ, show Int.toNat 0 = 0 from rfl, List.set_cons_zero, List.map_map]
  refine congr (congrArg List.cons (by simp [wayW])) ?_
  refine List.ext_getElem? fun j => ?_
  rw [List.getElem?_map, List.getElem?_replicate]
  rcases Nat.lt_or_ge j n.toNat with hj | hj
  · rw [if_pos hj, List.getElem?_range hj]
    simp [wayW]
  · rw [if_neg (by omega), List.getElem?_eq_none (by simpa using hj)]; rfl
theorem mixW_set {w x n v : Int} {r : List Int} (h0 : 0 ≤ x) (h : x ≤ n) (hv : v = wayW (w :: r) x) : (mixW w r x n).set x.toNat v = mixW w r (x + 1) n := by
  refine List.ext_getElem? fun j => ?_
  rw [List.getElem?_set, mixW_length, mixW, mixW, List.getElem?_map, List.getElem?_map]
  rcases Nat.lt_or_ge j (n + 1).toNat with h1 | h1
  · rw [List.getElem?_range h1]
    split
    · rename_i e; obtain rfl := e
      simp only [Option.map_some]
      rw [if_pos (by omega), if_pos (by omega), hv, Int.toNat_of_nonneg h0]
    · simp only [Option.map_some]
      by_cases h2 : (j : Int) < x
      · rw [if_pos h2, if_pos (by omega)]
      · rw [if_neg h2, if_neg (by omega)]
  · rw [List.getElem?_eq_none (by simpa using h1), if_neg (show ¬ x.toNat = j by omega)]
    rfl
/-- Places of a list with a property. -/
def markL (p : Int → Bool) : Int → List Int → List Int
  | _, [] => []
  | k, j :: r => if p j then k :: markL p (k + 1) r else markL p (k + 1) r
theorem markL_none {p : Int → Bool} : ∀ {c : List Int} {k : Int}, (∀ j ∈ c, p j = false) → markL p k c = []
  | [], _, _ => rfl
  | j :: r, k, h => by
    rw [markL, h j (by simp)]
    exact markL_none fun x hx => h x (by simp [hx])
theorem markL_append (p : Int → Bool) : ∀ (a b : List Int) (k : Int), markL p k (a ++ b) = markL p k a ++ markL p (k + a.length) b
  | [], b, k => by simp [markL]
  | j :: r, b, k => by
    simp only [List.cons_append, markL, markL_append p r b, List.length_cons]
    rw [show k + 1 + (r.length : Int) = k + ((r.length + 1 : Nat) : Int) by omega]
    split <;> rfl
theorem markL_mem {p : Int → Bool} : ∀ {c : List Int} {k x : Int}, x ∈ markL p k c → k ≤ x ∧ x < k + c.length ∧ p (nth c (x - k).toNat) = true
  | [], k, x, h => by simp [markL] at h
  | j :: r, k, x, h => by
    simp only [markL] at h
    have up : x ∈ markL p (k + 1) r → k ≤ x ∧ x < k + ((j :: r).length : Nat) ∧ p (nth (j :: r) (x - k).toNat) = true := fun h => by
      obtain ⟨a, b, c⟩ := markL_mem h
      refine ⟨by omega, by simp only [List.length_cons]; omega, ?_⟩
      rw [show (x - k).toNat = (x - (k + 1)).toNat + 1 by omega]
      simpa [nth] using c
    split at h
    · rcases List.mem_cons.1 h with rfl | h
      · refine ⟨Int.le_refl _, by simp only [List.length_cons]; omega, ?_⟩
        rename_i hj
        simpa [nth] using hj
      · exact up h
    · exact up h

/-! ### What the functions answer -/
theorem rising_all {lo hi : Int} : ∀ {p : Option Int} {xs : List Int}, rising lo hi p xs = true → ∀ x ∈ xs, lo ≤ x ∧ x ≤ hi
  | _, [], _, x, hx => by cases hx
  | p, y :: r, h, x, hx => by
    rw [rising_cons] at h
    simp only [Bool.and_eq_true] at h
    rcases List.mem_cons.1 hx with rfl | hx
    · have := h.1.1
      simp [inB] at this
      exact this
    · exact rising_all h.2 x hx

def okK (ks : List Int) : Bool := inB ks.length 1 6 && rising 1 54 none ks
def okF (ks : List Int) (n : Int) : Bool := okK ks && inB n 0 400
theorem okF_spec {ks : List Int} {n : Int} (h : okF ks n = true) : (1 ≤ (ks.length : Int) ∧ (ks.length : Int) ≤ 6) ∧ (∀ k ∈ ks, 1 ≤ k ∧ k ≤ 54) ∧ (0 ≤ n ∧ n ≤ 400) := by
  simp only [okF, okK, Bool.and_eq_true] at h
  exact ⟨inB_spec h.1.1, fun k hk => rising_all h.1.2 k hk, inB_spec h.2⟩
/-- Kinds of which there are enough. -/
def prF (ks : List Int) : List (Int × Int) := pre ks (List.replicate ks.length 400) ks.length
noncomputable def bestF (ks ss : List Int) (n : Int) : Option (List Int) := if fewC (pre ks ss ks.length) n < 0 then none else some (cntC (pre ks ss ks.length) n).reverse
noncomputable def fillF (ks : List Int) (n : Int) : List Int × Bool := if okF ks n && decide (0 ≤ fewC (prF ks) n) then ((cntC (prF ks) n).reverse, true) else ([], false)
noncomputable def canF (ks : List Int) (n : Int) : Bool × Bool := if okF ks n then (decide (0 ≤ fewC (prF ks) n), true) else (false, false)
noncomputable def missF (ks : List Int) (n : Int) : List Int × Bool := if okF ks n then (markL (fun x => decide (x < 0)) 0 (rowC (prF ks) n), true) else ([], false)
def waysF (ks : List Int) (n : Int) : Int × Bool := if okF ks n then (wayW ks.reverse n, true) else (0, false)
noncomputable def nearF (ks : List Int) (n : Int) : Int × Bool := if okF ks n then (down (fun m => decide (0 ≤ fewC (prF ks) m)) n.toNat, true) else (0, false)

theorem pre_rep (ks : List Int) (M : Int) (i : Nat) : (pre ks (List.replicate ks.length M) i).map Prod.fst = (ks.take i).reverse := by
  rw [pre, List.map_reverse, List.map_take, List.map_fst_zip (by simp)]
theorem pre_rep_mem {ks : List Int} {M : Int} {i : Nat} (hk : ∀ k ∈ ks, 1 ≤ k) : ∀ p ∈ pre ks (List.replicate ks.length M) i, 1 ≤ p.1 ∧ p.2 = M := fun p hp => by
  have := pre_mem hp
  exact ⟨hk _ this.1, (List.mem_replicate.1 this.2).2⟩
theorem fewC_pre {ks : List Int} (hk : ∀ k ∈ ks, 1 ≤ k) {n M : Int} (hn : n ≤ M) (i : Nat) : fewC (pre ks (List.replicate ks.length M) i) n = fewP (ks.take i) n := by
  rw [fewC_fewP (fun p hp => (pre_rep_mem hk p hp).1) (M := M) (fun p hp => by rw [(pre_rep_mem hk p hp).2]; exact Int.le_refl _) hn, pre_rep]
  exact fewP_same (fun k => List.mem_reverse) n
theorem fewC_prF {ks : List Int} (hk : ∀ k ∈ ks, 1 ≤ k) {n : Int} (hn : n ≤ 400) : fewC (prF ks) n = fewP ks n := by
  rw [prF, fewC_pre hk hn, List.take_length]
theorem rowC_prF {ks : List Int} (hk : ∀ k ∈ ks, 1 ≤ k) {n : Int} (hn : n ≤ 400) : rowC (prF ks) n = rowP ks n := by
  rw [rowC, rowP]
  refine List.map_congr_left fun k hk' => ?_
  have := List.mem_range.1 hk'
  exact fewC_prF hk (by omega)
/-- Less is not better with all kinds. -/
theorem fewP_rest {ks ks' : List Int} (hs : ∀ k ∈ ks', k ∈ ks) {n m w : Int} (hw : w ∈ ks) (hm : 0 ≤ m) (h0 : 0 ≤ fewP ks' (n - m * w)) (h : fewP ks' (n - m * w) + m = fewP ks n) : fewP ks (n - m * w) = fewP ks' (n - m * w) := by
  have h1 := fewP_le hs h0
  have h2 := fewP_many hw hm h1.1
  omega
theorem take_rev {ks : List Int} {i : Nat} {w : Int} (h : ks[i]? = some w) : (ks.take (i + 1)).reverse = w :: (ks.take i).reverse := by
  rw [List.take_add_one, h, List.reverse_append]; rfl
theorem way_small {r : List Int} (hk : ∀ k ∈ r, 1 ≤ k) (hl : r.length ≤ 6) {n : Int} (h0 : 0 ≤ n) (h1 : n ≤ 400) : 0 ≤ wayW r n ∧ wayW r n ≤ 10000000000000000 := by
  have h := wayW_bound hk h0 h1
  have e : (401 : Int) ^ r.length ≤ 401 ^ 6 := by
    have : r.length = 0 ∨ r.length = 1 ∨ r.length = 2 ∨ r.length = 3 ∨ r.length = 4 ∨ r.length = 5 ∨ r.length = 6 := by omega
    rcases this with e | e | e | e | e | e | e <;> rw [e] <;> decide
  have : (401 : Int) ^ 6 ≤ 10000000000000000 := by decide
  omega
end Go.Proofs.YtbamclepgabciaaDoor.Ai
