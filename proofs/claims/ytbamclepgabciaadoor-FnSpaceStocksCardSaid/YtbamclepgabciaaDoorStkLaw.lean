/- Plain laws of stocks of spaces. -/
import Derived.Test.YtbamclepgabciaaDoorPayLaw2
import Derived.Lib.ItoaLen
namespace Go.Proofs.YtbamclepgabciaaDoor.Ai
open Go Go.Proofs
set_option linter.unusedSimpArgs false
set_option linter.unusedVariables false

/-! ### What can be filled -/
theorem fewC_iff {r : List (Int × Int)} {w s n t : Int} (hr : ∀ p ∈ r, 1 ≤ p.1) (hw : 1 ≤ w) (ht : s < t ∨ n < t * w) : 0 ≤ fewC ((w, s) :: r) n ↔ ∃ m, 0 ≤ m ∧ m < t ∧ m ≤ s ∧ 0 ≤ fewC r (n - m * w) := by
  have h := minOf_spec (Cand r w s n t)
  have e := fewC_cons hr hw ht h
  rw [← e, h.pos]
  constructor
  · rintro ⟨x, -, m, a, b, c, d, -⟩
    exact ⟨m, a, b, c, d⟩
  · rintro ⟨m, a, b, c, d⟩
    exact ⟨fewC r (n - m * w) + m, by omega, m, a, b, c, d, rfl⟩
theorem fewC_neg {l : List (Int × Int)} (hl : ∀ p ∈ l, 1 ≤ p.1) {n : Int} (h : 0 ≤ fewC l n) : 0 ≤ n := by
  have := can_pos hl ((minOf_spec (Can l n)).mem h)
  omega
noncomputable def rowB (l : List (Int × Int)) (n : Int) : List Bool := (List.range (n + 1).toNat).map fun k : Nat => decide (0 ≤ fewC l k)
theorem rowB_length (l : List (Int × Int)) (n : Int) : (rowB l n).length = (n + 1).toNat := by simp [rowB]
theorem rowB_at {l : List (Int × Int)} {n : Int} {k : Nat} (h : (k : Int) ≤ n) : (rowB l n)[k]? = some (decide (0 ≤ fewC l k)) := by
  rw [rowB, List.getElem?_map, List.getElem?_range (by omega)]; rfl
theorem rowB_start (l : List (Int × Int)) : rowB l (0 - 1) = [] := by simp [rowB]
theorem rowB_next {l : List (Int × Int)} {k k' : Int} {b : Bool} {zs : List Bool} (h0 : 0 ≤ k) (e : k' = k + 1) (hb : b = decide (0 ≤ fewC l k)) : rowB l (k - 1) ++ b :: zs = rowB l (k' - 1) ++ zs := by
  have e1 : (k - 1 + 1).toNat = k.toNat := by omega
  have e2 : (k' - 1 + 1).toNat = k.toNat + 1 := by omega
  have e3 : ((k.toNat : Nat) : Int) = k := by omega
  rw [rowB, rowB, e1, e2, List.range_succ, List.map_append, List.append_assoc, List.map_cons, List.map_nil, e3, ← hb]; rfl
theorem rowB_zeros (l : List (Int × Int)) (m : Nat) : List.replicate m false = rowB l (0 - 1) ++ List.replicate m false := by rw [rowB_start]; rfl
theorem rowB_open {l : List (Int × Int)} {k n : Int} (h1 : k ≤ n) : rowB l (k - 1) ++ List.replicate (n + 1 - k).toNat false = rowB l (k - 1) ++ false :: List.replicate (n - k).toNat false := by
  rw [show (n + 1 - k).toNat = (n - k).toNat + 1 by omega, List.replicate_succ]
theorem mid_at {a : List Bool} {b : Bool} {c : List Bool} {k : Nat} (h : a.length = k) : (a ++ b :: c)[k]? = some b := by rw [List.getElem?_append_right (by omega)]; simp [h]
theorem mid_set {a : List Bool} {b v : Bool} {c : List Bool} {k : Nat} (h : a.length = k) : (a ++ b :: c).set k v = a ++ v :: c := by
  rw [List.set_append_right _ _ (by omega)]; simp [h]
theorem rowB_first {n : Int} (h : 0 ≤ n) : (List.replicate (n + 1).toNat false).set 0 true = rowB [] n := by
  apply List.ext_getElem?
  intro k
  rcases Nat.lt_or_ge k (n + 1).toNat with hk | hk
  · rw [rowB_at (by omega), fewC_nil]
    cases k with
    | zero => rw [List.getElem?_set_self (by simp; omega)]; simp
    | succ k => rw [List.getElem?_set_ne (by omega), List.getElem?_replicate, if_pos hk, if_neg (by omega)]; simp
  · rw [List.getElem?_eq_none (by simp; omega), List.getElem?_eq_none (by rw [rowB_length]; omega)]
noncomputable def tabB (ws ss : List Int) (n : Int) (i : Nat) : List (List Bool) := (List.range (i + 1)).map fun j => rowB (pre ws ss j) n
theorem tabB_length (ws ss : List Int) (n : Int) (i : Nat) : (tabB ws ss n i).length = i + 1 := by simp [tabB]
theorem tabB_next (ws ss : List Int) (n : Int) (i : Nat) : tabB ws ss n i ++ [rowB (pre ws ss (i + 1)) n] = tabB ws ss n (i + 1) := by rw [tabB, tabB, List.range_succ (n := i + 1), List.map_append]; rfl
theorem tabB_at {ws ss : List Int} {n : Int} {i j : Nat} (h : j ≤ i) : (tabB ws ss n i)[j]? = some (rowB (pre ws ss j) n) := by
  rw [tabB, List.getElem?_map, List.getElem?_range (by omega)]; rfl

/-! ### The greatest count of each kind, from the last one on -/
noncomputable def topB (r : List (Int × Int)) (w n m : Int) : Bool := decide (0 ≤ fewC r (n - m * w))
noncomputable def topC : List (Int × Int) → Int → List Int
  | [], _ => []
  | (w, s) :: r, n => down (topB r w n) (min s (n / w)).toNat :: topC r (n - down (topB r w n) (min s (n / w)).toNat * w)
theorem topC_length : ∀ (l : List (Int × Int)) (n : Int), (topC l n).length = l.length
  | [], _ => rfl
  | (w, s) :: r, n => by simp [topC, topC_length r]
/-- There is a count. -/
theorem top_ex {r : List (Int × Int)} {w s n : Int} (hr : ∀ p ∈ r, 1 ≤ p.1) (hw : 1 ≤ w) (h : 0 ≤ fewC ((w, s) :: r) n) : ∃ m, 0 ≤ m ∧ m ≤ min s (n / w) ∧ topB r w n m = true := by
  obtain ⟨m, a, -, c, d⟩ := (fewC_iff hr hw (t := s + 1) (.inl (by omega))).1 h
  have := fewC_neg hr d
  refine ⟨m, a, ?_, decide_eq_true d⟩
  have : m ≤ n / w := (Int.le_ediv_iff_mul_le (by omega)).2 (by omega)
  omega
theorem top_down {r : List (Int × Int)} {w s n : Int} (hr : ∀ p ∈ r, 1 ≤ p.1) (hw : 1 ≤ w) (h : 0 ≤ fewC ((w, s) :: r) n) :
    0 ≤ fewC r (n - down (topB r w n) (min s (n / w)).toNat * w) ∧ 0 ≤ down (topB r w n) (min s (n / w)).toNat ∧ down (topB r w n) (min s (n / w)).toNat ≤ s := by
  obtain ⟨m, a, b, c⟩ := top_ex hr hw h
  obtain ⟨d, e, f⟩ := down_spec (hi := (min s (n / w)).toNat) a (by omega) c
  exact ⟨of_decide_eq_true d, by omega, by omega⟩
theorem topC_spec : ∀ {l : List (Int × Int)} {n : Int}, (∀ p ∈ l, 1 ≤ p.1) → 0 ≤ fewC l n → dot (topC l n) (l.map Prod.fst) = n ∧ (∀ (i : Nat) (x : Int) (p : Int × Int), (topC l n)[i]? = some x → l[i]? = some p → 0 ≤ x ∧ x ≤ p.2)
  | [], n, _, h => by
    rw [fewC_nil] at h
    refine ⟨?_, fun i x p hx hp => by simp at hp⟩
    simp only [topC, List.map_nil, dot]
    split at h <;> omega
  | (w, s) :: r, n, hl, h => by
    have hr : ∀ p ∈ r, 1 ≤ p.1 := fun p hp => hl p (by simp [hp])
    have hw : 1 ≤ w := hl (w, s) (by simp)
    obtain ⟨h1, h2, h3⟩ := top_down hr hw h
    obtain ⟨i1, i2⟩ := topC_spec hr h1
    refine ⟨?_, fun i x p hx hp => ?_⟩
    · simp only [topC, List.map_cons, dot]
      rw [i1]; omega
    · cases i with
      | zero =>
        simp [topC] at hx hp
        subst hx hp
        exact ⟨h2, h3⟩
      | succ i => exact i2 i x p (by simpa [topC] using hx) (by simpa using hp)
/-- One more count is known. -/
theorem top_step {ws ss : List Int} {n0 n c : Int} {k : Nat} {w s : Int} {D out : List Int} (hw : ws[k]? = some w) (hs : ss[k]? = some s) (hr : ∀ p ∈ pre ws ss k, 1 ≤ p.1)
    (ho : out = List.replicate (k + 1) 0 ++ D) (hD : (topC (pre ws ss ws.length) n0).reverse = (topC (pre ws ss (k + 1)) n).reverse ++ D)
    (hc : c = down (topB (pre ws ss k) w n) (min s (n / w)).toNat) :
    out.set k c = List.replicate k 0 ++ c :: D ∧ (topC (pre ws ss ws.length) n0).reverse = (topC (pre ws ss k) (n - c * w)).reverse ++ c :: D := by
  refine ⟨?_, ?_⟩
  · rw [ho, List.replicate_succ', List.append_assoc, List.set_append_right _ _ (by simp)]
    simp
  · rw [hD, pre_succ hw hs, topC, ← hc, List.reverse_cons, List.append_assoc]; rfl
/-- Counts of kinds that are kinds. -/
def okCn (ks cs : List Int) : Bool := okK ks && (allB cs 0 400 && decide (cs.length = ks.length))
theorem okCn_spec {ks cs : List Int} (h : okCn ks cs = true) : (∀ c ∈ cs, 0 ≤ c ∧ c ≤ 400) ∧ cs.length = ks.length := by
  simp only [okCn, Bool.and_eq_true, decide_eq_true_eq] at h
  exact ⟨allB_mem h.2.1, h.2.2⟩
theorem okCn_kinds {ks cs : List Int} (h : okCn ks cs = true) : (∀ k ∈ ks, 1 ≤ k ∧ k ≤ 54) ∧ (ks.length : Int) ≤ 6 := by
  have h1 : okF ks 0 = true := by
    simp only [okCn, Bool.and_eq_true] at h
    rw [okF, h.1]; rfl
  exact ⟨(okF_spec h1).2.1, (okF_spec h1).1.2⟩
theorem okCn_of {ks cs : List Int} {n : Int} (h : okF ks n = true) : okCn ks cs = (allB cs 0 400 && decide (cs.length = ks.length)) := by
  simp only [okF, Bool.and_eq_true] at h
  rw [okCn, h.1, Bool.true_and]
noncomputable def stkF (ks ss : List Int) (n : Int) : List Int × Bool :=
  if okF ks n && okCn ks ss && decide (0 ≤ fewC (pre ks ss ks.length) n) then ((topC (pre ks ss ks.length) n).reverse, true) else ([], false)

/-! ### The least count of the thinnest kind -/
def Thin (ks : List Int) (n m : Int) : Prop := 0 ≤ fewP (ks.drop 1) (n - m * nth ks 0)
noncomputable def thinF (ks : List Int) (n : Int) : Int × Bool :=
  if okF ks n && decide (0 ≤ minOf (Thin ks n)) then (minOf (Thin ks n), true) else (0, false)
theorem thin_at {ks : List Int} {n m : Int} (h0 : 0 ≤ m) (ht : Thin ks n m) (hn : ∀ j, 0 ≤ j → j < m → ¬ Thin ks n j) : minOf (Thin ks n) = m := by
  symm
  exact minOf_eq (.inr ⟨h0, ht, fun x hx hs => by
    rcases Int.lt_or_le x m with h | h
    · exact absurd hs (hn x hx h)
    · exact h⟩)
theorem thin_none {ks : List Int} {n : Int} (hn : ∀ j, 0 ≤ j → ¬ Thin ks n j) : minOf (Thin ks n) < 0 := by
  have : -1 = minOf (Thin ks n) := minOf_eq (.inl ⟨rfl, fun x hx => hn x hx⟩)
  omega
/-- There is a count of the thinnest kind just if there is a filling. -/
theorem thin_iff {k : Int} {r : List Int} {n : Int} (hk : ∀ x ∈ k :: r, 1 ≤ x) : 0 ≤ minOf (Thin (k :: r) n) ↔ 0 ≤ fewP (k :: r) n := by
  rw [(minOf_spec (Thin (k :: r) n)).pos, (fewP_spec (k :: r) n).pos]
  constructor
  · rintro ⟨m, h0, h⟩
    have h' : 0 ≤ fewP r (n - m * k) := h
    obtain ⟨x, hx, hp⟩ := (fewP_spec r (n - m * k)).pos.1 h'
    have := (hp.mono (ks' := k :: r) fun y hy => List.mem_cons_of_mem _ hy).many (k := k) (by simp) m.toNat
    rw [Int.toNat_of_nonneg h0, show n - m * k + m * k = n by omega] at this
    exact ⟨_, by omega, this⟩
  · rintro ⟨x, hx, hp⟩
    obtain ⟨m, h0, h1⟩ := Pay.split hp
    have := h1.pos (fun y hy => hk y (List.mem_cons_of_mem _ hy))
    exact ⟨m, h0, ((fewP_spec r (n - m * k)).pos.2 ⟨x - m, by omega, h1⟩)⟩
theorem pay_dot : ∀ {ks cs : List Int}, cs.length = ks.length → (∀ c ∈ cs, 0 ≤ c) → ∃ x, Pay ks (dot cs ks) x
  | [], [], _, _ => ⟨0, .zero⟩
  | k :: r, c :: q, h, hc => by
    obtain ⟨x, hx⟩ := pay_dot (ks := r) (cs := q) (by simpa using h) fun y hy => hc y (List.mem_cons_of_mem _ hy)
    have := (hx.mono (ks' := k :: r) fun y hy => List.mem_cons_of_mem _ hy).many (k := k) (by simp) c.toNat
    rw [Int.toNat_of_nonneg (hc c (by simp))] at this
    exact ⟨_, by rw [dot, show c * k + dot q r = dot q r + c * k by omega]; exact this⟩
  | [], _ :: _, h, _ => by simp at h
  | _ :: _, [], h, _ => by simp at h

/-! ### Counts as text -/
def pcs : List (Int × Int) → List UInt8
  | [] => []
  | (k, c) :: r => (if 0 < c then [43] ++ Lib.itoa c ++ [120] ++ Lib.itoa k else []) ++ pcs r
def stxF (ks cs : List Int) : List UInt8 × Bool :=
  if okCn ks cs then (if pcs (pre ks cs ks.length) = [] then [48] else (pcs (pre ks cs ks.length)).drop 1, true) else ([], false)
/-- What is told so far: pieces, each with a sign ahead of it; the first sign is left out. -/
theorem pcs_step {ks cs : List Int} {i : Nat} {k c : Int} {S : List UInt8} (hk : ks[i]? = some k) (hc : cs[i]? = some c) (h : pcs (pre ks cs ks.length) = S ++ pcs (pre ks cs (i + 1))) :
    pcs (pre ks cs ks.length) = (S ++ (if 0 < c then [43] ++ Lib.itoa c ++ [120] ++ Lib.itoa k else [])) ++ pcs (pre ks cs i) := by
  rw [h, pre_succ hk hc, pcs]; exact (List.append_assoc _ _ _).symm
def TxtSt (ks cs : List Int) (j : Nat) (text : List UInt8) : Prop := ∃ S, pcs (pre ks cs ks.length) = S ++ pcs (pre ks cs j) ∧ text = S.drop 1 ∧ (text = [] → S = [])
theorem txt_start {ks cs : List Int} {j : Nat} (h : j = ks.length) : TxtSt ks cs j [] := ⟨[], by rw [h]; rfl, rfl, fun _ => rfl⟩
theorem txt_zero {ks cs : List Int} {i j j' : Nat} {text : List UInt8} {k c : Int} (hk : ks[i]? = some k) (hc : cs[i]? = some c) (h0 : c ≤ 0) (hj : j = i + 1) (hj' : j' = i) (h : TxtSt ks cs j text) : TxtSt ks cs j' text := by
  subst hj hj'
  obtain ⟨S, h1, h2, h3⟩ := h
  refine ⟨S, ?_, h2, h3⟩
  have := pcs_step hk hc h1
  rwa [if_neg (by omega), List.append_nil] at this
theorem txt_more {ks cs : List Int} {i j j' : Nat} {text t2 : List UInt8} {k c : Int} (hk : ks[i]? = some k) (hc : cs[i]? = some c) (h0 : 0 < c) (hj : j = i + 1) (hj' : j' = i) (h : TxtSt ks cs j text) (hn : text ≠ [])
    (h2 : t2 = (text ++ [43]) ++ ((Lib.itoa c ++ [120]) ++ Lib.itoa k)) : TxtSt ks cs j' t2 := by
  subst hj hj'
  obtain ⟨S, h1, h3, h4⟩ := h
  have := pcs_step hk hc h1
  rw [if_pos h0] at this
  have hS : 1 ≤ S.length := by
    cases S with
    | nil => rw [List.drop_nil] at h3; exact absurd h3 hn
    | cons _ _ => simp
  refine ⟨_, this, ?_, fun e => ?_⟩
  · rw [h2, h3, List.drop_append_of_le_length hS]; simp
  · rw [h2] at e; simp at e
theorem txt_first {ks cs : List Int} {i j j' : Nat} {text t2 : List UInt8} {k c : Int} (hk : ks[i]? = some k) (hc : cs[i]? = some c) (h0 : 0 < c) (hj : j = i + 1) (hj' : j' = i) (h : TxtSt ks cs j text) (hn : text = [])
    (h2 : t2 = text ++ ((Lib.itoa c ++ [120]) ++ Lib.itoa k)) : TxtSt ks cs j' t2 := by
  subst hj hj'
  obtain ⟨S, h1, h3, h4⟩ := h
  have := pcs_step hk hc h1
  rw [if_pos h0, h4 hn] at this
  refine ⟨_, this, ?_, fun e => ?_⟩
  · rw [h2, hn]; simp
  · rw [h2] at e; simp at e
theorem txt_end {ks cs : List Int} {j : Nat} {text : List UInt8} (hj : j = 0) (h : TxtSt ks cs j text) (hok : okCn ks cs = true) : stxF ks cs = (if text = [] then [48] else text, true) := by
  subst hj
  obtain ⟨S, h1, h3, h4⟩ := h
  have e : pcs (pre ks cs ks.length) = S := by rw [h1]; simp [pre, pcs]
  rw [stxF, if_pos hok, e]
  by_cases ht : text = []
  · rw [h4 ht, if_pos rfl, if_pos ht]
  · have : S ≠ [] := fun e' => ht (by rw [h3, e']; rfl)
    rw [if_neg this, if_neg ht, h3]
def StxSt (ks cs : List Int) (j : Nat) (s : List UInt8) : Prop := pcs (pre ks cs ks.length) = s ++ pcs (pre ks cs j)
theorem stx_start {ks cs : List Int} {j : Nat} (h : j = ks.length) : StxSt ks cs j [] := by rw [StxSt, h]; rfl
theorem stx_zero {ks cs : List Int} {i j j' : Nat} {s : List UInt8} {k c : Int} (hk : ks[i]? = some k) (hc : cs[i]? = some c) (h0 : c ≤ 0) (hj : j = i + 1) (hj' : j' = i) (h : StxSt ks cs j s) : StxSt ks cs j' s := by
  subst hj hj'
  have := pcs_step hk hc h
  rwa [if_neg (by omega), List.append_nil] at this
theorem stx_more {ks cs : List Int} {i j j' : Nat} {s t2 : List UInt8} {k c : Int} (hk : ks[i]? = some k) (hc : cs[i]? = some c) (h0 : 0 < c) (hj : j = i + 1) (hj' : j' = i) (h : StxSt ks cs j s)
    (h2 : t2 = s ++ ((([43] ++ Lib.itoa c) ++ [120]) ++ Lib.itoa k)) : StxSt ks cs j' t2 := by
  subst hj hj'
  have := pcs_step hk hc h
  rw [if_pos h0] at this
  rw [StxSt, h2]; exact this
theorem stx_end {ks cs : List Int} {j : Nat} {s : List UInt8} (hj : j = 0) (h : StxSt ks cs j s) (hok : okCn ks cs = true) : stxF ks cs = (if s = [] then [48] else s.drop 1, true) := by
  subst hj
  have e : pcs (pre ks cs ks.length) = s := by rw [StxSt] at h; rw [h]; simp [pre, pcs]
  rw [stxF, if_pos hok, e]

/-! ### The reference's table of what can be filled -/
theorem can_keep {P : Int → Prop} {c c' s : Int} (hc : c' = c + 1) (h : ∃ m, 0 ≤ m ∧ m < c ∧ m ≤ s ∧ P m) : ∃ m, 0 ≤ m ∧ m < c' ∧ m ≤ s ∧ P m := by
  obtain ⟨m, h1, h2, h3⟩ := h
  exact ⟨m, h1, by omega, h3⟩
theorem can_more {P : Int → Prop} {b b' : Bool} {c c' s : Int} (hb : b = false) (h : b = true ↔ ∃ m, 0 ≤ m ∧ m < c ∧ m ≤ s ∧ P m) (hb' : b' = true ↔ P c) (h0 : 0 ≤ c) (hs : c ≤ s) (hc : c' = c + 1) : b' = true ↔ ∃ m, 0 ≤ m ∧ m < c' ∧ m ≤ s ∧ P m := by
  rw [hb']
  constructor
  · intro hp; exact ⟨c, h0, by omega, hs, hp⟩
  · rintro ⟨m, h1, h2, h3, h4⟩
    rcases Int.lt_or_le m c with h5 | h5
    · have := h.2 ⟨m, h1, h5, h3, h4⟩
      rw [hb] at this; cases this
    · rwa [show c = m by omega]
theorem can_end {ws ss : List Int} {i : Nat} {w s x c : Int} {b : Bool} (hw : ws[i]? = some w) (hs : ss[i]? = some s) (hr : ∀ p ∈ pre ws ss i, 1 ≤ p.1) (h1 : 1 ≤ w) (ht : s < c ∨ x < c * w)
    (h : b = true ↔ ∃ m, 0 ≤ m ∧ m < c ∧ m ≤ s ∧ 0 ≤ fewC (pre ws ss i) (x - m * w)) : b = decide (0 ≤ fewC (pre ws ss (i + 1)) x) := by
  rw [pre_succ hw hs]
  exact Bool.eq_iff_iff.2 (h.trans ((fewC_iff hr h1 ht).symm.trans decide_eq_true_iff.symm))
noncomputable def stkW (ks ss : List Int) (n : Int) : List Int × Bool := if 0 ≤ fewC (pre ks ss ks.length) n then ((topC (pre ks ss ks.length) n).reverse, true) else ([], false)
noncomputable def cRunB (x : List Bool) : List PV := [.fr 4 1 (rows cBool x)]
end Go.Proofs.YtbamclepgabciaaDoor.Ai
