/- Plain laws on rules made of slips. -/
import Derived.Test.YtpjmpgbgglhoeaaPayLaw2
namespace Go.Proofs.Ytpjmpgbgglhoeaa.Ai
open Go Go.Proofs
set_option linter.unusedVariables false

/-- Length, count. -/
abbrev Slip := Int × Int
def cSlip (x : Slip) : List PV := [.int .i64 x.1, .int .i64 x.2]
theorem flat_cSlip : ∀ x, ∀ c ∈ cSlip x, flat c := fun x c hc => by
  simp only [cSlip, List.mem_cons, List.not_mem_nil, or_false] at hc
  rcases hc with rfl | rfl <;> trivial
/-- Two rows that are handed back. -/
noncomputable def ll {α : Type} (e n : Nat) (f : α → List PV) (p : List α × List α) : PV := .tup [.fr e n (rows f p.1), .fr e n (rows f p.2)]

def okSl (x : Slip) : Bool := inB x.1 1 200 && inB x.2 0 20
def slG : Option Int → List Slip → Bool
  | _, [] => true
  | p, x :: r => okSl x && (match p with | none => true | some y => decide (y < x.1)) && slG (some x.1) r
def okSt (l : List Slip) : Bool := slG none l && decide ((l.length : Int) ≤ 8)
def upP (p : Option Int) (c : Int) : Bool := match p with | none => true | some y => decide (y < c)
theorem slG_step {p : Option Int} {x : Slip} {r : List Slip} (h1 : okSl x = true) (h2 : upP p x.1 = true) : slG p (x :: r) = slG (some x.1) r := by
  show (okSl x && upP p x.1 && slG (some x.1) r) = _
  rw [h1, h2]; rfl
theorem slG_bad {p : Option Int} {x : Slip} {r : List Slip} (h : okSl x = false ∨ upP p x.1 = false) : slG p (x :: r) = false := by
  show (okSl x && upP p x.1 && slG (some x.1) r) = _
  rcases h with h | h <;> rw [h] <;> simp
theorem slG_mem : ∀ {p : Option Int} {l : List Slip}, slG p l = true → ∀ x ∈ l, okSl x = true
  | _, x :: r, h, y, hy => by
    simp only [slG, Bool.and_eq_true] at h
    rcases List.mem_cons.1 hy with rfl | hy
    · exact h.1.1
    · exact slG_mem h.2 y hy
theorem okSl_spec {x : Slip} (h : okSl x = true) : (1 ≤ x.1 ∧ x.1 ≤ 200) ∧ (0 ≤ x.2 ∧ x.2 ≤ 20) := by
  rw [okSl, Bool.and_eq_true] at h
  exact ⟨inB_spec h.1, inB_spec h.2⟩
theorem okSt_spec {l : List Slip} (h : okSt l = true) : (∀ x ∈ l, (1 ≤ x.1 ∧ x.1 ≤ 200) ∧ (0 ≤ x.2 ∧ x.2 ≤ 20)) ∧ (l.length : Int) ≤ 8 := by
  simp only [okSt, Bool.and_eq_true, decide_eq_true_eq] at h
  exact ⟨fun x hx => okSl_spec (slG_mem h.1 x hx), h.2⟩
/-- The length before slip i. -/
def prevS (l : List Slip) (i : Int) : Option Int := if i ≤ 0 then none else l[(i - 1).toNat]?.map fun x => x.1
theorem prevS_zero {l : List Slip} {i : Int} (h : i ≤ 0) : prevS l i = none := by rw [prevS, if_pos h]
theorem prevS_some {l : List Slip} {i : Int} {x : Slip} (h : 0 < i) (hx : l[(i - 1).toNat]? = some x) : prevS l i = some x.1 := by rw [prevS, if_neg (by omega), hx]; rfl
theorem prevS_next {l : List Slip} {i : Int} {x : Slip} (h : 0 ≤ i) (hx : l[i.toNat]? = some x) : prevS l (i + 1) = some x.1 := prevS_some (by omega) (by rw [show i + 1 - 1 = i by omega]; exact hx)

theorem zip_maps : ∀ l : List Slip, (l.map Prod.fst).zip (l.map Prod.snd) = l
  | [] => rfl
  | x :: r => by simp [zip_maps r]
theorem pre_maps (l : List Slip) (i : Nat) : pre (l.map Prod.fst) (l.map Prod.snd) i = (l.take i).reverse := by rw [pre, zip_maps]
noncomputable def ruleF (l : List Slip) (n : Int) : Option (List Int) := if fewC l.reverse n < 0 then none else some (cntC l.reverse n).reverse
theorem best_maps (l : List Slip) (n : Int) : bestF (l.map Prod.fst) (l.map Prod.snd) n = ruleF l n := by
  rw [bestF, pre_maps, ruleF, List.length_map, List.take_length]
noncomputable def ruleA (l : List Slip) (n : Int) : List Int × Bool := if okSt l && (inB n 1 400 && decide (0 ≤ fewC l.reverse n)) then ((cntC l.reverse n).reverse, true) else ([], false)
noncomputable def ruR (l : List Slip) (n : Int) : List Int × Bool := if 0 ≤ fewC l.reverse n then ((cntC l.reverse n).reverse, true) else ([], false)

def cnG : List Int → List Slip → Bool
  | n :: c, x :: l => inB n 0 x.2 && cnG c l
  | _, _ => true
def okCn (l : List Slip) (c : List Int) : Bool := okSt l && (decide ((c.length : Int) = l.length) && cnG c l)
def piecesA (l : List Slip) (c : List Int) : Int × Int × Bool := if okCn l c then (c.sum, dot c (l.map Prod.fst), true) else (0, 0, false)
def restL : List Slip → List Int → List Slip
  | x :: l, n :: c => (x.1, x.2 - n) :: restL l c
  | l, _ => l
def restA (l : List Slip) (c : List Int) : List Slip × Bool := if okCn l c then (restL l c, true) else ([], false)
def lenS (l : List Slip) : Int := (l.map fun x => x.1 * x.2).sum
def stockA (l : List Slip) : Int × Bool := if okSt l then (lenS l, true) else (0, false)
theorem cnG_at : ∀ {c : List Int} {l : List Slip}, cnG c l = true → ∀ (i : Nat) (n : Int) (x : Slip), c[i]? = some n → l[i]? = some x → 0 ≤ n ∧ n ≤ x.2
  | n :: c, x :: l, h, 0, m, y, hm, hy => by
    simp at hm hy
    subst hm hy
    simp only [cnG, Bool.and_eq_true] at h
    exact inB_spec h.1
  | n :: c, x :: l, h, i + 1, m, y, hm, hy => by
    simp at hm hy
    simp only [cnG, Bool.and_eq_true] at h
    exact cnG_at h.2 i m y hm hy
  | [], _, _, i, m, y, hm, _ => by simp at hm
  | _ :: _, [], _, i, m, y, _, hy => by simp at hy
theorem cnG_of : ∀ {c : List Int} {l : List Slip}, (∀ (i : Nat) (n : Int) (x : Slip), c[i]? = some n → l[i]? = some x → 0 ≤ n ∧ n ≤ x.2) → cnG c l = true
  | [], _, _ => by simp [cnG]
  | _ :: _, [], _ => by simp [cnG]
  | n :: c, x :: l, h => by
    have h0 := h 0 n x rfl rfl
    have := cnG_of (c := c) (l := l) fun i m y hm hy => h (i + 1) m y (by simpa using hm) (by simpa using hy)
    simp only [cnG, Bool.and_eq_true]
    exact ⟨by simp [inB]; omega, this⟩
theorem cnG_drop {c : List Int} {l : List Slip} {i : Nat} {n : Int} {x : Slip} (hn : c[i]? = some n) (hx : l[i]? = some x) : cnG (c.drop i) (l.drop i) = (inB n 0 x.2 && cnG (c.drop (i + 1)) (l.drop (i + 1))) := by
  obtain ⟨h1, rfl⟩ := List.getElem?_eq_some_iff.1 hn
  obtain ⟨h2, rfl⟩ := List.getElem?_eq_some_iff.1 hx
  rw [List.drop_eq_getElem_cons h1, List.drop_eq_getElem_cons h2]; rfl
theorem lenS_take {l : List Slip} {i : Nat} {x : Slip} (hx : l[i]? = some x) : lenS (l.take (i + 1)) = lenS (l.take i) + x.1 * x.2 := by
  rw [List.take_add_one, hx]; simp [lenS]
theorem restL_set : ∀ {l : List Slip} {c : List Int} {i : Nat} {x : Slip} {n : Int}, l[i]? = some x → c[i]? = some n → restL l (c.take (i + 1)) = (restL l (c.take i)).set i (x.1, x.2 - n) ∧ (restL l (c.take i))[i]? = some x
  | x :: l, n :: c, 0, y, m, hy, hm => by
    simp at hy hm
    subst hy hm
    constructor
    · simp [restL]
    · simp [restL]
  | x :: l, n :: c, i + 1, y, m, hy, hm => by
    simp at hy hm
    obtain ⟨a, b⟩ := restL_set hy hm
    simp only [List.take_succ_cons, restL, List.set_cons_succ, a, List.getElem?_cons_succ, b, and_self]
  | [], _, i, y, m, hy, _ => by simp at hy
  | _ :: _, [], i, y, m, _, hm => by simp at hm
theorem restL_length : ∀ (l : List Slip) (c : List Int), (restL l c).length = l.length
  | x :: l, n :: c => by simp [restL, restL_length l c]
  | [], _ => by simp [restL]
  | _ :: _, [] => rfl
theorem restL_nil (l : List Slip) : restL l [] = l := by cases l <;> rfl
/-- What is left of a stock. -/
theorem rest_len : ∀ {l : List Slip} {c : List Int}, c.length = l.length → lenS l - lenS (restL l c) = dot c (l.map Prod.fst)
  | [], [], _ => by simp [lenS, restL, dot]
  | x :: l, n :: c, h => by
    have ih := rest_len (l := l) (c := c) (by simpa using h)
    simp only [lenS, restL, List.map_cons, List.sum_cons, dot] at ih ⊢
    rw [Int.mul_sub, Int.mul_comm n x.1]
    omega
  | [], _ :: _, h => by simp at h
  | _ :: _, [], h => by simp at h
theorem restL_slG : ∀ {p : Option Int} {l : List Slip} {c : List Int}, slG p l = true → cnG c l = true → slG p (restL l c) = true
  | _, [], c, _, _ => by simp [restL, slG]
  | p, x :: l, [], h, _ => by rw [restL_nil]; exact h
  | p, x :: l, n :: c, h, hc => by
    simp only [slG, Bool.and_eq_true] at h
    simp only [cnG, Bool.and_eq_true] at hc
    have h1 := okSl_spec h.1.1
    have h2 := inB_spec hc.1
    simp only [restL, slG, Bool.and_eq_true]
    refine ⟨⟨?_, h.1.2⟩, restL_slG h.2 hc.2⟩
    simp only [okSl, inB, Bool.and_eq_true, decide_eq_true_eq]
    omega

/-- The first number from n on with a property (t numbers are tried). -/
def firstUp (p : Int → Bool) : Nat → Int → Option Int
  | 0, _ => none
  | t + 1, n => if p n then some n else firstUp p t (n + 1)
theorem firstUp_none {p : Int → Bool} : ∀ {t : Nat} {n : Int}, firstUp p t n = none → ∀ j, n ≤ j → j < n + t → p j = false
  | 0, n, _, j, h1, h2 => by omega
  | t + 1, n, h, j, h1, h2 => by
    simp only [firstUp] at h
    split at h
    · cases h
    · rename_i hp
      rcases Int.lt_or_le n j with h3 | h3
      · exact firstUp_none h j (by omega) (by omega)
      · rw [show j = n by omega]; simpa using hp
theorem firstUp_some {p : Int → Bool} : ∀ {t : Nat} {n k : Int}, firstUp p t n = some k → n ≤ k ∧ k < n + t ∧ p k = true ∧ ∀ j, n ≤ j → j < k → p j = false
  | 0, n, k, h => by simp [firstUp] at h
  | t + 1, n, k, h => by
    simp only [firstUp] at h
    split at h
    · rename_i hp
      obtain rfl := Option.some.inj h
      exact ⟨Int.le_refl _, by omega, hp, fun j a b => by omega⟩
    · rename_i hp
      obtain ⟨a, b, c, d⟩ := firstUp_some h
      refine ⟨by omega, by omega, c, fun j h1 h2 => ?_⟩
      rcases Int.lt_or_le n j with h3 | h3
      · exact d j (by omega) h2
      · rw [show j = n by omega]; simpa using hp
theorem firstUp_next {p : Int → Bool} {n : Int} {M : Int} (h : n ≤ M) (hp : p n = false) : firstUp p (M + 1 - n).toNat n = firstUp p (M + 1 - (n + 1)).toNat (n + 1) := by
  rw [show (M + 1 - n).toNat = (M + 1 - (n + 1)).toNat + 1 by omega, firstUp, hp]; rfl
theorem firstUp_hit {p : Int → Bool} {n : Int} {M : Int} (h : n ≤ M) (hp : p n = true) : firstUp p (M + 1 - n).toNat n = some n := by
  rw [show (M + 1 - n).toNat = (M + 1 - (n + 1)).toNat + 1 by omega, firstUp, hp]; rfl
noncomputable def canR (l : List Slip) (k : Int) : Bool := decide (0 ≤ fewC l.reverse k)
noncomputable def missA (l : List Slip) (n : Int) : Int × Bool := if okSt l && inB n 1 400 then (match firstUp (canR l) (400 + 1 - n).toNat n with | none => (0, false) | some k => (k - n, true)) else (0, false)
/-- The numbers from n on with a property (t numbers are tried). -/
def filtR (p : Int → Bool) : Nat → Int → List Int
  | 0, _ => []
  | t + 1, n => if p n then n :: filtR p t (n + 1) else filtR p t (n + 1)
theorem filtR_next {p : Int → Bool} {n : Int} {M : Int} (h : n ≤ M) : filtR p (M + 1 - n).toNat n = (if p n then [n] else []) ++ filtR p (M + 1 - (n + 1)).toNat (n + 1) := by
  rw [show (M + 1 - n).toNat = (M + 1 - (n + 1)).toNat + 1 by omega, filtR]
  split <;> rfl
theorem filtR_mem {p : Int → Bool} : ∀ {t : Nat} {n x : Int}, x ∈ filtR p t n → n ≤ x ∧ x < n + t ∧ p x = true
  | 0, n, x, h => by simp [filtR] at h
  | t + 1, n, x, h => by
    simp only [filtR] at h
    have up : x ∈ filtR p t (n + 1) → n ≤ x ∧ x < n + (t + 1 : Nat) ∧ p x = true := fun h => by
      obtain ⟨a, b, c⟩ := filtR_mem h
      exact ⟨by omega, by omega, c⟩
    split at h
    · rcases List.mem_cons.1 h with rfl | h
      · exact ⟨Int.le_refl _, by omega, by assumption⟩
      · exact up h
    · exact up h
/-- The last ones: all before a hit, where nothing lies between. -/
theorem filtR_last {p : Int → Bool} {a m : Int} (ha : 1 ≤ a) (hm : a ≤ m) (hp : p m = true) (hn : ∀ j, a ≤ j → j < m → p j = false) : filtR p (m + 1 - 1).toNat 1 = filtR p (a - 1).toNat 1 ++ [m] := by
  have go : ∀ (t : Nat) (n : Int), n ≤ a → n + t = a → filtR p (m + 1 - n).toNat n = filtR p t n ++ [m] := by
    intro t
    induction t with
    | zero =>
      intro n h1 h2
      have : ∀ (u : Nat) (k : Int), a ≤ k → k ≤ m → (m - k).toNat = u → filtR p (m + 1 - k).toNat k = [m] := by
        intro u
        induction u with
        | zero =>
          intro k h3 h4 h5
          rw [filtR_next h4, show k = m by omega, hp, show (m + 1 - (m + 1)).toNat = 0 by omega]; rfl
        | succ u ih =>
          intro k h3 h4 h5
          rw [filtR_next h4, hn k h3 (by omega)]
          exact ih (k + 1) (by omega) (by omega) (by omega)
      exact this _ n (by omega) (by omega) rfl
    | succ t ih =>
      intro n h1 h2
      rw [filtR_next (by omega), ih (n + 1) (by omega) (by omega), filtR]
      split <;> rfl
  have := go (a - 1).toNat 1 ha (by omega)
  exact this
noncomputable def uptoA (l : List Slip) (most : Int) : List Int × Bool := if okSt l && inB most 0 400 then (filtR (canR l) (most + 1 - 1).toNat 1, true) else ([], false)

/-! ### The reference's tables -/
def ruV (v : Int) : Int := if v < 0 then 1048576 else v
noncomputable def ruRow (s : List Slip) (most : Int) : List Int := (List.range (most + 1).toNat).map fun k : Nat => ruV (fewC s k)
noncomputable def ruTab (l : List Slip) (most : Int) : List (List Int) := (List.range (l.length + 1)).map fun i => ruRow ((l.take i).reverse) most
theorem ruRow_length (s : List Slip) (most : Int) : (ruRow s most).length = (most + 1).toNat := by simp [ruRow]
theorem ruRow_nth {s : List Slip} {most : Int} {k : Nat} (h : (k : Int) ≤ most) : nth (ruRow s most) k = ruV (fewC s k) := by
  rw [nth, ruRow, List.getElem?_map, List.getElem?_range (by omega)]; rfl
theorem ruRow_snoc {s : List Slip} {n n' v : Int} (h0 : 0 ≤ n) (e : n' = n + 1) (hv : v = ruV (fewC s n)) : ruRow s (n - 1) ++ [v] = ruRow s (n' - 1) := by
  subst e
  rw [ruRow, ruRow, show (n - 1 + 1).toNat = n.toNat by omega, show (n + 1 - 1 + 1).toNat = n.toNat + 1 by omega, List.range_succ, List.map_append, hv, show fewC s n = fewC s ((n.toNat : Nat) : Int) by rw [Int.toNat_of_nonneg h0]]
  rfl
theorem ruRow_start (s : List Slip) : ruRow s (0 - 1) = [] := by simp [ruRow]
theorem ruTab_get {l : List Slip} {most : Int} {m i : Nat} (h : i < m) : ((List.range m).map fun i => ruRow ((l.take i).reverse) most)[i]? = some (ruRow ((l.take i).reverse) most) := by
  rw [List.getElem?_map, List.getElem?_range h]; rfl
theorem ruTab_next {l : List Slip} {most : Int} {i i' : Int} (h0 : 0 ≤ i) (e : i' = i + 1) :
    ((List.range (i.toNat + 1)).map fun j => ruRow ((l.take j).reverse) most) ++ [ruRow ((l.take (i.toNat + 1)).reverse) most] = (List.range (i'.toNat + 1)).map fun j => ruRow ((l.take j).reverse) most := by
  rw [show i'.toNat = i.toNat + 1 by omega, List.range_succ (n := i.toNat + 1), List.map_append]; rfl
theorem takeS {l : List Slip} {i : Nat} {x : Slip} (h : l[i]? = some x) : (l.take (i + 1)).reverse = x :: (l.take i).reverse := by
  rw [List.take_add_one, h, List.reverse_append]; rfl
theorem ruFirst {n : Int} (h : 0 ≤ n) : (List.replicate (n + 1).toNat (1048576 : Int)).set (Int.toNat 0) 0 = ruRow [] n := by
  rw [ruRow, show (n + 1).toNat = n.toNat + 1 by omega, List.range_succ_eq_map, List.map_cons, List.replicate_succ, show Int.toNat 0 = 0 from rfl, List.set_cons_zero, List.map_map]
  refine congr (congrArg List.cons (by rw [fewC_nil]; rfl)) ?_
  refine List.ext_getElem? fun j => ?_
  rw [List.getElem?_map, List.getElem?_replicate]
  rcases Nat.lt_or_ge j n.toNat with hj | hj
  · rw [if_pos hj, List.getElem?_range hj]
    simp only [Option.map_some, Function.comp]
    rw [fewC_nil, if_neg (by omega)]; rfl
  · rw [if_neg (by omega), List.getElem?_eq_none (by simpa using hj)]; rfl
theorem cand_le {r : List Slip} {w s n t v : Int} (hr : ∀ p ∈ r, 1 ≤ p.1) (hw : 1 ≤ w) (h : IsMin (Cand r w s n t) v) : v ≤ n ∨ v = -1 := by
  rcases h with ⟨h1, _⟩ | ⟨h1, ⟨m, h2, h3, h4, h5, h6⟩, _⟩
  · exact .inr h1
  · left
    have h7 := can_pos hr ((minOf_spec (Can r (n - m * w))).mem h5)
    have h8 : m * 1 ≤ m * w := Int.mul_le_mul_of_nonneg_left hw h2
    have e : fewC r (n - m * w) = minOf (Can r (n - m * w)) := rfl
    omega
theorem ruV_min {v f k : Int} (hv : v ≤ 400 ∧ -1 ≤ v) (hf : -1 ≤ f ∧ f ≤ 400) (hk : 0 ≤ k ∧ k ≤ 400) : min (ruV v) (ruV f + k) = if f < 0 then ruV v else ruV (if v < 0 ∨ f + k < v then f + k else v) := by
  simp only [ruV]
  split <;> split <;> (try split) <;> (try split) <;> omega
theorem ruV_lt {v : Int} (h : -1 ≤ v ∧ v ≤ 400) : (1048576 ≤ ruV v ↔ v < 0) ∧ (0 ≤ v → ruV v = v) := by
  simp only [ruV]
  split <;> constructor <;> omega
/-- Counts that fit a stock. -/
structure Cn (l : List Slip) (c : List Int) : Prop where
  sl : ∀ x ∈ l, (1 ≤ x.1 ∧ x.1 ≤ 200) ∧ (0 ≤ x.2 ∧ x.2 ≤ 20)
  len : (l.length : Int) ≤ 8
  eq : (c.length : Int) = l.length
  at_ : ∀ (i : Nat) (n : Int) (x : Slip), c[i]? = some n → l[i]? = some x → 0 ≤ n ∧ n ≤ x.2
  ok : okSt l = true
theorem okCn_spec {l : List Slip} {c : List Int} (h : okCn l c = true) : Cn l c := by
  simp only [okCn, Bool.and_eq_true, decide_eq_true_eq] at h
  have := okSt_spec h.1
  exact ⟨this.1, this.2, h.2.1, cnG_at h.2.2, h.1⟩
theorem Cn.mem {l : List Slip} {c : List Int} (h : Cn l c) : ∀ n ∈ c, 0 ≤ n ∧ n ≤ 20 := fun n hn => by
  obtain ⟨i, hi⟩ := List.getElem?_of_mem hn
  have hlt := (List.getElem?_eq_some_iff.1 hi).1
  have e := h.eq
  have hx : l[i]? = some (l[i]'(by omega)) := List.getElem?_eq_getElem (by omega)
  have := h.at_ i n _ hi hx
  have := h.sl _ (List.mem_of_getElem? hx)
  omega
theorem dot_take2 {a b : List Int} {i : Nat} {x y : Int} (ha : a[i]? = some x) (hb : b[i]? = some y) : dot (a.take (i + 1)) (b.take (i + 1)) = dot (a.take i) (b.take i) + x * y := by
  have h1 := (List.getElem?_eq_some_iff.1 ha).1
  have h2 := (List.getElem?_eq_some_iff.1 hb).1
  rw [List.take_add_one, List.take_add_one, ha, hb, dot_append (by simp; omega)]
  simp [dot]
theorem put_set {l zs : List Slip} {i : Nat} {y z : Slip} {b c : Int} (h : zs = l.set i y) (hz : z ∈ zs) (hb : ∀ x ∈ l, 0 ≤ x.2 ∧ x.2 ≤ b) (hy : 0 ≤ y.2 ∧ y.2 ≤ b + c) (hc : 0 ≤ c) : 0 ≤ z.2 ∧ z.2 ≤ b + c := by
  rw [h] at hz
  rcases List.mem_or_eq_of_mem_set hz with h | rfl
  · have := hb z h; omega
  · exact hy
theorem put_in {l z1 z2 z3 z4 z5 : List Slip} {i j : Nat} {y z : Slip} {b c : Int} (h1 : z1 = (l.take i).drop (Int.toNat 0)) (h2 : z2 = z1) (h3 : z3 = z2 ++ [y]) (h4 : z4 = l.drop j) (h5 : z5 = z3 ++ z4) (hz : z ∈ z5) (hb : ∀ x ∈ l, 0 ≤ x.2 ∧ x.2 ≤ b) (hc : 0 ≤ c)
    (hy : 0 ≤ y.2 ∧ y.2 ≤ b + c) : 0 ≤ z.2 ∧ z.2 ≤ b + c := by
  have up : z ∈ l → 0 ≤ z.2 ∧ z.2 ≤ b + c := fun h => by have := hb z h; omega
  simp only [h5, h3, h2, h1, h4, List.mem_append, List.mem_singleton] at hz
  rcases hz with (h | rfl) | h
  · exact up (List.mem_of_mem_take (List.mem_of_mem_drop h))
  · exact hy
  · exact up (List.mem_of_mem_drop h)
end Go.Proofs.Ytpjmpgbgglhoeaa.Ai
