/- Plain laws on strikes. -/
import Derived.Test.YtnanackogloioaaCommon
namespace Go.Proofs.Ytnanackogloioaa.Ai
open Go Go.Proofs
set_option linter.unusedVariables false

/-- Depth, Left, Face, Right, Foot. -/
abbrev Strike := Int × Int × Int × Int × Int
def cStrike (s : Strike) : List PV := [.int .i64 s.1, .int .i64 s.2.1, .int .i64 s.2.2.1, .int .i64 s.2.2.2.1, .int .i64 s.2.2.2.2]
def partsL (s : Strike) : List Int := [s.1, s.2.1, s.2.2.1, s.2.2.2.1, s.2.2.2.2]
def okStr (s : Strike) : Bool := allB (partsL s) 1 999
def okStrs (l : List Strike) : Bool := l.all okStr && decide ((l.length : Int) ≤ 30)

theorem okStr_spec {s : Strike} (h : okStr s = true) : (1 ≤ s.1 ∧ s.1 ≤ 999) ∧ (1 ≤ s.2.1 ∧ s.2.1 ≤ 999) ∧ (1 ≤ s.2.2.1 ∧ s.2.2.1 ≤ 999) ∧ (1 ≤ s.2.2.2.1 ∧ s.2.2.2.1 ≤ 999) ∧ (1 ≤ s.2.2.2.2 ∧ s.2.2.2.2 ≤ 999) := by
  have h := allB_mem h
  simp only [partsL, List.mem_cons, List.not_mem_nil, or_false, forall_eq_or_imp, forall_eq] at h
  exact h
theorem okStr_parts {s : Strike} (h : okStr s = true) : ∀ x ∈ partsL s, 1 ≤ x ∧ x ≤ 999 := allB_mem h
theorem okStrs_spec {l : List Strike} (h : okStrs l = true) : (∀ x ∈ l, okStr x = true) ∧ (l.length : Int) ≤ 30 := by
  simp only [okStrs, Bool.and_eq_true, List.all_eq_true, decide_eq_true_eq] at h
  exact h

def subL : List Int → List Int → List Int
  | x :: r, y :: q => (x - y) :: subL r q
  | _, _ => []
def geL : List Int → List Int → Bool
  | x :: r, y :: q => decide (y ≤ x) && geL r q
  | _, _ => true
def filL (s t : Strike) : List Int := subL (partsL s) (partsL t)
def canS (s t : Strike) : Bool := decide (s.2.2.1 = t.2.2.1) && geL (partsL s) (partsL t)

theorem filL_eq (s t : Strike) : filL s t = [s.1 - t.1, s.2.1 - t.2.1, s.2.2.1 - t.2.2.1, s.2.2.2.1 - t.2.2.2.1, s.2.2.2.2 - t.2.2.2.2] := rfl
theorem filL_mem {s t : Strike} (hs : okStr s = true) (ht : okStr t = true) : ∀ x ∈ filL s t, -998 ≤ x ∧ x ≤ 998 := fun x hx => by
  have a := okStr_spec hs
  have b := okStr_spec ht
  rw [filL_eq] at hx
  simp only [List.mem_cons, List.not_mem_nil, or_false] at hx
  omega
theorem filL_fits {s t : Strike} (hs : okStr s = true) (ht : okStr t = true) : SumFits (filL s t) := sumfits_of 998 (filL_mem hs ht) (by rw [filL_eq]; simp)
theorem canS_iff {s t : Strike} : canS s t = true ↔ s.2.2.1 = t.2.2.1 ∧ t.1 ≤ s.1 ∧ t.2.1 ≤ s.2.1 ∧ t.2.2.2.1 ≤ s.2.2.2.1 ∧ t.2.2.2.2 ≤ s.2.2.2.2 := by
  simp only [canS, partsL, geL, Bool.and_eq_true, decide_eq_true_eq, and_true]
  constructor
  · rintro ⟨h1, h2, h3, h4, h5, h6⟩; exact ⟨h1, h2, h3, h5, h6⟩
  · rintro ⟨h1, h2, h3, h5, h6⟩; exact ⟨h1, h2, h3, by omega, h5, h6⟩

def filAns (s t : Strike) : List Int × Bool := if okStr s && (okStr t && canS s t) then (filL s t, true) else ([], false)
def canAns (s t : Strike) : Bool × Bool := if okStr s && okStr t then (canS s t, true) else (false, false)

/-! ### The standard -/
def minS (x s : Strike) : Strike := (min x.1 s.1, min x.2.1 s.2.1, x.2.2.1, min x.2.2.2.1 s.2.2.2.1, min x.2.2.2.2 s.2.2.2.2)
def stdG : Strike → List Strike → Option Strike
  | x, [] => some x
  | x, s :: r => if s.2.2.1 = x.2.2.1 then stdG (minS x s) r else none
def stdF (l : List Strike) : Strike × Bool := match l with
  | [] => ((0, 0, 0, 0, 0), false)
  | x :: r => if okStrs l then match stdG x l with
    | some y => (y, true)
    | none => ((0, 0, 0, 0, 0), false)
    else ((0, 0, 0, 0, 0), false)

theorem stdG_spec : ∀ {x y : Strike} {l : List Strike}, stdG x l = some y → y.2.2.1 = x.2.2.1 ∧ y.1 ≤ x.1 ∧ y.2.1 ≤ x.2.1 ∧ y.2.2.2.1 ≤ x.2.2.2.1 ∧ y.2.2.2.2 ≤ x.2.2.2.2 ∧ (∀ s ∈ l, canS s y = true) ∧
    ((y.1 = x.1 ∨ ∃ s ∈ l, y.1 = s.1) ∧ (y.2.1 = x.2.1 ∨ ∃ s ∈ l, y.2.1 = s.2.1) ∧ (y.2.2.2.1 = x.2.2.2.1 ∨ ∃ s ∈ l, y.2.2.2.1 = s.2.2.2.1) ∧ (y.2.2.2.2 = x.2.2.2.2 ∨ ∃ s ∈ l, y.2.2.2.2 = s.2.2.2.2))
  | x, y, [], h => by
    obtain rfl := Option.some.inj h
    exact ⟨rfl, Int.le_refl _, Int.le_refl _, Int.le_refl _, Int.le_refl _, fun s hs => (by cases hs), .inl rfl, .inl rfl, .inl rfl, .inl rfl⟩
  | x, y, s :: r, h => by
    rw [stdG] at h
    split at h
    case isFalse => cases h
    rename_i hf
    obtain ⟨a0, a1, a2, a3, a4, a5, b1, b2, b3, b4⟩ := stdG_spec h
    simp only [minS] at a0 a1 a2 a3 a4 b1 b2 b3 b4
    have w : (y.1 ≤ x.1 ∧ y.1 ≤ s.1) ∧ (y.2.1 ≤ x.2.1 ∧ y.2.1 ≤ s.2.1) ∧ (y.2.2.2.1 ≤ x.2.2.2.1 ∧ y.2.2.2.1 ≤ s.2.2.2.1) ∧ (y.2.2.2.2 ≤ x.2.2.2.2 ∧ y.2.2.2.2 ≤ s.2.2.2.2) := by clear b1 b2 b3 b4; omega
    refine ⟨a0, w.1.1, w.2.1.1, w.2.2.1.1, w.2.2.2.1, fun z hz => ?_, ?_, ?_, ?_, ?_⟩
    · rcases List.mem_cons.1 hz with rfl | hz
      · exact canS_iff.2 ⟨hf.trans a0.symm, w.1.2, w.2.1.2, w.2.2.1.2, w.2.2.2.2⟩
      · exact a5 z hz
    · rcases b1 with e | ⟨z, hz, e⟩
      · rcases Int.le_total x.1 s.1 with h | h
        · exact .inl (e.trans (Int.min_eq_left h))
        · exact .inr ⟨s, by simp, e.trans (Int.min_eq_right h)⟩
      · exact .inr ⟨z, by simp [hz], e⟩
    · rcases b2 with e | ⟨z, hz, e⟩
      · rcases Int.le_total x.2.1 s.2.1 with h | h
        · exact .inl (e.trans (Int.min_eq_left h))
        · exact .inr ⟨s, by simp, e.trans (Int.min_eq_right h)⟩
      · exact .inr ⟨z, by simp [hz], e⟩
    · rcases b3 with e | ⟨z, hz, e⟩
      · rcases Int.le_total x.2.2.2.1 s.2.2.2.1 with h | h
        · exact .inl (e.trans (Int.min_eq_left h))
        · exact .inr ⟨s, by simp, e.trans (Int.min_eq_right h)⟩
      · exact .inr ⟨z, by simp [hz], e⟩
    · rcases b4 with e | ⟨z, hz, e⟩
      · rcases Int.le_total x.2.2.2.2 s.2.2.2.2 with h | h
        · exact .inl (e.trans (Int.min_eq_left h))
        · exact .inr ⟨s, by simp, e.trans (Int.min_eq_right h)⟩
      · exact .inr ⟨z, by simp [hz], e⟩

theorem stdF_of {l : List Strike} {x : Strike} (hx : l[0]? = some x) (h : okStrs l = true) : stdF l = match stdG x l with
    | some y => (y, true)
    | none => ((0, 0, 0, 0, 0), false) := by
  cases l with
  | nil => simp at hx
  | cons y r =>
    obtain rfl : y = x := by simpa using hx
    rw [stdF, if_pos h]
theorem stdF_bad {l : List Strike} (h : okStrs l = false) : stdF l = ((0, 0, 0, 0, 0), false) := by
  cases l with
  | nil => rfl
  | cons y r => rw [stdF, h]; rfl
theorem okStr_iff {s : Strike} : okStr s = true ↔ (1 ≤ s.1 ∧ s.1 ≤ 999) ∧ (1 ≤ s.2.1 ∧ s.2.1 ≤ 999) ∧ (1 ≤ s.2.2.1 ∧ s.2.2.1 ≤ 999) ∧ (1 ≤ s.2.2.2.1 ∧ s.2.2.2.1 ≤ 999) ∧ (1 ≤ s.2.2.2.2 ∧ s.2.2.2.2 ≤ 999) := by
  simp [okStr, allB, partsL, inB]
theorem stdG_ok : ∀ {x y : Strike} {l : List Strike}, okStr x = true → (∀ s ∈ l, okStr s = true) → stdG x l = some y → okStr y = true
  | x, y, [], hx, _, h => by
    obtain rfl := Option.some.inj h
    exact hx
  | x, y, s :: r, hx, hl, h => by
    rw [stdG] at h
    split at h
    case isFalse => cases h
    have hs := okStr_iff.1 (hl s (by simp))
    have hx := okStr_iff.1 hx
    refine stdG_ok (okStr_iff.2 ?_) (fun z hz => hl z (by simp [hz])) h
    simp only [minS]
    omega
theorem std_ok {l : List Strike} {y : Strike} (h : (y, true) = stdF l) : okStrs l = true ∧ l ≠ [] ∧ okStr y = true ∧ ∃ x, l[0]? = some x ∧ stdG x l = some y := by
  cases l with
  | nil => simp [stdF] at h
  | cons x r =>
    rw [stdF] at h
    split at h
    case isFalse => simp at h
    rename_i ho
    split at h
    case h_2 => simp at h
    rename_i z hz
    obtain rfl := (Prod.mk.inj h).1
    have t := okStrs_spec ho
    exact ⟨ho, by simp, stdG_ok (t.1 x (by simp)) t.1 hz, x, rfl, hz⟩
noncomputable def stdPV (p : Strike × Bool) : PV := .tup [.agg (cStrike p.1), .bool p.2]
noncomputable def strPV (x : Strike) : PV := .agg (cStrike x)
theorem flat_stdPV {v : Strike × Bool} : ∀ r, r = stdPV v → flatR r := fun r h => by
  subst h
  intro x hx
  simp only [List.mem_cons, List.not_mem_nil, or_false] at hx
  rcases hx with rfl | rfl
  · intro c hc
    simp only [cStrike, List.mem_cons, List.not_mem_nil, or_false] at hc
    rcases hc with rfl | rfl | rfl | rfl | rfl <;> trivial
  · trivial
theorem flat_strPV {v : Strike} : ∀ r, r = strPV v → flatR r := fun r h => by
  subst h
  intro c hc
  simp only [cStrike, List.mem_cons, List.not_mem_nil, or_false] at hc
  rcases hc with rfl | rfl | rfl | rfl | rfl <;> trivial
def ofL (l : List Int) : Strike := (nth l 0, nth l 1, nth l 2, nth l 3, nth l 4)
theorem ofL_parts (s : Strike) : ofL (partsL s) = s := rfl
def minL (p q : List Int) : List Int := List.zipWith (fun x y => min x y) p q
theorem minL_length {p q : List Int} (h : p.length = q.length) : (minL p q).length = p.length := by simp [minL, h]
theorem min_step {p q zs : List Int} {i : Nat} {v : Int} (hl : p.length = q.length) (hq : zs = (minL p q).take i ++ p.drop i) (hi : i < p.length) (hv : v = min (nth p i) (nth q i)) : zs.set i v = (minL p q).take (i + 1) ++ p.drop (i + 1) := by
  have hs : (minL p q)[i]? = some v := by
    rw [minL, List.getElem?_zipWith, List.getElem?_eq_getElem hi, List.getElem?_eq_getElem (by omega), hv, nth, nth, List.getElem?_eq_getElem hi, List.getElem?_eq_getElem (by omega)]
    rfl
  rw [hq, List.drop_eq_getElem_cons hi, set_mid (by rw [List.length_take, minL_length hl]; omega), List.take_add_one, hs, List.append_assoc]
  rfl
theorem min_at {p q zs : List Int} {i : Nat} (hl : p.length = q.length) (hq : zs = (minL p q).take i ++ p.drop i) (hi : i < p.length) : nth zs i = nth p i := by
  have h1 : ((minL p q).take i).length = i := by rw [List.length_take, minL_length hl]; omega
  rw [hq, nth, List.getElem?_append_right (by omega), h1, Nat.sub_self, List.getElem?_drop, Nat.add_zero, nth]
theorem ofL_min {p : List Int} {s : Strike} (hl : p.length = 5) (hf : nth p 2 = s.2.2.1) : ofL (minL p (partsL s)) = minS (ofL p) s := by
  match p, hl with
  | [a, b, c, d, e], _ =>
    simp only [nth] at hf
    simp only [ofL, minL, partsL, minS, List.zipWith, nth]
    simp at hf ⊢
    omega

theorem min_face {p : List Int} {s : Strike} (hl : p.length = 5) (hf : nth p 2 = s.2.2.1) : nth (minL p (partsL s)) 2 = nth p 2 := by
  have := congrArg (fun z : Strike => z.2.2.1) (ofL_min hl hf)
  simpa [ofL, minS] using this

theorem stdG_eq {x s : Strike} {r : List Strike} (h : s.2.2.1 = x.2.2.1) : stdG x (s :: r) = stdG (minS x s) r := by rw [stdG, if_pos h]
theorem stdG_ne {x s : Strike} {r : List Strike} (h : s.2.2.1 ≠ x.2.2.1) : stdG x (s :: r) = none := by rw [stdG, if_neg h]

/-! ### The least filed strike -/
def leastG (t : Strike) : Int → Int → Int → List Strike → Int × Int
  | _, b, n, [] => (b, n)
  | i, b, n, x :: r => if canS x t && (decide (b < 0) || decide ((filL x t).sum < n)) then leastG t (i + 1) i (filL x t).sum r else leastG t (i + 1) b n r
def leastAns (l : List Strike) (t : Strike) : Int × Int × Bool :=
  if okStrs l && okStr t then if (leastG t 0 (-1) 0 l).1 < 0 then (0, 0, false) else ((leastG t 0 (-1) 0 l).1, (leastG t 0 (-1) 0 l).2, true) else (0, 0, false)

theorem leastG_spec {t : Strike} : ∀ {l : List Strike} {i b n b' n' : Int}, 0 ≤ i → (-1 ≤ b ∧ b < i) → leastG t i b n l = (b', n') → (b' = b ∧ n' = n ∨ i ≤ b' ∧ b' < i + l.length ∧ (0 ≤ b → n' < n)) ∧ (-1 ≤ b') ∧
    ∀ (k : Nat) x, l[k]? = some x → canS x t = true → n' ≤ (filL x t).sum ∧ (i + k < b' → n' < (filL x t).sum)
  | [], i, b, n, b', n', hi, hb, h => by
    obtain ⟨rfl, rfl⟩ := Prod.mk.inj h
    exact ⟨.inl ⟨rfl, rfl⟩, hb.1, fun k x hx => by simp at hx⟩
  | y :: r, i, b, n, b', n', hi, hb, h => by
    rw [leastG] at h
    split at h
    · rename_i hc
      simp only [Bool.and_eq_true, Bool.or_eq_true, decide_eq_true_eq] at hc
      obtain ⟨h1, h2, h3⟩ := leastG_spec (show 0 ≤ i + 1 by omega) (show -1 ≤ i ∧ i < i + 1 by omega) h
      simp only [List.length_cons, Int.natCast_add]
      have hle : n' ≤ (filL y t).sum := by rcases h1 with ⟨-, e⟩ | ⟨-, -, e⟩ <;> omega
      refine ⟨.inr ⟨by omega, by omega, fun hb0 => by omega⟩, h2, fun k x hx hx' => ?_⟩
      cases k with
      | zero =>
        obtain rfl : y = x := by simpa using hx
        refine ⟨hle, fun hlt => ?_⟩
        rcases h1 with ⟨e1, -⟩ | ⟨-, -, e⟩
        · simp at hlt; omega
        · exact e hi
      | succ k =>
        have := h3 k x (by simpa using hx) hx'
        exact ⟨this.1, fun hlt => this.2 (by omega)⟩
    · rename_i hc
      obtain ⟨h1, h2, h3⟩ := leastG_spec (show 0 ≤ i + 1 by omega) (show -1 ≤ b ∧ b < i + 1 by omega) h
      simp only [List.length_cons, Int.natCast_add]
      have hn : 0 ≤ b → n' ≤ n := fun hb0 => by rcases h1 with ⟨-, e⟩ | ⟨-, -, e⟩ <;> omega
      refine ⟨?_, h2, fun k x hx hx' => ?_⟩
      · rcases h1 with h1 | ⟨e1, e2, e3⟩
        · exact .inl h1
        · exact .inr ⟨by omega, by omega, e3⟩
      · cases k with
        | zero =>
          obtain rfl : y = x := by simpa using hx
          simp only [hx', Bool.true_and, Bool.or_eq_true, decide_eq_true_eq, not_or] at hc
          have := hn (by omega)
          refine ⟨by omega, fun hlt => ?_⟩
          rcases h1 with ⟨e1, -⟩ | ⟨e1, e2, e3⟩
          · simp at hlt; omega
          · have := e3 (by omega); omega
        | succ k =>
          have := h3 k x (by simpa using hx) hx'
          exact ⟨this.1, fun hlt => this.2 (by omega)⟩

/-! ### Strikes that differ too much -/
def offS (t : Strike) (m : Int) (s : Strike) : Bool := !allB (filL s t) (-m) m
def offL (t : Strike) (m : Int) : Int → List Strike → List Int
  | _, [] => []
  | i, s :: r => if offS t m s then i :: offL t m (i + 1) r else offL t m (i + 1) r
def offAns (l : List Strike) (t : Strike) (m : Int) : List Int × Bool := if okStrs l && (okStr t && inB m 0 999) then (offL t m 0 l, true) else ([], false)
end Go.Proofs.Ytnanackogloioaa.Ai
