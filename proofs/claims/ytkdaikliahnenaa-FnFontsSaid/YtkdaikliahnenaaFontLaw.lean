/- Plain laws on the ways to set a word: the narrowest one. -/
import Derived.Test.YtkdaikliahnenaaBillLaw
namespace Go.Proofs.Ytkdaikliahnenaa.Ai
open Go Go.Proofs
set_option linter.unusedVariables false

/-! ### Widths -/
def wideI (f : List FSort) : List Int → Int
  | [] => 0
  | i :: r => setAt f i + wideI f r
theorem wideI_take {f : List FSort} : ∀ {l : List Int} {k : Nat} {x : Int}, l[k]? = some x → wideI f (l.take (k + 1)) = wideI f (l.take k) + setAt f x
  | [], k, x, h => by simp at h
  | y :: r, 0, x, h => by simp at h; subst h; simp [wideI]
  | y :: r, k + 1, x, h => by
    have := wideI_take (f := f) (l := r) (k := k) (x := x) (by simpa using h)
    simp only [List.take_succ_cons, wideI, this]; omega
def widA (f : List FSort) (w : List UInt8) : Int × Bool := if (sortsA f w).2 = true then (wideI f (sortsA f w).1, true) else (0, false)
theorem font_sets {f : List FSort} (h : okFont f = true) (k : Int) : -54 ≤ setAt f k ∧ setAt f k ≤ 54 := by
  have := setAt_bound (okFont_sets h).1 k
  omega
theorem sorts_true {f : List FSort} {w : List UInt8} {l : List Int} (h : (l, true) = sortsA f w) : okFont f = true ∧ okWord w = true ∧ l = wordI f w := by
  unfold sortsA at h
  split at h
  · rename_i hc
    rw [Bool.and_eq_true] at hc
    exact ⟨hc.1, hc.2, setW_wordI h⟩
  · simp at h

/-- A way to set a word: its width and its sorts. -/
abbrev Way := Option (Int × List Int)
def wV : Way → Int
  | some p => p.1
  | none => -1
def wL : Way → List Int
  | some p => p.2
  | none => []
def restW (t : List Way) (c : List UInt8) : Way := t.getD (c.length - 1) none
def stepN (s : List UInt8) (t : List Way) (i : Int) (x : FSort) (b : Way) : Way :=
  if preB s x.1 = true then match restW t x.1 with
    | some p => if b = none ∨ x.2 + p.1 < wV b then some (x.2 + p.1, i :: p.2) else b
    | none => b
  else b
def foldN (s : List UInt8) (t : List Way) : List FSort → Int → Way → Way
  | [], _, b => b
  | x :: r, i, b => foldN s t r (i + 1) (stepN s t i x b)
def tabN (f : List FSort) : List UInt8 → List Way
  | [] => [some (0, [])]
  | c :: s => foldN (c :: s) (tabN f s) f 0 none :: tabN f s
theorem tabN_len (f : List FSort) : ∀ s : List UInt8, (tabN f s).length = s.length + 1
  | [] => rfl
  | c :: s => by rw [tabN, List.length_cons, tabN_len f s, List.length_cons]
theorem tabN_drop (f : List FSort) : ∀ (s : List UInt8) (k : Nat), k ≤ s.length → (tabN f s).drop k = tabN f (s.drop k)
  | s, 0, _ => rfl
  | [], k + 1, h => absurd h (by simp)
  | c :: s, k + 1, h => by
    rw [tabN, List.drop_succ_cons, tabN_drop f s k (by simpa using h), List.drop_succ_cons]
def wayN (f : List FSort) (s : List UInt8) : Way := (tabN f s).headD none
theorem tabN_at (f : List FSort) (s : List UInt8) (k : Nat) (h : k ≤ s.length) : (tabN f s)[k]? = some (wayN f (s.drop k)) := by
  have e : (tabN f s)[k]? = ((tabN f s).drop k)[0]? := by rw [List.getElem?_drop]; rfl
  rw [e, tabN_drop f s k h, wayN]
  have hl := tabN_len f (s.drop k)
  cases hq : tabN f (s.drop k) with
  | nil => rw [hq] at hl; simp at hl
  | cons a r => rfl
theorem restW_eq {f : List FSort} {c : UInt8} {s : List UInt8} {x : FSort} (h1 : 1 ≤ x.1.length) (h2 : x.1.length ≤ s.length + 1) : restW (tabN f s) x.1 = wayN f ((c :: s).drop x.1.length) := by
  obtain ⟨k, hk⟩ : ∃ k, x.1.length = k + 1 := ⟨x.1.length - 1, by omega⟩
  rw [restW, hk, List.drop_succ_cons, Nat.add_sub_cancel, List.getD_eq_getElem?_getD, tabN_at f s k (by omega)]
  rfl
theorem wayN_nil (f : List FSort) : wayN f [] = some (0, []) := rfl
theorem wayN_cons (f : List FSort) (c : UInt8) (s : List UInt8) : wayN f (c :: s) = foldN (c :: s) (tabN f s) f 0 none := rfl
theorem foldN_drop {f : List FSort} (s : List UInt8) (t : List Way) {i : Nat} {x : FSort} (k : Int) (b : Way) (h : f[i]? = some x) : foldN s t (f.drop i) k b = foldN s t (f.drop (i + 1)) (k + 1) (stepN s t k x b) := by
  have hi := (List.getElem?_eq_some_iff.1 h).1
  rw [List.drop_eq_getElem_cons hi, foldN, (List.getElem?_eq_some_iff.1 h).2]
theorem foldN_end {f : List FSort} (s : List UInt8) (t : List Way) {i : Nat} (k : Int) (b : Way) (h : f.length ≤ i) : foldN s t (f.drop i) k b = b := by rw [List.drop_of_length_le h, foldN]

/-- What holds of a way: its sorts set the text, and it is as wide as they are. -/
def catF (f : List FSort) (l : List Int) : List UInt8 := l.flatMap fun i => ((f[i.toNat]?).map Prod.fst).getD []
structure WayOk (f : List FSort) (s : List UInt8) (w : Int) (l : List Int) : Prop where
  cat : catF f l = s
  wide : w = wideI f l
  at_ : ∀ z ∈ l, 0 ≤ z ∧ z < f.length
theorem catF_cons {f : List FSort} {i : Nat} {x : FSort} (h : f[i]? = some x) (l : List Int) : catF f ((i : Int) :: l) = x.1 ++ catF f l := by
  rw [catF, List.flatMap_cons, show ((i : Int)).toNat = i by omega, h]; rfl
theorem catF_app (f : List FSort) (a b : List Int) : catF f (a ++ b) = catF f a ++ catF f b := by rw [catF, List.flatMap_append]; rfl
theorem catF_len {f : List FSort} (hc : CodesOk f) : ∀ l : List Int, (∀ z ∈ l, 0 ≤ z ∧ z < f.length) → l.length ≤ (catF f l).length
  | [], _ => by simp
  | z :: r, h => by
    have hz := h z (by simp)
    have ih := catF_len hc r fun y hy => h y (by simp [hy])
    obtain ⟨n, rfl⟩ : ∃ n : Nat, z = n := ⟨z.toNat, by omega⟩
    obtain ⟨x, hx⟩ : ∃ x, f[n]? = some x := ⟨_, List.getElem?_eq_getElem (by omega)⟩
    have := hc x (List.mem_of_getElem? hx)
    rw [catF_cons hx, List.length_append, List.length_cons]
    omega
theorem preB_app {s c : List UInt8} (h : preB s c = true) : c ++ s.drop c.length = s := by
  have := (preB_spec h).2
  calc c ++ s.drop c.length = s.take c.length ++ s.drop c.length := by rw [this]
    _ = s := List.take_append_drop _ _
/-- What a fold over the sorts keeps. -/
def BestN (f : List FSort) (s : List UInt8) (n : Int) (b : Way) : Prop := ∀ w l, b = some (w, l) → WayOk f s w l ∧ ∃ j l', l = j :: l' ∧ j < n
theorem stepN_ok {f : List FSort} {c : UInt8} {s : List UInt8} (ih : ∀ k, k ≤ s.length → ∀ w l, wayN f (s.drop k) = some (w, l) → WayOk f (s.drop k) w l) (hc : CodesOk f) {i : Nat} {x : FSort} (hx : f[i]? = some x) {b : Way} (hb : BestN f (c :: s) i b) :
    BestN f (c :: s) (i + 1) (stepN (c :: s) (tabN f s) i x b) := by
  have hb' : BestN f (c :: s) (i + 1) b := fun w l e => by
    obtain ⟨h1, j, l', h2, h3⟩ := hb w l e
    exact ⟨h1, j, l', h2, by omega⟩
  unfold stepN
  split
  · rename_i hp
    have h1 := hc x (List.mem_of_getElem? hx)
    have h2 := (preB_spec hp).1
    simp only [List.length_cons] at h2
    rw [restW_eq (c := c) h1.1 h2]
    split
    · rename_i p hq
      split
      · intro w l e
        obtain ⟨rfl, rfl⟩ := Prod.mk.inj (Option.some.inj e)
        have hd : (c :: s).drop x.1.length = s.drop (x.1.length - 1) := by
          obtain ⟨k, hk⟩ : ∃ k, x.1.length = k + 1 := ⟨x.1.length - 1, by omega⟩
          rw [hk, List.drop_succ_cons, Nat.add_sub_cancel]
        rw [hd] at hq
        have hw := ih (x.1.length - 1) (by omega) p.1 p.2 hq
        refine ⟨⟨?_, ?_, fun z hz => ?_⟩, i, p.2, rfl, by omega⟩
        · rw [catF_cons hx, hw.cat, ← hd, preB_app hp]
        · rw [wideI, setAt_some (by simpa using hx), hw.wide]
        · rcases List.mem_cons.1 hz with rfl | hz
          · have := (List.getElem?_eq_some_iff.1 hx).1; omega
          · exact hw.at_ z hz
      · exact hb'
    · exact hb'
  · exact hb'
theorem foldN_ok {f : List FSort} {c : UInt8} {s : List UInt8} (ih : ∀ k, k ≤ s.length → ∀ w l, wayN f (s.drop k) = some (w, l) → WayOk f (s.drop k) w l) (hc : CodesOk f) : ∀ (m i : Nat) (b : Way), f.length - i = m → BestN f (c :: s) i b →
    ∀ w l, foldN (c :: s) (tabN f s) (f.drop i) i b = some (w, l) → WayOk f (c :: s) w l
  | 0, i, b, h, hb => fun w l e => by rw [foldN_end _ _ _ _ (by omega)] at e; exact (hb w l e).1
  | m + 1, i, b, h, hb => fun w l e => by
    have hx : f[i]? = some f[i] := List.getElem?_eq_getElem (by omega)
    rw [foldN_drop _ _ _ _ hx] at e
    exact foldN_ok ih hc m (i + 1) _ (by omega) (by have := stepN_ok ih hc hx hb; simpa using this) w l (by simpa using e)
theorem wayN_ok {f : List FSort} (hc : CodesOk f) : ∀ (s : List UInt8) (w : Int) (l : List Int), wayN f s = some (w, l) → WayOk f s w l
  | [], w, l, e => by
    rw [wayN_nil] at e
    obtain ⟨rfl, rfl⟩ := Prod.mk.inj (Option.some.inj e)
    exact ⟨rfl, rfl, fun z hz => by cases hz⟩
  | c :: s, w, l, e => by
    rw [wayN_cons] at e
    refine foldN_ok (fun k hk w l hw => ?_) hc f.length 0 none (by omega) (fun w l e => by cases e) w l (by simpa using e)
    exact wayN_ok hc (s.drop k) w l hw
termination_by s => s.length
decreasing_by simp only [List.length_drop, List.length_cons]; omega
/-- No way is narrower. -/
def LeW (b : Way) (n : Int) : Prop := ∃ w l, b = some (w, l) ∧ w ≤ n
theorem stepN_le {s : List UInt8} {t : List Way} {i : Int} {x : FSort} {b : Way} {n : Int} (h : LeW b n) : LeW (stepN s t i x b) n := by
  unfold stepN
  split
  · split
    · split
      · rename_i p hp hc
        obtain ⟨w, l, rfl, hw⟩ := h
        refine ⟨_, _, rfl, ?_⟩
        rcases hc with hc | hc
        · cases hc
        · have : x.2 + p.1 < w := hc
          omega
      · exact h
    · exact h
  · exact h
theorem foldN_le {s : List UInt8} {t : List Way} {n : Int} : ∀ {r : List FSort} {i : Int} {b : Way}, LeW b n → LeW (foldN s t r i b) n
  | [], _, _, h => h
  | x :: r, i, b, h => by rw [foldN]; exact foldN_le (stepN_le h)
theorem stepN_hit {s : List UInt8} {t : List Way} {i : Int} {x : FSort} {b : Way} {p : Int × List Int} (h1 : preB s x.1 = true) (h2 : restW t x.1 = some p) : LeW (stepN s t i x b) (x.2 + p.1) := by
  unfold stepN
  rw [if_pos h1, h2]
  simp only
  split
  · exact ⟨_, _, rfl, Int.le_refl _⟩
  · rename_i hc
    cases b with
    | none => exact absurd (.inl rfl) hc
    | some q =>
      refine ⟨q.1, q.2, rfl, ?_⟩
      have : ¬ (x.2 + p.1 < q.1) := fun h => hc (.inr h)
      omega
theorem foldN_hit {s : List UInt8} {t : List Way} : ∀ {r : List FSort} {i : Int} {b : Way} {x : FSort} {p : Int × List Int}, x ∈ r → preB s x.1 = true → restW t x.1 = some p → LeW (foldN s t r i b) (x.2 + p.1)
  | y :: r, i, b, x, p, hm, h1, h2 => by
    rw [foldN]
    rcases List.mem_cons.1 hm with rfl | hm
    · exact foldN_le (stepN_hit h1 h2)
    · exact foldN_hit hm h1 h2
theorem pre_of_app {c s : List UInt8} : preB (c ++ s) c = true := preB_iff.2 ⟨by simp, by simp⟩
/-- The narrowest way is no wider than any. -/
theorem wayN_le {f : List FSort} (hc : CodesOk f) : ∀ (l : List Int), (∀ z ∈ l, 0 ≤ z ∧ z < f.length) → LeW (wayN f (catF f l)) (wideI f l)
  | [], _ => ⟨0, [], rfl, Int.le_refl _⟩
  | z :: r, h => by
    have hz := h z (by simp)
    obtain ⟨w, l, e, hw⟩ := wayN_le hc r fun y hy => h y (by simp [hy])
    obtain ⟨n, rfl⟩ : ∃ n : Nat, z = n := ⟨z.toNat, by omega⟩
    obtain ⟨x, hx⟩ : ∃ x, f[n]? = some x := ⟨_, List.getElem?_eq_getElem (by omega)⟩
    have hm := List.mem_of_getElem? hx
    have h1 := hc x hm
    rw [catF_cons hx, wideI, setAt_some (by simpa using hx)]
    obtain ⟨c, s, hs⟩ : ∃ c s, x.1 ++ catF f r = c :: s := by
      cases hq : x.1 with
      | nil => rw [hq] at h1; simp at h1
      | cons c s => exact ⟨c, s ++ catF f r, rfl⟩
    have hd : (c :: s).drop x.1.length = catF f r := by rw [← hs]; simp
    rw [hs, wayN_cons]
    have hp : preB (c :: s) x.1 = true := by rw [← hs]; exact pre_of_app
    have h2 := (preB_spec hp).1
    have := foldN_hit (s := c :: s) (t := tabN f s) (i := 0) (b := none) hm hp (by rw [restW_eq (c := c) h1.1 (by simpa using h2), hd, e])
    obtain ⟨w', l', e', hw'⟩ := this
    exact ⟨w', l', e', by simp only at hw'; omega⟩

/-! ### The first sort of the narrowest way -/
def fitN (s : List UInt8) (t : List Way) (v : Int) (x : FSort) : Prop := preB s x.1 = true ∧ ∃ p, restW t x.1 = some p ∧ x.2 + p.1 = v
theorem foldN_first {s : List UInt8} {t : List Way} : ∀ (r : List FSort) (i : Nat) (b : Way) (v : Int) (l : List Int), foldN s t r i b = some (v, l) →
    (b = some (v, l)) ∨ ∃ (k : Nat) (x : FSort) (p : Int × List Int), r[k]? = some x ∧ preB s x.1 = true ∧ restW t x.1 = some p ∧ v = x.2 + p.1 ∧ l = ((i + k : Nat) : Int) :: p.2 ∧ (∀ q, b = some q → v < q.1) ∧ ∀ (j : Nat) y, j < k → r[j]? = some y → ¬ fitN s t v y
  | [], i, b, v, l, h => .inl h
  | x :: r, i, b, v, l, h => by
    rw [foldN] at h
    have ih := foldN_first r (i + 1) _ v l (by simpa using h)
    rcases ih with ih | ⟨k, y, p, h1, h2, h3, h4, h5, h6, h7⟩
    · unfold stepN at ih
      split at ih
      · rename_i hp
        split at ih
        · rename_i p hq
          split at ih
          · rename_i hc
            obtain ⟨rfl, rfl⟩ := Prod.mk.inj (Option.some.inj ih)
            refine .inr ⟨0, x, p, rfl, hp, hq, rfl, rfl, fun q hqb => ?_, fun j y hj => absurd hj (by omega)⟩
            rcases hc with hc | hc
            · rw [hc] at hqb; cases hqb
            · rw [hqb] at hc; exact hc
          · exact .inl ih
        · exact .inl ih
      · exact .inl ih
    · have hlt : ∀ q, b = some q → v < q.1 := fun q hqb => by
        obtain ⟨w', l', e', hw'⟩ := stepN_le (s := s) (t := t) (i := (i : Int)) (x := x) (b := b) (n := q.1) ⟨q.1, q.2, hqb, Int.le_refl _⟩
        have := h6 _ e'
        simp only at this
        omega
      refine .inr ⟨k + 1, y, p, by simpa using h1, h2, h3, h4, by rw [h5]; congr 2; omega, hlt, fun j z hj hz => ?_⟩
      cases j with
      | zero =>
        obtain rfl : x = z := by simpa using hz
        rintro ⟨hp, p', hp', hv⟩
        obtain ⟨w', l', e', hw'⟩ := stepN_hit (i := (i : Int)) (b := b) hp hp'
        have := h6 _ e'
        simp only at this
        omega
      | succ j => exact h7 j z (by omega) (by simpa using hz)
/-- The narrowest way begins with the first sort that fits it. -/
theorem wayN_first {f : List FSort} {c : UInt8} {s : List UInt8} {v : Int} {l : List Int} (h : wayN f (c :: s) = some (v, l)) :
    ∃ (k : Nat) (x : FSort) (p : Int × List Int), f[k]? = some x ∧ preB (c :: s) x.1 = true ∧ restW (tabN f s) x.1 = some p ∧ v = x.2 + p.1 ∧ l = (k : Int) :: p.2 ∧ ∀ (j : Nat) y, j < k → f[j]? = some y → ¬ fitN (c :: s) (tabN f s) v y := by
  rw [wayN_cons] at h
  rcases foldN_first f 0 none v l (by simpa using h) with h | ⟨k, x, p, h1, h2, h3, h4, h5, _, h7⟩
  · cases h
  · exact ⟨k, x, p, h1, h2, h3, h4, by simpa using h5, h7⟩

/-! ### The law's own counts -/
theorem setG_cat {f : List FSort} (hc : CodesOk f) : ∀ (n : Nat) (w : List UInt8) (acc l : List Int), w.length ≤ n → setG f n w acc = (l, true) → catF f l = catF f acc ++ w
  | 0, w, acc, l, hn, h => by
    rw [setG] at h
    obtain rfl := (Prod.mk.inj h).1
    rw [List.length_eq_zero_iff.1 (show w.length = 0 by omega), List.append_nil]
  | n + 1, w, acc, l, hn, h => by
    rw [setG] at h
    split at h
    · rename_i e
      obtain rfl := (Prod.mk.inj h).1
      rw [List.length_eq_zero_iff.1 e, List.append_nil]
    · split at h
      · cases (Prod.mk.inj h).2
      · rename_i e1 e2
        have hp := best_pos hc (w := w) (by omega)
        have ih := setG_cat hc n _ _ l (by rw [List.length_drop]; omega) h
        rcases bestF_is f w with ⟨h', _⟩ | ⟨i, x, h', h3, h4, h5, _⟩
        · omega
        · rw [ih, catF_app, h', catF_cons h4, codeL_some (by simpa using h4), List.append_assoc]
          congr 1
          show (x.1 ++ []) ++ _ = _
          rw [List.append_nil]
          exact preB_app h5
theorem wordI_cat {f : List FSort} (hc : CodesOk f) {w : List UInt8} {l : List Int} (h : (l, true) = setW f w []) : catF f l = w := by
  have := setG_cat hc w.length w [] l (Nat.le_refl _) h.symm
  simpa [catF] using this
def ligF (f : List FSort) (l : List Int) : List (List UInt8) := (l.map fun i => ((f[i.toNat]?).map Prod.fst).getD []).filter fun c => decide (1 < c.length)
theorem ligF_take {f : List FSort} {l : List Int} {k : Nat} {i : Int} {x : FSort} (h : l[k]? = some i) (hx : f[i.toNat]? = some x) : ligF f (l.take (k + 1)) = if 1 < x.1.length then ligF f (l.take k) ++ [x.1] else ligF f (l.take k) := by
  unfold ligF
  rw [List.take_add_one, h, List.map_append, List.filter_append]
  simp only [Option.toList, List.map_cons, List.map_nil, hx, Option.map_some, Option.getD_some, List.filter_cons, List.filter_nil]
  by_cases e : 1 < x.1.length
  · rw [if_pos e, if_pos (by simpa using e)]
  · rw [if_neg e, if_neg (by simpa using e), List.append_nil]
theorem catF_take {f : List FSort} {l : List Int} {k : Nat} {i : Int} {x : FSort} (h : l[k]? = some i) (hx : f[i.toNat]? = some x) : catF f (l.take (k + 1)) = catF f (l.take k) ++ x.1 := by
  rw [List.take_add_one, h, catF_app]
  congr 1
  show (((f[i.toNat]?).map Prod.fst).getD []) ++ [] = x.1
  rw [hx, List.append_nil]; rfl
theorem catF_take_len {f : List FSort} (l : List Int) (k : Nat) : (catF f (l.take k)).length ≤ (catF f l).length := by
  have := catF_app f (l.take k) (l.drop k)
  rw [List.take_append_drop] at this
  rw [this, List.length_append]; omega
theorem ligF_len (f : List FSort) (l : List Int) : (ligF f l).length ≤ l.length := by
  unfold ligF
  refine Nat.le_trans (List.length_filter_le _ _) ?_
  simp

/-! ### Tables of widths and of ways -/
theorem setAt_nn {f : List FSort} (h : okFont f = true) (k : Int) : 0 ≤ setAt f k ∧ setAt f k ≤ 54 := by
  unfold setAt
  cases hx : f[k.toNat]? with
  | none => simp
  | some x => have := (okFont_sets h).1 x (List.mem_of_getElem? hx); simp; omega
theorem wideI_nn {f : List FSort} (h : okFont f = true) : ∀ l : List Int, 0 ≤ wideI f l ∧ wideI f l ≤ 54 * l.length
  | [] => by simp [wideI]
  | z :: r => by
    have := wideI_nn h r
    have := setAt_nn h z
    simp only [wideI, List.length_cons, Int.natCast_add, Int.mul_add]
    omega
theorem way_bound {f : List FSort} (h : okFont f = true) {s : List UInt8} {p : Int × List Int} (hp : wayN f s = some p) : 0 ≤ p.1 ∧ p.1 ≤ 54 * s.length ∧ p.2.length ≤ s.length := by
  have hc := okFont_codes h
  have hw := wayN_ok hc s p.1 p.2 hp
  have h1 := wideI_nn h p.2
  have h2 := catF_len hc p.2 hw.at_
  rw [hw.cat] at h2
  rw [hw.wide]
  omega
theorem rest_bound {f : List FSort} (h : okFont f = true) (s c : List UInt8) : restW (tabN f s) c = none ∨ ∃ p, restW (tabN f s) c = some p ∧ 0 ≤ p.1 ∧ p.1 ≤ 54 * s.length ∧ p.2.length ≤ s.length := by
  unfold restW
  rw [List.getD_eq_getElem?_getD]
  by_cases hk : c.length - 1 ≤ s.length
  · rw [tabN_at f s _ hk]
    show wayN f (s.drop (c.length - 1)) = none ∨ ∃ p, wayN f (s.drop (c.length - 1)) = some p ∧ _
    cases hq : wayN f (s.drop (c.length - 1)) with
    | none => exact .inl rfl
    | some p =>
      have := way_bound h hq
      rw [List.length_drop] at this
      exact .inr ⟨p, rfl, this.1, by omega, by omega⟩
  · rw [List.getElem?_eq_none (by rw [tabN_len]; omega)]
    exact .inl rfl
theorem rest_at {table : List Int} {T : List Way} {a r rest : Int} {c : List UInt8} (h0 : 0 ≤ a) (hq : table.drop (a + 1).toNat = T.map wV) (hl : 1 ≤ c.length) (hr : r = a + c.length) (hx : table[r.toNat]? = some rest) : rest = wV (restW T c) := by
  have e : (table.drop (a + 1).toNat)[c.length - 1]? = some rest := by
    rw [List.getElem?_drop, show (a + 1).toNat + (c.length - 1) = r.toNat by omega]; exact hx
  rw [hq, List.getElem?_map] at e
  unfold restW
  rw [List.getD_eq_getElem?_getD]
  cases ht : T[c.length - 1]? with
  | none => rw [ht] at e; cases e
  | some y => rw [ht] at e; exact (Option.some.inj e).symm
theorem ways_at {ways : List (List Int)} {T : List Way} {a r : Int} {rest : List Int} {c : List UInt8} (h0 : 0 ≤ a) (hq : ways.drop (a + 1).toNat = T.map wL) (hl : 1 ≤ c.length) (hr : r = a + c.length) (hx : ways[r.toNat]? = some rest) : rest = wL (restW T c) := by
  have e : (ways.drop (a + 1).toNat)[c.length - 1]? = some rest := by
    rw [List.getElem?_drop, show (a + 1).toNat + (c.length - 1) = r.toNat by omega]; exact hx
  rw [hq, List.getElem?_map] at e
  unfold restW
  rw [List.getD_eq_getElem?_getD]
  cases ht : T[c.length - 1]? with
  | none => rw [ht] at e; cases e
  | some y => rw [ht] at e; exact (Option.some.inj e).symm
theorem found_at {found : List Bool} {T : List Way} {a r : Int} {rest : Bool} {c : List UInt8} (h0 : 0 ≤ a) (hq : found.drop (a + 1).toNat = T.map Option.isSome) (hl : 1 ≤ c.length) (hr : r = a + c.length) (hx : found[r.toNat]? = some rest) : rest = (restW T c).isSome := by
  have e : (found.drop (a + 1).toNat)[c.length - 1]? = some rest := by
    rw [List.getElem?_drop, show (a + 1).toNat + (c.length - 1) = r.toNat by omega]; exact hx
  rw [hq, List.getElem?_map] at e
  unfold restW
  rw [List.getD_eq_getElem?_getD]
  cases ht : T[c.length - 1]? with
  | none => rw [ht] at e; cases e
  | some y => rw [ht] at e; exact (Option.some.inj e).symm
theorem tab_step {α : Type} {g : Way → α} {f : List FSort} {w : List UInt8} {table : List α} {a : Int} {b : Way} (h0 : 0 ≤ a) (h1 : a < w.length) (hl : table.length = w.length + 1) (hq : table.drop (a + 1).toNat = (tabN f (w.drop (a + 1).toNat)).map g)
    (hx : table[a.toNat]? = some (g b)) (hb : wayN f (w.drop a.toNat) = b) : table.drop a.toNat = (tabN f (w.drop a.toNat)).map g := by
  have hlt : a.toNat < table.length := by omega
  have hlw : a.toNat < w.length := by omega
  rw [List.drop_eq_getElem_cons hlt, List.drop_eq_getElem_cons hlw, tabN, List.map_cons, show a.toNat + 1 = (a + 1).toNat by omega, hq]
  congr 1
  have := List.getElem?_eq_getElem hlt
  rw [hx] at this
  rw [← Option.some.inj this, ← hb, List.drop_eq_getElem_cons hlw, wayN_cons, show a.toNat + 1 = (a + 1).toNat by omega]
def lessL : List Int → List Int → Bool
  | [], [] => false
  | [], _ :: _ => true
  | _ :: _, [] => false
  | x :: a, y :: b => if x = y then lessL a b else decide (x < y)
theorem lessL_head {i j : Int} {a b : List Int} (h : j < i) : lessL (i :: a) (j :: b) = false := by
  rw [lessL, if_neg (by omega), decide_eq_false (by omega)]
theorem stepN_no {s : List UInt8} {t : List Way} {i : Int} {x : FSort} {b : Way} (h : preB s x.1 = false ∨ restW t x.1 = none) : stepN s t i x b = b := by
  unfold stepN
  split
  · rename_i hp
    rcases h with h | h
    · rw [hp] at h; cases h
    · rw [h]
  · rfl
theorem stepN_yes {s : List UInt8} {t : List Way} {i : Int} {x : FSort} {b : Way} {p : Int × List Int} (h1 : preB s x.1 = true) (h2 : restW t x.1 = some p) (h3 : b = none ∨ x.2 + p.1 < wV b) : stepN s t i x b = some (x.2 + p.1, i :: p.2) := by
  unfold stepN
  rw [if_pos h1, h2]
  exact if_pos h3
theorem stepN_keep {s : List UInt8} {t : List Way} {i : Int} {x : FSort} {b : Way} {p : Int × List Int} (h2 : restW t x.1 = some p) (h3 : ¬ (b = none ∨ x.2 + p.1 < wV b)) : stepN s t i x b = b := by
  unfold stepN
  split
  · rw [h2]; exact if_neg h3
  · rfl
def narA (f : List FSort) (w : List UInt8) : List Int × Int × Bool := if okFont f && okWord w then match wayN f w with
    | some p => (p.2, p.1, true)
    | none => ([], 0, false)
  else ([], 0, false)
def ligA (f : List FSort) (w : List UInt8) : List (List UInt8) × Bool := (ligF f (sortsA f w).1, (sortsA f w).2)
theorem sortsA_in {f : List FSort} {w : List UInt8} {l : List Int} {ok : Bool} (h : (l, ok) = sortsA f w) : (∀ z ∈ l, 0 ≤ z ∧ z < f.length) ∧ l.length ≤ 16 := by
  unfold sortsA at h
  split at h
  · rename_i hc
    rw [Bool.and_eq_true] at hc
    have h1 := wordI_in (okFont_codes hc.1) w
    rw [← setW_wordI h] at h1
    have := okWord_len hc.2
    exact ⟨h1.1, by omega⟩
  · obtain ⟨rfl, rfl⟩ := Prod.mk.inj h
    exact ⟨fun z hz => (by cases hz), by simp⟩
theorem setW_false {f : List FSort} {w : List UInt8} {l : List Int} (h : (l, false) = setW f w []) : l = [] := by
  have go : ∀ (n : Nat) (w : List UInt8) (acc : List Int), (l, false) = setG f n w acc → l = [] := by
    intro n
    induction n with
    | zero => intro w acc h; rw [setG] at h; cases (Prod.mk.inj h).2
    | succ n ih =>
      intro w acc h
      rw [setG] at h
      split at h
      · cases (Prod.mk.inj h).2
      · split at h
        · exact (Prod.mk.inj h).1
        · exact ih _ _ h
  exact go _ _ _ h

/-! ### The rounds of both tables -/
structure TabI (f : List FSort) (w : List UInt8) (a i : Int) (tbl : List Int) : Prop where
  len : tbl.length = w.length + 1
  rest : tbl.drop (a + 1).toNat = (tabN f (w.drop (a + 1).toNat)).map wV
  best : ∃ b : Way, wayN f (w.drop a.toNat) = foldN (w.drop a.toNat) (tabN f (w.drop (a + 1).toNat)) (f.drop i.toNat) i b ∧ tbl[a.toNat]? = some (wV b) ∧ (b = none ∨ ∃ p, b = some p ∧ 0 ≤ p.1)
theorem drop_at {w : List UInt8} {a : Int} (h0 : 0 ≤ a) (h1 : a < w.length) : ∃ c, w.drop a.toNat = c :: w.drop (a + 1).toNat := by
  refine ⟨w[a.toNat]'(by omega), ?_⟩
  rw [List.drop_eq_getElem_cons (by omega), show a.toNat + 1 = (a + 1).toNat by omega]
theorem tabI_start {f : List FSort} {w : List UInt8} {a : Int} {tbl : List Int} (h0 : 0 ≤ a) (h1 : a < w.length) (hl : tbl.length = w.length + 1) (hq : tbl.drop (a + 1).toNat = (tabN f (w.drop (a + 1).toNat)).map wV) : TabI f w a 0 (tbl.set a.toNat (-1)) := by
  obtain ⟨c, hc⟩ := drop_at h0 h1
  refine ⟨by rw [List.length_set]; exact hl, ?_, none, ?_, ?_, .inl rfl⟩
  · rw [List.drop_set_of_lt (by omega)]; exact hq
  · rw [hc, wayN_cons]; rfl
  · rw [List.getElem?_set_self (by omega)]; rfl
theorem tabI_no {f : List FSort} {w : List UInt8} {a i : Int} {tbl : List Int} {x : FSort} (hi : 0 ≤ i) (h : TabI f w a i tbl) (hx : f[i.toNat]? = some x) (hp : preB (w.drop a.toNat) x.1 = false) : TabI f w a (i + 1) tbl := by
  obtain ⟨h1, h2, b, h3, h4, h5⟩ := h
  refine ⟨h1, h2, b, ?_, h4, h5⟩
  rw [h3, foldN_drop _ _ _ _ hx, stepN_no (.inl hp), show i.toNat + 1 = (i + 1).toNat by omega]
theorem tabI_step {f : List FSort} {w : List UInt8} {a i r rest : Int} {tbl : List Int} {x : FSort} (ho : okFont f = true) (hw : w.length ≤ 16) (h0 : 0 ≤ a) (h1 : a < w.length) (hi : 0 ≤ i) (h : TabI f w a i tbl) (hx : f[i.toNat]? = some x)
    (hp : preB (w.drop a.toNat) x.1 = true) (hr : r = a + x.1.length) (hrest : tbl[r.toNat]? = some rest) : (-1 ≤ rest ∧ rest ≤ 864) ∧ (rest < 0 → TabI f w a (i + 1) tbl) ∧
      ∀ v, tbl[a.toNat]? = some v → (0 ≤ rest → (v < 0 ∨ x.2 + rest < v) → TabI f w a (i + 1) (tbl.set a.toNat (x.2 + rest))) ∧ (0 ≤ v → ¬ x.2 + rest < v → TabI f w a (i + 1) tbl) := by
  obtain ⟨g1, g2, b, g3, g4, g5⟩ := h
  have hm := List.mem_of_getElem? hx
  have hc1 := okFont_codes ho x hm
  have hs1 := (okFont_sets ho).1 x hm
  have hre := rest_at h0 g2 hc1.1 hr hrest
  have hrb := rest_bound ho (w.drop (a + 1).toNat) x.1
  rw [List.length_drop] at hrb
  have e1 : i.toNat + 1 = (i + 1).toNat := by omega
  rcases hrb with hn | ⟨p, hpq, hp0, hp1, _⟩
  · have hr1 : rest = -1 := by rw [hre, hn]; rfl
    have keep : TabI f w a (i + 1) tbl := ⟨g1, g2, b, by rw [g3, foldN_drop _ _ _ _ hx, stepN_no (.inr hn), e1], g4, g5⟩
    exact ⟨by omega, fun _ => keep, fun v hv => ⟨fun h => by omega, fun _ _ => keep⟩⟩
  · have hr1 : rest = p.1 := by rw [hre, hpq]; rfl
    refine ⟨by omega, fun h => by omega, fun v hv => ?_⟩
    have hvb : v = wV b := Option.some.inj (hv.symm.trans g4)
    have hbn : v < 0 ↔ b = none := by
      rcases g5 with rfl | ⟨q, rfl, hq⟩
      · rw [hvb]; exact ⟨fun _ => rfl, fun _ => by show (-1 : Int) < 0; omega⟩
      · rw [hvb]; exact ⟨fun h => absurd h (by show ¬ q.1 < 0; omega), fun h => by cases h⟩
    refine ⟨fun _ hcnd => ⟨by rw [List.length_set]; exact g1, by rw [List.drop_set_of_lt (by omega)]; exact g2, some (x.2 + p.1, i :: p.2), ?_, ?_, .inr ⟨_, rfl, by show 0 ≤ x.2 + p.1; omega⟩⟩, fun hv0 hnl => ⟨g1, g2, b, ?_, g4, g5⟩⟩
    · rw [g3, foldN_drop _ _ _ _ hx, stepN_yes hp hpq (by rw [← hvb, ← hbn, ← hr1]; exact hcnd), e1]
    · rw [List.getElem?_set_self (by omega), hr1]; rfl
    · rw [g3, foldN_drop _ _ _ _ hx, stepN_keep hpq (by rw [← hvb, ← hbn, ← hr1]; omega), e1]
theorem tabI_end {f : List FSort} {w : List UInt8} {a i : Int} {tbl : List Int} (h0 : 0 ≤ a) (h1 : a < w.length) (h : TabI f w a i tbl) (hi : (f.length : Int) ≤ i) : tbl.drop a.toNat = (tabN f (w.drop a.toNat)).map wV := by
  obtain ⟨g1, g2, b, g3, g4, g5⟩ := h
  rw [foldN_end _ _ _ _ (by omega)] at g3
  exact tab_step h0 h1 g1 g2 g4 g3
structure WayI (f : List FSort) (w : List UInt8) (a i : Int) (ways : List (List Int)) (found : List Bool) : Prop where
  len1 : ways.length = w.length + 1
  len2 : found.length = w.length + 1
  rest1 : ways.drop (a + 1).toNat = (tabN f (w.drop (a + 1).toNat)).map wL
  rest2 : found.drop (a + 1).toNat = (tabN f (w.drop (a + 1).toNat)).map Option.isSome
  none : ∀ k, k < a.toNat → found[k]? = some false ∧ ways[k]? = some []
  best : ∃ b : Way, wayN f (w.drop a.toNat) = foldN (w.drop a.toNat) (tabN f (w.drop (a + 1).toNat)) (f.drop i.toNat) i b ∧ found[a.toNat]? = some b.isSome ∧ ways[a.toNat]? = some (wL b) ∧ BestN f (w.drop a.toNat) i b
theorem wayI_no {f : List FSort} {w : List UInt8} {a i : Int} {ways : List (List Int)} {found : List Bool} {x : FSort} (hi : 0 ≤ i) (h : WayI f w a i ways found) (hx : f[i.toNat]? = some x) (hp : preB (w.drop a.toNat) x.1 = false ∨ restW (tabN f (w.drop (a + 1).toNat)) x.1 = none) : WayI f w a (i + 1) ways found := by
  obtain ⟨h1, h2, h3, h4, h5, b, h6, h7, h8, h9⟩ := h
  refine ⟨h1, h2, h3, h4, h5, b, ?_, h7, h8, fun v l e => ?_⟩
  · rw [h6, foldN_drop _ _ _ _ hx, stepN_no hp, show i.toNat + 1 = (i + 1).toNat by omega]
  · obtain ⟨q1, j, l', q2, q3⟩ := h9 v l e
    exact ⟨q1, j, l', q2, by omega⟩
/-- One round of the reference's table: what stands there, and what it becomes. -/
theorem wayI_step {f : List FSort} {w : List UInt8} {a i r : Int} {ways : List (List Int)} {found : List Bool} {x : FSort} {rest : List Int} (ho : okFont f = true) (hw : w.length ≤ 16) (h0 : 0 ≤ a) (h1 : a < w.length) (hi : 0 ≤ i) (h : WayI f w a i ways found) (hx : f[i.toNat]? = some x)
    (hp : preB (w.drop a.toNat) x.1 = true) (hr : r = a + x.1.length) (hf : found[r.toNat]? = some true) (hrest : ways[r.toNat]? = some rest) {next : List Int} (hnx : next = i :: rest) :
    ((∀ z ∈ next, 0 ≤ z ∧ z < f.length) ∧ next.length ≤ 17) ∧ (∀ old, found[a.toNat]? = some true → ways[a.toNat]? = some old → (∀ z ∈ old, 0 ≤ z ∧ z < f.length) ∧ old.length ≤ 16 ∧ lessL next old = false) ∧
    (found[a.toNat]? = some false → WayI f w a (i + 1) (ways.set a.toNat next) (found.set a.toNat true)) ∧
    (∀ old, found[a.toNat]? = some true → ways[a.toNat]? = some old → (wideI f next < wideI f old → WayI f w a (i + 1) (ways.set a.toNat next) (found.set a.toNat true)) ∧ (¬ wideI f next < wideI f old → WayI f w a (i + 1) ways found)) := by
  obtain ⟨g1, g2, g3, g4, g5, b, g6, g7, g8, g9⟩ := h
  have hm := List.mem_of_getElem? hx
  have hcod := okFont_codes ho
  have hc1 := hcod x hm
  have e1 : i.toNat + 1 = (i + 1).toNat := by omega
  have ei : ((i.toNat : Nat) : Int) = i := by omega
  obtain ⟨c, hc⟩ := drop_at h0 h1
  have hre := ways_at h0 g3 hc1.1 hr hrest
  have hfe := found_at h0 g4 hc1.1 hr hf
  obtain ⟨p, hpq⟩ : ∃ p, restW (tabN f (w.drop (a + 1).toNat)) x.1 = some p := by
    cases hq : restW (tabN f (w.drop (a + 1).toNat)) x.1 with
    | none => rw [hq] at hfe; cases hfe
    | some p => exact ⟨p, rfl⟩
  have hr1 : rest = p.2 := by rw [hre, hpq]; rfl
  have hpl := (preB_spec hp).1
  -- what the step makes
  have hst : stepN (w.drop a.toNat) (tabN f (w.drop (a + 1).toNat)) i x none = some (x.2 + p.1, i :: p.2) := stepN_yes hp hpq (.inl rfl)
  have ih : ∀ k, k ≤ (w.drop (a + 1).toNat).length → ∀ v l, wayN f ((w.drop (a + 1).toNat).drop k) = some (v, l) → WayOk f ((w.drop (a + 1).toNat).drop k) v l := fun k _ v l e => wayN_ok hcod _ v l e
  have hnew := stepN_ok (c := c) ih hcod hx (b := none) (fun v l e => by cases e)
  rw [← hc, ei] at hnew
  obtain ⟨hok, _⟩ := hnew _ _ hst
  have hwid : x.2 + p.1 = wideI f next := by rw [hnx, hr1]; exact hok.wide
  have hin : ∀ z ∈ next, 0 ≤ z ∧ z < f.length := by rw [hnx, hr1]; exact hok.at_
  have hnl : next.length ≤ 16 := by
    have := catF_len hcod _ hok.at_
    rw [hok.cat, List.length_drop] at this
    rw [hnx, hr1]; omega
  have mk : (b = none ∨ x.2 + p.1 < wV b) → WayI f w a (i + 1) (ways.set a.toNat next) (found.set a.toNat true) := fun hcnd => by
    refine ⟨by rw [List.length_set]; exact g1, by rw [List.length_set]; exact g2, by rw [List.drop_set_of_lt (by omega)]; exact g3, by rw [List.drop_set_of_lt (by omega)]; exact g4, fun k hk => ?_, some (x.2 + p.1, i :: p.2), ?_, ?_, ?_, ?_⟩
    · rw [List.getElem?_set_ne (by omega), List.getElem?_set_ne (by omega)]; exact g5 k hk
    · rw [g6, foldN_drop _ _ _ _ hx, stepN_yes hp hpq hcnd, e1]
    · rw [List.getElem?_set_self (by omega)]; rfl
    · rw [List.getElem?_set_self (by omega), hnx, hr1]; rfl
    · intro v l e
      obtain ⟨rfl, rfl⟩ := Prod.mk.inj (Option.some.inj e)
      exact ⟨hok, i, p.2, rfl, by omega⟩
  have old_ : ∀ old, found[a.toNat]? = some true → ways[a.toNat]? = some old → ∃ q, b = some q ∧ old = q.2 ∧ WayOk f (w.drop a.toNat) q.1 q.2 ∧ ∃ j l', q.2 = j :: l' ∧ j < i := fun old hfa hwa => by
    cases hb : b with
    | none => rw [hb] at g7; rw [g7] at hfa; cases hfa
    | some q =>
      rw [hb] at g8
      have : old = q.2 := Option.some.inj (hwa.symm.trans g8)
      obtain ⟨q1, q2⟩ := g9 q.1 q.2 hb
      exact ⟨q, rfl, this, q1, q2⟩
  refine ⟨⟨hin, by omega⟩, fun old hfa hwa => ?_, fun hfa => mk (.inl ?_), fun old hfa hwa => ⟨fun hlt => mk (.inr ?_), fun hlt => ?_⟩⟩
  · obtain ⟨q, hb, rfl, q1, j, l', q2, q3⟩ := old_ old hfa hwa
    refine ⟨q1.at_, ?_, ?_⟩
    · have := catF_len hcod _ q1.at_
      rw [q1.cat, List.length_drop] at this
      omega
    · rw [hnx, q2]; exact lessL_head q3
  · cases hb : b with
    | none => rfl
    | some q => rw [hb] at g7; rw [g7] at hfa; cases hfa
  · obtain ⟨q, hb, rfl, q1, _⟩ := old_ old hfa hwa
    rw [hb, hwid]
    show _ < q.1
    rw [q1.wide]; exact hlt
  · obtain ⟨q, hb, rfl, q1, j, l', q2, q3⟩ := old_ old hfa hwa
    refine ⟨g1, g2, g3, g4, g5, b, ?_, g7, g8, fun v l e => ?_⟩
    · rw [g6, foldN_drop _ _ _ _ hx, stepN_keep hpq ?_, e1]
      rintro (h | h)
      · rw [hb] at h; cases h
      · rw [hb, hwid] at h
        have h' : wideI f next < q.1 := h
        rw [q1.wide] at h'
        exact hlt h'
    · obtain ⟨q1, j, l', q2, q3⟩ := g9 v l e
      exact ⟨q1, j, l', q2, by omega⟩
theorem wayI_start {f : List FSort} {w : List UInt8} {a : Int} {ways : List (List Int)} {found : List Bool} (h0 : 0 ≤ a) (h1 : a < w.length) (hl1 : ways.length = w.length + 1) (hl2 : found.length = w.length + 1)
    (hq1 : ways.drop (a + 1).toNat = (tabN f (w.drop (a + 1).toNat)).map wL) (hq2 : found.drop (a + 1).toNat = (tabN f (w.drop (a + 1).toNat)).map Option.isSome) (hn : ∀ k, k < (a + 1).toNat → found[k]? = some false ∧ ways[k]? = some []) : WayI f w a 0 ways found := by
  obtain ⟨c, hc⟩ := drop_at h0 h1
  refine ⟨hl1, hl2, hq1, hq2, fun k hk => hn k (by omega), none, ?_, (hn _ (by omega)).1, (hn _ (by omega)).2, fun v l e => by cases e⟩
  rw [hc, wayN_cons]; rfl
theorem wayI_end {f : List FSort} {w : List UInt8} {a i : Int} {ways : List (List Int)} {found : List Bool} (h0 : 0 ≤ a) (h1 : a < w.length) (h : WayI f w a i ways found) (hi : (f.length : Int) ≤ i) :
    ways.drop a.toNat = (tabN f (w.drop a.toNat)).map wL ∧ found.drop a.toNat = (tabN f (w.drop a.toNat)).map Option.isSome := by
  obtain ⟨g1, g2, g3, g4, g5, b, g6, g7, g8, g9⟩ := h
  rw [foldN_end _ _ _ _ (by omega)] at g6
  exact ⟨tab_step h0 h1 g1 g3 g8 g6, tab_step h0 h1 g2 g4 g7 g6⟩

/-! ### The way is told, sort by sort -/
theorem tab_get {α : Type} (g : Way → α) (f : List FSort) (w : List UInt8) (k : Nat) (h : k ≤ w.length) : ((tabN f w).map g)[k]? = some (g (wayN f (w.drop k))) := by
  rw [List.getElem?_map, tabN_at f w k h]; rfl
theorem tab_dropm {α : Type} (g : Way → α) (f : List FSort) (w : List UInt8) (k : Nat) (h : k ≤ w.length) : ((tabN f w).map g).drop k = (tabN f (w.drop k)).map g := by
  rw [← List.map_drop, tabN_drop f w k h]
theorem nar_step {f : List FSort} {w : List UInt8} {a : Int} {p : Int × List Int} (ho : okFont f = true) (hw : w.length ≤ 16) (h0 : 0 ≤ a) (h1 : a < w.length) (qp : wayN f (w.drop a.toNat) = some p) :
    ∃ k : Nat, k < f.length ∧ ∀ (i : Int) (x : FSort), 0 ≤ i → i ≤ k → f[i.toNat]? = some x → (preB (w.drop a.toNat) x.1 = false → i + 1 ≤ k) ∧ (preB (w.drop a.toNat) x.1 = true → ∀ r rest : Int, r = a + x.1.length → ((tabN f w).map wV)[r.toNat]? = some rest →
      (-1 ≤ rest ∧ rest ≤ 864) ∧ (rest < 0 → i + 1 ≤ k) ∧ (0 ≤ rest → x.2 + rest ≠ p.1 → i + 1 ≤ k) ∧ (0 ≤ rest → x.2 + rest = p.1 → ∃ p', wayN f (w.drop r.toNat) = some p' ∧ p.2 = i :: p'.2)) := by
  obtain ⟨c, hc⟩ := drop_at h0 h1
  have qp' := qp
  rw [hc] at qp'
  obtain ⟨k, y, p', k1, k2, k3, k4, k5, k6⟩ := wayN_first (v := p.1) (l := p.2) qp'
  rw [← hc] at k2
  have hcod := okFont_codes ho
  have hkl := (List.getElem?_eq_some_iff.1 k1).1
  refine ⟨k, hkl, fun i x hi hik hx => ⟨fun hp => ?_, fun hp r rest hr hrest => ?_⟩⟩
  · by_cases e : i = k
    · rw [e, show ((k : Nat) : Int).toNat = k by omega, k1] at hx
      obtain rfl := Option.some.inj hx
      rw [k2] at hp; cases hp
    · omega
  · have hc1 := hcod x (List.mem_of_getElem? hx)
    have hpl := (preB_spec hp).1
    rw [List.length_drop] at hpl
    have hre := rest_at (T := tabN f (w.drop (a + 1).toNat)) h0 (tab_dropm wV f w (a + 1).toNat (by omega)) hc1.1 hr hrest
    have hrb := rest_bound ho (w.drop (a + 1).toNat) x.1
    rw [List.length_drop] at hrb
    have lt_k : i < k → ¬ fitN (w.drop a.toNat) (tabN f (w.drop (a + 1).toNat)) p.1 x := fun h => by
      have := k6 i.toNat x (by omega) hx
      rwa [← hc] at this
    have at_k : i = k → x = y := fun e => by
      rw [e, show ((k : Nat) : Int).toNat = k by omega, k1] at hx
      exact (Option.some.inj hx).symm
    rcases hrb with hn | ⟨q, hq, hq0, hq1, _⟩
    · have hr1 : rest = -1 := by rw [hre, hn]; rfl
      refine ⟨by omega, fun _ => ?_, fun h => by omega, fun h => by omega⟩
      by_cases e : i = k
      · rw [at_k e, k3] at hn; cases hn
      · omega
    · have hr1 : rest = q.1 := by rw [hre, hq]; rfl
      refine ⟨by omega, fun h => by omega, fun _ hne => ?_, fun _ heq => ?_⟩
      · by_cases e : i = k
        · rw [at_k e, k3] at hq
          obtain rfl := Option.some.inj hq
          rw [at_k e, hr1] at hne
          exact absurd k4.symm hne
        · omega
      · have e : i = k := by
          by_cases e : i < k
          · exact absurd ⟨hp, q, hq, by rw [← hr1]; exact heq⟩ (lt_k e)
          · omega
        have hxy := at_k e
        refine ⟨p', ?_, by rw [k5, e]⟩
        rw [← hxy] at k3
        rw [restW_eq (c := c) hc1.1 (by rw [List.length_drop]; omega), ← hc, List.drop_drop] at k3
        rw [hr, show (a + (x.1.length : Int)).toNat = a.toNat + x.1.length by omega]
        exact k3
theorem narA_some {f : List FSort} {w : List UInt8} {p : Int × List Int} (h1 : okFont f = true) (h2 : okWord w = true) (e : wayN f w = some p) : narA f w = (p.2, p.1, true) := by
  rw [narA, h1, h2, e]; rfl
theorem narA_none {f : List FSort} {w : List UInt8} (e : okFont f = false ∨ okWord w = false ∨ wayN f w = none) : narA f w = ([], 0, false) := by
  unfold narA
  split
  · rename_i h
    rw [Bool.and_eq_true] at h
    rcases e with e | e | e
    · rw [h.1] at e; cases e
    · rw [h.2] at e; cases e
    · rw [e]
  · rfl
theorem way_neg {f : List FSort} {w : List UInt8} (ho : okFont f = true) (h : wV (wayN f w) < 0) : wayN f w = none := by
  cases e : wayN f w with
  | none => rfl
  | some p =>
    have := way_bound ho e
    rw [e] at h
    have h' : p.1 < 0 := h
    omega
theorem way_nonneg {f : List FSort} {w : List UInt8} (h : ¬ wV (wayN f w) < 0) : ∃ p, wayN f w = some p := by
  cases e : wayN f w with
  | none => rw [e] at h; exact absurd (show (-1 : Int) < 0 by omega) h
  | some p => exact ⟨p, rfl⟩
theorem found_init (n : Nat) : ((List.replicate (n + 1) false).set n true).drop n = [true] := by
  rw [List.drop_set, if_neg (by omega), List.drop_replicate, show n + 1 - n = 1 by omega, Nat.sub_self]; rfl
theorem found_init_lt {n k : Nat} (h : k < n) : ((List.replicate (n + 1) false).set n true)[k]? = some false := by
  rw [List.getElem?_set_ne (by omega), List.getElem?_replicate, if_pos (by omega)]
theorem none_of {o : Way} (h : false = o.isSome) : o = none := by cases o <;> simp_all
theorem some_of {o : Way} (h : true = o.isSome) : ∃ p, o = some p := by cases o <;> simp_all
theorem preB_long {w c : List UInt8} (h : w.length < c.length) : preB w c = false := by
  unfold preB; rw [decide_eq_false (by omega)]; rfl
theorem preB_other {w c : List UInt8} (h : w.take c.length ≠ c) : preB w c = false := by
  unfold preB; rw [decide_eq_false h, Bool.and_false]
theorem found_at0 {f : List FSort} {w : List UInt8} {found : List Bool} {b : Bool} (h : found.drop 0 = (tabN f (w.drop 0)).map Option.isSome) (hx : found[Int.toNat 0]? = some b) : b = (wayN f w).isSome := by
  have h' : found = (tabN f w).map Option.isSome := h
  rw [h', show Int.toNat 0 = 0 by rfl, tab_get _ _ _ _ (by omega)] at hx
  exact (Option.some.inj hx).symm
theorem ways_at0 {f : List FSort} {w : List UInt8} {ways : List (List Int)} {b : List Int} (h : ways.drop 0 = (tabN f (w.drop 0)).map wL) (hx : ways[Int.toNat 0]? = some b) : b = wL (wayN f w) := by
  have h' : ways = (tabN f w).map wL := h
  rw [h', show Int.toNat 0 = 0 by rfl, tab_get _ _ _ _ (by omega)] at hx
  exact (Option.some.inj hx).symm
theorem rest_len {f : List FSort} (h : okFont f = true) {s : List UInt8} (hs : s.length ≤ 16) (c : List UInt8) : (wL (restW (tabN f s) c)).length ≤ 16 := by
  rcases rest_bound h s c with e | ⟨p, e, _, _, hl⟩
  · rw [e]; simp [wL]
  · rw [e]; show p.2.length ≤ 16; omega
theorem lessL_drop {a b : List Int} {i : Nat} {x y : Int} (hx : a[i]? = some x) (hy : b[i]? = some y) : lessL (a.drop i) (b.drop i) = if x = y then lessL (a.drop (i + 1)) (b.drop (i + 1)) else decide (x < y) := by
  have h1 := (List.getElem?_eq_some_iff.1 hx).1
  have h2 := (List.getElem?_eq_some_iff.1 hy).1
  rw [List.drop_eq_getElem_cons h1, List.drop_eq_getElem_cons h2, lessL, (List.getElem?_eq_some_iff.1 hx).2, (List.getElem?_eq_some_iff.1 hy).2]
theorem lessL_end {a b : List Int} {i : Nat} (h : a.length ≤ i ∨ b.length ≤ i) (h1 : i ≤ a.length) (h2 : i ≤ b.length) : lessL (a.drop i) (b.drop i) = decide (a.length < b.length) := by
  by_cases e1 : i < a.length
  · have e2 : b.length = i := by omega
    rw [List.drop_eq_getElem_cons e1, List.drop_of_length_le (l := b) (by omega), lessL, decide_eq_false (by omega)]
  · rw [List.drop_of_length_le (l := a) (by omega)]
    by_cases e2 : i < b.length
    · rw [List.drop_eq_getElem_cons e2, lessL, decide_eq_true (by omega)]
    · rw [List.drop_of_length_le (l := b) (by omega), lessL, decide_eq_false (by omega)]

/-! ### The codes of a font are all different -/
theorem less_irr : ∀ a : List UInt8, Op.bytesLess a a = false
  | [] => rfl
  | x :: r => by
    rw [Op.bytesLess, less_irr r]
    simp
theorem less_trans : ∀ {a b c : List UInt8}, Op.bytesLess a b = true → Op.bytesLess b c = true → Op.bytesLess a c = true
  | a, [], c, h, _ => by cases a <;> simp [Op.bytesLess] at h
  | a, y :: b, [], _, h => by simp [Op.bytesLess] at h
  | [], y :: b, z :: c, _, _ => rfl
  | x :: a, y :: b, z :: c, h1, h2 => by
    rw [Op.bytesLess] at h1 h2 ⊢
    simp only [Bool.or_eq_true, decide_eq_true_eq, Bool.and_eq_true, beq_iff_eq] at h1 h2 ⊢
    rcases h1 with h1 | ⟨rfl, h1⟩
    · rcases h2 with h2 | ⟨rfl, h2⟩
      · exact .inl (UInt8.lt_trans h1 h2)
      · exact .inl h1
    · rcases h2 with h2 | ⟨rfl, h2⟩
      · exact .inl h2
      · exact .inr ⟨rfl, less_trans h1 h2⟩
theorem fontG_less : ∀ (r : List FSort) (p : List UInt8), okFontG (some p) r = true → ∀ y ∈ r, Op.bytesLess p y.1 = true
  | [], p, _, y, hy => by cases hy
  | x :: r, p, h, y, hy => by
    simp only [okFontG, Bool.and_eq_true] at h
    have h1 : Op.bytesLess p x.1 = true := h.2.1
    rcases List.mem_cons.1 hy with rfl | hy
    · exact h1
    · exact less_trans h1 (fontG_less r x.1 h.2.2 y hy)
theorem idxF_self : ∀ (r : List FSort) (p : Option (List UInt8)) (k : Int) (i : Nat) (x : FSort), okFontG p r = true → r[i]? = some x → idxF x.1 r k = k + i
  | [], _, _, _, _, _, h => by simp at h
  | y :: r, p, k, i, x, h, hx => by
    simp only [okFontG, Bool.and_eq_true] at h
    rw [idxF]
    cases i with
    | zero =>
      obtain rfl : y = x := by simpa using hx
      rw [if_pos rfl]; simp
    | succ i =>
      have hx' : r[i]? = some x := by simpa using hx
      have hne : ¬ y.1 = x.1 := fun e => by
        have := fontG_less r y.1 h.2.2 x (List.mem_of_getElem? hx')
        rw [e, less_irr] at this; cases this
      rw [if_neg hne, idxF_self r (some y.1) (k + 1) i x h.2.2 hx']
      omega
theorem setA_self {f : List FSort} {i : Int} {c : List UInt8} {v : Int} (h : okFont f = true) (h0 : 0 ≤ i) (hx : f[i.toNat]? = some (c, v)) : setA f c = (v, true) := by
  have hg := h
  rw [okFont, Bool.and_eq_true] at hg
  have e := idxF_self f none 0 i.toNat (c, v) hg.1 hx
  have e' : idxF c f 0 = i := by rw [show idxF c f 0 = _ from e]; omega
  rw [setA, h, e', decide_eq_true h0, setAt_some hx]; rfl
structure SortsLaw (f : List FSort) (word : List UInt8) (s : List Int) (w : Int) (l : List (List UInt8)) (least : Int) : Prop where
  font : okFont f = true
  wide : w = wideI f s
  ligs : l = ligF f s
  le : least ≤ w
  cat : catF f s = word
  at_ : ∀ z ∈ s, 0 ≤ z ∧ z < f.length
  few : s.length ≤ 16
  short : word.length ≤ 16
structure WayLaw (f : List FSort) (word : List UInt8) (n : List Int) : Prop where
  font : okFont f = true
  cat : catF f n = word
  at_ : ∀ z ∈ n, 0 ≤ z ∧ z < f.length
  few : n.length ≤ 16
  short : word.length ≤ 16
theorem fonts_law {f : List FSort} {word : List UInt8} {s n : List Int} {ok one three five : Bool} {w least : Int} {l : List (List UInt8)} (hs : (s, ok) = sortsA f word) (hw : (w, one) = widA f word) (hl : (l, three) = ligA f word) (hn : (n, least, five) = narA f word) :
    one = ok ∧ three = ok ∧ (ok = true → five = true ∧ SortsLaw f word s w l least) ∧ (five = true → WayLaw f word n) := by
  have h1 : one = ok := by
    unfold widA at hw
    rw [← hs] at hw
    split at hw
    · rename_i e; rw [(Prod.mk.inj hw).2]; exact e.symm
    · rename_i e; rw [(Prod.mk.inj hw).2]; simpa using e
  have h2 : three = ok ∧ l = ligF f s := by
    unfold ligA at hl
    rw [← hs] at hl
    exact ⟨(Prod.mk.inj hl).2, (Prod.mk.inj hl).1⟩
  have hway : five = true → okFont f = true ∧ okWord word = true ∧ wayN f word = some (least, n) := fun h => by
    unfold narA at hn
    split at hn
    · rename_i hc
      rw [Bool.and_eq_true] at hc
      split at hn
      · rename_i p hp
        obtain ⟨z1, z2⟩ := Prod.mk.inj hn
        rw [z1, (Prod.mk.inj z2).1]
        exact ⟨hc.1, hc.2, hp⟩
      · obtain ⟨_, hn⟩ := Prod.mk.inj hn
        rw [(Prod.mk.inj hn).2] at h; cases h
    · obtain ⟨_, hn⟩ := Prod.mk.inj hn
      rw [(Prod.mk.inj hn).2] at h; cases h
  refine ⟨h1, h2.1, fun hok => ?_, fun h5 => ?_⟩
  · subst hok
    obtain ⟨fo, wo, we⟩ := sorts_true hs
    have hc := okFont_codes fo
    have hcat : catF f s = word := wordI_cat hc (by rw [sortsA, fo, wo] at hs; exact hs)
    have hsi := sortsA_in hs
    have hle := wayN_le hc s hsi.1
    rw [hcat] at hle
    obtain ⟨w', l', e, hle⟩ := hle
    have hwe : w = wideI f s := by
      unfold widA at hw
      rw [← hs, if_pos rfl] at hw
      exact (Prod.mk.inj hw).1
    rw [narA_some fo wo e] at hn
    obtain ⟨_, hn⟩ := Prod.mk.inj hn
    obtain ⟨e1, e2⟩ := Prod.mk.inj hn
    have e1' : least = w' := e1
    have := okWord_len wo
    exact ⟨e2, fo, hwe, h2.2, by rw [hwe, e1']; exact hle, hcat, hsi.1, hsi.2, by omega⟩
  · obtain ⟨fo, wo, e⟩ := hway h5
    have hc := okFont_codes fo
    have ho := wayN_ok hc word least n e
    have := okWord_len wo
    have hl := catF_len hc n ho.at_
    rw [ho.cat] at hl
    exact ⟨fo, ho.cat, ho.at_, by omega, by omega⟩
end Go.Proofs.Ytkdaikliahnenaa.Ai
