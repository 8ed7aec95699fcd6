/- Plain laws on setting words and on bills. -/
import Derived.Test.YtmlojdpfpccgoaaInkLaw
namespace Go.Proofs.Ytmlojdpfpccgoaa.Ai
open Go Go.Proofs
set_option linter.unusedSimpArgs false
set_option linter.unusedVariables false

def preB (w c : List UInt8) : Bool := decide (c.length ≤ w.length) && decide (w.take c.length = c)
theorem preB_spec {w c : List UInt8} (h : preB w c = true) : c.length ≤ w.length ∧ w.take c.length = c := by simpa [preB] using h
theorem preB_iff {w c : List UInt8} : preB w c = true ↔ c.length ≤ w.length ∧ w.take c.length = c := by simp [preB]
def codeL (f : List FSort) (k : Int) : Int := ((f[k.toNat]?).map fun x => (x.1.length : Int)).getD 0
theorem codeL_some {f : List FSort} {k : Int} {x : FSort} (h : f[k.toNat]? = some x) : codeL f k = x.1.length := by rw [codeL, h]; rfl
def bestG (f : List FSort) (w : List UInt8) : List FSort → Int → Int → Int
  | [], _, b => b
  | x :: r, i, b => bestG f w r (i + 1) (if preB w x.1 = true ∧ (b < 0 ∨ codeL f b < x.1.length) then i else b)
theorem bestG_drop {f : List FSort} (w : List UInt8) {i : Nat} {x : FSort} (k b : Int) (h : f[i]? = some x) :
    bestG f w (f.drop i) k b = bestG f w (f.drop (i + 1)) (k + 1) (if preB w x.1 = true ∧ (b < 0 ∨ codeL f b < x.1.length) then k else b) := by
  have hi := (List.getElem?_eq_some_iff.1 h).1
  rw [List.drop_eq_getElem_cons hi, bestG, (List.getElem?_eq_some_iff.1 h).2]
def bestF (f : List FSort) (w : List UInt8) : Int := bestG f w f 0 (-1)
/-- The first of the longest codes that begin the word. -/
def IsBest (f : List FSort) (w : List UInt8) (n : Nat) (b : Int) : Prop :=
  (b = -1 ∧ ∀ (j : Nat) y, j < n → f[j]? = some y → preB w y.1 = false) ∨
  ∃ (i : Nat) (x : FSort), b = i ∧ i < n ∧ f[i]? = some x ∧ preB w x.1 = true ∧
    (∀ (j : Nat) y, j < n → f[j]? = some y → preB w y.1 = true → y.1.length ≤ x.1.length) ∧ (∀ (j : Nat) y, j < i → f[j]? = some y → preB w y.1 = true → y.1.length < x.1.length)
theorem IsBest.uniq {f : List FSort} {w : List UInt8} {n : Nat} {a b : Int} (h1 : IsBest f w n a) (h2 : IsBest f w n b) : a = b := by
  rcases h1 with ⟨rfl, h1⟩ | ⟨i, x, rfl, h3, h4, h5, h6, h7⟩
  · rcases h2 with ⟨rfl, _⟩ | ⟨i, x, rfl, h3, h4, h5, _⟩
    · rfl
    · rw [h1 i x h3 h4] at h5; cases h5
  · rcases h2 with ⟨rfl, h1⟩ | ⟨i', x', rfl, h3', h4', h5', h6', h7'⟩
    · rw [h1 i x h3 h4] at h5; cases h5
    · have q1 := h6 i' x' h3' h4' h5'
      have q2 := h6' i x h3 h4 h5
      rcases Nat.lt_trichotomy i i' with h | h | h
      · have := h7' i x h h4 h5; omega
      · rw [h]
      · have := h7 i' x' h h4' h5'; omega
theorem bestG_is {f : List FSort} {w : List UInt8} : ∀ (m i : Nat) (b : Int), f.length - i = m → i ≤ f.length → IsBest f w i b → IsBest f w f.length (bestG f w (f.drop i) i b)
  | 0, i, b, h, hi, hb => by
    have e : i = f.length := by omega
    rw [List.drop_of_length_le (by omega), bestG, ← e]; exact hb
  | m + 1, i, b, h, hi, hb => by
    have hl : i < f.length := by omega
    have hx : f[i]? = some f[i] := List.getElem?_eq_getElem hl
    generalize f[i] = x at hx
    rw [bestG_drop w _ _ hx]
    refine bestG_is m (i + 1) _ (by omega) (by omega) ?_
    split
    · rename_i hc
      refine .inr ⟨i, x, rfl, by omega, hx, hc.1, fun j y hj hy hp => ?_, fun j y hj hy hp => ?_⟩
      · rcases hb with ⟨rfl, hb⟩ | ⟨i', x', rfl, h3, h4, h5, h6, h7⟩
        · by_cases e : j = i
          · rw [e, hx] at hy; rw [Option.some.inj hy]; exact Nat.le_refl _
          · rw [hb j y (by omega) hy] at hp; cases hp
        · by_cases e : j = i
          · rw [e, hx] at hy; rw [Option.some.inj hy]; exact Nat.le_refl _
          · have := h6 j y (by omega) hy hp
            have h8 := hc.2
            rw [codeL_some (by simpa using h4)] at h8
            omega
      · rcases hb with ⟨rfl, hb⟩ | ⟨i', x', rfl, h3, h4, h5, h6, h7⟩
        · rw [hb j y hj hy] at hp; cases hp
        · have := h6 j y hj hy hp
          have h8 := hc.2
          rw [codeL_some (by simpa using h4)] at h8
          omega
    · rename_i hc
      rcases hb with ⟨rfl, hb⟩ | ⟨i', x', rfl, h3, h4, h5, h6, h7⟩
      · refine .inl ⟨rfl, fun j y hj hy => ?_⟩
        by_cases e : j = i
        · rw [e, hx] at hy
          obtain rfl := Option.some.inj hy
          cases hp : preB w x.1 with
          | false => rfl
          | true => exact absurd ⟨hp, .inl (by omega)⟩ hc
        · exact hb j y (by omega) hy
      · refine .inr ⟨i', x', rfl, by omega, h4, h5, fun j y hj hy hp => ?_, h7⟩
        by_cases e : j = i
        · rw [e, hx] at hy
          obtain rfl := Option.some.inj hy
          have h8 : ¬ codeL f i' < x.1.length := fun h => hc ⟨hp, .inr h⟩
          rw [codeL_some (by simpa using h4)] at h8
          omega
        · exact h6 j y (by omega) hy hp
theorem bestF_is (f : List FSort) (w : List UInt8) : IsBest f w f.length (bestF f w) := by
  have := bestG_is (f := f) (w := w) f.length 0 (-1) (by omega) (by omega) (.inl ⟨rfl, fun j y hj => absurd hj (by omega)⟩)
  exact this
theorem bestF_in (f : List FSort) (w : List UInt8) : bestF f w = -1 ∨ (0 ≤ bestF f w ∧ bestF f w < f.length ∧ 0 ≤ codeL f (bestF f w) ∧ codeL f (bestF f w) ≤ w.length) := by
  rcases bestF_is f w with ⟨h, _⟩ | ⟨i, x, h, h3, h4, h5, _⟩
  · exact .inl h
  · right
    have := (preB_spec h5).1
    rw [h, codeL_some (by simpa using h4)]
    omega
def CodesOk (f : List FSort) : Prop := ∀ x ∈ f, 1 ≤ x.1.length ∧ x.1.length ≤ 3
theorem okFont_codes {f : List FSort} (h : okFont f = true) : CodesOk f := by
  rw [okFont, Bool.and_eq_true] at h
  have go : ∀ (f : List FSort) (p : Option (List UInt8)), okFontG p f = true → ∀ x ∈ f, 1 ≤ x.1.length ∧ x.1.length ≤ 3 := by
    intro f
    induction f with
    | nil => intro p _ x hx; cases hx
    | cons y r ih =>
      intro p h x hx
      simp only [okFontG, okSort, Bool.and_eq_true] at h
      rcases List.mem_cons.1 hx with rfl | hx
      · have := inB_spec h.1.1.2; omega
      · exact ih _ h.2.2 x hx
  exact go f none h.1
theorem best_pos {f : List FSort} (hc : CodesOk f) {w : List UInt8} (h : 0 ≤ bestF f w) : 1 ≤ codeL f (bestF f w) ∧ codeL f (bestF f w) ≤ w.length ∧ bestF f w < f.length := by
  rcases bestF_is f w with ⟨h', _⟩ | ⟨i, x, h', h3, h4, h5, _⟩
  · omega
  · have h6 := (preB_spec h5).1
    have h7 := hc x (List.mem_of_getElem? h4)
    rw [h', codeL_some (by simpa using h4)]
    omega
def tryN (f : List FSort) (w : List UInt8) : Nat → Int
  | 0 => -1
  | n + 1 => if 0 ≤ idxF (w.take (n + 1)) f 0 then idxF (w.take (n + 1)) f 0 else tryN f w n
theorem idxF_isG (c : List UInt8) : ∀ (f : List FSort) (k : Nat), (idxF c f k = -1 ∧ ∀ (j : Nat) y, f[j]? = some y → y.1 ≠ c) ∨ ∃ (i : Nat) (x : FSort), idxF c f k = (k + i : Nat) ∧ f[i]? = some x ∧ x.1 = c ∧ ∀ (j : Nat) y, j < i → f[j]? = some y → y.1 ≠ c
  | [], k => .inl ⟨rfl, fun j y h => by simp at h⟩
  | x :: r, k => by
    rw [idxF]
    split
    · rename_i e
      exact .inr ⟨0, x, by simp, rfl, e, fun j y hj => absurd hj (by omega)⟩
    · rename_i e
      rcases idxF_isG c r (k + 1) with ⟨h1, h2⟩ | ⟨i, z, h1, h2, h3, h4⟩
      · refine .inl ⟨by rw [← h1]; simp, fun j y hy => ?_⟩
        cases j with
        | zero => simp at hy; rw [← hy]; exact e
        | succ j => exact h2 j y (by simpa using hy)
      · refine .inr ⟨i + 1, z, ?_, by simpa using h2, h3, fun j y hj hy => ?_⟩
        · have h5 : ((k : Int) + 1) = ((k + 1 : Nat) : Int) := by omega
          rw [h5, h1]; omega
        · cases j with
          | zero => simp at hy; rw [← hy]; exact e
          | succ j => exact h4 j y (by omega) (by simpa using hy)
theorem idxF_is (c : List UInt8) (f : List FSort) : (idxF c f 0 = -1 ∧ ∀ (j : Nat) y, f[j]? = some y → y.1 ≠ c) ∨ ∃ (i : Nat) (x : FSort), idxF c f 0 = i ∧ f[i]? = some x ∧ x.1 = c ∧ ∀ (j : Nat) y, j < i → f[j]? = some y → y.1 ≠ c := by
  have := idxF_isG c f 0
  simpa using this
theorem tryN_is {f : List FSort} {w : List UInt8} : ∀ n : Nat, n ≤ w.length → (tryN f w n = -1 ∧ ∀ (j : Nat) y, f[j]? = some y → preB w y.1 = true → y.1.length ≤ n → y.1.length = 0) ∨
    ∃ (i : Nat) (x : FSort), tryN f w n = i ∧ f[i]? = some x ∧ preB w x.1 = true ∧ (∀ (j : Nat) y, f[j]? = some y → preB w y.1 = true → y.1.length ≤ n → y.1.length ≤ x.1.length) ∧ (∀ (j : Nat) y, j < i → f[j]? = some y → preB w y.1 = true → y.1.length ≠ x.1.length)
  | 0, _ => .inl ⟨rfl, fun j y hy hp hl => by omega⟩
  | n + 1, hn => by
    have hlt : (w.take (n + 1)).length = n + 1 := by rw [List.length_take]; omega
    rw [tryN]
    rcases idxF_is (w.take (n + 1)) f with ⟨h1, h2⟩ | ⟨i, x, h1, h2, h3, h4⟩
    · rw [if_neg (by omega)]
      have hne : ∀ (j : Nat) y, f[j]? = some y → preB w y.1 = true → y.1.length ≤ n + 1 → y.1.length ≤ n := by
        intro j y hy hp hl
        by_cases e : y.1.length = n + 1
        · have := (preB_spec hp).2
          rw [e] at this
          exact absurd this.symm (h2 j y hy)
        · omega
      rcases tryN_is (f := f) (w := w) n (by omega) with ⟨h3, h4⟩ | ⟨i, x, h3, h4, h5, h6, h7⟩
      · exact .inl ⟨h3, fun j y hy hp hl => h4 j y hy hp (hne j y hy hp hl)⟩
      · exact .inr ⟨i, x, h3, h4, h5, fun j y hy hp hl => h6 j y hy hp (hne j y hy hp hl), h7⟩
    · rw [if_pos (by omega)]
      have hx : x.1.length = n + 1 := by rw [h3]; exact hlt
      have hp0 : preB w x.1 = true := preB_iff.2 ⟨by omega, by rw [hx, h3]⟩
      refine .inr ⟨i, x, h1, h2, hp0, fun j y hy hp hl => by rw [hx]; exact hl, fun j y hj hy hp hl => ?_⟩
      have := (preB_spec hp).2
      rw [hl, hx] at this
      exact h4 j y hj hy this.symm
theorem tryN_best {f : List FSort} (hc : CodesOk f) (w : List UInt8) : tryN f w (min 3 w.length) = bestF f w := by
  refine IsBest.uniq ?_ (bestF_is f w)
  have hall : ∀ (j : Nat) y, f[j]? = some y → preB w y.1 = true → y.1.length ≤ min 3 w.length ∧ 1 ≤ y.1.length := by
    intro j y hy hp
    have h1 := hc y (List.mem_of_getElem? hy)
    have h2 := (preB_spec hp).1
    omega
  rcases tryN_is (f := f) (w := w) (min 3 w.length) (by omega) with ⟨h1, h2⟩ | ⟨i, x, h1, h2, h3, h4, h5⟩
  · refine .inl ⟨h1, fun j y _ hy => ?_⟩
    cases hp : preB w y.1 with
    | false => rfl
    | true =>
      have := hall j y hy hp
      have := h2 j y hy hp (by omega)
      omega
  · refine .inr ⟨i, x, h1, (List.getElem?_eq_some_iff.1 h2).1, h2, h3, fun j y _ hy hp => h4 j y hy hp (hall j y hy hp).1, fun j y hj hy hp => ?_⟩
    have a := h4 j y hy hp (hall j y hy hp).1
    have b := h5 j y hj hy hp
    omega

/-! ### A word's sorts -/
def setG (f : List FSort) : Nat → List UInt8 → List Int → List Int × Bool
  | 0, _, acc => (acc, true)
  | n + 1, w, acc => if w.length = 0 then (acc, true) else if bestF f w < 0 then ([], false) else setG f n (w.drop (codeL f (bestF f w)).toNat) (acc ++ [bestF f w])
theorem setG_more {f : List FSort} (hc : CodesOk f) : ∀ (n m : Nat) (w : List UInt8) (acc : List Int), w.length ≤ n → w.length ≤ m → setG f n w acc = setG f m w acc
  | 0, 0, _, _, _, _ => rfl
  | 0, m + 1, w, acc, h, _ => by rw [setG, setG, if_pos (by omega)]
  | n + 1, 0, w, acc, _, h => by rw [setG, setG, if_pos (by omega)]
  | n + 1, m + 1, w, acc, h1, h2 => by
    rw [setG, setG]
    split
    · rfl
    · split
      · rfl
      · have := best_pos hc (w := w) (by omega)
        exact setG_more hc n m _ _ (by rw [List.length_drop]; omega) (by rw [List.length_drop]; omega)
def setW (f : List FSort) (w : List UInt8) (acc : List Int) : List Int × Bool := setG f w.length w acc
theorem setW_nil {f : List FSort} {w : List UInt8} {acc : List Int} (h : w.length = 0) : setW f w acc = (acc, true) := by rw [setW, h, setG]
theorem setW_none {f : List FSort} {w : List UInt8} (acc : List Int) (h : w.length ≠ 0) (hb : bestF f w < 0) : setW f w acc = ([], false) := by
  obtain ⟨n, hn⟩ : ∃ n, w.length = n + 1 := ⟨w.length - 1, by omega⟩
  rw [setW, hn, setG, if_neg h, if_pos hb]
theorem setW_step {f : List FSort} (hc : CodesOk f) {w : List UInt8} (acc : List Int) (h : w.length ≠ 0) (hb : 0 ≤ bestF f w) : setW f w acc = setW f (w.drop (codeL f (bestF f w)).toNat) (acc ++ [bestF f w]) := by
  obtain ⟨n, hn⟩ : ∃ n, w.length = n + 1 := ⟨w.length - 1, by omega⟩
  rw [setW, hn, setG, if_neg h, if_neg (by omega), setW]
  have := best_pos hc hb
  exact setG_more hc _ _ _ _ (by rw [List.length_drop]; omega) (Nat.le_refl _)
theorem setG_in {f : List FSort} (hc : CodesOk f) : ∀ (n : Nat) (w : List UInt8) (acc : List Int), (∀ z ∈ acc, 0 ≤ z ∧ z < f.length) → (∀ z ∈ (setG f n w acc).1, 0 ≤ z ∧ z < f.length) ∧ (setG f n w acc).1.length ≤ acc.length + w.length
  | 0, w, acc, h => ⟨h, by rw [setG]; simp⟩
  | n + 1, w, acc, h => by
    rw [setG]
    split
    · exact ⟨h, by simp⟩
    · split
      · exact ⟨fun z hz => by simp at hz, by simp⟩
      · have hp := best_pos hc (w := w) (by omega)
        have ih := setG_in hc n (w.drop (codeL f (bestF f w)).toNat) (acc ++ [bestF f w]) (by
          intro z hz
          rcases List.mem_append.1 hz with hz | hz
          · exact h z hz
          · rw [List.mem_singleton.1 hz]; omega)
        refine ⟨ih.1, ?_⟩
        have := ih.2
        rw [List.length_append, List.length_drop] at this
        simp only [List.length_cons, List.length_nil] at this
        omega
def wordI (f : List FSort) (w : List UInt8) : List Int := (setW f w []).1
theorem wordI_in {f : List FSort} (hc : CodesOk f) (w : List UInt8) : (∀ z ∈ wordI f w, 0 ≤ z ∧ z < f.length) ∧ (wordI f w).length ≤ w.length := by
  have := setG_in hc w.length w [] (fun z hz => by cases hz)
  simpa [wordI, setW] using this
theorem setW_wordI {f : List FSort} {w : List UInt8} {l : List Int} {b : Bool} (h : (l, b) = setW f w []) : l = wordI f w := by rw [wordI, ← h]

/-! ### Counts -/
def okWord (w : List UInt8) : Bool := lettersB w && inB w.length 1 16
def okWords (ws : List (List UInt8)) : Bool := ws.all okWord && decide (ws.length ≤ 40)
theorem okWord_len {w : List UInt8} (h : okWord w = true) : 1 ≤ (w.length : Int) ∧ (w.length : Int) ≤ 16 := by
  rw [okWord, Bool.and_eq_true] at h
  exact inB_spec h.2
theorem okWords_spec {ws : List (List UInt8)} (h : okWords ws = true) : (∀ w ∈ ws, okWord w = true) ∧ ws.length ≤ 40 := by
  simpa [okWords] using h
theorem okWords_drop {p : List UInt8 → Bool} {ws : List (List UInt8)} {i : Nat} {w : List UInt8} (h : ws[i]? = some w) : (ws.drop i).all p = (p w && (ws.drop (i + 1)).all p) := by
  have hi := (List.getElem?_eq_some_iff.1 h).1
  rw [List.drop_eq_getElem_cons hi, List.all_cons, (List.getElem?_eq_some_iff.1 h).2]
def bumpA (a : List Int) (i : Int) : List Int := a.set i.toNat (nth a i.toNat + 1)
def cntW (l : List Int) (a : List Int) : List Int := l.foldl bumpA a
theorem cntW_cons (x : Int) (r a : List Int) : cntW (x :: r) a = cntW r (bumpA a x) := rfl
theorem cntW_drop {l : List Int} {i : Nat} {x : Int} (a : List Int) (h : l[i]? = some x) : cntW (l.drop i) a = cntW (l.drop (i + 1)) (bumpA a x) := by
  have hi := (List.getElem?_eq_some_iff.1 h).1
  rw [List.drop_eq_getElem_cons hi, cntW_cons, (List.getElem?_eq_some_iff.1 h).2]
theorem cntW_len (l : List Int) : ∀ a : List Int, (cntW l a).length = a.length := by
  induction l with
  | nil => intro a; rfl
  | cons x r ih => intro a; rw [cntW_cons, ih, bumpA, List.length_set]
def cntA (f : List FSort) : List (List UInt8) → List Int → List Int × Bool
  | [], a => (a, true)
  | w :: ws, a => if (setW f w []).2 = true then cntA f ws (cntW (wordI f w) a) else ([], false)
theorem cntA_ok {f : List FSort} {ws : List (List UInt8)} {i : Nat} {w : List UInt8} {l : List Int} (a : List Int) (h : ws[i]? = some w) (hs : (l, true) = setW f w []) : cntA f (ws.drop i) a = cntA f (ws.drop (i + 1)) (cntW l a) := by
  have hi := (List.getElem?_eq_some_iff.1 h).1
  rw [List.drop_eq_getElem_cons hi, cntA, (List.getElem?_eq_some_iff.1 h).2, ← hs, if_pos rfl, setW_wordI hs]
theorem cntA_no {f : List FSort} {ws : List (List UInt8)} {i : Nat} {w : List UInt8} {l : List Int} (a : List Int) (h : ws[i]? = some w) (hs : (l, false) = setW f w []) : cntA f (ws.drop i) a = ([], false) := by
  have hi := (List.getElem?_eq_some_iff.1 h).1
  rw [List.drop_eq_getElem_cons hi, cntA, (List.getElem?_eq_some_iff.1 h).2, ← hs]; rfl
theorem cntA_end {f : List FSort} {ws : List (List UInt8)} {i : Nat} (a : List Int) (h : ws.length ≤ i) : cntA f (ws.drop i) a = (a, true) := by rw [List.drop_of_length_le h, cntA]
def countsA (f : List FSort) (ws : List (List UInt8)) : List Int × Bool := if okFont f && okWords ws then cntA f ws (List.replicate f.length 0) else ([], false)
/-- All sorts of all words. -/
def flatI (f : List FSort) (ws : List (List UInt8)) : List Int := ws.flatMap (wordI f)
theorem cntA_flat {f : List FSort} : ∀ (ws : List (List UInt8)) (a n : List Int), (n, true) = cntA f ws a → (∀ w ∈ ws, (setW f w []).2 = true) ∧ n = cntW (flatI f ws) a
  | [], a, n, h => ⟨(fun w hw => by cases hw), (Prod.mk.inj h).1⟩
  | w :: ws, a, n, h => by
    rw [cntA] at h
    split at h
    · rename_i e
      have ih := cntA_flat ws _ n h
      refine ⟨fun x hx => ?_, ?_⟩
      · rcases List.mem_cons.1 hx with rfl | hx
        · exact e
        · exact ih.1 x hx
      · rw [ih.2]; simp only [flatI, List.flatMap_cons, cntW, List.foldl_append]
    · simp at h
theorem flatI_in {f : List FSort} (hc : CodesOk f) (ws : List (List UInt8)) : ∀ z ∈ flatI f ws, 0 ≤ z ∧ z < f.length := by
  intro z hz
  obtain ⟨w, _, h⟩ := List.mem_flatMap.1 hz
  exact (wordI_in hc w).1 z h
theorem flatI_len {f : List FSort} (hc : CodesOk f) : ∀ (ws : List (List UInt8)), (∀ w ∈ ws, w.length ≤ 16) → (flatI f ws).length ≤ 16 * ws.length
  | [], _ => by simp [flatI]
  | w :: ws, h => by
    have ih := flatI_len hc ws (fun x hx => h x (by simp [hx]))
    have h1 := (wordI_in hc w).2
    have h2 := h w (by simp)
    rw [flatI, List.flatMap_cons, List.length_append, List.length_cons]
    rw [flatI] at ih
    omega
theorem nth_set {a : List Int} {i : Nat} {v : Int} (j : Nat) (h : i < a.length) : nth (a.set i v) j = if j = i then v else nth a j := by
  rw [nth, nth, List.getElem?_set]
  by_cases e : i = j
  · subst e; rw [if_pos rfl, if_pos rfl, if_pos h]; rfl
  · rw [if_neg e, if_neg (fun h => e h.symm)]
theorem sum_set {a : List Int} : ∀ {i : Nat} {v : Int}, i < a.length → (a.set i v).sum = a.sum - nth a i + v := by
  induction a with
  | nil => intro i v h; simp at h
  | cons x r ih =>
    intro i v h
    cases i with
    | zero => simp [nth]; omega
    | succ i =>
      have := ih (i := i) (v := v) (by simpa using h)
      have e : nth (x :: r) (i + 1) = nth r i := by simp [nth]
      rw [List.set_cons_succ, List.sum_cons, this, e, List.sum_cons]; omega
theorem cntW_sum : ∀ (l a : List Int), (∀ z ∈ l, 0 ≤ z ∧ z < a.length) → (cntW l a).sum = a.sum + l.length
  | [], a, _ => by simp [cntW]
  | x :: r, a, h => by
    have hx := h x (by simp)
    rw [cntW_cons, cntW_sum r _ (fun z hz => by rw [bumpA, List.length_set]; exact h z (by simp [hz])), bumpA, sum_set (by omega), List.length_cons]
    omega
theorem cntW_count : ∀ (l a : List Int) (j : Nat), (∀ z ∈ l, 0 ≤ z ∧ z < a.length) → j < a.length → nth (cntW l a) j = nth a j + (l.count (j : Int) : Nat)
  | [], a, j, _, _ => by simp [cntW]
  | x :: r, a, j, h, hj => by
    have hx := h x (by simp)
    rw [cntW_cons, cntW_count r _ j (fun z hz => by rw [bumpA, List.length_set]; exact h z (by simp [hz])) (by rw [bumpA, List.length_set]; exact hj), bumpA, nth_set j (by omega), List.count_cons]
    by_cases e : x = (j : Int)
    · subst e; simp; omega
    · have e2 : ¬ (x == (j : Int)) = true := by simpa using e
      rw [if_neg (by omega), if_neg e2]; omega
theorem bumpA_bounds {a : List Int} {x M : Int} (h : ∀ z ∈ a, 0 ≤ z ∧ z ≤ M) (hx : 0 ≤ x ∧ x < a.length) : ∀ z ∈ bumpA a x, 0 ≤ z ∧ z ≤ M + 1 := by
  intro z hz
  have e : x.toNat < a.length := by omega
  rcases List.mem_or_eq_of_mem_set hz with hz | hz
  · have := h z hz; omega
  · have := h _ (List.getElem_mem e)
    rw [nth_some (List.getElem?_eq_getElem e)] at hz
    omega
theorem cntW_bounds : ∀ (l a : List Int) (M : Int), (∀ z ∈ l, 0 ≤ z ∧ z < a.length) → (∀ z ∈ a, 0 ≤ z ∧ z ≤ M) → ∀ z ∈ cntW l a, 0 ≤ z ∧ z ≤ M + l.length
  | [], a, M, _, h => by simpa [cntW] using h
  | x :: r, a, M, hl, h => by
    intro z hz
    rw [cntW_cons] at hz
    have := cntW_bounds r (bumpA a x) (M + 1) (fun z hz => by rw [bumpA, List.length_set]; exact hl z (by simp [hz])) (bumpA_bounds h (hl x (by simp))) z hz
    simp only [List.length_cons]
    omega
/-- What a count of a copy's sorts tells. -/
structure Counted (f : List FSort) (ws : List (List UInt8)) (n : List Int) : Prop where
  font : okFont f = true
  words : okWords ws = true
  len : n.length = f.length
  bound : ∀ z ∈ n, 0 ≤ z ∧ z ≤ 640
  sets : ∀ w ∈ ws, (setW f w []).2 = true
  eq : n = cntW (flatI f ws) (List.replicate f.length 0)
theorem countsA_spec {f : List FSort} {ws : List (List UInt8)} {n : List Int} (h : (n, true) = countsA f ws) : Counted f ws n := by
  unfold countsA at h
  split at h
  · rename_i hc
    rw [Bool.and_eq_true] at hc
    have h1 := cntA_flat ws _ n h
    have hf := okFont_codes hc.1
    have hw := okWords_spec hc.2
    refine ⟨hc.1, hc.2, by rw [h1.2, cntW_len, List.length_replicate], ?_, h1.1, h1.2⟩
    have hb := cntW_bounds (flatI f ws) (List.replicate f.length 0) 0 (by rw [List.length_replicate]; exact flatI_in hf ws) (fun z hz => by rw [List.eq_of_mem_replicate hz]; omega)
    have hl := flatI_len hf ws (fun w hm => by have := okWord_len (hw.1 w hm); omega)
    intro z hz
    rw [h1.2] at hz
    have := hb z hz
    have := hw.2
    omega
  · simp at h
theorem countsA_fail {f : List FSort} {ws : List (List UInt8)} (h : (countsA f ws).2 = false) : countsA f ws = ([], false) := by
  have go : ∀ (ws : List (List UInt8)) (a : List Int), (cntA f ws a).2 = false → cntA f ws a = ([], false) := by
    intro ws
    induction ws with
    | nil => intro a h; simp [cntA] at h
    | cons w r ih =>
      intro a h
      rw [cntA] at h ⊢
      split
      · rename_i e; rw [if_pos e] at h; exact ih _ h
      · rfl
  unfold countsA at h ⊢
  split
  · rename_i e; rw [if_pos e] at h; exact go _ _ h
  · rfl
theorem countsA_ok {f : List FSort} {ws : List (List UInt8)} (h : (countsA f ws).2 = true) : okFont f = true ∧ okWords ws = true :=
  have c := countsA_spec (n := (countsA f ws).1) (Prod.ext rfl h.symm)
  ⟨c.font, c.words⟩
def sortsA (f : List FSort) (w : List UInt8) : List Int × Bool := if okFont f && okWord w then setW f w [] else ([], false)
theorem div_nonneg {a b : Int} (h1 : 0 ≤ a) (h2 : 0 ≤ b) : 0 ≤ a / b := Int.ediv_nonneg h1 h2
theorem Counted.sum {f : List FSort} {ws : List (List UInt8)} {n : List Int} (h : Counted f ws n) : n.sum = (flatI f ws).length := by
  rw [h.eq, cntW_sum _ _ (by rw [List.length_replicate]; exact flatI_in (okFont_codes h.font) ws)]
  simp
theorem Counted.at {f : List FSort} {ws : List (List UInt8)} {n : List Int} (h : Counted f ws n) {j : Nat} (hj : j < f.length) : nth n j = ((flatI f ws).count (j : Int) : Nat) := by
  rw [h.eq, cntW_count _ _ j (by rw [List.length_replicate]; exact flatI_in (okFont_codes h.font) ws) (by rw [List.length_replicate]; exact hj)]
  rw [nth, List.getElem?_replicate, if_pos hj]; simp
theorem flatI_take {f : List FSort} {ws : List (List UInt8)} {i : Nat} {w : List UInt8} (h : ws[i]? = some w) : (flatI f (ws.take (i + 1))).length = (flatI f (ws.take i)).length + (wordI f w).length := by
  have hi := (List.getElem?_eq_some_iff.1 h).1
  rw [List.take_succ_eq_append_getElem hi, flatI, List.flatMap_append, List.length_append, (List.getElem?_eq_some_iff.1 h).2]
  simp [flatI]

/-! ### Stocks -/
def stockB (f : List FSort) (st : List Int) : Bool := decide (st.length = f.length) && allB st 0 100000
structure StockOk (f : List FSort) (st : List Int) : Prop where
  len : st.length = f.length
  bound : ∀ z ∈ st, 0 ≤ z ∧ z ≤ 100000
theorem stockB_spec {f : List FSort} {st : List Int} (h : stockB f st = true) : StockOk f st := by
  rw [stockB, Bool.and_eq_true, decide_eq_true_eq] at h
  exact ⟨h.1, allB_mem h.2⟩
def askedB (f : List FSort) (st : List Int) (ws : List (List UInt8)) : Bool := (countsA f ws).2 && stockB f st
structure Asked (f : List FSort) (st : List Int) (ws : List (List UInt8)) : Prop where
  cnt : Counted f ws (countsA f ws).1
  ok : (countsA f ws).2 = true
  stock : StockOk f st
theorem askedB_spec {f : List FSort} {st : List Int} {ws : List (List UInt8)} (h : askedB f st ws = true) : Asked f st ws := by
  rw [askedB, Bool.and_eq_true] at h
  exact ⟨countsA_spec (Prod.ext rfl h.1.symm), h.1, stockB_spec h.2⟩
def leqB : List Int → List Int → Bool
  | n :: ns, s :: ss => decide (n ≤ s) && leqB ns ss
  | _, _ => true
theorem leqB_drop {a b : List Int} {i : Nat} {x y : Int} (hx : a[i]? = some x) (hy : b[i]? = some y) : leqB (a.drop i) (b.drop i) = (decide (x ≤ y) && leqB (a.drop (i + 1)) (b.drop (i + 1))) := by
  have h1 := (List.getElem?_eq_some_iff.1 hx).1
  have h2 := (List.getElem?_eq_some_iff.1 hy).1
  rw [List.drop_eq_getElem_cons h1, List.drop_eq_getElem_cons h2, leqB, (List.getElem?_eq_some_iff.1 hx).2, (List.getElem?_eq_some_iff.1 hy).2]
theorem leqB_end {a b : List Int} {i : Nat} (h : a.length ≤ i) : leqB (a.drop i) (b.drop i) = true := by rw [List.drop_of_length_le h]; simp [leqB]
theorem leqB_iff : ∀ {a b : List Int}, a.length = b.length → (leqB a b = true ↔ ∀ j : Nat, j < a.length → nth a j ≤ nth b j)
  | [], b, _ => by simp [leqB]
  | x :: r, [], h => by simp at h
  | x :: r, y :: q, h => by
    have ih := leqB_iff (a := r) (b := q) (by simpa using h)
    rw [leqB, Bool.and_eq_true, decide_eq_true_eq, ih]
    constructor
    · rintro ⟨h1, h2⟩ j hj
      cases j with
      | zero => simpa [nth] using h1
      | succ j => have := h2 j (by simpa using hj); simpa [nth] using this
    · intro h1
      refine ⟨by simpa [nth] using h1 0 (by simp), fun j hj => ?_⟩
      have := h1 (j + 1) (by simpa using hj)
      simpa [nth] using this
def enoughA (f : List FSort) (st : List Int) (ws : List (List UInt8)) : Bool × Bool := if askedB f st ws then (leqB (countsA f ws).1 st, true) else (false, false)
/-- The sorts of a list are taken from a stock; the first that is missing. -/
def runL : List Int → List Int → List Int × Int
  | [], left => (left, -1)
  | i :: r, left => if nth left i.toNat = 0 then (left, i) else runL r (left.set i.toNat (nth left i.toNat - 1))
theorem runL_drop {l : List Int} {i : Nat} {x : Int} (left : List Int) (h : l[i]? = some x) : runL (l.drop i) left = if nth left x.toNat = 0 then (left, x) else runL (l.drop (i + 1)) (left.set x.toNat (nth left x.toNat - 1)) := by
  have hi := (List.getElem?_eq_some_iff.1 h).1
  rw [List.drop_eq_getElem_cons hi, runL, (List.getElem?_eq_some_iff.1 h).2]
theorem runL_end {l : List Int} {i : Nat} (left : List Int) (h : l.length ≤ i) : runL (l.drop i) left = (left, -1) := by rw [List.drop_of_length_le h, runL]
def runA (f : List FSort) : List (List UInt8) → Int → List Int → Int × Int × Bool
  | [], _, _ => (0, 0, false)
  | w :: ws, k, left => if (runL (wordI f w) left).2 < 0 then runA f ws (k + 1) (runL (wordI f w) left).1 else (k, (runL (wordI f w) left).2, true)
theorem runA_drop {f : List FSort} {ws : List (List UInt8)} {i : Nat} {w : List UInt8} (k : Int) (left : List Int) (h : ws[i]? = some w) :
    runA f (ws.drop i) k left = if (runL (wordI f w) left).2 < 0 then runA f (ws.drop (i + 1)) (k + 1) (runL (wordI f w) left).1 else (k, (runL (wordI f w) left).2, true) := by
  have hi := (List.getElem?_eq_some_iff.1 h).1
  rw [List.drop_eq_getElem_cons hi, runA, (List.getElem?_eq_some_iff.1 h).2]
theorem runA_end {f : List FSort} {ws : List (List UInt8)} {i : Nat} (k : Int) (left : List Int) (h : ws.length ≤ i) : runA f (ws.drop i) k left = (0, 0, false) := by rw [List.drop_of_length_le h, runA]
def outA (f : List FSort) (st : List Int) (ws : List (List UInt8)) : Int × Int × Bool := if askedB f st ws then runA f ws 0 st else (0, 0, false)
theorem runL_append : ∀ (a b left : List Int), (∀ z ∈ a, 0 ≤ z) → runL (a ++ b) left = if (runL a left).2 < 0 then runL b (runL a left).1 else runL a left
  | [], b, left, _ => by simp [runL]
  | x :: r, b, left, h => by
    have hx := h x (by simp)
    rw [List.cons_append, runL, runL]
    split
    · rw [if_neg (by simp only; omega)]
    · exact runL_append r b _ (fun z hz => h z (by simp [hz]))
theorem runA_flat {f : List FSort} (hc : CodesOk f) : ∀ (ws : List (List UInt8)) (k : Int) (left : List Int), (runA f ws k left).2.2 = decide (0 ≤ (runL (flatI f ws) left).2)
  | [], k, left => by simp [runA, flatI, runL]
  | w :: ws, k, left => by
    rw [runA, flatI, List.flatMap_cons, runL_append _ _ _ (fun z hz => ((wordI_in hc w).1 z hz).1)]
    split
    · exact runA_flat hc ws _ _
    · rename_i e
      exact (decide_eq_true (by omega)).symm
theorem runL_iff : ∀ (l left : List Int), (∀ z ∈ l, 0 ≤ z ∧ z < left.length) → (∀ z ∈ left, 0 ≤ z) → ((runL l left).2 < 0 ↔ ∀ j : Nat, j < left.length → ((l.count (j : Int) : Nat) : Int) ≤ nth left j)
  | [], left, _, h => by
    simp only [runL, List.count_nil]
    refine ⟨fun _ j hj => ?_, fun _ => by omega⟩
    have := h _ (List.getElem_mem hj)
    rw [nth_some (List.getElem?_eq_getElem hj)]
    simpa using this
  | x :: r, left, hl, h => by
    have hx := hl x (by simp)
    have hxl : x.toNat < left.length := by omega
    have hp := h _ (List.getElem_mem hxl)
    have hn := nth_some (List.getElem?_eq_getElem hxl)
    rw [runL]
    split
    · rename_i e
      refine ⟨fun h' => by simp only at h'; omega, fun h' => ?_⟩
      have := h' x.toNat hxl
      rw [show ((x.toNat : Nat) : Int) = x by omega, List.count_cons_self, e] at this
      omega
    · rename_i e
      have ih := runL_iff r (left.set x.toNat (nth left x.toNat - 1)) (fun z hz => by rw [List.length_set]; exact hl z (by simp [hz])) (fun z hz => by
        rcases List.mem_or_eq_of_mem_set hz with hz | rfl
        · exact h z hz
        · rw [hn] at e ⊢; omega)
      rw [ih, List.length_set]
      refine forall_congr' fun j => forall_congr' fun hj => ?_
      rw [nth_set j hxl, List.count_cons]
      by_cases ej : j = x.toNat
      · subst ej
        rw [if_pos rfl, if_pos (by simp; omega)]
        omega
      · rw [if_neg ej, if_neg (by simp; omega)]
        simp
theorem out_enough {f : List FSort} {st : List Int} {ws : List (List UInt8)} : (outA f st ws).2.2 = ((enoughA f st ws).2 && !(enoughA f st ws).1) := by
  unfold outA enoughA
  by_cases h : askedB f st ws = true
  · rw [if_pos h, if_pos h]
    have ha := askedB_spec h
    have hc := okFont_codes ha.cnt.font
    rw [runA_flat hc, Bool.true_and]
    have h1 := runL_iff (flatI f ws) st (by rw [ha.stock.len]; exact flatI_in hc ws) (fun z hz => (ha.stock.bound z hz).1)
    have h2 := leqB_iff (a := (countsA f ws).1) (b := st) (by rw [ha.cnt.len, ha.stock.len])
    have h3 : ((runL (flatI f ws) st).2 < 0) ↔ leqB (countsA f ws).1 st = true := by
      rw [h1, h2, ha.cnt.len, ha.stock.len]
      refine forall_congr' fun j => forall_congr' fun hj => ?_
      rw [ha.cnt.at hj]
    cases hb : leqB (countsA f ws).1 st with
    | true => rw [decide_eq_false (by have := h3.2 hb; omega)]; rfl
    | false =>
      have : ¬ (runL (flatI f ws) st).2 < 0 := fun h' => by rw [h3.1 h'] at hb; cases hb
      rw [decide_eq_true (by omega)]; rfl
  · rw [if_neg h, if_neg h]; rfl

/-! ### How often -/
def tmG : List Int → List Int → Int → Int
  | n :: ns, s :: ss, t => tmG ns ss (if 0 < n then min t (s / n) else t)
  | _, _, t => t
theorem tmG_drop {a b : List Int} {i : Nat} {x y : Int} (t : Int) (hx : a[i]? = some x) (hy : b[i]? = some y) : tmG (a.drop i) (b.drop i) t = tmG (a.drop (i + 1)) (b.drop (i + 1)) (if 0 < x then min t (y / x) else t) := by
  have h1 := (List.getElem?_eq_some_iff.1 hx).1
  have h2 := (List.getElem?_eq_some_iff.1 hy).1
  rw [List.drop_eq_getElem_cons h1, List.drop_eq_getElem_cons h2, tmG, (List.getElem?_eq_some_iff.1 hx).2, (List.getElem?_eq_some_iff.1 hy).2]
theorem tmG_end {a b : List Int} {i : Nat} (t : Int) (h : a.length ≤ i) : tmG (a.drop i) (b.drop i) t = t := by rw [List.drop_of_length_le h]; simp [tmG]
def timesA (f : List FSort) (st : List Int) (ws : List (List UInt8)) : Int × Bool := if askedB f st ws && decide (ws.length ≠ 0) then (tmG (countsA f ws).1 st 100000, true) else (0, false)
theorem tmG_spec : ∀ (a b : List Int) (t : Int), a.length = b.length → tmG a b t ≤ t ∧ (∀ j : Nat, j < a.length → 0 < nth a j → tmG a b t ≤ nth b j / nth a j) ∧ (tmG a b t = t ∨ ∃ j : Nat, j < a.length ∧ 0 < nth a j ∧ tmG a b t = nth b j / nth a j)
  | [], b, t, _ => ⟨by simp [tmG], fun j hj => by simp at hj, .inl (by simp [tmG])⟩
  | x :: r, [], t, h => by simp at h
  | x :: r, y :: q, t, h => by
    rw [tmG]
    obtain ⟨h1, h2, h3⟩ := tmG_spec r q (if 0 < x then min t (y / x) else t) (by simpa using h)
    generalize tmG r q (if 0 < x then min t (y / x) else t) = T at *
    have e0 : nth (x :: r) 0 = x ∧ nth (y :: q) 0 = y := ⟨rfl, rfl⟩
    have es : ∀ j, nth (x :: r) (j + 1) = nth r j ∧ nth (y :: q) (j + 1) = nth q j := fun j => by simp [nth]
    refine ⟨by split at h1 <;> omega, ?_, ?_⟩
    · intro j hj hp
      cases j with
      | zero => rw [e0.1] at hp ⊢; rw [e0.2]; rw [if_pos hp] at h1; omega
      | succ j => rw [(es j).1] at hp ⊢; rw [(es j).2]; exact h2 j (by simpa using hj) hp
    · rcases h3 with h3 | ⟨j, hj, hp, h3⟩
      · by_cases hx : 0 < x
        · rw [if_pos hx] at h3
          by_cases hm : t ≤ y / x
          · left; omega
          · right; exact ⟨0, by simp, by rw [e0.1]; exact hx, by rw [e0.1, e0.2]; omega⟩
        · rw [if_neg hx] at h3; exact .inl h3
      · right; exact ⟨j + 1, by simpa using hj, by rw [(es j).1]; exact hp, by rw [(es j).1, (es j).2]; exact h3⟩
theorem timesA_spec {f : List FSort} {st : List Int} {ws : List (List UInt8)} {t : Int} (h : (t, true) = timesA f st ws) : Asked f st ws ∧ askedB f st ws = true ∧ t = tmG (countsA f ws).1 st 100000 := by
  unfold timesA at h
  split at h
  · rename_i hc
    rw [Bool.and_eq_true] at hc
    exact ⟨askedB_spec hc.1, hc.1, (Prod.mk.inj h).1⟩
  · simp at h
theorem tm_nonneg {f : List FSort} {st : List Int} {ws : List (List UInt8)} (ha : Asked f st ws) : 0 ≤ tmG (countsA f ws).1 st 100000 := by
  obtain ⟨_, _, h⟩ := tmG_spec (countsA f ws).1 st 100000 (by rw [ha.cnt.len, ha.stock.len])
  rcases h with h | ⟨j, hj, hp, h⟩
  · omega
  · rw [h]
    have hl : j < st.length := by rw [ha.stock.len, ← ha.cnt.len]; exact hj
    have := ha.stock.bound _ (List.getElem_mem hl)
    rw [nth_some (List.getElem?_eq_getElem hl)]
    exact Int.ediv_nonneg this.1 (by omega)
theorem times_enough {f : List FSort} {st : List Int} {ws : List (List UInt8)} {t : Int} (h : (t, true) = timesA f st ws) : (enoughA f st ws).1 = decide (0 < t) := by
  obtain ⟨ha, hb, rfl⟩ := timesA_spec h
  obtain ⟨h1, h2, h3⟩ := tmG_spec (countsA f ws).1 st 100000 (by rw [ha.cnt.len, ha.stock.len])
  rw [enoughA, if_pos hb]
  have h4 := leqB_iff (a := (countsA f ws).1) (b := st) (by rw [ha.cnt.len, ha.stock.len])
  have hn : ∀ j : Nat, j < (countsA f ws).1.length → 0 ≤ nth st j := by
    intro j hj
    have hl : j < st.length := by rw [ha.stock.len, ← ha.cnt.len]; exact hj
    rw [nth_some (List.getElem?_eq_getElem hl)]
    exact (ha.stock.bound _ (List.getElem_mem hl)).1
  by_cases ht : 0 < tmG (countsA f ws).1 st 100000
  · rw [decide_eq_true ht]
    refine h4.2 fun j hj => ?_
    by_cases hp : 0 < nth (countsA f ws).1 j
    · have h5 := h2 j hj hp
      have h6 : 1 ≤ nth st j / nth (countsA f ws).1 j := by omega
      have := (Int.le_ediv_iff_mul_le hp).1 h6
      omega
    · have := hn j hj; omega
  · rw [decide_eq_false ht]
    cases hq : leqB (countsA f ws).1 st with
    | false => rfl
    | true =>
      exfalso
      rcases h3 with h3 | ⟨j, hj, hp, h3⟩
      · omega
      · have h5 := h4.1 hq j hj
        have h6 : 1 ≤ nth st j / nth (countsA f ws).1 j := (Int.le_ediv_iff_mul_le hp).2 (by omega)
        omega
def rcG (times : Int) : List Int → List Int → List Int
  | n :: ns, s :: ss => max 0 (n * times - s) :: rcG times ns ss
  | _, _ => []
theorem rcG_len (times : Int) : ∀ {a b : List Int}, a.length = b.length → (rcG times a b).length = a.length
  | [], b, _ => by simp [rcG]
  | x :: r, [], h => by simp at h
  | x :: r, y :: q, h => by rw [rcG, List.length_cons, List.length_cons, rcG_len times (by simpa using h)]
theorem rcG_at (times : Int) : ∀ {a b : List Int} (j : Nat), a.length = b.length → j < a.length → nth (rcG times a b) j = max 0 (nth a j * times - nth b j)
  | [], b, j, _, h => by simp at h
  | x :: r, [], j, h, _ => by simp at h
  | x :: r, y :: q, j, h, hj => by
    rw [rcG]
    cases j with
    | zero => rfl
    | succ j =>
      have := rcG_at times (a := r) (b := q) j (by simpa using h) (by simpa using hj)
      simpa [nth] using this
theorem rcG_take {a b : List Int} {times : Int} : ∀ {i : Nat} {x y : Int}, a[i]? = some x → b[i]? = some y → rcG times (a.take (i + 1)) (b.take (i + 1)) = rcG times (a.take i) (b.take i) ++ [max 0 (x * times - y)] := by
  induction a generalizing b with
  | nil => intro i x y h; simp at h
  | cons u r ih =>
    intro i x y hx hy
    cases b with
    | nil => simp at hy
    | cons v q =>
      cases i with
      | zero => simp at hx hy; subst hx; subst hy; simp [rcG]
      | succ i =>
        have := ih (b := q) (i := i) (by simpa using hx) (by simpa using hy)
        simp only [List.take_succ_cons, rcG, this, List.cons_append]
def recastA (f : List FSort) (st : List Int) (ws : List (List UInt8)) (times : Int) : List Int × Bool :=
  if (askedB f st ws && inB times 0 1000) && allB (rcG times (countsA f ws).1 st) 0 100000 then (rcG times (countsA f ws).1 st, true) else ([], false)
theorem recast_zero {f : List FSort} {st : List Int} {ws : List (List UInt8)} {t : Int} (h : (t, true) = timesA f st ws) (ht : t < 1000) : ∃ n, recastA f st ws t = (n, true) ∧ n.sum = 0 ∧ (∀ z ∈ n, z = 0) := by
  obtain ⟨ha, hb, rfl⟩ := timesA_spec h
  have hnn := tm_nonneg ha
  have hl : (countsA f ws).1.length = st.length := by rw [ha.cnt.len, ha.stock.len]
  obtain ⟨h1, h2, h3⟩ := tmG_spec (countsA f ws).1 st 100000 hl
  generalize tmG (countsA f ws).1 st 100000 = t at *
  have hz : ∀ z ∈ rcG t (countsA f ws).1 st, z = 0 := by
    intro z hz
    obtain ⟨j, hj, rfl⟩ := List.getElem_of_mem hz
    have e := rcG_at t j hl (by rw [rcG_len t hl] at hj; exact hj)
    rw [nth_some (List.getElem?_eq_getElem hj)] at e
    rw [e]
    rw [rcG_len t hl] at hj
    have hs : j < st.length := by omega
    have hb := ha.stock.bound _ (List.getElem_mem hs)
    rw [← nth_some (List.getElem?_eq_getElem hs)] at hb
    by_cases hp : 0 < nth (countsA f ws).1 j
    · have h5 := (Int.le_ediv_iff_mul_le hp).1 (h2 j hj hp)
      rw [Int.mul_comm] at h5
      omega
    · have hb2 := ha.cnt.bound _ (List.getElem_mem hj)
      rw [← nth_some (List.getElem?_eq_getElem hj)] at hb2
      rw [show nth (countsA f ws).1 j = 0 by omega, Int.zero_mul]
      omega
  refine ⟨rcG t (countsA f ws).1 st, ?_, ?_, hz⟩
  · rw [recastA, hb, show inB t 0 1000 = true by rw [inB, decide_eq_true (by omega), decide_eq_true (by omega)]; rfl, show allB (rcG t (countsA f ws).1 st) 0 100000 = true from List.all_eq_true.2 fun z hm => by rw [hz z hm]; decide]
    rfl
  · generalize rcG t (countsA f ws).1 st = l at hz
    clear h2 h3 hb ha
    induction l with
    | nil => rfl
    | cons x r ih => rw [List.sum_cons, hz x (by simp), ih (fun z hm => hz z (by simp [hm]))]; rfl
theorem recast_more {f : List FSort} {st : List Int} {ws : List (List UInt8)} {t : Int} {n : List Int} (h : (t, true) = timesA f st ws) (ht : t < 1000) (hr : (n, true) = recastA f st ws (t + 1)) : n.sum ≠ 0 ∧ SumFits n := by
  obtain ⟨ha, hb, rfl⟩ := timesA_spec h
  have hl : (countsA f ws).1.length = st.length := by rw [ha.cnt.len, ha.stock.len]
  obtain ⟨h1, h2, h3⟩ := tmG_spec (countsA f ws).1 st 100000 hl
  generalize tmG (countsA f ws).1 st 100000 = t at *
  unfold recastA at hr
  split at hr
  · rename_i hc
    rw [Bool.and_eq_true] at hc
    have hz := allB_mem hc.2
    obtain rfl := (Prod.mk.inj hr).1
    refine ⟨?_, sumfits_of 100000 (fun z h => by have := hz z h; omega) (by have := (okFont_sets ha.cnt.font).2; have := ha.cnt.len; rw [rcG_len _ hl]; omega)⟩
    rcases h3 with h3 | ⟨j, hj, hp, h3⟩
    · omega
    · have e := rcG_at (t + 1) j hl hj
      have hlt : j < (rcG (t + 1) (countsA f ws).1 st).length := by rw [rcG_len _ hl]; exact hj
      have hgt : 1 ≤ nth (rcG (t + 1) (countsA f ws).1 st) j := by
        rw [e]
        have h6 : ¬ (t + 1 ≤ nth st j / nth (countsA f ws).1 j) := by omega
        rw [Int.le_ediv_iff_mul_le hp, Int.mul_comm] at h6
        omega
      generalize rcG (t + 1) (countsA f ws).1 st = l at *
      intro hs
      have hsum : ∀ (l : List Int) (j : Nat), (∀ z ∈ l, 0 ≤ z) → j < l.length → nth l j ≤ l.sum := by
        intro l
        induction l with
        | nil => intro j _ h; simp at h
        | cons x r ih =>
          intro j hz hj
          have hx := hz x (by simp)
          rw [List.sum_cons]
          cases j with
          | zero =>
            have : ∀ (l : List Int), (∀ z ∈ l, 0 ≤ z) → 0 ≤ l.sum := by
              intro l
              induction l with
              | nil => intro _; simp
              | cons x r ih => intro h; have := ih (fun z hz => h z (by simp [hz])); have := h x (by simp); rw [List.sum_cons]; omega
            have := this r (fun z h => hz z (by simp [h]))
            have : nth (x :: r) 0 = x := rfl
            omega
          | succ j =>
            have := ih j (fun z h => hz z (by simp [h])) (by simpa using hj)
            have : nth (x :: r) (j + 1) = nth r j := by simp [nth]
            omega
      have := hsum l j (fun z hm => (hz z hm).1) hlt
      omega
  · simp at hr
theorem enough_one {f : List FSort} {st : List Int} {ws : List (List UInt8)} {n : List Int} {ok e one : Bool} (hn : (n, ok) = countsA f ws) (he : (e, one) = enoughA f st ws) : one = true → ok = true := by
  rintro rfl
  unfold enoughA at he
  split at he
  · rename_i h
    have := (askedB_spec h).ok
    rw [← hn] at this; exact this
  · simp at he
theorem times_one {f : List FSort} {st : List Int} {ws : List (List UInt8)} {t : Int} {five e one : Bool} (ht : (t, five) = timesA f st ws) (he : (e, one) = enoughA f st ws) : five = true → one = true := by
  rintro rfl
  have := (timesA_spec ht).2.1
  rw [enoughA, if_pos this] at he
  exact (Prod.mk.inj he).2
theorem out_three {f : List FSort} {st : List Int} {ws : List (List UInt8)} {k i : Int} {three e one : Bool} (hk : (k, i, three) = outA f st ws) (he : (e, one) = enoughA f st ws) : three = (one && !e) := by
  have := out_enough (f := f) (st := st) (ws := ws)
  rw [← hk, ← he] at this; exact this
theorem times_pos {f : List FSort} {st : List Int} {ws : List (List UInt8)} {t : Int} (ht : (t, true) = timesA f st ws) : 0 ≤ t ∧ t ≤ 100000 := by
  obtain ⟨ha, hb, rfl⟩ := timesA_spec ht
  exact ⟨tm_nonneg ha, (tmG_spec (countsA f ws).1 st 100000 (by rw [ha.cnt.len, ha.stock.len])).1⟩
theorem Counted.fits {f : List FSort} {ws : List (List UInt8)} {n : List Int} (h : Counted f ws n) : SumFits n :=
  sumfits_of 640 (fun z hz => by have := h.bound z hz; omega) (by have := (okFont_sets h.font).2; have := h.len; omega)
theorem Counted.word {f : List FSort} {ws : List (List UInt8)} {n : List Int} (h : Counted f ws n) {w : List UInt8} (hw : w ∈ ws) : sortsA f w = (wordI f w, true) ∧ (wordI f w).length ≤ 16 := by
  have h1 := (okWords_spec h.words).1 w hw
  have h2 := okWord_len h1
  have h3 := (wordI_in (okFont_codes h.font) w).2
  refine ⟨?_, by omega⟩
  rw [sortsA, h.font, h1]
  exact Prod.ext rfl (h.sets w hw)
end Go.Proofs.Ytmlojdpfpccgoaa.Ai
