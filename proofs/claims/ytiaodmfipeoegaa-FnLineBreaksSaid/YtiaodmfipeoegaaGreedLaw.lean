/- Plain laws on register marks. -/
import Derived.Test.YtiaodmfipeoegaaCommon
import Derived.Test.YtiaodmfipeoegaaJust
import Derived.Test.YtiaodmfipeoegaaParagT
namespace Go.Proofs.Ytiaodmfipeoegaa.Ai
open Go Go.Proofs
set_option linter.unusedSimpArgs false
set_option linter.unusedVariables false

structure RegOk (b r : List Int) (m : Int) : Prop where
  xb : ∀ x ∈ b, 0 ≤ x ∧ x ≤ 1000
  xr : ∀ x ∈ r, 0 ≤ x ∧ x ≤ 1000
  len : b.length = r.length
  few : 1 ≤ b.length ∧ b.length ≤ 8
  most : 0 ≤ m ∧ m ≤ 20
/- Plain laws on fonts and inked lines. -/

/-- Code, Set. -/
abbrev FSort := List UInt8 × Int
/-- Text, Inks. -/
abbrev Inked := List UInt8 × List UInt8
def cSort (x : FSort) : List PV := [.str x.1, .int .i64 x.2]
def letB (x : UInt8) : Bool := decide (97 ≤ (x.toNat : Int)) && decide ((x.toNat : Int) ≤ 122)
def lettersB (s : List UInt8) : Bool := s.all letB
def plainC (x : UInt8) : Bool := decide ((x.toNat : Int) = 32) || letB x
def plainB (s : List UInt8) : Bool := s.all plainC
theorem all_drop {p : UInt8 → Bool} {s : List UInt8} {i : Nat} {x : UInt8} (h : s[i]? = some x) : (s.drop i).all p = (p x && (s.drop (i + 1)).all p) := by
  have hi := (List.getElem?_eq_some_iff.1 h).1
  rw [List.drop_eq_getElem_cons hi, List.all_cons, (List.getElem?_eq_some_iff.1 h).2]
theorem all_end {p : UInt8 → Bool} {s : List UInt8} {i : Nat} (h : s.length ≤ i) : (s.drop i).all p = true := by
  rw [List.drop_of_length_le h]; rfl
def okSort (x : FSort) : Bool := (lettersB x.1 && inB x.1.length 1 3) && inB x.2 1 54
def lessB (p : Option (List UInt8)) (s : List UInt8) : Bool := match p with
  | none => true
  | some q => Op.bytesLess q s
def okFontG : Option (List UInt8) → List FSort → Bool
  | _, [] => true
  | p, x :: r => okSort x && (lessB p x.1 && okFontG (some x.1) r)
def okFont (f : List FSort) : Bool := okFontG none f && inB f.length 1 32
def prevF (f : List FSort) (i : Int) : Option (List UInt8) := if i = 0 then none else (f[(i - 1).toNat]?).map Prod.fst
theorem prevF_zero {f : List FSort} {i : Int} (h : i ≤ 0) (h0 : 0 ≤ i) : prevF f i = none := by rw [prevF, if_pos (by omega)]
theorem prevF_some {f : List FSort} {i : Int} {x : FSort} (h : 0 < i) (hx : f[(i - 1).toNat]? = some x) : prevF f i = some x.1 := by rw [prevF, if_neg (by omega), hx]; rfl
theorem okFontG_step {p : Option (List UInt8)} {x : FSort} {r : List FSort} (h1 : okSort x = true) (h2 : lessB p x.1 = true) : okFontG p (x :: r) = okFontG (some x.1) r := by rw [okFontG, h1, h2]; rfl
theorem okFontG_bad {p : Option (List UInt8)} {x : FSort} {r : List FSort} (h : okSort x = false ∨ lessB p x.1 = false) : okFontG p (x :: r) = false := by
  rw [okFontG]
  rcases h with h | h
  · rw [h]; rfl
  · rw [h]; simp
theorem okFont_sets {f : List FSort} (h : okFont f = true) : (∀ x ∈ f, 1 ≤ x.2 ∧ x.2 ≤ 54) ∧ (1 ≤ f.length ∧ f.length ≤ 32) := by
  rw [okFont, Bool.and_eq_true] at h
  have hl := inB_spec h.2
  refine ⟨?_, by omega⟩
  have go : ∀ (f : List FSort) (p : Option (List UInt8)), okFontG p f = true → ∀ x ∈ f, 1 ≤ x.2 ∧ x.2 ≤ 54 := by
    intro f
    induction f with
    | nil => intro p _ x hx; cases hx
    | cons y r ih =>
      intro p h x hx
      simp only [okFontG, okSort, Bool.and_eq_true] at h
      rcases List.mem_cons.1 hx with rfl | hx
      · exact inB_spec h.1.2
      · exact ih _ h.2.2 x hx
  exact go f none h.1

def idxF (c : List UInt8) : List FSort → Int → Int
  | [], _ => -1
  | x :: r, i => if x.1 = c then i else idxF c r (i + 1)
theorem idxF_drop {c : List UInt8} {f : List FSort} {i : Nat} {x : FSort} (k : Int) (h : f[i]? = some x) : idxF c (f.drop i) k = if x.1 = c then k else idxF c (f.drop (i + 1)) (k + 1) := by
  have hi := (List.getElem?_eq_some_iff.1 h).1
  rw [List.drop_eq_getElem_cons hi, idxF, (List.getElem?_eq_some_iff.1 h).2]
theorem idxF_bound {c : List UInt8} : ∀ (f : List FSort) (i : Int), idxF c f i = -1 ∨ (i ≤ idxF c f i ∧ idxF c f i < i + f.length)
  | [], i => .inl rfl
  | x :: r, i => by
    unfold idxF
    split
    · right; simp only [List.length_cons]; omega
    · rcases idxF_bound (c := c) r (i + 1) with h | h
      · exact .inl h
      · right; simp only [List.length_cons]; omega
theorem idxF_in (c : List UInt8) (f : List FSort) : idxF c f 0 = -1 ∨ (0 ≤ idxF c f 0 ∧ idxF c f 0 < f.length) := by
  have := idxF_bound (c := c) f 0
  omega
def setAt (f : List FSort) (k : Int) : Int := ((f[k.toNat]?).map Prod.snd).getD 0
theorem setAt_some {f : List FSort} {k : Int} {x : FSort} (h : f[k.toNat]? = some x) : setAt f k = x.2 := by rw [setAt, h]; rfl
/-- The inks of a line fit its text. -/
def inkC (t c : UInt8) : Bool := decide ((c.toNat : Int) = 98) || (decide ((c.toNat : Int) = 114) && !decide ((t.toNat : Int) = 32))
def inkB : List UInt8 → List UInt8 → Bool
  | t :: ts, c :: cs => inkC t c && inkB ts cs
  | _, _ => true
structure InkedOk (x : Inked) : Prop where
  plain : plainB x.1 = true
  few : x.1.length ≤ 30
  len : x.2.length = x.1.length
  ink : inkB x.1 x.2 = true
/-! ### Runs of inks -/
theorem letB_lo {x : UInt8} {c : Int} (h : c = x.toNat) (h2 : c < 97) : letB x = false := by rw [letB, ← h, decide_eq_false (by omega)]; rfl
theorem letB_hi {x : UInt8} {c : Int} (h : c = x.toNat) (h2 : 122 < c) : letB x = false := by rw [letB, ← h, decide_eq_false (show ¬ c ≤ 122 by omega)]; simp
theorem letB_in {x : UInt8} {c : Int} (h : c = x.toNat) (h2 : 97 ≤ c ∧ c ≤ 122) : letB x = true := by rw [letB, ← h, decide_eq_true h2.1, decide_eq_true h2.2]; rfl
def codesL : List (List UInt8) := [[97], [97, 98], [97, 98, 99], [98], [98, 98], [99], [100], [101], [102], [102, 102], [102, 105], [105]]
theorem codes_len : ∀ c ∈ codesL, (c.length : Int) ≤ 3 := by decide
def wordL : List (List UInt8) := [[97], [98], [99], [97, 98], [98, 98], [97, 98, 99], [100], [101], [102], [102, 105]]
theorem wordL_len : ∀ c ∈ wordL, 1 ≤ (c.length : Int) ∧ (c.length : Int) ≤ 3 := by decide
theorem setAt_bound {f : List FSort} (h : ∀ x ∈ f, 1 ≤ x.2 ∧ x.2 ≤ 54) (k : Int) : 0 ≤ setAt f k ∧ setAt f k ≤ 54 := by
  unfold setAt
  cases hx : f[k.toNat]? with
  | none => simp
  | some x => have := h x (List.mem_of_getElem? hx); simp; omega
/- Plain laws on setting words and on bills. -/

def preB (w c : List UInt8) : Bool := decide (c.length ≤ w.length) && decide (w.take c.length = c)
theorem preB_spec {w c : List UInt8} (h : preB w c = true) : c.length ≤ w.length ∧ w.take c.length = c := by simpa [preB] using h
theorem preB_iff {w c : List UInt8} : preB w c = true ↔ c.length ≤ w.length ∧ w.take c.length = c := by simp [preB]
def codeL (f : List FSort) (k : Int) : Int := ((f[k.toNat]?).map fun x => (x.1.length : Int)).getD 0
theorem codeL_some {f : List FSort} {k : Int} {x : FSort} (h : f[k.toNat]? = some x) : codeL f k = x.1.length := by rw [codeL, h]; rfl
def bestG (f : List FSort) (w : List UInt8) : List FSort → Int → Int → Int
  | [], _, b => b
  | x :: r, i, b => bestG f w r (i + 1) (if preB w x.1 = true ∧ (b < 0 ∨ codeL f b < x.1.length) then i else b)
theorem bestG_drop {f : List FSort} (w : List UInt8) {i : Nat} {x : FSort} (k b : Int) (h : f[i]? = some x) :
    bestG f w (f.drop i) k b = bestG f w (f.drop (i + 1)) (k + 1) (if preB w x.1 = true ∧ (b < 0 ∨ codeL f b < x.1.length) then k else b) := by
  have hi := (List.getElem?_eq_some_iff.1 h).1
  rw [List.drop_eq_getElem_cons hi, bestG, (List.getElem?_eq_some_iff.1 h).2]
def bestLg (f : List FSort) (w : List UInt8) : Int := bestG f w f 0 (-1)
/-- The first of the longest codes that begin the word. -/
def IsBest (f : List FSort) (w : List UInt8) (n : Nat) (b : Int) : Prop :=
  (b = -1 ∧ ∀ (j : Nat) y, j < n → f[j]? = some y → preB w y.1 = false) ∨
  ∃ (i : Nat) (x : FSort), b = i ∧ i < n ∧ f[i]? = some x ∧ preB w x.1 = true ∧
    (∀ (j : Nat) y, j < n → f[j]? = some y → preB w y.1 = true → y.1.length ≤ x.1.length) ∧ (∀ (j : Nat) y, j < i → f[j]? = some y → preB w y.1 = true → y.1.length < x.1.length)
theorem IsBest.uniq {f : List FSort} {w : List UInt8} {n : Nat} {a b : Int} (h1 : IsBest f w n a) (h2 : IsBest f w n b) : a = b := by
  rcases h1 with ⟨rfl, h1⟩ | ⟨i, x, rfl, h3, h4, h5, h6, h7⟩
  · rcases h2 with ⟨rfl, _⟩ | ⟨i, x, rfl, h3, h4, h5, _⟩
    · rfl
    · rw [h1 i x h3 h4] at h5; cases h5
  · rcases h2 with ⟨rfl, h1⟩ | ⟨i', x', rfl, h3', h4', h5', h6', h7'⟩
    · rw [h1 i x h3 h4] at h5; cases h5
    · have q1 := h6 i' x' h3' h4' h5'
      have q2 := h6' i x h3 h4 h5
      rcases Nat.lt_trichotomy i i' with h | h | h
      · have := h7' i x h h4 h5; omega
      · rw [h]
      · have := h7 i' x' h h4' h5'; omega
theorem bestG_is {f : List FSort} {w : List UInt8} : ∀ (m i : Nat) (b : Int), f.length - i = m → i ≤ f.length → IsBest f w i b → IsBest f w f.length (bestG f w (f.drop i) i b)
  | 0, i, b, h, hi, hb => by
    have e : i = f.length := by omega
    rw [List.drop_of_length_le (by omega), bestG, ← e]; exact hb
  | m + 1, i, b, h, hi, hb => by
    have hl : i < f.length := by omega
    have hx : f[i]? = some f[i] := List.getElem?_eq_getElem hl
    generalize f[i] = x at hx
    rw [bestG_drop w _ _ hx]
    refine bestG_is m (i + 1) _ (by omega) (by omega) ?_
    split
    · rename_i hc
      refine .inr ⟨i, x, rfl, by omega, hx, hc.1, fun j y hj hy hp => ?_, fun j y hj hy hp => ?_⟩
      · rcases hb with ⟨rfl, hb⟩ | ⟨i', x', rfl, h3, h4, h5, h6, h7⟩
        · by_cases e : j = i
          · rw [e, hx] at hy; rw [Option.some.inj hy]; exact Nat.le_refl _
          · rw [hb j y (by omega) hy] at hp; cases hp
        · by_cases e : j = i
          · rw [e, hx] at hy; rw [Option.some.inj hy]; exact Nat.le_refl _
          · have := h6 j y (by omega) hy hp
            have h8 := hc.2
            rw [codeL_some (by simpa using h4)] at h8
            omega
      · rcases hb with ⟨rfl, hb⟩ | ⟨i', x', rfl, h3, h4, h5, h6, h7⟩
        · rw [hb j y hj hy] at hp; cases hp
        · have := h6 j y hj hy hp
          have h8 := hc.2
          rw [codeL_some (by simpa using h4)] at h8
          omega
    · rename_i hc
      rcases hb with ⟨rfl, hb⟩ | ⟨i', x', rfl, h3, h4, h5, h6, h7⟩
      · refine .inl ⟨rfl, fun j y hj hy => ?_⟩
        by_cases e : j = i
        · rw [e, hx] at hy
          obtain rfl := Option.some.inj hy
          cases hp : preB w x.1 with
          | false => rfl
          | true => exact absurd ⟨hp, .inl (by omega)⟩ hc
        · exact hb j y (by omega) hy
      · refine .inr ⟨i', x', rfl, by omega, h4, h5, fun j y hj hy hp => ?_, h7⟩
        by_cases e : j = i
        · rw [e, hx] at hy
          obtain rfl := Option.some.inj hy
          have h8 : ¬ codeL f i' < x.1.length := fun h => hc ⟨hp, .inr h⟩
          rw [codeL_some (by simpa using h4)] at h8
          omega
        · exact h6 j y (by omega) hy hp
theorem bestF_is (f : List FSort) (w : List UInt8) : IsBest f w f.length (bestLg f w) := by
  have := bestG_is (f := f) (w := w) f.length 0 (-1) (by omega) (by omega) (.inl ⟨rfl, fun j y hj => absurd hj (by omega)⟩)
  exact this
def CodesOk (f : List FSort) : Prop := ∀ x ∈ f, 1 ≤ x.1.length ∧ x.1.length ≤ 3
theorem okFont_codes {f : List FSort} (h : okFont f = true) : CodesOk f := by
  rw [okFont, Bool.and_eq_true] at h
  have go : ∀ (f : List FSort) (p : Option (List UInt8)), okFontG p f = true → ∀ x ∈ f, 1 ≤ x.1.length ∧ x.1.length ≤ 3 := by
    intro f
    induction f with
    | nil => intro p _ x hx; cases hx
    | cons y r ih =>
      intro p h x hx
      simp only [okFontG, okSort, Bool.and_eq_true] at h
      rcases List.mem_cons.1 hx with rfl | hx
      · have := inB_spec h.1.1.2; omega
      · exact ih _ h.2.2 x hx
  exact go f none h.1
theorem best_pos {f : List FSort} (hc : CodesOk f) {w : List UInt8} (h : 0 ≤ bestLg f w) : 1 ≤ codeL f (bestLg f w) ∧ codeL f (bestLg f w) ≤ w.length ∧ bestLg f w < f.length := by
  rcases bestF_is f w with ⟨h', _⟩ | ⟨i, x, h', h3, h4, h5, _⟩
  · omega
  · have h6 := (preB_spec h5).1
    have h7 := hc x (List.mem_of_getElem? h4)
    rw [h', codeL_some (by simpa using h4)]
    omega
def tryN (f : List FSort) (w : List UInt8) : Nat → Int
  | 0 => -1
  | n + 1 => if 0 ≤ idxF (w.take (n + 1)) f 0 then idxF (w.take (n + 1)) f 0 else tryN f w n
theorem idxF_isG (c : List UInt8) : ∀ (f : List FSort) (k : Nat), (idxF c f k = -1 ∧ ∀ (j : Nat) y, f[j]? = some y → y.1 ≠ c) ∨ ∃ (i : Nat) (x : FSort), idxF c f k = (k + i : Nat) ∧ f[i]? = some x ∧ x.1 = c ∧ ∀ (j : Nat) y, j < i → f[j]? = some y → y.1 ≠ c
  | [], k => .inl ⟨rfl, fun j y h => by simp at h⟩
  | x :: r, k => by
    rw [idxF]
    split
    · rename_i e
      exact .inr ⟨0, x, by simp, rfl, e, fun j y hj => absurd hj (by omega)⟩
    · rename_i e
      rcases idxF_isG c r (k + 1) with ⟨h1, h2⟩ | ⟨i, z, h1, h2, h3, h4⟩
      · refine .inl ⟨by rw [← h1]; simp, fun j y hy => ?_⟩
        cases j with
        | zero => simp at hy; rw [← hy]; exact e
        | succ j => exact h2 j y (by simpa using hy)
      · refine .inr ⟨i + 1, z, ?_, by simpa using h2, h3, fun j y hj hy => ?_⟩
        · have h5 : ((k : Int) + 1) = ((k + 1 : Nat) : Int) := by omega
          rw [h5, h1]; omega
        · cases j with
          | zero => simp at hy; rw [← hy]; exact e
          | succ j => exact h4 j y (by omega) (by simpa using hy)
theorem idxF_is (c : List UInt8) (f : List FSort) : (idxF c f 0 = -1 ∧ ∀ (j : Nat) y, f[j]? = some y → y.1 ≠ c) ∨ ∃ (i : Nat) (x : FSort), idxF c f 0 = i ∧ f[i]? = some x ∧ x.1 = c ∧ ∀ (j : Nat) y, j < i → f[j]? = some y → y.1 ≠ c := by
  have := idxF_isG c f 0
  simpa using this
theorem tryN_is {f : List FSort} {w : List UInt8} : ∀ n : Nat, n ≤ w.length → (tryN f w n = -1 ∧ ∀ (j : Nat) y, f[j]? = some y → preB w y.1 = true → y.1.length ≤ n → y.1.length = 0) ∨
    ∃ (i : Nat) (x : FSort), tryN f w n = i ∧ f[i]? = some x ∧ preB w x.1 = true ∧ (∀ (j : Nat) y, f[j]? = some y → preB w y.1 = true → y.1.length ≤ n → y.1.length ≤ x.1.length) ∧ (∀ (j : Nat) y, j < i → f[j]? = some y → preB w y.1 = true → y.1.length ≠ x.1.length)
  | 0, _ => .inl ⟨rfl, fun j y hy hp hl => by omega⟩
  | n + 1, hn => by
    have hlt : (w.take (n + 1)).length = n + 1 := by rw [List.length_take]; omega
    rw [tryN]
    rcases idxF_is (w.take (n + 1)) f with ⟨h1, h2⟩ | ⟨i, x, h1, h2, h3, h4⟩
    · rw [if_neg (by omega)]
      have hne : ∀ (j : Nat) y, f[j]? = some y → preB w y.1 = true → y.1.length ≤ n + 1 → y.1.length ≤ n := by
        intro j y hy hp hl
        by_cases e : y.1.length = n + 1
        · have := (preB_spec hp).2
          rw [e] at this
          exact absurd this.symm (h2 j y hy)
        · omega
      rcases tryN_is (f := f) (w := w) n (by omega) with ⟨h3, h4⟩ | ⟨i, x, h3, h4, h5, h6, h7⟩
      · exact .inl ⟨h3, fun j y hy hp hl => h4 j y hy hp (hne j y hy hp hl)⟩
      · exact .inr ⟨i, x, h3, h4, h5, fun j y hy hp hl => h6 j y hy hp (hne j y hy hp hl), h7⟩
    · rw [if_pos (by omega)]
      have hx : x.1.length = n + 1 := by rw [h3]; exact hlt
      have hp0 : preB w x.1 = true := preB_iff.2 ⟨by omega, by rw [hx, h3]⟩
      refine .inr ⟨i, x, h1, h2, hp0, fun j y hy hp hl => by rw [hx]; exact hl, fun j y hj hy hp hl => ?_⟩
      have := (preB_spec hp).2
      rw [hl, hx] at this
      exact h4 j y hj hy this.symm
theorem tryN_best {f : List FSort} (hc : CodesOk f) (w : List UInt8) : tryN f w (min 3 w.length) = bestLg f w := by
  refine IsBest.uniq ?_ (bestF_is f w)
  have hall : ∀ (j : Nat) y, f[j]? = some y → preB w y.1 = true → y.1.length ≤ min 3 w.length ∧ 1 ≤ y.1.length := by
    intro j y hy hp
    have h1 := hc y (List.mem_of_getElem? hy)
    have h2 := (preB_spec hp).1
    omega
  rcases tryN_is (f := f) (w := w) (min 3 w.length) (by omega) with ⟨h1, h2⟩ | ⟨i, x, h1, h2, h3, h4, h5⟩
  · refine .inl ⟨h1, fun j y _ hy => ?_⟩
    cases hp : preB w y.1 with
    | false => rfl
    | true =>
      have := hall j y hy hp
      have := h2 j y hy hp (by omega)
      omega
  · refine .inr ⟨i, x, h1, (List.getElem?_eq_some_iff.1 h2).1, h2, h3, fun j y _ hy hp => h4 j y hy hp (hall j y hy hp).1, fun j y hj hy hp => ?_⟩
    have a := h4 j y hy hp (hall j y hy hp).1
    have b := h5 j y hj hy hp
    omega

/-! ### A word's sorts -/
def setG (f : List FSort) : Nat → List UInt8 → List Int → List Int × Bool
  | 0, _, acc => (acc, true)
  | n + 1, w, acc => if w.length = 0 then (acc, true) else if bestLg f w < 0 then ([], false) else setG f n (w.drop (codeL f (bestLg f w)).toNat) (acc ++ [bestLg f w])
theorem setG_more {f : List FSort} (hc : CodesOk f) : ∀ (n m : Nat) (w : List UInt8) (acc : List Int), w.length ≤ n → w.length ≤ m → setG f n w acc = setG f m w acc
  | 0, 0, _, _, _, _ => rfl
  | 0, m + 1, w, acc, h, _ => by rw [setG, setG, if_pos (by omega)]
  | n + 1, 0, w, acc, _, h => by rw [setG, setG, if_pos (by omega)]
  | n + 1, m + 1, w, acc, h1, h2 => by
    rw [setG, setG]
    split
    · rfl
    · split
      · rfl
      · have := best_pos hc (w := w) (by omega)
        exact setG_more hc n m _ _ (by rw [List.length_drop]; omega) (by rw [List.length_drop]; omega)
def setW (f : List FSort) (w : List UInt8) (acc : List Int) : List Int × Bool := setG f w.length w acc
theorem setW_nil {f : List FSort} {w : List UInt8} {acc : List Int} (h : w.length = 0) : setW f w acc = (acc, true) := by rw [setW, h, setG]
theorem setW_none {f : List FSort} {w : List UInt8} (acc : List Int) (h : w.length ≠ 0) (hb : bestLg f w < 0) : setW f w acc = ([], false) := by
  obtain ⟨n, hn⟩ : ∃ n, w.length = n + 1 := ⟨w.length - 1, by omega⟩
  rw [setW, hn, setG, if_neg h, if_pos hb]
theorem setW_step {f : List FSort} (hc : CodesOk f) {w : List UInt8} (acc : List Int) (h : w.length ≠ 0) (hb : 0 ≤ bestLg f w) : setW f w acc = setW f (w.drop (codeL f (bestLg f w)).toNat) (acc ++ [bestLg f w]) := by
  obtain ⟨n, hn⟩ : ∃ n, w.length = n + 1 := ⟨w.length - 1, by omega⟩
  rw [setW, hn, setG, if_neg h, if_neg (by omega), setW]
  have := best_pos hc hb
  exact setG_more hc _ _ _ _ (by rw [List.length_drop]; omega) (Nat.le_refl _)
theorem setG_in {f : List FSort} (hc : CodesOk f) : ∀ (n : Nat) (w : List UInt8) (acc : List Int), (∀ z ∈ acc, 0 ≤ z ∧ z < f.length) → (∀ z ∈ (setG f n w acc).1, 0 ≤ z ∧ z < f.length) ∧ (setG f n w acc).1.length ≤ acc.length + w.length
  | 0, w, acc, h => ⟨h, by rw [setG]; simp⟩
  | n + 1, w, acc, h => by
    rw [setG]
    split
    · exact ⟨h, by simp⟩
    · split
      · exact ⟨fun z hz => by simp at hz, by simp⟩
      · have hp := best_pos hc (w := w) (by omega)
        have ih := setG_in hc n (w.drop (codeL f (bestLg f w)).toNat) (acc ++ [bestLg f w]) (by
          intro z hz
          rcases List.mem_append.1 hz with hz | hz
          · exact h z hz
          · rw [List.mem_singleton.1 hz]; omega)
        refine ⟨ih.1, ?_⟩
        have := ih.2
        rw [List.length_append, List.length_drop] at this
        simp only [List.length_cons, List.length_nil] at this
        omega
def wordI (f : List FSort) (w : List UInt8) : List Int := (setW f w []).1
theorem wordI_in {f : List FSort} (hc : CodesOk f) (w : List UInt8) : (∀ z ∈ wordI f w, 0 ≤ z ∧ z < f.length) ∧ (wordI f w).length ≤ w.length := by
  have := setG_in hc w.length w [] (fun z hz => by cases hz)
  simpa [wordI, setW] using this
theorem setW_wordI {f : List FSort} {w : List UInt8} {l : List Int} {b : Bool} (h : (l, b) = setW f w []) : l = wordI f w := by rw [wordI, ← h]

/-! ### Counts -/
def okWord (w : List UInt8) : Bool := lettersB w && inB w.length 1 16
def okWords (ws : List (List UInt8)) : Bool := ws.all okWord && decide (ws.length ≤ 40)
theorem okWord_len {w : List UInt8} (h : okWord w = true) : 1 ≤ (w.length : Int) ∧ (w.length : Int) ≤ 16 := by
  rw [okWord, Bool.and_eq_true] at h
  exact inB_spec h.2
theorem okWords_spec {ws : List (List UInt8)} (h : okWords ws = true) : (∀ w ∈ ws, okWord w = true) ∧ ws.length ≤ 40 := by
  simpa [okWords] using h
theorem okWords_drop {p : List UInt8 → Bool} {ws : List (List UInt8)} {i : Nat} {w : List UInt8} (h : ws[i]? = some w) : (ws.drop i).all p = (p w && (ws.drop (i + 1)).all p) := by
  have hi := (List.getElem?_eq_some_iff.1 h).1
  rw [List.drop_eq_getElem_cons hi, List.all_cons, (List.getElem?_eq_some_iff.1 h).2]
def bumpA (a : List Int) (i : Int) : List Int := a.set i.toNat (nth a i.toNat + 1)
def cntW (l : List Int) (a : List Int) : List Int := l.foldl bumpA a
theorem cntW_cons (x : Int) (r a : List Int) : cntW (x :: r) a = cntW r (bumpA a x) := rfl
def cntA (f : List FSort) : List (List UInt8) → List Int → List Int × Bool
  | [], a => (a, true)
  | w :: ws, a => if (setW f w []).2 = true then cntA f ws (cntW (wordI f w) a) else ([], false)
def countsA (f : List FSort) (ws : List (List UInt8)) : List Int × Bool := if okFont f && okWords ws then cntA f ws (List.replicate f.length 0) else ([], false)
/-- All sorts of all words. -/
def flatI (f : List FSort) (ws : List (List UInt8)) : List Int := ws.flatMap (wordI f)
theorem flatI_in {f : List FSort} (hc : CodesOk f) (ws : List (List UInt8)) : ∀ z ∈ flatI f ws, 0 ≤ z ∧ z < f.length := by
  intro z hz
  obtain ⟨w, _, h⟩ := List.mem_flatMap.1 hz
  exact (wordI_in hc w).1 z h
theorem nth_set {a : List Int} {i : Nat} {v : Int} (j : Nat) (h : i < a.length) : nth (a.set i v) j = if j = i then v else nth a j := by
  rw [nth, nth, List.getElem?_set]
  by_cases e : i = j
  · subst e; rw [if_pos rfl, if_pos rfl, if_pos h]; rfl
  · rw [if_neg e, if_neg (fun h => e h.symm)]
theorem sum_set {a : List Int} : ∀ {i : Nat} {v : Int}, i < a.length → (a.set i v).sum = a.sum - nth a i + v := by
  induction a with
  | nil => intro i v h; simp at h
  | cons x r ih =>
    intro i v h
    cases i with
    | zero => simp [nth]; omega
    | succ i =>
      have := ih (i := i) (v := v) (by simpa using h)
      have e : nth (x :: r) (i + 1) = nth r i := by simp [nth]
      rw [List.set_cons_succ, List.sum_cons, this, e, List.sum_cons]; omega
theorem cntW_sum : ∀ (l a : List Int), (∀ z ∈ l, 0 ≤ z ∧ z < a.length) → (cntW l a).sum = a.sum + l.length
  | [], a, _ => by simp [cntW]
  | x :: r, a, h => by
    have hx := h x (by simp)
    rw [cntW_cons, cntW_sum r _ (fun z hz => by rw [bumpA, List.length_set]; exact h z (by simp [hz])), bumpA, sum_set (by omega), List.length_cons]
    omega
theorem cntW_count : ∀ (l a : List Int) (j : Nat), (∀ z ∈ l, 0 ≤ z ∧ z < a.length) → j < a.length → nth (cntW l a) j = nth a j + (l.count (j : Int) : Nat)
  | [], a, j, _, _ => by simp [cntW]
  | x :: r, a, j, h, hj => by
    have hx := h x (by simp)
    rw [cntW_cons, cntW_count r _ j (fun z hz => by rw [bumpA, List.length_set]; exact h z (by simp [hz])) (by rw [bumpA, List.length_set]; exact hj), bumpA, nth_set j (by omega), List.count_cons]
    by_cases e : x = (j : Int)
    · subst e; simp; omega
    · have e2 : ¬ (x == (j : Int)) = true := by simpa using e
      rw [if_neg (by omega), if_neg e2]; omega
/-- What a count of a copy's sorts tells. -/
structure Counted (f : List FSort) (ws : List (List UInt8)) (n : List Int) : Prop where
  font : okFont f = true
  words : okWords ws = true
  len : n.length = f.length
  bound : ∀ z ∈ n, 0 ≤ z ∧ z ≤ 640
  sets : ∀ w ∈ ws, (setW f w []).2 = true
  eq : n = cntW (flatI f ws) (List.replicate f.length 0)
def sortsA (f : List FSort) (w : List UInt8) : List Int × Bool := if okFont f && okWord w then setW f w [] else ([], false)
theorem Counted.sum {f : List FSort} {ws : List (List UInt8)} {n : List Int} (h : Counted f ws n) : n.sum = (flatI f ws).length := by
  rw [h.eq, cntW_sum _ _ (by rw [List.length_replicate]; exact flatI_in (okFont_codes h.font) ws)]
  simp
theorem Counted.at {f : List FSort} {ws : List (List UInt8)} {n : List Int} (h : Counted f ws n) {j : Nat} (hj : j < f.length) : nth n j = ((flatI f ws).count (j : Int) : Nat) := by
  rw [h.eq, cntW_count _ _ j (by rw [List.length_replicate]; exact flatI_in (okFont_codes h.font) ws) (by rw [List.length_replicate]; exact hj)]
  rw [nth, List.getElem?_replicate, if_pos hj]; simp
/-! ### Stocks -/
structure StockOk (f : List FSort) (st : List Int) : Prop where
  len : st.length = f.length
  bound : ∀ z ∈ st, 0 ≤ z ∧ z ≤ 100000
structure Asked (f : List FSort) (st : List Int) (ws : List (List UInt8)) : Prop where
  cnt : Counted f ws (countsA f ws).1
  ok : (countsA f ws).2 = true
  stock : StockOk f st
/-! ### How often -/
theorem Counted.fits {f : List FSort} {ws : List (List UInt8)} {n : List Int} (h : Counted f ws n) : SumFits n :=
  sumfits_of 640 (fun z hz => by have := h.bound z hz; omega) (by have := (okFont_sets h.font).2; have := h.len; omega)
theorem Counted.word {f : List FSort} {ws : List (List UInt8)} {n : List Int} (h : Counted f ws n) {w : List UInt8} (hw : w ∈ ws) : sortsA f w = (wordI f w, true) ∧ (wordI f w).length ≤ 16 := by
  have h1 := (okWords_spec h.words).1 w hw
  have h2 := okWord_len h1
  have h3 := (wordI_in (okFont_codes h.font) w).2
  refine ⟨?_, by omega⟩
  rw [sortsA, h.font, h1]
  exact Prod.ext rfl (h.sets w hw)

/- Plain laws on measures: words that fit, the best measure, spaces for words. -/

/-! ### Words that fit -/
def fitW (ws : List Int) (r : JRule) (m : Int) : Nat → Nat → Nat
  | 0, n => n
  | k + 1, n => if n < ws.length ∧ (ws.take (n + 1)).sum + (n : Int) * r.1 ≤ m then fitW ws r m k (n + 1) else n
theorem fitW_stop {ws : List Int} {r : JRule} {m : Int} {n : Nat} (k : Nat) (h : ¬ (n < ws.length ∧ (ws.take (n + 1)).sum + (n : Int) * r.1 ≤ m)) : fitW ws r m k n = n := by
  cases k with
  | zero => rfl
  | succ k => rw [fitW, if_neg h]
theorem fitW_step {ws : List Int} {r : JRule} {m : Int} {n : Nat} (k : Nat) (h : n < ws.length ∧ (ws.take (n + 1)).sum + (n : Int) * r.1 ≤ m) : fitW ws r m (k + 1) n = fitW ws r m k (n + 1) := by rw [fitW, if_pos h]
theorem fitW_spec {ws : List Int} {r : JRule} {m : Int} : ∀ (k n : Nat), n ≤ ws.length → (0 < n → (ws.take n).sum + ((n : Int) - 1) * r.1 ≤ m) → fitW ws r m k n ≤ ws.length ∧
    (0 < fitW ws r m k n → (ws.take (fitW ws r m k n)).sum + ((fitW ws r m k n : Nat) - 1 : Int) * r.1 ≤ m) ∧ (ws.length ≤ n + k → fitW ws r m k n < ws.length → m < (ws.take (fitW ws r m k n + 1)).sum + (fitW ws r m k n : Int) * r.1)
  | 0, n, h1, h2 => ⟨h1, h2, fun h h' => by exfalso; have h' : n < ws.length := h'; omega⟩
  | k + 1, n, h1, h2 => by
    by_cases hc : n < ws.length ∧ (ws.take (n + 1)).sum + (n : Int) * r.1 ≤ m
    · rw [fitW_step k hc]
      obtain ⟨a, b, c⟩ := fitW_spec (ws := ws) (r := r) (m := m) k (n + 1) (by omega) (fun _ => by
        have : ((n + 1 : Nat) : Int) - 1 = n := by omega
        rw [this]; exact hc.2)
      exact ⟨a, b, fun h h' => c (by omega) h'⟩
    · rw [fitW_stop (k + 1) hc]
      refine ⟨h1, h2, fun _ h' => ?_⟩
      apply Int.lt_of_not_ge
      intro e
      exact hc ⟨h', e⟩
def fitA (ws : List Int) (r : JRule) (m : Int) : Int × Bool := if askJ ws r m then ((fitW ws r m ws.length 0 : Nat), true) else (0, false)
/-! ### The best measure -/
/-! ### Spaces for words -/
def wideI (f : List FSort) : List Int → Int
  | [] => 0
  | i :: r => setAt f i + wideI f r
theorem wideI_take {f : List FSort} : ∀ {l : List Int} {k : Nat} {x : Int}, l[k]? = some x → wideI f (l.take (k + 1)) = wideI f (l.take k) + setAt f x
  | [], k, x, h => by simp at h
  | y :: r, 0, x, h => by simp at h; subst h; simp [wideI]
  | y :: r, k + 1, x, h => by
    have := wideI_take (f := f) (l := r) (k := k) (x := x) (by simpa using h)
    simp only [List.take_succ_cons, wideI, this]; omega
def widA (f : List FSort) (w : List UInt8) : Int × Bool := if (sortsA f w).2 = true then (wideI f (sortsA f w).1, true) else (0, false)
def wiG (f : List FSort) : List (List UInt8) → List Int → List Int × Bool
  | [], a => (a, true)
  | w :: ws, a => if (widA f w).2 = true then wiG f ws (a ++ [(widA f w).1]) else ([], false)
theorem wiG_ok {f : List FSort} {ws : List (List UInt8)} {i : Nat} {w : List UInt8} {n : Int} (a : List Int) (h : ws[i]? = some w) (hs : (n, true) = widA f w) : wiG f (ws.drop i) a = wiG f (ws.drop (i + 1)) (a ++ [n]) := by
  have hi := (List.getElem?_eq_some_iff.1 h).1
  rw [List.drop_eq_getElem_cons hi, wiG, (List.getElem?_eq_some_iff.1 h).2, ← hs, if_pos rfl]
theorem wiG_no {f : List FSort} {ws : List (List UInt8)} {i : Nat} {w : List UInt8} {n : Int} (a : List Int) (h : ws[i]? = some w) (hs : (n, false) = widA f w) : wiG f (ws.drop i) a = ([], false) := by
  have hi := (List.getElem?_eq_some_iff.1 h).1
  rw [List.drop_eq_getElem_cons hi, wiG, (List.getElem?_eq_some_iff.1 h).2, ← hs]; rfl
theorem wiG_end {f : List FSort} {ws : List (List UInt8)} {i : Nat} (a : List Int) (h : ws.length ≤ i) : wiG f (ws.drop i) a = (a, true) := by rw [List.drop_of_length_le h, wiG]
theorem wiG_at {f : List FSort} {ws : List (List UInt8)} {i : Nat} {w : List UInt8} {a : List Int} (h : ws[i]? = some w) (hs : (wiG f (ws.drop i) a).2 = true) : (widA f w).2 = true := by
  have hi := (List.getElem?_eq_some_iff.1 h).1
  rw [List.drop_eq_getElem_cons hi, wiG, (List.getElem?_eq_some_iff.1 h).2] at hs
  split at hs
  · assumption
  · cases hs
theorem wiG_len {f : List FSort} : ∀ (ws : List (List UInt8)) (a : List Int), (wiG f ws a).2 = true → (wiG f ws a).1.length = a.length + ws.length
  | [], a, _ => by simp [wiG]
  | w :: ws, a, h => by
    rw [wiG] at h ⊢
    split
    · rename_i e
      rw [if_pos e] at h
      rw [wiG_len ws _ h]
      simp; omega
    · rename_i e
      rw [if_neg e] at h; cases h
/-- The reference's widths: all words of a font, one by one. -/
def wdG (f : List FSort) : List (List UInt8) → List Int → List Int × Bool
  | [], a => (a, true)
  | w :: ws, a => if (setW f w []).2 = true then wdG f ws (a ++ [wideI f (wordI f w)]) else ([], false)
theorem wdG_ok {f : List FSort} {ws : List (List UInt8)} {i : Nat} {w : List UInt8} {n : Int} (a : List Int) (h : ws[i]? = some w) (hs : (n, true) = (wideI f (wordI f w), (setW f w []).2)) : wdG f (ws.drop i) a = wdG f (ws.drop (i + 1)) (a ++ [n]) := by
  have hi := (List.getElem?_eq_some_iff.1 h).1
  obtain ⟨rfl, h2⟩ := Prod.mk.inj hs
  rw [List.drop_eq_getElem_cons hi, wdG, (List.getElem?_eq_some_iff.1 h).2, ← h2, if_pos rfl]
theorem wdG_no {f : List FSort} {ws : List (List UInt8)} {i : Nat} {w : List UInt8} {n : Int} (a : List Int) (h : ws[i]? = some w) (hs : (n, false) = (wideI f (wordI f w), (setW f w []).2)) : wdG f (ws.drop i) a = ([], false) := by
  have hi := (List.getElem?_eq_some_iff.1 h).1
  rw [List.drop_eq_getElem_cons hi, wdG, (List.getElem?_eq_some_iff.1 h).2, ← (Prod.mk.inj hs).2]; rfl
theorem wdG_end {f : List FSort} {ws : List (List UInt8)} {i : Nat} (a : List Int) (h : ws.length ≤ i) : wdG f (ws.drop i) a = (a, true) := by rw [List.drop_of_length_le h, wdG]
theorem wdG_wiG {f : List FSort} (hf : okFont f = true) : ∀ (ws : List (List UInt8)) (a : List Int), (∀ w ∈ ws, okWord w = true) → wdG f ws a = wiG f ws a
  | [], a, _ => rfl
  | w :: ws, a, h => by
    have hw := h w (by simp)
    have hs : sortsA f w = setW f w [] := by rw [sortsA, hf, hw]; rfl
    have ih := fun a => wdG_wiG hf ws a (fun x hx => h x (by simp [hx]))
    rw [wdG, wiG, widA, hs]
    split
    · rw [if_pos rfl, ih]; rfl
    · rfl
theorem wiG_words {f : List FSort} (hf : okFont f = true) : ∀ (ws : List (List UInt8)) (a : List Int), (wiG f ws a).2 = true → ∀ w ∈ ws, okWord w = true
  | [], _, _, w, hw => by cases hw
  | v :: ws, a, h, w, hw => by
    rw [wiG] at h
    split at h
    · rename_i e
      rcases List.mem_cons.1 hw with rfl | hw
      · unfold widA at e
        split at e
        · rename_i e'
          unfold sortsA at e'
          split at e'
          · rename_i hc; rw [Bool.and_eq_true] at hc; exact hc.2
          · cases e'
        · cases e
      · exact wiG_words hf ws _ h w hw
    · cases h
theorem font_sets {f : List FSort} (h : okFont f = true) (k : Int) : -54 ≤ setAt f k ∧ setAt f k ≤ 54 := by
  have := setAt_bound (okFont_sets h).1 k
  omega
theorem sorts_true {f : List FSort} {w : List UInt8} {l : List Int} (h : (l, true) = sortsA f w) : okFont f = true ∧ okWord w = true ∧ l = wordI f w := by
  unfold sortsA at h
  split at h
  · rename_i hc
    rw [Bool.and_eq_true] at hc
    exact ⟨hc.1, hc.2, setW_wordI h⟩
  · simp at h

/- Plain laws on greedy breaks, and on breaks of words that are set with a font. -/

/-- The words that a line from i on may have at the most. -/
def cut20 (ws : List Int) (i : Nat) : List Int := cutW ws i (min ws.length (i + 20))
/-- As many words as the line from i on takes. -/
def tkF (ws : List Int) (r : JRule) (m : Int) (i : Nat) : Nat := fitW (cut20 ws i) r m (cut20 ws i).length 0
theorem cut20_length {ws : List Int} {i : Nat} (h : i ≤ ws.length) : (cut20 ws i).length = min (ws.length - i) 20 := by
  unfold cut20; rw [cutW_length (by omega) (by omega)]; omega
theorem cut20_take {ws : List Int} {i n : Nat} (h : n ≤ (cut20 ws i).length) (hi : i ≤ ws.length) : (cut20 ws i).take n = cutW ws i (i + n) := by
  rw [cut20_length hi] at h
  unfold cut20 cutW
  rw [List.take_drop, List.take_take]
  congr 2; omega
theorem tk_le (ws : List Int) (r : JRule) (m : Int) {i : Nat} (h : i ≤ ws.length) : tkF ws r m i ≤ 20 ∧ i + tkF ws r m i ≤ ws.length := by
  have := (fitW_spec (ws := cut20 ws i) (r := r) (m := m) (cut20 ws i).length 0 (by omega) (fun h => by omega)).1
  rw [cut20_length h] at this
  unfold tkF
  rw [cut20_length h]
  omega
/-- The breaks behind i of lines that take as many words as they can. -/
def gG (ws : List Int) (r : JRule) (m : Int) (i : Nat) : Option (List Int) :=
  if h : i < ws.length then
    if hf : tkF ws r m i = 0 then none
    else if i + tkF ws r m i < ws.length then (gG ws r m (i + tkF ws r m i)).map (((i + tkF ws r m i : Nat) : Int) :: ·) else some []
  else some []
termination_by ws.length - i
theorem gG_none {ws : List Int} {r : JRule} {m : Int} {i : Nat} (h : i < ws.length) (hf : tkF ws r m i = 0) : gG ws r m i = none := by
  rw [gG, dif_pos h, dif_pos hf]
theorem gG_last {ws : List Int} {r : JRule} {m : Int} {i : Nat} (h : i < ws.length) (hf : tkF ws r m i ≠ 0) (hl : ws.length ≤ i + tkF ws r m i) : gG ws r m i = some [] := by
  rw [gG, dif_pos h, dif_neg hf, if_neg (by omega)]
theorem gG_step {ws : List Int} {r : JRule} {m : Int} {i j : Nat} (h : i < ws.length) (hf : tkF ws r m i ≠ 0) (hj : j = i + tkF ws r m i) (hl : j < ws.length) : gG ws r m i = (gG ws r m j).map ((j : Int) :: ·) := by
  subst hj
  rw [gG, dif_pos h, dif_neg hf, if_pos hl]
def gGA (o : Option (List Int)) : List Int × Bool := match o with
  | some b => (b, true)
  | none => ([], false)
def greedA (ws : List Int) (r : JRule) (m : Int) : List Int × Bool := if askP ws r m then gGA (gG ws r m 0) else ([], false)
theorem tk_fits {ws : List Int} {r : JRule} {m : Int} {i : Nat} (h : i < ws.length) (h0 : tkF ws r m i ≠ 0) : (cutW ws i (i + tkF ws r m i)).sum + ((tkF ws r m i : Nat) - 1 : Int) * r.1 ≤ m := by
  have fs := fitW_spec (ws := cut20 ws i) (r := r) (m := m) (cut20 ws i).length 0 (by omega) (fun h => by omega)
  have := fs.2.1 (by unfold tkF at h0; omega)
  rw [cut20_take fs.1 (by omega)] at this
  exact this
theorem cut_line {ws : List Int} (hp : okPara ws = true) {i n : Nat} (h1 : 1 ≤ n) (h2 : n ≤ 20) (h3 : i + n ≤ ws.length) : okLine (cutW ws i (i + n)) = true ∧ gapsF (cutW ws i (i + n)) = (n : Int) - 1 := by
  have sp := okPara_spec hp
  have hl : (cutW ws i (i + n)).length = n := by rw [cutW_length (by omega) h3]; omega
  exact ⟨line_ok (fun x hx => sp.1 x (cutW_mem hx)) (by omega) (by omega), by rw [gapsF, hl]⟩
theorem mem_sum_le : ∀ {l : List Int} {x : Int}, (∀ y ∈ l, 0 ≤ y) → x ∈ l → x ≤ l.sum
  | a :: t, x, h, hx => by
    have h0 : 0 ≤ t.sum := by
      have : ∀ l : List Int, (∀ y ∈ l, 0 ≤ y) → 0 ≤ l.sum := by
        intro l
        induction l with
        | nil => intro _; simp
        | cons b u ih => intro hb; have := hb b (by simp); have := ih fun y hy => hb y (by simp [hy]); simp only [List.sum_cons]; omega
      exact this t fun y hy => h y (by simp [hy])
    have ha := h a (by simp)
    simp only [List.sum_cons]
    rcases List.mem_cons.1 hx with rfl | hx
    · omega
    · have := mem_sum_le (fun y hy => h y (by simp [hy])) hx; omega
theorem drop_split (ws : List Int) {i j : Nat} (h : i ≤ j) : ws.drop i = cutW ws i j ++ ws.drop j := by
  unfold cutW
  conv => lhs; rw [← List.take_append_drop j ws]
  rw [List.drop_append]
  by_cases hj : j ≤ ws.length
  · rw [List.length_take, Nat.min_eq_left hj, show i - j = 0 by omega]; rfl
  · rw [List.drop_of_length_le (show ws.length ≤ j by omega)]; simp
structure Greed (ws : List Int) (r : JRule) (m : Int) (i : Nat) (b : List Int) : Prop where
  up : Up i ws.length b
  small : ∀ x ∈ ws.drop i, x ≤ m
  fits : ∀ l ∈ linesP ws i b, okLine l = true ∧ l.sum + gapsF l * r.1 ≤ m
theorem greed_of {ws : List Int} {r : JRule} {m : Int} (hp : okPara ws = true) (hr : okRule r = true) : ∀ (d i : Nat) (b : List Int), ws.length - i ≤ d → i < ws.length → gG ws r m i = some b → Greed ws r m i b
  | 0, i, b, hd, hi, h => by omega
  | d + 1, i, b, hd, hi, h => by
    have sp := okPara_spec hp
    have sr := okRule_spec hr
    by_cases h0 : tkF ws r m i = 0
    · rw [gG_none hi h0] at h; cases h
    · have tl := tk_le ws r m (Nat.le_of_lt hi)
      have tf := tk_fits hi h0
      have cl := cut_line hp (i := i) (n := tkF ws r m i) (by omega) (by omega) tl.2
      have hnn : 0 ≤ ((tkF ws r m i : Nat) - 1 : Int) * r.1 := Int.mul_nonneg (by omega) (by omega)
      have hs : ∀ x ∈ cutW ws i (i + tkF ws r m i), x ≤ m := fun x hx => by
        have := mem_sum_le (fun y hy => by have := sp.1 y (cutW_mem hy); omega) hx
        omega
      by_cases hl : ws.length ≤ i + tkF ws r m i
      · rw [gG_last hi h0 hl] at h
        obtain rfl := Option.some.inj h
        have he : cutW ws i (i + tkF ws r m i) = ws.drop i := by
          rw [show i + tkF ws r m i = ws.length by omega, cutW_end]
        rw [he] at hs cl tf
        refine ⟨trivial, hs, fun l hx => ?_⟩
        rw [linesP, List.mem_singleton] at hx
        subst hx
        exact ⟨cl.1, by rw [cl.2]; exact tf⟩
      · rw [gG_step hi h0 rfl (by omega)] at h
        obtain ⟨b', hb, rfl⟩ := Option.map_eq_some_iff.1 h
        have ih := greed_of hp hr d (i + tkF ws r m i) b' (by omega) (by omega) hb
        refine ⟨⟨⟨by omega, by omega⟩, ih.up⟩, fun x hx => ?_, fun l hx => ?_⟩
        · rw [drop_split ws (j := i + tkF ws r m i) (by omega)] at hx
          rcases List.mem_append.1 hx with hx | hx
          · exact hs x hx
          · exact ih.small x hx
        · rw [linesP] at hx
          rcases List.mem_cons.1 hx with rfl | hx
          · exact ⟨cl.1, by rw [Int.toNat_natCast, cl.2]; exact tf⟩
          · exact ih.fits l hx
theorem greed_small {ws : List Int} {r : JRule} {m : Int} (h : askP ws r m = true) (hn : allB ws 1 m = false) : gG ws r m 0 = none := by
  obtain ⟨hp, hr, hm⟩ := askP_spec h
  have sp := okPara_spec hp
  cases hg : gG ws r m 0 with
  | none => rfl
  | some b =>
    have g := (greed_of hp hr ws.length 0 b (by omega) (by omega) hg).small
    have : allB ws 1 m = true := List.all_eq_true.2 fun x hx => by
      have := sp.1 x hx
      have := g x hx
      rw [inB, decide_eq_true (by omega), decide_eq_true (by omega)]; rfl
    rw [this] at hn; cases hn
theorem greed_no {ws : List Int} {r : JRule} {m : Int} (h : (askP ws r m && allB ws 1 m) = false) : greedA ws r m = ([], false) := by
  unfold greedA
  by_cases ha : askP ws r m = true
  · rw [if_pos ha, greed_small ha (by rw [ha] at h; simpa using h)]; rfl
  · rw [if_neg ha]
theorem greed_facts {ws : List Int} {r : JRule} {m : Int} {b : List Int} (h : (b, true) = greedA ws r m) : linesPA ws b = (linesP ws 0 b, true) ∧ ∀ l ∈ linesP ws 0 b, ∃ lo hi, boundAns l r = (lo, hi, true) ∧ lo ≤ m := by
  unfold greedA at h
  by_cases ha : askP ws r m = true
  · rw [if_pos ha] at h
    obtain ⟨hp, hr, hm⟩ := askP_spec ha
    have sp := okPara_spec hp
    cases hg : gG ws r m 0 with
    | none => rw [hg] at h; cases h
    | some b' =>
      rw [hg] at h
      obtain rfl : b = b' := (Prod.mk.inj h).1
      have g := greed_of hp hr ws.length 0 b (by omega) (by omega) hg
      refine ⟨by rw [linesPA, hp, up_rising _ 0 none (fun x e => by cases e) g.up]; rfl, fun l hl => ?_⟩
      obtain ⟨a, c⟩ := g.fits l hl
      exact ⟨_, _, by rw [boundAns, a, hr]; rfl, c⟩
  · rw [if_neg ha] at h; cases h
/-- How far the program's loop has come: breaks up to the line that starts at i. -/
structure GI (ws : List Int) (r : JRule) (m i : Int) (out : List Int) : Prop where
  lo : 0 ≤ i ∧ i ≤ ws.length
  more : i < ws.length → gG ws r m 0 = (gG ws r m i.toNat).map (fun b => (if 0 < i then out ++ [i] else out) ++ b)
  done : ¬ i < ws.length → gG ws r m 0 = some out
  zero : i = 0 → out = []
  len : (out.length : Int) ≤ i
theorem GI.start {ws : List Int} {r : JRule} {m : Int} (h : 0 < ws.length) : GI ws r m 0 [] :=
  ⟨by omega, fun _ => by rw [if_neg (by omega)]; simp, fun e => absurd (show (0 : Int) < ws.length by omega) e, fun _ => rfl, by simp⟩
theorem GI.stuck {ws : List Int} {r : JRule} {m i : Int} {out : List Int} (h : GI ws r m i out) (hi : i < ws.length) (hn : tkF ws r m i.toNat = 0) : gG ws r m 0 = none := by
  have := h.lo
  rw [h.more hi, gG_none (by omega) hn]; rfl
theorem GI.next {ws : List Int} {r : JRule} {m i n j : Int} {out out2 : List Int} (h : GI ws r m i out) (hi : i < ws.length) (hn : n = tkF ws r m i.toNat) (h0 : n ≠ 0) (hj : j = i + n) (ho : out2 = if 0 < i then out ++ [i] else out) : GI ws r m j out2 := by
  have hl := h.lo
  have tl := tk_le ws r m (i := i.toNat) (by omega)
  have hm := h.more hi
  rw [← ho] at hm
  have hlen : (out2.length : Int) ≤ j := by
    have := h.len
    rw [ho]
    split
    · rw [List.length_append]; simp; omega
    · omega
  refine ⟨by omega, fun e => ?_, fun e => ?_, fun e => by omega, hlen⟩
  · rw [hm, gG_step (j := j.toNat) (by omega) (by omega) (by omega) (by omega), if_pos (by omega)]
    rw [show ((j.toNat : Nat) : Int) = j by omega]
    cases gG ws r m j.toNat <;> simp
  · rw [hm, gG_last (by omega) (by omega) (by omega)]; simp
/-- How far the reference's loop has come: the breaks up to i. -/
structure GR (ws : List Int) (r : JRule) (m i : Int) (out : List Int) : Prop where
  lo : 0 ≤ i ∧ i < ws.length
  more : gG ws r m 0 = (gG ws r m i.toNat).map (out ++ ·)
  len : (out.length : Int) ≤ i
theorem GR.start {ws : List Int} {r : JRule} {m : Int} (h : 0 < ws.length) : GR ws r m 0 [] := ⟨by omega, by simp, by simp⟩
theorem GR.next {ws : List Int} {r : JRule} {m i n j : Int} {out out2 : List Int} (h : GR ws r m i out) (hn : n = tkF ws r m i.toNat) (h0 : n ≠ 0) (hj : j = i + n) (hl : j ≠ ws.length) (ho : out2 = out ++ [j]) : GR ws r m j out2 := by
  have hlo := h.lo
  have tl := tk_le ws r m (i := i.toNat) (by omega)
  have := h.len
  refine ⟨by omega, ?_, by rw [ho, List.length_append]; simp; omega⟩
  rw [h.more, gG_step (j := j.toNat) (by omega) (by omega) (by omega) (by omega), ho]
  rw [show ((j.toNat : Nat) : Int) = j by omega]
  cases gG ws r m j.toNat <;> simp
theorem GR.done {ws : List Int} {r : JRule} {m i n j : Int} {out : List Int} (h : GR ws r m i out) (hn : n = tkF ws r m i.toNat) (h0 : n ≠ 0) (hj : j = i + n) (hl : j = ws.length) : gG ws r m 0 = some out := by
  have hlo := h.lo
  rw [h.more, gG_last (by omega) (by omega) (by omega)]; simp
/-- The reference's inner loop. -/
structure GN (ws : List Int) (r : JRule) (m i n : Int) : Prop where
  lo : 1 ≤ n ∧ n ≤ 20 ∧ i + n ≤ ws.length
  q : (tkF ws r m i.toNat : Int) = fitW (cut20 ws i.toNat) r m ((cut20 ws i.toNat).length - n.toNat) n.toNat
theorem cut_one {ws : List Int} {i : Nat} (h : i < ws.length) : ∃ x ∈ ws, (cutW ws i (i + 1)) = [x] := by
  refine ⟨ws[i], List.getElem_mem h, ?_⟩
  unfold cutW
  rw [List.take_succ_eq_append_getElem h, List.drop_append, List.length_take, show i - min i ws.length = 0 by omega]
  simp
theorem GN.start {ws : List Int} {r : JRule} {m i : Int} (h0 : 0 ≤ i) (h : i < ws.length) (hs : allB ws 1 m = true) : GN ws r m i 1 := by
  have hl := cut20_length (ws := ws) (i := i.toNat) (by omega)
  refine ⟨by omega, ?_⟩
  obtain ⟨x, hx, hc⟩ := cut_one (ws := ws) (i := i.toNat) (by omega)
  have := inB_spec (List.all_eq_true.1 hs x hx)
  have e : (cut20 ws i.toNat).length = ((cut20 ws i.toNat).length - 1) + 1 := by omega
  have g := fitW_step (ws := cut20 ws i.toNat) (r := r) (m := m) (n := 0) ((cut20 ws i.toNat).length - 1) ⟨by omega, by rw [cut20_take (by omega) (by omega), hc]; simp; omega⟩
  unfold tkF
  conv => lhs; rw [e, g]
  rfl
theorem GN.step {ws : List Int} {r : JRule} {m i n k : Int} (h : GN ws r m i n) (h0 : 0 ≤ i) (h1 : i + n < ws.length) (h2 : n < 20) (hs : (cutW ws i.toNat (i + n + 1).toNat).sum + n * r.1 ≤ m) (hk : k = n + 1) : GN ws r m i k := by
  have lo := h.lo
  have hl := cut20_length (ws := ws) (i := i.toNat) (by omega)
  refine ⟨by omega, ?_⟩
  have g := fitW_step (ws := cut20 ws i.toNat) (r := r) (m := m) (n := n.toNat) ((cut20 ws i.toNat).length - n.toNat - 1) ⟨by omega, by
    rw [cut20_take (by omega) (by omega), show i.toNat + (n.toNat + 1) = (i + n + 1).toNat by omega, show ((n.toNat : Nat) : Int) = n by omega]; exact hs⟩
  rw [h.q, show (cut20 ws i.toNat).length - n.toNat = ((cut20 ws i.toNat).length - n.toNat - 1) + 1 by omega, g, show n.toNat + 1 = k.toNat by omega, show (cut20 ws i.toNat).length - n.toNat - 1 = (cut20 ws i.toNat).length - k.toNat by omega]
theorem GN.stop {ws : List Int} {r : JRule} {m i n : Int} (h : GN ws r m i n) (h0 : 0 ≤ i) (hc : ¬ i + n < ws.length ∨ ¬ n < 20 ∨ ¬ (cutW ws i.toNat (i + n + 1).toNat).sum + n * r.1 ≤ m) : n = tkF ws r m i.toNat := by
  have lo := h.lo
  have hl := cut20_length (ws := ws) (i := i.toNat) (by omega)
  rw [h.q, fitW_stop]
  · omega
  · rintro ⟨a, b⟩
    rw [cut20_take (by omega) (by omega), show i.toNat + (n.toNat + 1) = (i + n + 1).toNat by omega, show ((n.toNat : Nat) : Int) = n by omega] at b
    rcases hc with hc | hc | hc
    · omega
    · omega
    · exact hc b

/-! ### Words that are set with a font -/
def bwA (f : List FSort) (ws : List (List UInt8)) (r : JRule) (m : Int) : List Int × Bool :=
  if (ws.length : Int) ≤ 24 ∧ (wiG f ws []).2 = true then ((bestPA (wiG f ws []).1 r m (-1)).1, (bestPA (wiG f ws []).1 r m (-1)).2.2) else ([], false)
theorem bestPA_no {ws : List Int} {r : JRule} {m k : Int} (h : askP ws r m = false) : bestPA ws r m k = ([], 0, false) := by
  rw [bestPA, if_neg (by rw [h]; simp)]
theorem bw_long {f : List FSort} {ws : List (List UInt8)} {r : JRule} {m : Int} (h : 24 < (ws.length : Int)) : bwA f ws r m = ([], false) := by
  rw [bwA, if_neg (by omega)]
theorem bw_ask {f : List FSort} {ws : List (List UInt8)} {r : JRule} {m : Int} (h : askP (wiG f ws []).1 r m = false) : bwA f ws r m = ([], false) := by
  rw [bwA]
  split
  · rw [bestPA_no h]
  · rfl
theorem bw_font {f : List FSort} {ws : List (List UInt8)} {r : JRule} {m : Int} (h : (wiG f ws []).2 = true) (h0 : askP (wiG f ws []).1 r m = true) : okFont f = true ∧ (∀ w ∈ ws, okWord w = true) ∧ (ws.length : Int) ≤ 24 := by
  have sp := okPara_spec (askP_spec h0).1
  have hl := wiG_len ws [] h
  cases ws with
  | nil => rw [hl] at sp; simp at sp
  | cons w t =>
    have hw := wiG_at (f := f) (ws := w :: t) (i := 0) (a := []) (w := w) rfl h
    unfold widA at hw
    split at hw
    · rename_i hs
      obtain ⟨hf, -, -⟩ := sorts_true (show ((sortsA f w).1, true) = sortsA f w by rw [← hs])
      refine ⟨hf, wiG_words hf _ _ h, ?_⟩
      rw [hl] at sp
      simp at sp ⊢
      omega
    · cases hw
theorem bw_few (f : List FSort) (ws : List (List UInt8)) (r : JRule) (m : Int) (h : (wiG f ws []).2 = true) (h0 : askP (wiG f ws []).1 r m = true) : (ws.length : Int) ≤ 24 := (bw_font h h0).2.2
theorem bw_guard {f : List FSort} {ws : List (List UInt8)} {r : JRule} {m : Int} (h : (okFont f && okWords ws) = false) : bwA f ws r m = ([], false) := by
  by_cases h1 : (wiG f ws []).2 = true
  · by_cases h2 : askP (wiG f ws []).1 r m = true
    · obtain ⟨a, b, c⟩ := bw_font h1 h2
      rw [a, Bool.true_and] at h
      have : okWords ws = true := by
        rw [okWords, Bool.and_eq_true]
        exact ⟨List.all_eq_true.2 b, decide_eq_true (by omega)⟩
      rw [this] at h; cases h
    · exact bw_ask (by simpa using h2)
  · rw [bwA, if_neg (fun e => h1 e.2)]

end Go.Proofs.Ytiaodmfipeoegaa.Ai
