/- Plain laws on measures: words that fit, the best measure, spaces for words. -/
import Derived.Test.YtfnfjgdepilgkaaJust
import Derived.Test.YtfnfjgdepilgkaaBillLaw
namespace Go.Proofs.Ytfnfjgdepilgkaa.Ai
open Go Go.Proofs
set_option linter.unusedVariables false

/-! ### Words that fit -/
def fitW (ws : List Int) (r : JRule) (m : Int) : Nat → Nat → Nat
  | 0, n => n
  | k + 1, n => if n < ws.length ∧ (ws.take (n + 1)).sum + (n : Int) * r.1 ≤ m then fitW ws r m k (n + 1) else n
theorem fitW_stop {ws : List Int} {r : JRule} {m : Int} {n : Nat} (k : Nat) (h : ¬ (n < ws.length ∧ (ws.take (n + 1)).sum + (n : Int) * r.1 ≤ m)) : fitW ws r m k n = n := by
  cases k with
  | zero => rfl
  | succ k => rw [fitW, if_neg h]
theorem fitW_step {ws : List Int} {r : JRule} {m : Int} {n : Nat} (k : Nat) (h : n < ws.length ∧ (ws.take (n + 1)).sum + (n : Int) * r.1 ≤ m) : fitW ws r m (k + 1) n = fitW ws r m k (n + 1) := by rw [fitW, if_pos h]
theorem fitW_spec {ws : List Int} {r : JRule} {m : Int} : ∀ (k n : Nat), n ≤ ws.length → (0 < n → (ws.take n).sum + ((n : Int) - 1) * r.1 ≤ m) → fitW ws r m k n ≤ ws.length ∧
    (0 < fitW ws r m k n → (ws.take (fitW ws r m k n)).sum + ((fitW ws r m k n : Nat) - 1 : Int) * r.1 ≤ m) ∧ (ws.length ≤ n + k → fitW ws r m k n < ws.length → m < (ws.take (fitW ws r m k n + 1)).sum + (fitW ws r m k n : Int) * r.1)
  | 0, n, h1, h2 => ⟨h1, h2, fun h h' => by exfalso; have h' : n < ws.length := h'; omega⟩
  | k + 1, n, h1, h2 => by
    by_cases hc : n < ws.length ∧ (ws.take (n + 1)).sum + (n : Int) * r.1 ≤ m
    · rw [fitW_step k hc]
      obtain ⟨a, b, c⟩ := fitW_spec (ws := ws) (r := r) (m := m) k (n + 1) (by omega) (fun _ => by
        have : ((n + 1 : Nat) : Int) - 1 = n := by omega
        rw [this]; exact hc.2)
      exact ⟨a, b, fun h h' => c (by omega) h'⟩
    · rw [fitW_stop (k + 1) hc]
      refine ⟨h1, h2, fun _ h' => ?_⟩
      apply Int.lt_of_not_ge
      intro e
      exact hc ⟨h', e⟩
def fitA (ws : List Int) (r : JRule) (m : Int) : Int × Bool := if askJ ws r m then ((fitW ws r m ws.length 0 : Nat), true) else (0, false)
theorem okLine_take {ws : List Int} (h : okLine ws = true) {k : Nat} (h1 : 1 ≤ k) (h2 : k ≤ ws.length) : okLine (ws.take k) = true ∧ gapsF (ws.take k) = (k : Int) - 1 := by
  have hs := okLine_spec h
  have hl : (ws.take k).length = k := by rw [List.length_take]; omega
  refine ⟨?_, by rw [gapsF, hl]⟩
  rw [okLine, Bool.and_eq_true]
  refine ⟨List.all_eq_true.2 fun x hx => ?_, ?_⟩
  · have := hs.1 x (List.mem_of_mem_take hx)
    rw [inB, decide_eq_true this.1, decide_eq_true this.2]; rfl
  · rw [hl, inB, decide_eq_true (by omega), decide_eq_true (by omega)]; rfl
theorem fit_facts {ws : List Int} {r : JRule} {m n : Int} (h : (n, true) = fitA ws r m) : ∃ f : Nat, n = f ∧ f ≤ ws.length ∧ Jin ws r m ∧
    (0 < f → ∃ lo hi, boundAns (ws.take f) r = (lo, hi, true) ∧ lo ≤ m) ∧ (f < ws.length → ∃ lo hi, boundAns (ws.take (f + 1)) r = (lo, hi, true) ∧ m < lo) := by
  unfold fitA at h
  split at h
  · rename_i hc
    have hj := askJ_in hc
    obtain rfl := (Prod.mk.inj h).1
    obtain ⟨a, b, c⟩ := fitW_spec (ws := ws) (r := r) (m := m) ws.length 0 (by omega) (fun h => by omega)
    refine ⟨_, rfl, a, hj, fun hp => ?_, fun hp => ?_⟩
    · obtain ⟨e1, e2⟩ := okLine_take hj.line (by omega) a
      exact ⟨_, _, by rw [boundAns, e1, hj.rule]; rfl, by rw [e2]; exact b hp⟩
    · obtain ⟨e1, e2⟩ := okLine_take hj.line (k := fitW ws r m ws.length 0 + 1) (by omega) (by omega)
      refine ⟨_, _, by rw [boundAns, e1, hj.rule]; rfl, ?_⟩
      rw [e2, show ((fitW ws r m ws.length 0 + 1 : Nat) : Int) - 1 = (fitW ws r m ws.length 0 : Nat) by omega]
      exact c (by omega) hp
  · simp at h

/-! ### The best measure -/
def cW (ws : List Int) (r : JRule) (m : Int) : Int := costF r (spacesF (leftF ws m) (gapsF ws))
theorem cost_at {ws : List Int} {r : JRule} {m : Int} (h : Jin ws r m) : costAns ws r m = if fitsJ ws r m = true then (cW ws r m, true) else (0, false) := by
  have ha : askJ ws r m = true := by rw [askJ, h.line, h.rule, h.meas]; rfl
  by_cases e : fitsJ ws r m = true
  · have : justAns ws r m = (spacesF (leftF ws m) (gapsF ws), true) := by rw [justAns, if_pos ha, justF, if_pos e]
    rw [costAns, this, if_pos e]; rfl
  · have : justAns ws r m = ([], false) := by rw [justAns, if_pos ha, justF, if_neg e]
    rw [costAns, this, if_neg e]; rfl
theorem jin_at {ws : List Int} {r : JRule} {m x : Int} (h : Jin ws r m) (hx : 1 ≤ x ∧ x ≤ 2000) : Jin ws r x := ⟨h.line, h.rule, by rw [inB, decide_eq_true hx.1, decide_eq_true hx.2]; rfl⟩
theorem cost_true {ws : List Int} {r : JRule} {m n : Int} (h : Jin ws r m) (hn : (n, true) = costAns ws r m) : fitsJ ws r m = true ∧ n = cW ws r m := by
  rw [cost_at h] at hn
  split at hn
  · rename_i e; exact ⟨e, (Prod.mk.inj hn).1⟩
  · simp at hn
theorem cost_false {ws : List Int} {r : JRule} {m n : Int} (h : Jin ws r m) (hn : (n, false) = costAns ws r m) : fitsJ ws r m = false := by
  rw [cost_at h] at hn
  split at hn
  · simp at hn
  · rename_i e; simpa using e
theorem cW_nonneg (ws : List Int) (r : JRule) (m : Int) : 0 ≤ cW ws r m := by
  have go : ∀ l : List Int, 0 ≤ costF r l := by
    intro l
    induction l with
    | nil => simp [costF]
    | cons x t ih =>
      have e : costF r (x :: t) = (x - r.2.1) * (x - r.2.1) + costF r t := by simp [costF]
      have : 0 ≤ (x - r.2.1) * (x - r.2.1) := by
        rcases Int.le_total 0 (x - r.2.1) with h | h
        · exact Int.mul_nonneg h h
        · exact Int.mul_nonneg_of_nonpos_of_nonpos h h
      rw [e]; omega
  exact go _
def bmS (ws : List Int) (r : JRule) (m b : Int) : Int := if fitsJ ws r m = true ∧ (b < 0 ∨ cW ws r m < cW ws r b) then m else b
def bmG (ws : List Int) (r : JRule) : Nat → Int → Int → Int
  | 0, _, b => b
  | k + 1, m, b => bmG ws r k (m + 1) (bmS ws r m b)
theorem bmG_step {ws : List Int} {r : JRule} (k : Nat) {m b p : Int} (h : p = bmS ws r m b) : bmG ws r (k + 1) m b = bmG ws r k (m + 1) p := by rw [bmG, h]
def Best (ws : List Int) (r : JRule) (fr m b : Int) : Prop := (b = -1 ∧ ∀ x, fr ≤ x → x < m → fitsJ ws r x = false) ∨
  (fr ≤ b ∧ b < m ∧ fitsJ ws r b = true ∧ ∀ x, fr ≤ x → x < m → fitsJ ws r x = true → cW ws r b < cW ws r x ∨ (cW ws r b = cW ws r x ∧ b ≤ x))
theorem best_step {ws : List Int} {r : JRule} {fr m b : Int} (h0 : 1 ≤ fr) (h1 : fr ≤ m) (h : Best ws r fr m b) : Best ws r fr (m + 1) (bmS ws r m b) := by
  unfold bmS
  split
  · rename_i hc
    refine .inr ⟨h1, by omega, hc.1, fun x hx1 hx2 hf => ?_⟩
    by_cases e : x = m
    · exact .inr ⟨by rw [e], by omega⟩
    · rcases h with ⟨rfl, hn⟩ | ⟨a1, a2, a3, a4⟩
      · rw [hn x hx1 (by omega)] at hf; cases hf
      · have := a4 x hx1 (by omega) hf
        rcases hc.2 with h' | h'
        · omega
        · left; omega
  · rename_i hc
    rcases h with ⟨rfl, hn⟩ | ⟨a1, a2, a3, a4⟩
    · refine .inl ⟨rfl, fun x hx1 hx2 => ?_⟩
      by_cases e : x = m
      · rw [e]
        cases hf : fitsJ ws r m with
        | false => rfl
        | true => exact absurd ⟨hf, .inl (by omega)⟩ hc
      · exact hn x hx1 (by omega)
    · refine .inr ⟨a1, by omega, a3, fun x hx1 hx2 hf => ?_⟩
      by_cases e : x = m
      · subst e
        have : ¬ cW ws r x < cW ws r b := fun h' => hc ⟨hf, .inr h'⟩
        omega
      · exact a4 x hx1 (by omega) hf
theorem bmG_best {ws : List Int} {r : JRule} {fr : Int} (h0 : 1 ≤ fr) : ∀ (k : Nat) (m b : Int), fr ≤ m → Best ws r fr m b → Best ws r fr (m + k) (bmG ws r k m b)
  | 0, m, b, _, h => by simpa [bmG] using h
  | k + 1, m, b, h1, h => by
    have := bmG_best h0 k (m + 1) _ (by omega) (best_step h0 h1 h)
    rw [bmG, show m + ((k + 1 : Nat) : Int) = m + 1 + k by omega]
    exact this
def bmA (ws : List Int) (r : JRule) (fr to : Int) : Int × Bool :=
  if askJ ws r fr && inB to 1 2000 then (if bmG ws r (to + 1 - fr).toNat fr (-1) < 0 then (0, false) else (bmG ws r (to + 1 - fr).toNat fr (-1), true)) else (0, false)
theorem bm_facts {ws : List Int} {r : JRule} {fr to b : Int} (h : (b, true) = bmA ws r fr to) : Jin ws r fr ∧ to ≤ 2000 ∧ fr ≤ b ∧ b ≤ to ∧ costAns ws r b = (cW ws r b, true) ∧
    ∀ m o, fr ≤ m → m ≤ to → (o, true) = costAns ws r m → cW ws r b < o ∨ (cW ws r b = o ∧ b ≤ m) := by
  unfold bmA at h
  split at h
  · rename_i hc
    rw [Bool.and_eq_true] at hc
    have hj := askJ_in hc.1
    have ht := inB_spec hc.2
    have hf := inB_spec hj.meas
    split at h
    · simp at h
    · rename_i hb
      obtain rfl := (Prod.mk.inj h).1
      have := bmG_best (ws := ws) (r := r) hf.1 (to + 1 - fr).toNat fr (-1) (Int.le_refl _) (.inl ⟨rfl, fun x h1 h2 => by omega⟩)
      rcases this with ⟨e, _⟩ | ⟨a1, a2, a3, a4⟩
      · omega
      · refine ⟨hj, ht.2, a1, by omega, by rw [cost_at (jin_at hj (by omega)), if_pos a3], fun m o h1 h2 ho => ?_⟩
        rw [cost_at (jin_at hj (by omega))] at ho
        split at ho
        · rename_i e
          rw [(Prod.mk.inj ho).1]
          exact a4 m h1 (by omega) e
        · simp at ho
  · simp at h

/-! ### Spaces for words -/
def wideI (f : List FSort) : List Int → Int
  | [] => 0
  | i :: r => setAt f i + wideI f r
theorem wideI_take {f : List FSort} : ∀ {l : List Int} {k : Nat} {x : Int}, l[k]? = some x → wideI f (l.take (k + 1)) = wideI f (l.take k) + setAt f x
  | [], k, x, h => by simp at h
  | y :: r, 0, x, h => by simp at h; subst h; simp [wideI]
  | y :: r, k + 1, x, h => by
    have := wideI_take (f := f) (l := r) (k := k) (x := x) (by simpa using h)
    simp only [List.take_succ_cons, wideI, this]; omega
theorem wideI_bound {f : List FSort} {M : Int} (hf : ∀ k, -M ≤ setAt f k ∧ setAt f k ≤ M) : ∀ l : List Int, -(M * l.length) ≤ wideI f l ∧ wideI f l ≤ M * l.length
  | [] => by simp [wideI]
  | x :: r => by
    have := wideI_bound hf r
    have := hf x
    simp only [wideI, List.length_cons, Int.natCast_add, Int.mul_add]
    omega
def widA (f : List FSort) (w : List UInt8) : Int × Bool := if (sortsA f w).2 = true then (wideI f (sortsA f w).1, true) else (0, false)
def wiG (f : List FSort) : List (List UInt8) → List Int → List Int × Bool
  | [], a => (a, true)
  | w :: ws, a => if (widA f w).2 = true then wiG f ws (a ++ [(widA f w).1]) else ([], false)
theorem wiG_ok {f : List FSort} {ws : List (List UInt8)} {i : Nat} {w : List UInt8} {n : Int} (a : List Int) (h : ws[i]? = some w) (hs : (n, true) = widA f w) : wiG f (ws.drop i) a = wiG f (ws.drop (i + 1)) (a ++ [n]) := by
  have hi := (List.getElem?_eq_some_iff.1 h).1
  rw [List.drop_eq_getElem_cons hi, wiG, (List.getElem?_eq_some_iff.1 h).2, ← hs, if_pos rfl]
theorem wiG_no {f : List FSort} {ws : List (List UInt8)} {i : Nat} {w : List UInt8} {n : Int} (a : List Int) (h : ws[i]? = some w) (hs : (n, false) = widA f w) : wiG f (ws.drop i) a = ([], false) := by
  have hi := (List.getElem?_eq_some_iff.1 h).1
  rw [List.drop_eq_getElem_cons hi, wiG, (List.getElem?_eq_some_iff.1 h).2, ← hs]; rfl
theorem wiG_end {f : List FSort} {ws : List (List UInt8)} {i : Nat} (a : List Int) (h : ws.length ≤ i) : wiG f (ws.drop i) a = (a, true) := by rw [List.drop_of_length_le h, wiG]
theorem wiG_at {f : List FSort} {ws : List (List UInt8)} {i : Nat} {w : List UInt8} {a : List Int} (h : ws[i]? = some w) (hs : (wiG f (ws.drop i) a).2 = true) : (widA f w).2 = true := by
  have hi := (List.getElem?_eq_some_iff.1 h).1
  rw [List.drop_eq_getElem_cons hi, wiG, (List.getElem?_eq_some_iff.1 h).2] at hs
  split at hs
  · assumption
  · cases hs
theorem wiG_len {f : List FSort} : ∀ (ws : List (List UInt8)) (a : List Int), (wiG f ws a).2 = true → (wiG f ws a).1.length = a.length + ws.length
  | [], a, _ => by simp [wiG]
  | w :: ws, a, h => by
    rw [wiG] at h ⊢
    split
    · rename_i e
      rw [if_pos e] at h
      rw [wiG_len ws _ h]
      simp; omega
    · rename_i e
      rw [if_neg e] at h; cases h
/-- The reference's widths: all words of a font, one by one. -/
def wdG (f : List FSort) : List (List UInt8) → List Int → List Int × Bool
  | [], a => (a, true)
  | w :: ws, a => if (setW f w []).2 = true then wdG f ws (a ++ [wideI f (wordI f w)]) else ([], false)
theorem wdG_ok {f : List FSort} {ws : List (List UInt8)} {i : Nat} {w : List UInt8} {n : Int} (a : List Int) (h : ws[i]? = some w) (hs : (n, true) = (wideI f (wordI f w), (setW f w []).2)) : wdG f (ws.drop i) a = wdG f (ws.drop (i + 1)) (a ++ [n]) := by
  have hi := (List.getElem?_eq_some_iff.1 h).1
  obtain ⟨rfl, h2⟩ := Prod.mk.inj hs
  rw [List.drop_eq_getElem_cons hi, wdG, (List.getElem?_eq_some_iff.1 h).2, ← h2, if_pos rfl]
theorem wdG_no {f : List FSort} {ws : List (List UInt8)} {i : Nat} {w : List UInt8} {n : Int} (a : List Int) (h : ws[i]? = some w) (hs : (n, false) = (wideI f (wordI f w), (setW f w []).2)) : wdG f (ws.drop i) a = ([], false) := by
  have hi := (List.getElem?_eq_some_iff.1 h).1
  rw [List.drop_eq_getElem_cons hi, wdG, (List.getElem?_eq_some_iff.1 h).2, ← (Prod.mk.inj hs).2]; rfl
theorem wdG_end {f : List FSort} {ws : List (List UInt8)} {i : Nat} (a : List Int) (h : ws.length ≤ i) : wdG f (ws.drop i) a = (a, true) := by rw [List.drop_of_length_le h, wdG]
theorem wdG_wiG {f : List FSort} (hf : okFont f = true) : ∀ (ws : List (List UInt8)) (a : List Int), (∀ w ∈ ws, okWord w = true) → wdG f ws a = wiG f ws a
  | [], a, _ => rfl
  | w :: ws, a, h => by
    have hw := h w (by simp)
    have hs : sortsA f w = setW f w [] := by rw [sortsA, hf, hw]; rfl
    have ih := fun a => wdG_wiG hf ws a (fun x hx => h x (by simp [hx]))
    rw [wdG, wiG, widA, hs]
    split
    · rw [if_pos rfl, ih]; rfl
    · rfl
def spI (f : List FSort) (ws : List (List UInt8)) (r : JRule) (m : Int) : List Int × Bool := if (wiG f ws []).2 = true then (if okFont f = true then justAns (wiG f ws []).1 r m else ([], false)) else ([], false)
def spA (f : List FSort) (ws : List (List UInt8)) (r : JRule) (m : Int) : List Int × Bool :=
  if (okFont f && okWords ws) && inB ws.length 1 20 then (if (wdG f ws []).2 = true then justAns (wdG f ws []).1 r m else ([], false)) else ([], false)
theorem just_long {l : List Int} (r : JRule) (m : Int) (h : inB l.length 1 20 = false) : justAns l r m = ([], false) := by
  rw [justAns, askJ, okLine, h]; simp
theorem wiG_words {f : List FSort} (hf : okFont f = true) : ∀ (ws : List (List UInt8)) (a : List Int), (wiG f ws a).2 = true → ∀ w ∈ ws, okWord w = true
  | [], _, _, w, hw => by cases hw
  | v :: ws, a, h, w, hw => by
    rw [wiG] at h
    split at h
    · rename_i e
      rcases List.mem_cons.1 hw with rfl | hw
      · unfold widA at e
        split at e
        · rename_i e'
          unfold sortsA at e'
          split at e'
          · rename_i hc; rw [Bool.and_eq_true] at hc; exact hc.2
          · cases e'
        · cases e
      · exact wiG_words hf ws _ h w hw
    · cases h
theorem sp_eq (f : List FSort) (ws : List (List UInt8)) (r : JRule) (m : Int) : spI f ws r m = spA f ws r m := by
  unfold spI spA
  by_cases hf : okFont f = true
  · by_cases hi : (wiG f ws []).2 = true
    · rw [if_pos hi, if_pos hf, hf, Bool.true_and]
      have hw := wiG_words hf ws [] hi
      have hl := wiG_len ws [] hi
      simp only [List.length_nil, Nat.zero_add] at hl
      have hall : ws.all okWord = true := List.all_eq_true.2 hw
      by_cases hb : inB ws.length 1 20 = true
      · have := inB_spec hb
        rw [if_pos (by rw [okWords, hall, decide_eq_true (by omega), hb]; rfl), wdG_wiG hf ws [] hw, if_pos hi]
      · have hb' : inB ws.length 1 20 = false := by simpa using hb
        rw [if_neg (by rw [hb']; simp)]
        exact just_long r m (by rw [hl]; exact hb')
    · rw [if_neg hi]
      split
      · rename_i hc
        simp only [Bool.and_eq_true] at hc
        rw [wdG_wiG hf ws [] (okWords_spec hc.1.2).1, if_neg hi]
      · rfl
  · have hf' : okFont f = false := by simpa using hf
    rw [if_neg hf, hf']
    simp
theorem sp_facts {f : List FSort} {ws : List (List UInt8)} {r : JRule} {m : Int} {s : List Int} (h : (s, true) = spA f ws r m) : okFont f = true ∧ (wiG f ws []).2 = true ∧ justAns (wiG f ws []).1 r m = (s, true) ∧ ws.length ≤ 40 := by
  rw [← sp_eq] at h
  unfold spI at h
  split at h
  · rename_i h1
    split at h
    · rename_i h2
      refine ⟨h2, h1, h.symm, ?_⟩
      have hl := wiG_len ws [] h1
      by_cases hb : inB (wiG f ws []).1.length 1 20 = true
      · have := inB_spec hb
        simp only [List.length_nil] at hl
        omega
      · rw [just_long r m (by simpa using hb)] at h; simp at h
    · simp at h
  · simp at h
theorem font_sets {f : List FSort} (h : okFont f = true) (k : Int) : -54 ≤ setAt f k ∧ setAt f k ≤ 54 := by
  have := setAt_bound (okFont_sets h).1 k
  omega
theorem sets_any {f : List FSort} (h : ∀ x ∈ f, -100 ≤ x.2 ∧ x.2 ≤ 100) (k : Int) : -100 ≤ setAt f k ∧ setAt f k ≤ 100 := by
  unfold setAt
  cases hx : f[k.toNat]? with
  | none => simp
  | some x => have := h x (List.mem_of_getElem? hx); simp; omega
theorem widA_bound {f : List FSort} {w : List UInt8} {n : Int} (h : (n, true) = widA f w) : -864 ≤ n ∧ n ≤ 864 := by
  unfold widA at h
  split at h
  · rename_i e
    unfold sortsA at e h
    split at e
    · rename_i hc
      rw [if_pos hc] at h
      rw [Bool.and_eq_true] at hc
      have hb := wideI_bound (font_sets hc.1) (setW f w []).1
      have hl := (wordI_in (okFont_codes hc.1) w).2
      have hw := okWord_len hc.2
      rw [(Prod.mk.inj h).1]
      rw [wordI] at hl
      omega
    · cases e
  · simp at h
theorem sorts_true {f : List FSort} {w : List UInt8} {l : List Int} (h : (l, true) = sortsA f w) : okFont f = true ∧ okWord w = true ∧ l = wordI f w := by
  unfold sortsA at h
  split at h
  · rename_i hc
    rw [Bool.and_eq_true] at hc
    exact ⟨hc.1, hc.2, setW_wordI h⟩
  · simp at h
end Go.Proofs.Ytfnfjgdepilgkaa.Ai
