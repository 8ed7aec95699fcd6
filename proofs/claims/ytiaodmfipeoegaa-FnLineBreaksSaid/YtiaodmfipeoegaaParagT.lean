/- Plain laws on the tables of impl.leastCosts, impl.bestBreaks, impl.CountBreaks. -/
import Derived.Test.YtiaodmfipeoegaaParag
namespace Go.Proofs.Ytiaodmfipeoegaa.Ai
open Go Go.Proofs
set_option linter.unusedSimpArgs false
set_option linter.unusedVariables false

section
variable {ws : List Int} {r : JRule} {m : Int}
/-- The least costs from a word on, with k lines. -/
abbrev pC (ws : List Int) (r : JRule) (m k : Int) (i : Nat) : Int := wC (paE ws r m) (paL ws r m) ws.length k i
abbrev pB (ws : List Int) (r : JRule) (m k : Int) (i : Nat) : List Int := wB (paE ws r m) (paL ws r m) ws.length k i
abbrev pW (ws : List Int) (r : JRule) (m k : Int) (i : Nat) : Int := wW (paE ws r m) (paL ws r m) ws.length k i
abbrev pO (ws : List Int) (r : JRule) (m k : Int) (i : Nat) : Int := onB (paE ws r m) k i
def mapT (ws : List Int) (f : Nat → Int) : List Int := (List.range ws.length).map f
theorem mapT_length (f : Nat → Int) : (mapT ws f).length = ws.length := by simp [mapT]
theorem mapT_at {f : Nat → Int} {i : Nat} (h : i < ws.length) : (mapT ws f)[i]? = some (f i) := by
  unfold mapT
  rw [List.getElem?_map, List.getElem?_range h]; rfl
theorem mapT_set {f g : Nat → Int} {i : Nat} {x : Int} (hx : i < ws.length → x = g i) (h : ∀ j, j ≠ i → f j = g j) : (mapT ws f).set i x = mapT ws g := by
  apply List.ext_getElem?
  intro j
  by_cases hj : j < ws.length
  · rw [mapT_at hj, List.getElem?_set]
    by_cases e : i = j
    · subst e
      rw [if_pos rfl, if_pos (by rw [mapT_length]; exact hj), hx hj]
    · rw [if_neg e, mapT_at hj, h j (Ne.symm e)]
  · rw [List.getElem?_eq_none (by rw [List.length_set, mapT_length]; omega), List.getElem?_eq_none (by rw [mapT_length]; omega)]
theorem mapT_congr {f g : Nat → Int} (h : ∀ i, i < ws.length → f i = g i) : mapT ws f = mapT ws g := by
  unfold mapT
  refine List.map_congr_left fun i hi => h i (List.mem_range.1 hi)
def tabC (ws : List Int) (r : JRule) (m k : Int) : List Int := mapT ws (pC ws r m k)
theorem tabC_length {k : Int} : (tabC ws r m k).length = ws.length := mapT_length _
theorem tabC_at {k : Int} {i : Nat} {x : Int} (hx : (tabC ws r m k)[i]? = some x) : x = pC ws r m k i := by
  have h : i < ws.length := by have := (List.getElem?_eq_some_iff.1 hx).1; rw [tabC_length] at this; exact this
  unfold tabC at hx
  rw [mapT_at h] at hx
  exact (Option.some.inj hx).symm
/-! ### The first loop -/
def tabL (ws : List Int) (r : JRule) (m k : Int) (f : Nat) : List Int := mapT ws fun i => if i < f then pO ws r m k i else 0
theorem tabL_length {k : Int} {f : Nat} : (tabL ws r m k f).length = ws.length := mapT_length _
theorem tabL_zero {k : Int} : List.replicate ws.length 0 = tabL ws r m k 0 := by
  unfold tabL mapT
  apply List.ext_getElem
  · simp
  · intro i h1 h2
    simp
theorem tabL_step {k : Int} {f : Nat} {x : Int} (hx : x = pO ws r m k f) : (tabL ws r m k f).set f x = tabL ws r m k (f + 1) := by
  refine mapT_set (fun _ => by rw [if_pos (by omega)]; exact hx) fun j hj => ?_
  by_cases e : j < f
  · rw [if_pos e, if_pos (by omega)]
  · rw [if_neg e, if_neg (by omega)]
theorem pO_yes {k : Int} {i : Nat} (hk : k = 1 ∨ k < 0) (h : paE ws r m i = true) : 0 = pO ws r m k i := by
  unfold pO onB isEnd
  rw [if_pos]
  rcases hk with e | e <;> simp [e, h]
theorem pO_no {k : Int} {i : Nat} (h : paE ws r m i = false ∨ (k ≠ 1 ∧ ¬ k < 0)) : -1 = pO ws r m k i := by
  unfold pO onB isEnd
  rw [if_neg]
  rcases h with e | ⟨e1, e2⟩
  · simp [e]
  · simp [e1, e2]
theorem pC_one {i : Nat} (h : i < ws.length) : pC ws r m 1 i = pO ws r m 1 i := by
  unfold pC
  rw [wC_eq 1 h]
  have : ∀ l : List Nat, oF (wcnd (paE ws r m) (paL ws r m) ws.length 1 i) (onB (paE ws r m) 1 i) l = onB (paE ws r m) 1 i := by
    intro l
    induction l with
    | nil => rfl
    | cons j t ih =>
      rw [oF_cons, ih]
      have : wcnd (paE ws r m) (paL ws r m) ws.length 1 i j = -1 := by unfold wcnd cnd lM; rw [if_pos rfl]
      rw [this]; unfold omin; rw [if_pos (by omega)]
  exact this _
theorem tabL_one {f : Nat} (hf : ws.length ≤ f) : tabL ws r m 1 f = tabC ws r m 1 := mapT_congr fun i hi => by rw [if_pos (by omega), pC_one hi]
/-! ### The second loop -/
def baseC (ws : List Int) (r : JRule) (m k f : Int) : List Int := mapT ws fun i => if (i : Int) ≤ f then pO ws r m k i else pC ws r m k i
theorem base_start {k : Int} {f : Nat} {g : Int} (hf : ws.length ≤ f) (hg : g = ws.length - 1) : tabL ws r m k f = baseC ws r m k g := mapT_congr fun i hi => by rw [if_pos (by omega), if_pos (by omega)]
theorem base_end {k f : Int} (hf : f < 0) : baseC ws r m k f = tabC ws r m k := mapT_congr fun i hi => by rw [if_neg (by omega)]
structure T3 (ws : List Int) (r : JRule) (m k f t : Int) (tab : List Int) : Prop where
  ex : ∃ acc, tab = (baseC ws r m k f).set f.toNat acc ∧ -1 ≤ acc ∧ acc ≤ 1399680 ∧ oF (wcnd (paE ws r m) (paL ws r m) ws.length k f.toNat) acc (List.range' t.toNat (ws.length - t.toNat)) = pC ws r m k f.toNat
  fb : 0 ≤ f ∧ f < ws.length
  tb : f < t ∧ t ≤ ws.length
variable {k f t : Int} {tab : List Int}
theorem pO_bound (i : Nat) : -1 ≤ pO ws r m k i ∧ pO ws r m k i ≤ 0 := by
  unfold pO onB; split <;> omega
theorem T3.start {g : Int} (h : tab = baseC ws r m k f) (hf : 0 ≤ f) (hn : f < ws.length) (hg : g = f + 1) : T3 ws r m k f g tab := by
  subst hg
  refine ⟨⟨pO ws r m k f.toNat, ?_, by have := pO_bound (ws := ws) (r := r) (m := m) (k := k) f.toNat; omega, by have := pO_bound (ws := ws) (r := r) (m := m) (k := k) f.toNat; omega, ?_⟩, ⟨hf, hn⟩, ⟨by omega, by omega⟩⟩
  · rw [h]
    exact (mapT_set (fun hi => by rw [if_pos (by omega)]) fun j _ => rfl).symm
  · unfold pC
    rw [wC_eq k (by omega), show (f + 1).toNat = f.toNat + 1 by omega, show ws.length - (f.toNat + 1) = ws.length - 1 - f.toNat by omega]
    rfl
theorem T3.len (h : T3 ws r m k f t tab) : tab.length = ws.length := by
  obtain ⟨⟨acc, rfl, -⟩, -⟩ := h
  rw [List.length_set]; exact mapT_length _
theorem T3.acc (h : T3 ws r m k f t tab) {x : Int} (hx : tab[f.toNat]? = some x) : tab = (baseC ws r m k f).set f.toNat x ∧ -1 ≤ x ∧ x ≤ 1399680 ∧ oF (wcnd (paE ws r m) (paL ws r m) ws.length k f.toNat) x (List.range' t.toNat (ws.length - t.toNat)) = pC ws r m k f.toNat := by
  have hb := h.fb
  obtain ⟨⟨acc, rfl, a1, a2, a3⟩, -⟩ := h
  rw [List.getElem?_set, if_pos rfl, if_pos (by unfold baseC; rw [mapT_length]; omega)] at hx
  cases hx
  exact ⟨rfl, a1, a2, a3⟩
theorem T3.at_f (h : T3 ws r m k f t tab) {x : Int} (hx : tab[f.toNat]? = some x) : -1 ≤ x ∧ x ≤ 1399680 := ⟨(h.acc hx).2.1, (h.acc hx).2.2.1⟩
theorem T3.at_t (h : T3 ws r m k f t tab) {x : Int} (ht : t < ws.length) (hx : tab[t.toNat]? = some x) : x = pC ws r m k t.toNat := by
  have hb := h.fb
  have tb := h.tb
  obtain ⟨⟨acc, rfl, -⟩, -⟩ := h
  rw [List.getElem?_set, if_neg (by omega)] at hx
  unfold baseC at hx
  rw [mapT_at (by omega), if_neg (by omega)] at hx
  exact (Option.some.inj hx).symm
theorem range_step {t n : Nat} (h : t < n) : List.range' t (n - t) = t :: List.range' (t + 1) (n - (t + 1)) := by
  rw [show n - t = (n - (t + 1)) + 1 by omega, List.range'_succ]
theorem T3.next (h : T3 ws r m k f t tab) (ht : t < ws.length) {t2 x : Int} (h2 : t2 = t + 1) (hx : tab[f.toNat]? = some x) : oF (wcnd (paE ws r m) (paL ws r m) ws.length k f.toNat) (omin x (wcnd (paE ws r m) (paL ws r m) ws.length k f.toNat t.toNat)) (List.range' t2.toNat (ws.length - t2.toNat)) = pC ws r m k f.toNat := by
  have tb := h.tb
  have hb := h.fb
  obtain ⟨-, -, -, a⟩ := h.acc hx
  rw [range_step (by omega)] at a
  rw [show t2.toNat = t.toNat + 1 by omega]
  exact a
theorem T3.yes (h : T3 ws r m k f t tab) (hk : k ≠ 1) (ht : t < ws.length) {t2 c w x y : Int} {tab2 : List Int} (h2 : t2 = t + 1) (hl : paL ws r m f.toNat t.toNat = some c) (hw : w = pC ws r m (nxM k) t.toNat) (h0 : 0 ≤ w) (hx : tab[f.toNat]? = some x) (hc : x < 0 ∨ c + w < x) (hy : y = c + w) (hb2 : y ≤ 1399680) (c0 : 0 ≤ c)
    (h3 : tab2 = tab.set f.toNat y) : T3 ws r m k f t2 tab2 := by
  have nx := h.next ht h2 hx
  have hb := h.fb
  have tb := h.tb
  obtain ⟨a1, -, -, -⟩ := h.acc hx
  have e : wcnd (paE ws r m) (paL ws r m) ws.length k f.toNat t.toNat = y := by
    unfold wcnd
    rw [cnd_of hk hl (by show 0 ≤ pC ws r m (nxM k) t.toNat; rw [← hw]; exact h0), hy, hw]
  have e2 : omin x y = y := by unfold omin; (repeat' split) <;> omega
  rw [e, e2] at nx
  refine ⟨⟨y, ?_, by omega, hb2, nx⟩, hb, ⟨by omega, by omega⟩⟩
  rw [h3, a1, List.set_set]
theorem T3.no (h : T3 ws r m k f t tab) (ht : t < ws.length) {t2 x : Int} (h2 : t2 = t + 1) (hx : tab[f.toNat]? = some x) (e : omin x (wcnd (paE ws r m) (paL ws r m) ws.length k f.toNat t.toNat) = x) : T3 ws r m k f t2 tab := by
  have nx := h.next ht h2 hx
  have hb := h.fb
  have tb := h.tb
  obtain ⟨a1, a2, a3, -⟩ := h.acc hx
  rw [e] at nx
  exact ⟨⟨x, a1, a2, a3, nx⟩, hb, ⟨by omega, by omega⟩⟩
theorem T3.some_f (h : T3 ws r m k f t tab) : ∃ x, tab[f.toNat]? = some x := by
  have := h.len
  have hb := h.fb
  exact ⟨_, List.getElem?_eq_getElem (by omega)⟩
theorem T3.none (h : T3 ws r m k f t tab) (ht : t < ws.length) {t2 : Int} (h2 : t2 = t + 1) (hl : paL ws r m f.toNat t.toNat = none) : T3 ws r m k f t2 tab := by
  obtain ⟨x, hx⟩ := h.some_f
  refine h.no ht h2 hx ?_
  have : wcnd (paE ws r m) (paL ws r m) ws.length k f.toNat t.toNat = -1 := by
    unfold wcnd cnd lM
    by_cases e : k = 1
    · rw [if_pos e]
    · rw [if_neg e, hl]
  rw [this]; unfold omin; rw [if_pos (by omega)]
theorem T3.low (h : T3 ws r m k f t tab) (ht : t < ws.length) {t2 w : Int} (h2 : t2 = t + 1) (hw : w = pC ws r m (nxM k) t.toNat) (h0 : w < 0) : T3 ws r m k f t2 tab := by
  obtain ⟨x, hx⟩ := h.some_f
  refine h.no ht h2 hx ?_
  have : wcnd (paE ws r m) (paL ws r m) ws.length k f.toNat t.toNat < 0 := by
    apply Int.lt_of_not_ge
    intro e
    obtain ⟨c, b1, b2, b3, b4⟩ := cnd_some e
    have : pC ws r m (nxM k) t.toNat = w := hw.symm
    have b3' : 0 ≤ pC ws r m (nxM k) t.toNat := b3
    omega
  unfold omin; rw [if_pos this]
theorem T3.high (h : T3 ws r m k f t tab) (ht : t < ws.length) {t2 c w x : Int} (h2 : t2 = t + 1) (hl : paL ws r m f.toNat t.toNat = some c) (hw : w = pC ws r m (nxM k) t.toNat) (hx : tab[f.toNat]? = some x) (h0 : 0 ≤ w) (c0 : 0 ≤ c) (hk : k ≠ 1) (hx0 : 0 ≤ x) (hc : ¬ c + w < x) : T3 ws r m k f t2 tab := by
  refine h.no ht h2 hx ?_
  have e : wcnd (paE ws r m) (paL ws r m) ws.length k f.toNat t.toNat = c + w := by
    unfold wcnd
    rw [cnd_of hk hl (by show 0 ≤ pC ws r m (nxM k) t.toNat; rw [← hw]; exact h0), hw]
  rw [e]; unfold omin; rw [if_neg (by omega), if_neg (by omega), if_neg hc]
theorem T3.fin (h : T3 ws r m k f t tab) (ht : ¬ t < ws.length) {g : Int} (hg : g = f - 1) : tab = baseC ws r m k g := by
  have hb := h.fb
  have tb := h.tb
  obtain ⟨⟨acc, rfl, a1, a2, a3⟩, -⟩ := h
  rw [show ws.length - t.toNat = 0 by omega] at a3
  have a3 : acc = pC ws r m k f.toNat := a3
  refine mapT_set (fun hi => ?_) fun j hj => ?_
  · rw [if_neg (by omega)]; exact a3
  · by_cases e : (j : Int) ≤ f
    · rw [if_pos e, if_pos (by omega)]
    · rw [if_neg e, if_neg (by omega)]
/-- Bounds of what stands in the tables. -/
theorem pC_in (hp : Pin ws r m) (k : Int) {i : Nat} (h : i < ws.length) : -1 ≤ pC ws r m k i ∧ pC ws r m k i ≤ 58320 * ((ws.length - i : Nat) : Int) :=
  ⟨wC_ge paL_nn h, paC_bound hp.para hp.rule hp.meas _ k i (Nat.le_refl _) h⟩
/-! ### Numbers of ways -/
def baseW (ws : List Int) (r : JRule) (m f : Int) : List Int := mapT ws fun i => if (i : Int) ≤ f then 0 else pW ws r m (-1) i
abbrev wayF (ws : List Int) (r : JRule) (m : Int) (f j : Nat) : Int := if (lM (paL ws r m) (-1) f j).isSome then pW ws r m (nxM (-1)) j else 0
structure U3 (ws : List Int) (r : JRule) (m f t : Int) (tab : List Int) : Prop where
  ex : ∃ acc, tab = (baseW ws r m f).set f.toNat acc ∧ 0 ≤ acc ∧ acc ≤ 1 + 8388608 * t ∧ acc + ((List.range' t.toNat (ws.length - t.toNat)).map (wayF ws r m f.toNat)).sum = pW ws r m (-1) f.toNat
  fb : 0 ≤ f ∧ f < ws.length
  tb : f < t ∧ t ≤ ws.length
theorem baseW_start {g : Int} (hg : g = ws.length - 1) : List.replicate ws.length 0 = baseW ws r m g := by
  unfold baseW mapT
  apply List.ext_getElem
  · simp
  · intro i h1 h2
    have : i < ws.length := by simpa using h1
    simp; omega
theorem baseW_end {f : Int} (hf : f < 0) {x : Int} (hx : (baseW ws r m f)[0]? = some x) (h0 : 0 < ws.length) : x = pW ws r m (-1) 0 := by
  unfold baseW at hx
  rw [mapT_at h0, if_neg (by omega)] at hx
  exact (Option.some.inj hx).symm
theorem baseW_at {f x : Int} (hf : 0 ≤ f) (hx : (baseW ws r m f)[f.toNat]? = some x) : x = 0 := by
  have h : f.toNat < ws.length := by
    have := (List.getElem?_eq_some_iff.1 hx).1
    unfold baseW at this; rw [mapT_length] at this; exact this
  unfold baseW at hx
  rw [mapT_at h, if_pos (by omega)] at hx
  exact (Option.some.inj hx).symm
theorem U3.start {g x : Int} {tab : List Int} (h : tab = (baseW ws r m f).set f.toNat x) (hf : 0 ≤ f) (hn : f < ws.length) (hg : g = f + 1) (hx : x = if paE ws r m f.toNat then 1 else 0) : U3 ws r m f g tab := by
  subst hg
  have he : isEnd (paE ws r m) (-1) f.toNat = paE ws r m f.toNat := by unfold isEnd; simp
  refine ⟨⟨x, h, by rw [hx]; split <;> omega, by rw [hx]; split <;> omega, ?_⟩, ⟨hf, hn⟩, ⟨by omega, by omega⟩⟩
  unfold pW
  rw [wW_eq (-1) (by omega), show (f + 1).toNat = f.toNat + 1 by omega, show ws.length - (f.toNat + 1) = ws.length - 1 - f.toNat by omega, he, hx]
  rfl
theorem U3.start0 {g : Int} {tab : List Int} (h : tab = baseW ws r m f) (hf : 0 ≤ f) (hn : f < ws.length) (hg : g = f + 1) (hx : paE ws r m f.toNat = false) : U3 ws r m f g tab := by
  refine U3.start (x := 0) ?_ hf hn hg (by rw [hx]; simp)
  rw [h]
  exact (mapT_set (fun hi => by rw [if_pos (by omega)]) fun j _ => rfl).symm
theorem U3.len (h : U3 ws r m f t tab) : tab.length = ws.length := by
  obtain ⟨⟨acc, rfl, -⟩, -⟩ := h
  rw [List.length_set]; exact mapT_length _
theorem pW_in (hp : okPara ws = true) {i : Nat} (h : i < ws.length) : 0 ≤ pW ws r m (-1) i ∧ pW ws r m (-1) i ≤ 8388608 := by
  have := okPara_spec hp
  obtain ⟨a, b⟩ := wW_bounds (E := paE ws r m) (L := paL ws r m) (n := ws.length) _ (-1) i (Nat.le_refl _) h
  have : 2 ^ (ws.length - 1 - i) ≤ 2 ^ 23 := Nat.pow_le_pow_right (by omega) (by omega)
  refine ⟨a, ?_⟩
  have e : (2 : Nat) ^ 23 = 8388608 := by decide
  rw [e] at this
  unfold pW
  omega
theorem U3.acc (h : U3 ws r m f t tab) {x : Int} (hx : tab[f.toNat]? = some x) : tab = (baseW ws r m f).set f.toNat x ∧ 0 ≤ x ∧ x ≤ 1 + 8388608 * t ∧ x + ((List.range' t.toNat (ws.length - t.toNat)).map (wayF ws r m f.toNat)).sum = pW ws r m (-1) f.toNat := by
  have hb := h.fb
  obtain ⟨⟨acc, rfl, a1, a2, a3⟩, -⟩ := h
  rw [List.getElem?_set, if_pos rfl, if_pos (by unfold baseW; rw [mapT_length]; omega)] at hx
  cases hx
  exact ⟨rfl, a1, a2, a3⟩
theorem U3.at_t (h : U3 ws r m f t tab) {x : Int} (ht : t < ws.length) (hx : tab[t.toNat]? = some x) : x = pW ws r m (-1) t.toNat := by
  have hb := h.fb
  have tb := h.tb
  obtain ⟨⟨acc, rfl, -⟩, -⟩ := h
  rw [List.getElem?_set, if_neg (by omega)] at hx
  unfold baseW at hx
  rw [mapT_at (by omega), if_neg (by omega)] at hx
  exact (Option.some.inj hx).symm
theorem U3.yes (h : U3 ws r m f t tab) (ht : t < ws.length) {t2 c w x y : Int} {tab2 : List Int} (h2 : t2 = t + 1) (hl : paL ws r m f.toNat t.toNat = some c) (hw : w = pW ws r m (-1) t.toNat) (hx : tab[f.toNat]? = some x) (hy : y = x + w) (hwb : 0 ≤ w ∧ w ≤ 8388608) (h3 : tab2 = tab.set f.toNat y) : U3 ws r m f t2 tab2 := by
  have hb := h.fb
  have tb := h.tb
  obtain ⟨a1, a2, a3, a4⟩ := h.acc hx
  rw [range_step (by omega), List.map_cons, List.sum_cons] at a4
  have e : wayF ws r m f.toNat t.toNat = w := by
    have e1 : lM (paL ws r m) (-1) f.toNat t.toNat = paL ws r m f.toNat t.toNat := by unfold lM; exact if_neg (by decide)
    unfold wayF
    rw [e1, hl, hw]; rfl
  refine ⟨⟨y, by rw [h3, a1, List.set_set], by omega, by omega, ?_⟩, hb, ⟨by omega, by omega⟩⟩
  rw [show t2.toNat = t.toNat + 1 by omega]
  omega
theorem U3.no (h : U3 ws r m f t tab) (ht : t < ws.length) {t2 : Int} (h2 : t2 = t + 1) (hl : paL ws r m f.toNat t.toNat = none) : U3 ws r m f t2 tab := by
  have hb := h.fb
  have tb := h.tb
  obtain ⟨⟨acc, a1, a2, a3, a4⟩, -, -⟩ := h
  rw [range_step (by omega), List.map_cons, List.sum_cons] at a4
  have e : wayF ws r m f.toNat t.toNat = 0 := by
    have e1 : lM (paL ws r m) (-1) f.toNat t.toNat = paL ws r m f.toNat t.toNat := by unfold lM; exact if_neg (by decide)
    unfold wayF
    rw [e1, hl]; rfl
  refine ⟨⟨acc, a1, a2, by omega, ?_⟩, hb, ⟨by omega, by omega⟩⟩
  rw [show t2.toNat = t.toNat + 1 by omega]
  omega
theorem U3.fin (h : U3 ws r m f t tab) (ht : ¬ t < ws.length) {g : Int} (hg : g = f - 1) : tab = baseW ws r m g := by
  have hb := h.fb
  have tb := h.tb
  obtain ⟨⟨acc, rfl, a1, a2, a3⟩, -⟩ := h
  rw [show ws.length - t.toNat = 0 by omega] at a3
  have a3 : acc = pW ws r m (-1) f.toNat := by simpa using a3
  refine mapT_set (fun hi => ?_) fun j hj => ?_
  · rw [if_neg (by omega)]; exact a3
  · by_cases e : (j : Int) ≤ f
    · rw [if_pos e, if_pos (by omega)]
    · rw [if_neg e, if_neg (by omega)]
theorem pW_at (ws : List Int) (r : JRule) (m : Int) (hp : Pin ws r m) (i : Nat) (h : i < ws.length) : 0 ≤ pW ws r m (-1) i ∧ pW ws r m (-1) i ≤ 8388608 := pW_in hp.para h
/-! ### The breaks of the least cost -/
structure BBI (ws : List Int) (r : JRule) (m k0 k : Int) (tab breaks : List Int) (f left : Int) : Prop where
  kk : k = -1 ∨ (1 ≤ k ∧ k ≤ 24)
  tb : tab = tabC ws r m k
  fb : 0 ≤ f ∧ f < ws.length
  lf : left = pC ws r m k f.toNat ∧ 0 ≤ left
  bq : breaks ++ pB ws r m k f.toNat = pB ws r m k0 0
  bl : (breaks.length : Int) ≤ f
/-- The search for the next break. -/
structure BS (ws : List Int) (r : JRule) (m k f t : Int) : Prop where
  ex : ∃ j, (List.range' t.toNat (ws.length - t.toNat)).find? (goodW (paE ws r m) (paL ws r m) ws.length k f.toNat) = some j ∧ pB ws r m k f.toNat = (j : Int) :: pB ws r m (nxM k) j
  tb : f < t ∧ t ≤ ws.length
  fb : 0 ≤ f ∧ f < ws.length
  k1 : k ≠ 1
theorem BS.start {k0 left g : Int} {tab breaks : List Int} (h : BBI ws r m k0 k tab breaks f left) (he : isEnd (paE ws r m) k f.toNat = false) (hk : k ≠ 1) (hg : g = f + 1) : BS ws r m k f g := by
  have fb := h.fb
  have hw := wB_eq (E := paE ws r m) (L := paL ws r m) (n := ws.length) k (i := f.toNat) (by omega)
  rw [he, if_neg (by simp)] at hw
  have hc : 0 ≤ pC ws r m k f.toNat := by rw [← h.lf.1]; exact h.lf.2
  rcases wC_some paL_nn (by omega) hc with e | ⟨j, a1, a2, a3⟩
  · rw [he] at e; cases e
  · have hs : ((jsL ws.length f.toNat).find? (goodW (paE ws r m) (paL ws r m) ws.length k f.toNat)).isSome := by
      rw [List.find?_isSome]
      exact ⟨j, mem_js.2 ⟨a1, a2⟩, by unfold goodW; rw [a3]; simpa using hc⟩
    obtain ⟨q, hq⟩ := Option.isSome_iff_exists.1 hs
    rw [hq] at hw
    refine ⟨⟨q, ?_, hw⟩, ⟨by omega, by omega⟩, fb, hk⟩
    rw [hg, show (f + 1).toNat = f.toNat + 1 by omega, show ws.length - (f.toNat + 1) = ws.length - 1 - f.toNat by omega]
    exact hq
theorem BS.live (h : BS ws r m k f t) : t < ws.length := by
  have tb := h.tb
  have fb := h.fb
  obtain ⟨⟨j, hj, -⟩, -⟩ := h
  apply Int.lt_of_not_ge
  intro e
  rw [show ws.length - t.toNat = 0 by omega] at hj
  cases hj
theorem BS.miss (h : BS ws r m k f t) {t2 : Int} (h2 : t2 = t + 1) (hg : goodW (paE ws r m) (paL ws r m) ws.length k f.toNat t.toNat = false) : BS ws r m k f t2 := by
  have tb := h.tb
  have fb := h.fb
  have lv := h.live
  obtain ⟨⟨j, hj, hb⟩, -, -, k1⟩ := h
  rw [range_step (by omega), List.find?_cons_of_neg (by rw [hg]; simp)] at hj
  exact ⟨⟨j, by rw [show t2.toNat = t.toNat + 1 by omega]; exact hj, hb⟩, ⟨by omega, by omega⟩, fb, k1⟩
theorem BS.none (h : BS ws r m k f t) {t2 : Int} (h2 : t2 = t + 1) (hl : paL ws r m f.toNat t.toNat = none) : BS ws r m k f t2 := by
  refine h.miss h2 ?_
  have : wcnd (paE ws r m) (paL ws r m) ws.length k f.toNat t.toNat = -1 := by
    unfold wcnd cnd lM
    rw [if_neg h.k1, hl]
  unfold goodW; rw [this]; simp
theorem BS.other (h : BS ws r m k f t) {t2 c w left : Int} (h2 : t2 = t + 1) (hl : paL ws r m f.toNat t.toNat = some c) (hw : w = pC ws r m (nxM k) t.toNat) (hle : left = pC ws r m k f.toNat) (hc : w < 0 ∨ c + w ≠ left) : BS ws r m k f t2 := by
  refine h.miss h2 ?_
  unfold goodW
  rw [decide_eq_false_iff_not]
  rintro ⟨a, b⟩
  obtain ⟨c', -, b2, b3, b4⟩ := cnd_some a
  rw [hl] at b2
  cases b2
  have e : wcnd (paE ws r m) (paL ws r m) ws.length k f.toNat t.toNat = c + pC ws r m (nxM k) t.toNat := b4
  have b3' : 0 ≤ pC ws r m (nxM k) t.toNat := b3
  have b' : wcnd (paE ws r m) (paL ws r m) ws.length k f.toNat t.toNat = pC ws r m k f.toNat := b
  omega
theorem BS.hit (h : BS ws r m k f t) {c w left : Int} (hl : paL ws r m f.toNat t.toNat = some c) (hw : w = pC ws r m (nxM k) t.toNat) (hle : left = pC ws r m k f.toNat) (h0 : 0 ≤ w) (hc : c + w = left) (c0 : 0 ≤ c) : pB ws r m k f.toNat = t :: pB ws r m (nxM k) t.toNat := by
  have tb := h.tb
  have fb := h.fb
  have lv := h.live
  obtain ⟨⟨j, hj, hb⟩, -, -, k1⟩ := h
  have e : wcnd (paE ws r m) (paL ws r m) ws.length k f.toNat t.toNat = c + w := by
    unfold wcnd
    rw [cnd_of k1 hl (by show 0 ≤ pC ws r m (nxM k) t.toNat; rw [← hw]; exact h0), hw]
  have hg : goodW (paE ws r m) (paL ws r m) ws.length k f.toNat t.toNat = true := by
    unfold goodW
    rw [decide_eq_true_eq, e]
    refine ⟨by omega, ?_⟩
    show c + w = pC ws r m k f.toNat
    omega
  rw [range_step (by omega), List.find?_cons_of_pos hg] at hj
  cases hj
  rw [hb, Int.toNat_of_nonneg (by omega)]
theorem BBI.step {k0 k2 left left2 : Int} {tab tab2 breaks breaks2 : List Int} (h : BBI ws r m k0 k tab breaks f left) (hs : BS ws r m k f t) {c : Int} (hl : paL ws r m f.toNat t.toNat = some c) (hw : left2 = pC ws r m (nxM k) t.toNat) (h0 : 0 ≤ left2) (hc : c + left2 = left) (c0 : 0 ≤ c)
    (hk : k2 = nxM k) (ht : tab2 = tabC ws r m (nxM k)) (hb : breaks2 = breaks ++ [t]) : BBI ws r m k0 k2 tab2 breaks2 t left2 := by
  have hh := hs.hit hl hw h.lf.1 h0 hc c0
  have lv := hs.live
  have tb := hs.tb
  have kk := h.kk
  have bl := h.bl
  have fb := h.fb
  subst hk
  refine ⟨?_, ht, ⟨by omega, lv⟩, ⟨hw, h0⟩, ?_, by rw [hb, List.length_append, List.length_singleton]; omega⟩
  · unfold nxM; split <;> omega
  · rw [hb, List.append_assoc, ← h.bq, hh]; rfl
theorem BBI.done {k0 left : Int} {tab breaks : List Int} (h : BBI ws r m k0 k tab breaks f left) (he : k = 1 ∨ isEnd (paE ws r m) k f.toNat = true) : breaks = pB ws r m k0 0 := by
  have fb := h.fb
  have hw := wB_eq (E := paE ws r m) (L := paL ws r m) (n := ws.length) k (i := f.toNat) (by omega)
  have hz : pB ws r m k f.toNat = [] := by
    unfold pB
    rw [hw]
    rcases he with rfl | he
    · split
      · rfl
      · have : (jsL ws.length f.toNat).find? (goodW (paE ws r m) (paL ws r m) ws.length 1 f.toNat) = none := by
          rw [List.find?_eq_none]
          intro j _ hg
          unfold goodW at hg
          have : wcnd (paE ws r m) (paL ws r m) ws.length 1 f.toNat j = -1 := by unfold wcnd cnd lM; rw [if_pos rfl]
          rw [this] at hg
          simp at hg
        rw [this]
    · rw [he, if_pos rfl]
  have := h.bq
  rw [hz, List.append_nil] at this
  exact this
theorem end_any {i : Nat} {b : Bool} (hk : k < 0) (h : paE ws r m i = b) : isEnd (paE ws r m) k i = b := by
  unfold isEnd
  rw [h]; simp [hk]
theorem end_many {i : Nat} (hk : 1 < k) : isEnd (paE ws r m) k i = false := by
  unfold isEnd
  have h1 : ¬ k = 1 := by omega
  have h2 : ¬ k < 0 := by omega
  simp [h1, h2]
theorem end_left {i : Nat} (hi : i < ws.length) (h : 0 < pC ws r m k i) : isEnd (paE ws r m) k i = false := by
  cases e : isEnd (paE ws r m) k i with
  | false => rfl
  | true =>
    have := wC_end (L := paL ws r m) paL_nn hi e
    have h' : 0 < wC (paE ws r m) (paL ws r m) ws.length k i := h
    omega
end
end Go.Proofs.Ytiaodmfipeoegaa.Ai
