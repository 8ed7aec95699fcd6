/- Plain laws on the table of ways of spec.paFrom; a table of types in which a type's zero holds an empty list for nil. -/
import Derived.Test.YtiaodmfipeoegaaParagT
import Derived.Test.YtiaodmfipeoegaaWild
import Derived.Test.YtiaodmfipeoegaaAiNest
set_option linter.unusedSectionVars false
namespace Go.Proofs.Ytiaodmfipeoegaa.Ai
open Go Go.Proofs
set_option linter.unusedSimpArgs false
set_option linter.unusedVariables false

/-- The table in which type T's zero is written otherwise. -/
def zeroIn (T : Nat) (cs : List PV) (G : Env) : Env := fun t => match G t with
  | some ti => some ⟨ti.desc, ti.size, ti.bytes, bif Nat.beq t T then cs else ti.zero, ti.isAgg, ti.nest⟩
  | none => none
theorem zeroIn_ok {P : Program} {G : Env} {T : Nat} {cs : List PV} (h : EnvOk P G) (hz : ∀ ti, G T = some ti → cs.length = ti.zero.length ∧ ∀ w I vs, RepIs w I ti.zero vs → RepIs w I cs vs) : EnvOk P (zeroIn T cs G) := fun t ti ht => by
  unfold zeroIn at ht
  split at ht
  · rename_i t0 h0
    obtain rfl := Option.some.inj ht
    have hd := h t t0 h0
    cases e : Nat.beq t T with
    | false => exact hd
    | true =>
      obtain rfl := Nat.eq_of_beq_eq_true e
      obtain ⟨a, ⟨i, z, b1, b2, b3, b4, b5, b6⟩, c⟩ := hd
      obtain ⟨d1, d2⟩ := hz t0 h0
      exact ⟨a, ⟨i, z, b1, b2, b3, b4, fun w I => d2 w I _ (b5 w I), d1.trans b6⟩, c⟩
  · cases ht
theorem zeroIn_fields {P : Program} {G : Env} {T : Nat} {cs : List PV} (h : FieldsOk P G) : FieldsOk P (zeroIn T cs G) := fun t ti F ht hd f hf => by
  unfold zeroIn at ht
  split at ht
  · rename_i t0 h0
    obtain rfl := Option.some.inj ht
    exact h t t0 F h0 hd f hf
  · cases ht
theorem way_zero {w : World} {I : Nat → Prop} {vs : List Value} (h : RepIs w I [.bool false, .int .i64 0, .nil, .int .i64 0] vs) : RepIs w I [.bool false, .int .i64 0, .isl 1 [], .int .i64 0] vs := by
  cases h with
  | cons h1 h2 => cases h2 with
    | cons h3 h4 => cases h4 with
      | cons h5 h6 =>
        cases h5
        exact .cons h1 (.cons h3 (.cons (.isl0 _ none 0 (Nat.zero_le _)) h6))
noncomputable def cPaWay (x : PW) : List PV := [.bool x.1, .int .i64 x.2.1, .isl 1 (rows cInt x.2.2.1), .int .i64 x.2.2.2]
noncomputable def cRunP (x : List PW) : List PV := [.fr 126 4 (rows cPaWay x)]
theorem cRunP_clean : ∀ x, ∀ c ∈ cRunP x, (∃ e z rs, c = .fr e z rs) ∨ c.pure = true := fun x c hc => by
  rw [cRunP, List.mem_singleton] at hc
  exact .inl ⟨_, _, _, hc⟩

section
variable {ws : List Int} {r : JRule} {m : Int}
abbrev pV (ws : List Int) (r : JRule) (m q : Int) (i : Nat) : PW := wV (paE ws r m) (paL ws r m) ws.length q i
abbrev pOut (ws : List Int) (r : JRule) (m q : Int) (i : Nat) (l : List Nat) : PW := outV (paE ws r m) (paL ws r m) ws.length q i l
/-- The numbers of lines that row k stands for. -/
def md (lines k : Int) : Int := if lines = 0 then -1 else k
/-- The rows made so far. -/
structure FT0 (ws : List Int) (lines : Int) (T : List (List PW)) (k : Int) : Prop where
  len : (T.length : Int) = lines + 1
  rows : ∀ (t : Nat) x, T[t]? = some x → (t : Int) < k → (x.length : Int) = ws.length + 1
theorem FT0.step {lines : Int} {T T' : List (List PW)} {k k' : Int} {z : List PW} (h : FT0 ws lines T k) (h0 : 0 ≤ k) (hz : (z.length : Int) = ws.length + 1) (e : T' = T.set k.toNat z) (hk : k' = k + 1) : FT0 ws lines T' k' := by
  subst e
  refine ⟨by rw [List.length_set]; exact h.len, fun t x hx ht => ?_⟩
  rw [List.getElem?_set] at hx
  split at hx
  · split at hx
    · cases hx; exact hz
    · cases hx
  · exact h.rows t x hx (by omega)
/-- The rows ahead of k are done, and row k from word i + 1 on. -/
structure FT (ws : List Int) (r : JRule) (m lines : Int) (T : List (List PW)) (k i : Int) : Prop where
  len : (T.length : Int) = lines + 1
  rows : ∀ (t : Nat) x, T[t]? = some x → (x.length : Int) = ws.length + 1
  done : ∀ (t : Nat) x, T[t]? = some x → 1 ≤ (t : Int) → (t : Int) < k → ∀ j : Nat, j < ws.length → x[j]? = some (pV ws r m t j)
  all : 0 < k → lines = 0 → ∀ x, T[0]? = some x → ∀ j : Nat, j < ws.length → x[j]? = some (pV ws r m (-1) j)
  now : 0 ≤ k → ∀ x, T[k.toNat]? = some x → ∀ j : Nat, i < j → j < ws.length → x[j]? = some (pV ws r m (md lines k) j)
theorem FT.start {lines : Int} {T : List (List PW)} {k : Int} (h : FT0 ws lines T k) (hk : lines + 1 ≤ k) : FT ws r m lines T 0 ((ws.length : Int) - 1) := by
  refine ⟨h.len, fun t x hx => h.rows t x hx ?_, fun t x hx h1 h2 => by omega, fun h => absurd h (by omega), fun _ x hx j h1 h2 => by omega⟩
  have := (List.getElem?_eq_some_iff.1 hx).1
  have := h.len
  omega
theorem FT.skip {lines : Int} {T : List (List PW)} {k i k' : Int} (h : FT ws r m lines T k i) (hl : 0 < lines) (hk : k' = 1) : FT ws r m lines T k' ((ws.length : Int) - 1) := by
  subst hk
  exact ⟨h.len, h.rows, fun t x hx h1 h2 => by omega, fun _ h => by omega, fun _ x hx j h1 h2 => by omega⟩
theorem FT.next {lines : Int} {T : List (List PW)} {k k' i : Int} (h : FT ws r m lines T k i) (hi : i < 0) (h0 : 0 ≤ k) (hk : k' = k + 1) (hm : k < lines + 1) : FT ws r m lines T k' ((ws.length : Int) - 1) := by
  subst hk
  refine ⟨h.len, h.rows, fun t x hx h1 h2 j hj => ?_, fun _ hl x hx j hj => ?_, fun _ x hx j h1 h2 => by omega⟩
  · by_cases e : (t : Int) < k
    · exact h.done t x hx h1 e j hj
    · have e2 : (t : Int) = k := by omega
      have := h.now h0 x (by rw [← e2]; simpa using hx) j (by omega) hj
      rw [this, md, if_neg (by omega), ← e2]
  · have e : k = 0 := by omega
    subst e
    have := h.now (by omega) x hx j (by omega) hj
    rw [this, md, if_pos hl]
theorem FT.set {lines : Int} {T T' : List (List PW)} {k i i' : Int} {x y : List PW} {o : PW} (h : FT ws r m lines T k i) (h0 : 0 ≤ k) (hx : T[k.toNat]? = some x) (hy : y = x.set i.toNat o) (hT : T' = T.set k.toNat y) (hi : 0 ≤ i) (hn : i < ws.length)
    (ho : o = pV ws r m (md lines k) i.toNat) (hl : k < lines + 1) (hi' : i' = i - 1) : FT ws r m lines T' k i' := by
  subst hy hT hi'
  have xl := h.rows _ _ hx
  refine ⟨by rw [List.length_set]; exact h.len, fun t z hz => ?_, fun t z hz h1 h2 j hj => ?_, fun h2 h3 => by omega, fun _ z hz j h1 h2 => ?_⟩
  · rw [List.getElem?_set] at hz
    split at hz
    · split at hz
      · cases hz; rw [List.length_set]; exact xl
      · cases hz
    · exact h.rows t z hz
  · rw [List.getElem?_set, if_neg (by omega)] at hz
    exact h.done t z hz h1 h2 j hj
  · rw [List.getElem?_set, if_pos rfl] at hz
    split at hz
    · cases hz
      rw [List.getElem?_set]
      by_cases e : i.toNat = j
      · rw [if_pos e, if_pos (by omega), ho, e]
      · rw [if_neg e]
        exact h.now h0 x hx j (by omega) h2
    · cases hz
/-- The row that the rest is taken from, with any number of lines. -/
theorem FT.restA {lines : Int} {T : List (List PW)} {k i : Int} {x : List PW} {v : PW} {j : Int} (h : FT ws r m lines T k i) (hl : lines = 0) (hk : k = 0) (hx : T[(0 : Int).toNat]? = some x) (hv : x[j.toNat]? = some v) (h1 : 0 ≤ i) (h2 : i < j) (h3 : j ≤ (ws.length : Int) - 1) : v = pV ws r m (nxM (md lines k)) j.toNat := by
  subst hk
  have e := h.now (by omega) x (by simpa using hx) j.toNat (by omega) (by omega)
  rw [e] at hv
  cases hv
  rw [md, if_pos hl]
  rfl
theorem FT.restB {lines : Int} {T : List (List PW)} {k i q : Int} {x : List PW} {v : PW} {j : Int} (h : FT ws r m lines T k i) (hl : 0 < lines) (hk : 1 < k) (hq : q = k - 1) (hx : T[q.toNat]? = some x) (hv : x[j.toNat]? = some v) (h2 : 0 ≤ j) (h3 : j ≤ (ws.length : Int) - 1) : v = pV ws r m (nxM (md lines k)) j.toNat := by
  have e := h.done q.toNat x hx (by omega) (by omega) j.toNat (by omega)
  rw [e] at hv
  cases hv
  rw [md, if_neg (by omega), nxM, if_pos (by omega), show ((q.toNat : Nat) : Int) = k - 1 by omega]
/-- The ways from word i on whose first break is beyond j. -/
structure FO (ws : List Int) (r : JRule) (m q i : Int) (o : PW) (j : Int) : Prop where
  lo : i ≤ j
  hi : j ≤ (ws.length : Int) - 1
  i0 : 0 ≤ i
  eq : o = pOut ws r m q i.toNat (List.range' (j.toNat + 1) (ws.length - 1 - j.toNat))
  wb : 0 ≤ o.2.2.2 ∧ o.2.2.2 ≤ 1 + ((ws.length : Int) - 1 - j) * 8388608
theorem FO.startY {q i j : Int} (h0 : 0 ≤ i) (h1 : i < ws.length) (he : paE ws r m i.toNat = true) (hq : q = 1 ∨ q < 0) (hj : j = (ws.length : Int) - 1) : FO ws r m q i (true, 0, [], 1) j := by
  have hE : isEnd (paE ws r m) q i.toNat = true := by unfold isEnd; rcases hq with e | e <;> simp [e, he]
  subst hj
  refine ⟨by omega, by omega, h0, ?_, by simp⟩
  rw [show ws.length - 1 - ((ws.length : Int) - 1).toNat = 0 by omega]
  show _ = (isEnd (paE ws r m) q i.toNat, (0 : Int), ([] : List Int), if isEnd (paE ws r m) q i.toNat then (1 : Int) else 0)
  rw [hE]; rfl
theorem FO.startN {q i j : Int} (h0 : 0 ≤ i) (h1 : i < ws.length) (he : paE ws r m i.toNat = false ∨ (q ≠ 1 ∧ ¬ q < 0)) (hj : j = (ws.length : Int) - 1) : FO ws r m q i (false, 0, [], 0) j := by
  have hE : isEnd (paE ws r m) q i.toNat = false := by unfold isEnd; rcases he with e | e <;> simp [e]
  subst hj
  refine ⟨by omega, by omega, h0, ?_, by simp⟩
  rw [show ws.length - 1 - ((ws.length : Int) - 1).toNat = 0 by omega]
  show _ = (isEnd (paE ws r m) q i.toNat, (0 : Int), ([] : List Int), if isEnd (paE ws r m) q i.toNat then (1 : Int) else 0)
  rw [hE]; rfl
theorem FO.done {q i j : Int} {o : PW} (h : FO ws r m q i o j) (hj : ¬ j > i) : o = pV ws r m q i.toNat := by
  have a := h.lo; have b := h.hi; have c := h.i0
  have e : j = i := by omega
  subst e
  rw [h.eq]
  exact outV_all paL_nn (by omega)
theorem FO.cons {q i j j' : Int} {o o' : PW} (h : FO ws r m q i o j) (hj : j > i) (e : j' = j - 1) (ho : o' = stV (paE ws r m) (paL ws r m) ws.length q i.toNat j.toNat o) (hw : 0 ≤ o'.2.2.2 ∧ o'.2.2.2 ≤ o.2.2.2 + 8388608) : FO ws r m q i o' j' := by
  have a := h.lo; have b := h.hi; have c := h.i0; have d := h.wb
  subst e
  refine ⟨by omega, by omega, c, ?_, by omega⟩
  rw [ho, h.eq, show ws.length - 1 - (j - 1).toNat = (ws.length - 1 - j.toNat) + 1 by omega, show (j - 1).toNat + 1 = j.toNat by omega, List.range'_succ]
  rfl
theorem FO.skip {q i j j' : Int} {o : PW} (h : FO ws r m q i o j) (hj : j > i) (e : j' = j - 1) (hn : q = 1 ∨ paL ws r m i.toNat j.toNat = none) : FO ws r m q i o j' := by
  refine h.cons hj e ?_ ⟨h.wb.1, by omega⟩
  have : lM (paL ws r m) q i.toNat j.toNat = none := by
    unfold lM
    rcases hn with e | e
    · rw [if_pos e]
    · rw [e]; split <;> rfl
  unfold stV
  rw [this]
theorem FO.dead {q i j j' : Int} {o v : PW} (h : FO ws r m q i o j) (hj : j > i) (e : j' = j - 1) (hv : v = pV ws r m (nxM q) j.toNat) (hv1 : v.1 = false) : FO ws r m q i o j' := by
  refine h.cons hj e ?_ ⟨h.wb.1, by omega⟩
  subst hv
  have hw : ¬ 0 ≤ pC ws r m (nxM q) j.toNat := of_decide_eq_false hv1
  unfold stV
  split
  · rfl
  · rw [if_neg hw]
theorem way_le (hn : (ws.length : Int) ≤ 24) (q : Int) {j : Nat} (hj : j < ws.length) : 0 ≤ pW ws r m q j ∧ pW ws r m q j ≤ 8388608 := by
  have := wW_bounds (E := paE ws r m) (L := paL ws r m) (n := ws.length) _ q j (Nat.le_refl _) hj
  have e : (2 : Nat) ^ (ws.length - 1 - j) ≤ 2 ^ 23 := Nat.pow_le_pow_right (by decide) (by omega)
  have e2 : (2 : Nat) ^ 23 = 8388608 := rfl
  rw [e2] at e
  refine ⟨this.1, Int.le_trans this.2 (by rw [show (8388608 : Int) = ((8388608 : Nat) : Int) from rfl]; exact Int.ofNat_le.2 e)⟩
theorem FO.step {q i j j' c : Int} {o o' v : PW} (hn : (ws.length : Int) ≤ 24) (h : FO ws r m q i o j) (hj : j > i) (e : j' = j - 1) (hv : v = pV ws r m (nxM q) j.toNat) (hv1 : v.1 = true) (hq : q ≠ 1) (hL : paL ws r m i.toNat j.toNat = some c)
    (ho : o' = if o.1 = false ∨ c + v.2.1 < o.2.1 ∨ (c + v.2.1 = o.2.1 ∧ lessL (j :: v.2.2.1) o.2.2.1 = true) then (true, c + v.2.1, j :: v.2.2.1, o.2.2.2 + v.2.2.2) else (true, o.2.1, o.2.2.1, o.2.2.2 + v.2.2.2)) : FO ws r m q i o' j' := by
  have a := h.lo; have b := h.hi; have i0 := h.i0; have d := h.wb
  have hw := way_le (r := r) (m := m) hn (nxM q) (j := j.toNat) (by omega)
  subst hv
  have hc : 0 ≤ pC ws r m (nxM q) j.toNat := of_decide_eq_true hv1
  have v1 : (pV ws r m (nxM q) j.toNat).2.1 = pC ws r m (nxM q) j.toNat := by
    show (if 0 ≤ pC ws r m (nxM q) j.toNat then _ else _) = _
    rw [if_pos hc]
  have v2 : (pV ws r m (nxM q) j.toNat).2.2.1 = pB ws r m (nxM q) j.toNat := rfl
  have v3 : (pV ws r m (nxM q) j.toNat).2.2.2 = pW ws r m (nxM q) j.toNat := rfl
  rw [v1, v2, v3] at ho
  refine h.cons hj e ?_ ?_
  · rw [ho]
    unfold stV lM
    rw [if_neg hq, hL]
    simp only
    rw [if_pos hc, show ((j.toNat : Nat) : Int) = j by omega]
  · rw [ho]
    split <;> (simp only; omega)
theorem FO.yes {q i j j' c vB vD r8 r9 : Int} {vC bs o3 : List Int} {o1 : Bool} {o2 o4 : Int} (h : FO ws r m q i (o1, o2, o3, o4) j) (hn : (ws.length : Int) ≤ 24) (hj : j > i) (e : j' = j - 1) (hv : ((true, vB, vC, vD) : PW) = pV ws r m (nxM q) j.toNat) (hq : q ≠ 1)
    (hL : paL ws r m i.toNat j.toNat = some c) (h8 : r8 = c + vB) (hb : bs = j :: vC) (h9 : r9 = o4 + vD) (hc : o1 = false ∨ c + vB < o2 ∨ (c + vB = o2 ∧ lessL bs o3 = true)) : FO ws r m q i (true, r8, bs, r9) j' := by
  subst h8 hb h9
  exact h.step hn hj e hv rfl hq hL (if_pos hc).symm
theorem FO.no {q i j j' c vB vD r9 : Int} {vC bs o3 : List Int} {o1 : Bool} {o2 o4 : Int} (h : FO ws r m q i (o1, o2, o3, o4) j) (hn : (ws.length : Int) ≤ 24) (hj : j > i) (e : j' = j - 1) (hv : ((true, vB, vC, vD) : PW) = pV ws r m (nxM q) j.toNat) (hq : q ≠ 1)
    (hL : paL ws r m i.toNat j.toNat = some c) (hb : bs = j :: vC) (h9 : r9 = o4 + vD) (h1 : o1 = true) (h2 : ¬ c + vB < o2) (h3 : c + vB = o2 → lessL bs o3 = false) : FO ws r m q i (true, o2, o3, r9) j' := by
  subst hb h9 h1
  refine h.step hn hj e hv rfl hq hL (if_neg ?_).symm
  rintro (h | h | ⟨h4, h5⟩)
  · cases h
  · exact h2 h
  · rw [h3 h4] at h5; cases h5
theorem FT.ansB {lines k i : Int} {T : List (List PW)} {x : List PW} {v : PW} (h : FT ws r m lines T k i) (hl : 1 ≤ lines) (hk : lines < k) (hx : T[lines.toNat]? = some x) (hv : x[(0 : Int).toNat]? = some v) (h0 : 0 < ws.length) : v = pV ws r m lines 0 := by
  have e := h.done lines.toNat x hx (by omega) (by omega) 0 h0
  rw [show ((lines.toNat : Nat) : Int) = lines by omega] at e
  exact Option.some.inj (hv.symm.trans e)
theorem FT.ansA {lines k i : Int} {T : List (List PW)} {x : List PW} {v : PW} (h : FT ws r m lines T k i) (hl : lines = 0) (hk : lines < k) (hx : T[lines.toNat]? = some x) (hv : x[(0 : Int).toNat]? = some v) (h0 : 0 < ws.length) : v = pV ws r m (-1) 0 := by
  subst hl
  exact Option.some.inj (hv.symm.trans (h.all hk rfl x hx 0 h0))
theorem lineS_E {zs : List Int} {i : Nat} {c : Int} {b : Bool} (hz : zs = ws.drop i) (h : (c, b) = lineS zs r m true) : paE ws r m i = b := by
  subst hz
  exact (congrArg Prod.snd h).symm
theorem pB_length (hp : Pin ws r m) (q : Int) (hq : q < 0 ∨ 1 ≤ q) {j : Nat} (hj : j < ws.length) : (pB ws r m q j).length ≤ 24 := by
  have sp := okPara_spec hp.para
  by_cases hc : 0 ≤ pC ws r m q j
  · have h := (wB_path paL_nn _ q j (Nat.le_refl _) hj hq hc).2.1
    have := (up_length _ j hj h).1
    unfold pB
    omega
  · have := wB_none paL_nn (m := q) hj hc
    unfold pB
    rw [this]; simp
theorem pV_cost (hp : Pin ws r m) (q : Int) (hq : q < 0 ∨ 1 ≤ q) {j : Nat} (hj : j < ws.length) {v : PW} (hv : v = pV ws r m q j) : 0 ≤ v.2.1 ∧ v.2.1 ≤ 1399680 ∧ 0 ≤ v.2.2.2 ∧ v.2.2.2 ≤ 8388608 ∧ v.2.2.1.length ≤ 24 := by
  subst hv
  have sp := okPara_spec hp.para
  have c := pC_in hp q hj
  have w := way_le (r := r) (m := m) (by omega) q hj
  refine ⟨?_, ?_, w.1, w.2, ?_⟩
  · show 0 ≤ (if 0 ≤ pC ws r m q j then pC ws r m q j else 0); split <;> omega
  · show (if 0 ≤ pC ws r m q j then pC ws r m q j else 0) ≤ _; split <;> omega
  · exact pB_length hp q hq hj
end
end Go.Proofs.Ytiaodmfipeoegaa.Ai
