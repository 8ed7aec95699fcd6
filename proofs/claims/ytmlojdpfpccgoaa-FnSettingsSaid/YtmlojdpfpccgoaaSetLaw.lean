/- Plain laws on settings: words that are set, types that are distributed. -/
import Derived.Test.YtmlojdpfpccgoaaLostLaw
import Derived.Test.YtmlojdpfpccgoaaBillLaw
namespace Go.Proofs.Ytmlojdpfpccgoaa.Ai
open Go Go.Proofs
set_option linter.unusedSimpArgs false
set_option linter.unusedVariables false
def codeF (f : List FSort) (i : Int) : List UInt8 := ((f[i.toNat]?).map fun x => x.1).getD []
theorem codeF_some {f : List FSort} {i : Int} {x : FSort} (h : f[i.toNat]? = some x) : codeF f i = x.1 := by rw [codeF, h]; rfl
def codesF (f : List FSort) (is : List Int) : List (List UInt8) := is.map (codeF f)
theorem codesF_take {f : List FSort} {is : List Int} {k : Nat} {i : Int} (h : is[k]? = some i) : codesF f (is.take (k + 1)) = codesF f (is.take k) ++ [codeF f i] := by
  rw [List.take_add_one, h, codesF, List.map_append]; rfl
def moveC (l : List Box) (n : Int) (cs : List (List UInt8)) : List Box := cs.foldl (fun o s => addC o (findB s l 0).toNat n) l
theorem moveC_take {l : List Box} {n : Int} {cs : List (List UInt8)} {i : Nat} {x : List UInt8} (h : cs[i]? = some x) : moveC l n (cs.take (i + 1)) = addC (moveC l n (cs.take i)) (findB x l 0).toNat n := by
  rw [List.take_add_one, h, moveC, List.foldl_append]; rfl
theorem moveF_codes (l : List Box) (n : Int) : ∀ (cs : List (List UInt8)) (o : List Box), codesB (cs.foldl (fun o s => addC o (findB s l 0).toNat n) o) = codesB o
  | [], _ => rfl
  | s :: r, o => by rw [List.foldl_cons, moveF_codes l n r]; exact addC_codes _ _ _
theorem moveC_codes (l : List Box) (n : Int) (cs : List (List UInt8)) : codesB (moveC l n cs) = codesB l := moveF_codes l n cs l
theorem moveC_len (l : List Box) (n : Int) (cs : List (List UInt8)) : (moveC l n cs).length = l.length := by
  have := congrArg List.length (moveC_codes l n cs)
  simpa [codesB] using this
theorem addC_mem {l : List Box} {j : Nat} {n : Int} {x : Box} (h : x ∈ addC l j n) : x ∈ l ∨ ∃ y ∈ l, x.2.2.2 = y.2.2.2 + n := by
  unfold addC at h
  split at h
  · rename_i y hy
    rcases List.mem_or_eq_of_mem_set h with h | rfl
    · exact .inl h
    · exact .inr ⟨y, List.mem_of_getElem? hy, rfl⟩
  · exact .inl h
theorem moveF_bd (l : List Box) {n : Int} (hn : -1 ≤ n ∧ n ≤ 1) : ∀ (cs : List (List UInt8)) (o : List Box) (k : Int), (∀ x ∈ o, -k ≤ x.2.2.2 ∧ x.2.2.2 ≤ 9999 + k) → ∀ x ∈ cs.foldl (fun o s => addC o (findB s l 0).toNat n) o, -(k + cs.length) ≤ x.2.2.2 ∧ x.2.2.2 ≤ 9999 + (k + cs.length)
  | [], o, k, h => fun x hx => by have := h x hx; simp only [List.length_nil]; omega
  | s :: r, o, k, h => fun x hx => by
    have := moveF_bd l hn r (addC o (findB s l 0).toNat n) (k + 1) (fun y hy => by
      rcases addC_mem hy with hy | ⟨z, hz, e⟩
      · have := h y hy; omega
      · have := h z hz; omega) x hx
    simp only [List.length_cons]
    omega
theorem moveC_bd {l : List Box} {n : Int} (hn : -1 ≤ n ∧ n ≤ 1) (hl : caseB l = true) (cs : List (List UInt8)) : ∀ x ∈ moveC l n cs, -(cs.length : Int) ≤ x.2.2.2 ∧ x.2.2.2 ≤ 9999 + cs.length := fun x hx => by
  have := moveF_bd l hn cs l 0 (fun y hy => by have := okBox_cnt (case_box hl hy); omega) x hx
  omega
theorem moveF_sum (l : List Box) (n : Int) : ∀ (cs : List (List UInt8)) (o : List Box), o.length = l.length → (∀ c ∈ cs, 0 ≤ findB c l 0) → cntS (cs.foldl (fun o s => addC o (findB s l 0).toNat n) o) = cntS o + n * cs.length
  | [], o, _, _ => by simp
  | s :: r, o, ho, h => by
    have h1 := h s (by simp)
    have h2 := findB_lt (c := s) (l := l)
    rw [List.foldl_cons, moveF_sum l n r _ (by rw [addC_len, ho]) fun c hc => h c (by simp [hc])]
    rw [addC_sum (by omega), List.length_cons]
    rw [Int.natCast_add, Int.mul_add]
    omega
theorem moveC_sum {l : List Box} {n : Int} {cs : List (List UInt8)} (h : ∀ c ∈ cs, 0 ≤ findB c l 0) : cntS (moveC l n cs) = cntS l + n * cs.length := moveF_sum l n cs l rfl h
def changedA (l : List Box) (cs : List (List UInt8)) (n : Int) : List Box × Bool := if askedC l cs && caseB (moveC l n cs) then (moveC l n cs, true) else ([], false)
theorem findB_moved {l : List Box} {n : Int} {cs : List (List UInt8)} (c : List UInt8) : findB c (moveC l n cs) 0 = findB c l 0 := findB_codes _ _ 0 (moveC_codes l n cs)
theorem askedC_found {l : List Box} {cs : List (List UInt8)} (h : askedC l cs = true) {i : Nat} {x : List UInt8} (hx : cs[i]? = some x) : 0 ≤ findB x l 0 := (askedC_spec h).1 x (List.mem_of_getElem? hx)
theorem best_code {f : List FSort} (hc : CodesOk f) {w : List UInt8} (h : 0 ≤ bestF f w) : codeF f (bestF f w) = w.take (codeL f (bestF f w)).toNat := by
  rcases bestF_is f w with ⟨e, _⟩ | ⟨i, x, e, _, hx, hp, _⟩
  · omega
  · have hx' : f[(bestF f w).toNat]? = some x := by rw [e]; simpa using hx
    rw [codeF_some hx', codeL_some hx']
    simp only [preB, Bool.and_eq_true, decide_eq_true_eq] at hp
    simpa using hp.2.symm
def setWC (f : List FSort) (w : List UInt8) : List (List UInt8) := codesF f (setW f w []).1
def setSA (f : List FSort) (s : Sett) (w : List UInt8) : Sett × Bool :=
  if ((setW f w []).2 && (askedC s.1 (setWC f w) && caseB (moveC s.1 (-1) (setWC f w)))) && askedC (moveC s.1 (-1) (setWC f w)) (s.2 ++ setWC f w) then ((moveC s.1 (-1) (setWC f w), s.2 ++ setWC f w), true) else (([], []), false)
theorem setSA_spec {f : List FSort} {s r : Sett} {w : List UInt8} (h : (r, true) = setSA f s w) : (setW f w []).2 = true ∧ askedC s.1 (setWC f w) = true ∧ r = (moveC s.1 (-1) (setWC f w), s.2 ++ setWC f w) ∧ askedC r.1 r.2 = true := by
  unfold setSA at h
  split at h
  · rename_i hc
    simp only [Bool.and_eq_true] at hc
    obtain ⟨⟨h1, h2, _⟩, h3⟩ := hc
    obtain rfl := (Prod.mk.inj h).1
    exact ⟨h1, h2, rfl, h3⟩
  · cases (Prod.mk.inj h).2
theorem setWC_len {f : List FSort} (hc : CodesOk f) (w : List UInt8) : (setWC f w).length ≤ w.length := by
  have := (wordI_in hc w).2
  rwa [setWC, codesF, List.length_map]
/-- The codes of a word that is set make it up. -/
theorem setG_flat {f : List FSort} (hc : CodesOk f) : ∀ (n : Nat) (w : List UInt8) (acc : List Int), w.length ≤ n → (setG f n w acc).2 = true → (codesF f (setG f n w acc).1).flatten = (codesF f acc).flatten ++ w
  | 0, w, acc, h, _ => by
    obtain rfl : w = [] := List.length_eq_zero_iff.1 (by omega)
    rw [setG, List.append_nil]
  | n + 1, w, acc, h, ht => by
    rw [setG] at ht ⊢
    split
    · rename_i h0
      obtain rfl : w = [] := List.length_eq_zero_iff.1 h0
      rw [List.append_nil]
    · rename_i h0
      rw [if_neg h0] at ht
      split at ht
      · cases ht
      · rename_i hb
        rw [if_neg hb]
        have hp := best_pos hc (w := w) (by omega)
        rw [setG_flat hc n _ _ (by rw [List.length_drop]; omega) ht]
        have hcode : codeF f (bestF f w) = w.take (codeL f (bestF f w)).toNat := best_code hc (by omega)
        rw [codesF, codesF, List.map_append, List.flatten_append]
        simp only [List.map_cons, List.map_nil, List.flatten_cons, List.flatten_nil, List.append_nil]
        rw [hcode, List.append_assoc, List.take_append_drop]
theorem setWC_flat {f : List FSort} (hc : CodesOk f) {w : List UInt8} (h : (setW f w []).2 = true) : (setWC f w).flatten = w := by
  have := setG_flat hc w.length w [] (Nat.le_refl _) h
  simpa [codesF, setW, setWC] using this
theorem changedA_yes {l b : List Box} {cs : List (List UInt8)} {n : Int} (h : (b, true) = changedA l cs n) : askedC l cs = true ∧ caseB b = true ∧ b = moveC l n cs := by
  unfold changedA at h
  split at h
  · rename_i hc
    simp only [Bool.and_eq_true] at hc
    obtain rfl := (Prod.mk.inj h).1
    exact ⟨hc.1, hc.2, rfl⟩
  · cases (Prod.mk.inj h).2
theorem changedA_no {l b : List Box} {cs : List (List UInt8)} {n : Int} (h : (b, false) = changedA l cs n) : (askedC l cs && caseB (moveC l n cs)) = false := by
  unfold changedA at h
  split at h
  · cases (Prod.mk.inj h).2
  · rename_i hc
    simpa using hc
theorem setSA_yes {f : List FSort} {s : Sett} {w : List UInt8} {is : List Int} {cs : List (List UInt8)} {b : List Box} {z : List (List UInt8)} (h1 : (is, true) = setW f w []) (hc : cs = codesF f is) (h2 : (b, true) = changedA s.1 cs (-1)) (hz : z = s.2 ++ cs)
    (h3 : askedC b z = true) : ((b, z), true) = setSA f s w := by
  obtain ⟨a1, a2, rfl⟩ := changedA_yes h2
  have e : setWC f w = cs := by rw [setWC, ← h1, hc]
  rw [setSA, e, ← h1, a1, a2, ← hz, h3]
  rfl
theorem setSA_no1 {f : List FSort} {s : Sett} {w : List UInt8} {is : List Int} (h1 : (is, false) = setW f w []) : (([], []), false) = setSA f s w := by
  rw [setSA, ← h1]; rfl
theorem setSA_no2 {f : List FSort} {s : Sett} {w : List UInt8} {is : List Int} {cs : List (List UInt8)} {b : List Box} (h1 : (is, true) = setW f w []) (hc : cs = codesF f is) (h2 : (b, false) = changedA s.1 cs (-1)) : (([], []), false) = setSA f s w := by
  have e : setWC f w = cs := by rw [setWC, ← h1, hc]
  rw [setSA, e, changedA_no h2]; simp
theorem setSA_no3 {f : List FSort} {s : Sett} {w : List UInt8} {is : List Int} {cs : List (List UInt8)} {b : List Box} {z : List (List UInt8)} (h1 : (is, true) = setW f w []) (hc : cs = codesF f is) (h2 : (b, true) = changedA s.1 cs (-1)) (hz : z = s.2 ++ cs)
    (h3 : askedC b z = false) : (([], []), false) = setSA f s w := by
  obtain ⟨a1, a2, rfl⟩ := changedA_yes h2
  have e : setWC f w = cs := by rw [setWC, ← h1, hc]
  rw [setSA, e, ← hz, h3]; simp
theorem setSA_no4 {f : List FSort} {s : Sett} {w : List UInt8} {is : List Int} {cs : List (List UInt8)} (h1 : (is, true) = setW f w []) (hc : cs = codesF f is) (h2 : askedC s.1 cs = false) : (([], []), false) = setSA f s w := by
  have e : setWC f w = cs := by rw [setWC, ← h1, hc]
  rw [setSA, e, h2]; simp
theorem setSA_len {f : List FSort} {s r : Sett} {w : List UInt8} (h : (r, true) = setSA f s w) : r.2.length ≤ 60 := by
  have := (askedC_spec (setSA_spec h).2.2.2).2.2
  omega
def setWA (f : List FSort) (s : Sett) (w : List UInt8) : Sett × Bool := if okFont f && (askedC s.1 s.2 && okWord w) then setSA f s w else (([], []), false)
def typesSA (s : Sett) : Int × Bool := if askedC s.1 s.2 then (cntS s.1 + s.2.length, true) else (0, false)
def canG (f : List FSort) : Sett → List (List UInt8) → Int → Int
  | _, [], i => i
  | s, w :: r, i => if (setSA f s w).2 = true then canG f (setSA f s w).1 r (i + 1) else i
theorem canG_drop {f : List FSort} {s : Sett} {ws : List (List UInt8)} {i : Nat} {w : List UInt8} (n : Int) (h : ws[i]? = some w) : canG f s (ws.drop i) n = if (setSA f s w).2 = true then canG f (setSA f s w).1 (ws.drop (i + 1)) (n + 1) else n := by
  have hi := (List.getElem?_eq_some_iff.1 h).1
  rw [List.drop_eq_getElem_cons hi, canG, (List.getElem?_eq_some_iff.1 h).2]
def canA (f : List FSort) (s : Sett) (ws : List (List UInt8)) : Int × Bool := if okFont f && (askedC s.1 s.2 && okWords ws) then (canG f s ws 0, true) else (0, false)
def distA (s : Sett) : Sett × Bool := if askedC s.1 s.2 && caseB (moveC s.1 1 s.2) then ((moveC s.1 1 s.2, []), true) else (([], []), false)
def distT (s : Sett) (a : Int) (w : List UInt8) : Sett × Bool :=
  if (askedC s.1 s.2 && inB a 0 ((s.2.length : Int) - 1)) && (askedC s.1 [w] && caseB (moveC s.1 1 [w])) then ((moveC s.1 1 [w], s.2.take a.toNat ++ s.2.drop (a + 1).toNat), true) else (([], []), false)
theorem distA_yes {l b : List Box} {c : List (List UInt8)} (h : (b, true) = changedA l c 1) : ((b, []), true) = distA (l, c) := by
  obtain ⟨a1, a2, rfl⟩ := changedA_yes h
  rw [distA, if_pos (by simp [a1, a2])]
theorem distA_no {l b : List Box} {c : List (List UInt8)} (h : (b, false) = changedA l c 1) : (([], []), false) = distA (l, c) := by
  have := changedA_no h
  rw [distA, if_neg (by simp only [this]; simp)]
theorem distA_no2 {l : List Box} {c : List (List UInt8)} (h : askedC l c = false) : (([], []), false) = distA (l, c) := by
  rw [distA, if_neg (by simp [h])]
theorem distT_yes {l b : List Box} {c z : List (List UInt8)} {a : Int} {w : List UInt8} (h1 : askedC l c = true) (h2 : inB a 0 ((c.length : Int) - 1) = true) (h : (b, true) = changedA l [w] 1) (hz : z = c.take a.toNat ++ c.drop (a + 1).toNat) : ((b, z), true) = distT (l, c) a w := by
  obtain ⟨a1, a2, rfl⟩ := changedA_yes h
  rw [distT, if_pos (by simp [h1, h2, a1, a2]), hz]
theorem distT_no {l b : List Box} {c : List (List UInt8)} {a : Int} {w : List UInt8} (h : (b, false) = changedA l [w] 1) : (([], []), false) = distT (l, c) a w := by
  have := changedA_no h
  rw [distT, if_neg (by simp only [this]; simp)]
theorem distT_no1 {l : List Box} {c : List (List UInt8)} {a : Int} {w : List UInt8} (h : askedC l c = false) : (([], []), false) = distT (l, c) a w := by
  rw [distT, if_neg (by simp [h])]
theorem distT_no2 {l : List Box} {c : List (List UInt8)} {a : Int} {w : List UInt8} (h2 : inB a 0 ((c.length : Int) - 1) = false) : (([], []), false) = distT (l, c) a w := by
  rw [distT, if_neg (by simp [h2])]
theorem distT_no3 {l : List Box} {c : List (List UInt8)} {a : Int} {w : List UInt8} (h : findB w l 0 < 0) : (([], []), false) = distT (l, c) a w := by
  have : askedC l [w] = false := by simp [askedC]; intro h'; omega
  rw [distT, if_neg (by simp [this])]
theorem asked_one {l : List Box} {c : List (List UInt8)} {w : List UInt8} (h : askedC l c = true) (hw : 0 ≤ findB w l 0) : askedC l [w] = true := by
  simp [askedC, hw, (askedC_spec h).2.1]
/-! ### Types are neither lost nor doubled -/
theorem set_types {f : List FSort} {s r : Sett} {w : List UInt8} (hs : askedC s.1 s.2 = true) (h : (r, true) = setSA f s w) : typesSA r = typesSA s := by
  obtain ⟨h1, h2, h3, h4⟩ := setSA_spec h
  rw [typesSA, if_pos h4, typesSA, if_pos hs]
  subst h3
  dsimp only
  rw [moveC_sum (askedC_spec h2).1, List.length_append, Int.natCast_add]
  congr 1
  omega
theorem dist_types {s r : Sett} (h : (r, true) = distA s) : typesSA r = typesSA s ∧ askedC s.1 s.2 = true ∧ askedC r.1 r.2 = true ∧ r = (moveC s.1 1 s.2, []) := by
  unfold distA at h
  split at h
  · rename_i hc
    simp only [Bool.and_eq_true] at hc
    obtain rfl := (Prod.mk.inj h).1
    have ha : askedC (moveC s.1 1 s.2) [] = true := by simp [askedC, hc.2]
    refine ⟨?_, hc.1, ha, rfl⟩
    rw [typesSA, if_pos ha, typesSA, if_pos hc.1]
    dsimp only
    rw [moveC_sum (askedC_spec hc.1).1]
    congr 1
    simp
  · cases (Prod.mk.inj h).2
theorem moveF_cnt (l : List Box) : ∀ (cs : List (List UInt8)) (o : List Box) (j : Nat), o.length = l.length → (∀ c ∈ cs, 0 ≤ findB c l 0) → cnt o j ≤ cnt (cs.foldl (fun o s => addC o (findB s l 0).toNat 1) o) j
  | [], o, j, _, _ => Int.le_refl _
  | s :: r, o, j, ho, h => by
    have h1 := h s (by simp)
    have h2 := findB_lt (c := s) (l := l)
    have := moveF_cnt l r (addC o (findB s l 0).toNat 1) j (by rw [addC_len, ho]) fun c hc => h c (by simp [hc])
    rw [cnt_add (by omega)] at this
    rw [List.foldl_cons]
    split at this <;> omega
theorem dist_lost {s r : Sett} (h : (r, true) = distA s) : lostA s.1 r = ([], [], true) := by
  obtain ⟨_, h1, h2, rfl⟩ := dist_types h
  have hc := askedC_spec h1
  have hal : alikeB s.1 (moveC s.1 1 s.2) = true := by
    rw [alikeB, hc.2.1, (askedC_spec h2).2.1, moveC_codes]; simp
  have hz : ∀ n, lostT s.1 (moveC s.1 1 s.2) [] n = [] := by
    intro n
    induction n with
    | zero => rfl
    | succ n ih =>
      rw [lostT, ih]
      split
      · rename_i x y hx hy
        have := moveF_cnt s.1 s.2 s.1 n rfl hc.1
        have e1 : cnt s.1 n = x.2.2.2 := by rw [cnt, hx]; rfl
        have e2 : cnt (moveC s.1 1 s.2) n = y.2.2.2 := by rw [cnt, hy]; rfl
        rw [e1] at this
        have e3 : cnt (List.foldl (fun o s_1 => addC o (findB s_1 s.1 0).toNat 1) s.1 s.2) n = y.2.2.2 := e2
        rw [e3] at this
        rw [lostS, if_neg (by simp [cntX]; omega)]
        rfl
      · rfl
  rw [lostA, h2, hal]
  simp [hz]
theorem distT_types {s r : Sett} {a : Int} {w : List UInt8} (h : (r, true) = distT s a w) : typesSA r = typesSA s ∧ askedC s.1 s.2 = true ∧ askedC r.1 r.2 = true := by
  unfold distT at h
  split at h
  · rename_i hc
    simp only [Bool.and_eq_true] at hc
    obtain ⟨⟨h1, h2⟩, h3, h4⟩ := hc
    obtain rfl := (Prod.mk.inj h).1
    have hs := askedC_spec h1
    have hi := inB_spec h2
    have hlen : (s.2.take a.toNat ++ s.2.drop (a + 1).toNat).length + 1 = s.2.length := by
      rw [List.length_append, List.length_take, List.length_drop]; omega
    have ha : askedC (moveC s.1 1 [w]) (s.2.take a.toNat ++ s.2.drop (a + 1).toNat) = true := by
      simp only [askedC, Bool.and_eq_true, decide_eq_true_eq, List.all_eq_true]
      refine ⟨fun x hx => ?_, h4, by omega⟩
      rw [findB_moved]
      rcases List.mem_append.1 hx with hx | hx
      · exact hs.1 x (List.mem_of_mem_take hx)
      · exact hs.1 x (List.mem_of_mem_drop hx)
    refine ⟨?_, h1, ha⟩
    rw [typesSA, if_pos ha, typesSA, if_pos h1]
    dsimp only
    rw [moveC_sum (askedC_spec h3).1]
    simp only [List.length_cons, List.length_nil]
    congr 1
    omega
  · cases (Prod.mk.inj h).2
theorem can_one {f : List FSort} {s r : Sett} {w : List UInt8} (h : (r, true) = setWA f s w) : canA f s [w] = (1, true) := by
  unfold setWA at h
  split at h
  · rename_i hc
    simp only [Bool.and_eq_true] at hc
    have e : (setSA f s w).2 = true := by rw [← h]
    have hw : okWords [w] = true := by simp [okWords, hc.2.2]
    rw [canA, hc.1, hc.2.1, hw]
    simp [canG, e]
  · cases (Prod.mk.inj h).2
end Go.Proofs.Ytmlojdpfpccgoaa.Ai
