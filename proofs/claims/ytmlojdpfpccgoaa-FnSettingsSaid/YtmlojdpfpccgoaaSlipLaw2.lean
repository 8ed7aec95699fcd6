/- Plain laws on slips: what mends them. -/
import Derived.Test.YtmlojdpfpccgoaaSlipLaw
namespace Go.Proofs.Ytmlojdpfpccgoaa.Ai
open Go Go.Proofs
set_option linter.unusedSimpArgs false
set_option linter.unusedVariables false

def cntS (l : List Box) : Int := (l.map fun x => x.2.2.2).sum
theorem cntS_take {l : List Box} {i : Nat} {x : Box} (h : l[i]? = some x) : cntS (l.take (i + 1)) = cntS (l.take i) + x.2.2.2 := by
  unfold cntS; rw [List.take_add_one, h]; simp
theorem cnt_some {l : List Box} {i : Nat} {x : Box} (h : l[i]? = some x) : cnt l i = x.2.2.2 := by unfold cnt; rw [h]; rfl
theorem cnt_out {l : List Box} {i : Nat} (h : l.length ≤ i) : cnt l i = 0 := by unfold cnt; rw [List.getElem?_eq_none h]; rfl
theorem okBox_cnt {b : Box} (h : okBox b = true) : 0 ≤ b.2.2.2 ∧ b.2.2.2 ≤ 9999 := by
  simp only [okBox, Bool.and_eq_true] at h
  exact inB_spec h.2.2.2
theorem case_cnt {l : List Box} (h : caseB l = true) (j : Nat) : 0 ≤ cnt l j ∧ cnt l j ≤ 9999 := by
  by_cases hj : j < l.length
  · have hz : l[j]? = some l[j] := List.getElem?_eq_getElem hj
    rw [cnt_some hz]
    exact okBox_cnt (case_box h (List.mem_of_getElem? hz))
  · rw [cnt_out (by omega)]; omega
theorem case_len {l : List Box} (h : caseB l = true) : 1 ≤ l.length ∧ l.length ≤ 32 := by
  simp only [caseB, Bool.and_eq_true] at h
  have := inB_spec h.2
  omega
theorem cntS_bound {l : List Box} (h : caseB l = true) (k : Nat) : 0 ≤ cntS (l.take k) ∧ cntS (l.take k) ≤ 319968 := by
  have h1 := sum_bound (ws := (l.take k).map fun x => x.2.2.2) (B := 9999) (by omega) fun n hn => by
    obtain ⟨x, hx, rfl⟩ := List.mem_map.1 hn
    exact okBox_cnt (case_box h (List.mem_of_mem_take hx))
  have h2 := case_len h
  have h3 : (l.take k).length ≤ l.length := List.length_take_le' k l
  rw [List.length_map] at h1
  unfold cntS
  omega
def codesB (l : List Box) : List (List UInt8) := l.map fun x => x.1
def alikeB (a b : List Box) : Bool := (caseB a && caseB b) && decide (codesB a = codesB b)
theorem alikeB_spec {a b : List Box} (h : alikeB a b = true) : caseB a = true ∧ caseB b = true ∧ codesB a = codesB b ∧ a.length = b.length := by
  simp only [alikeB, Bool.and_eq_true, decide_eq_true_eq] at h
  refine ⟨h.1.1, h.1.2, h.2, ?_⟩
  have := congrArg List.length h.2
  simpa [codesB] using this
def diffT (a b : List Box) (n : Nat) : List Int := (List.range n).map fun i => cnt b i - cnt a i
def diffL (a b : List Box) : List Int := diffT a b a.length
theorem diffT_len (a b : List Box) (n : Nat) : (diffT a b n).length = n := by simp [diffT]
theorem diffT_step {a b : List Box} {n : Nat} {x y : Box} (hx : a[n]? = some x) (hy : b[n]? = some y) : diffT a b (n + 1) = diffT a b n ++ [y.2.2.2 - x.2.2.2] := by
  unfold diffT
  rw [List.range_succ, List.map_append, List.map_singleton, cnt_some hx, cnt_some hy]
theorem diffT_sum {a b : List Box} (hl : a.length = b.length) : ∀ n : Nat, n ≤ a.length → (diffT a b n).sum = cntS (b.take n) - cntS (a.take n)
  | 0, _ => rfl
  | n + 1, h => by
    have hx : a[n]? = some a[n] := List.getElem?_eq_getElem (by omega)
    have hy : b[n]? = some b[n] := List.getElem?_eq_getElem (by omega)
    rw [diffT_step hx hy, List.sum_append, diffT_sum hl n (by omega), cntS_take hx, cntS_take hy]
    simp; omega
theorem diffL_sum {a b : List Box} (hl : a.length = b.length) : (diffL a b).sum = cntS b - cntS a := by
  rw [diffL, diffT_sum hl _ (Nat.le_refl _), List.take_of_length_le (by omega), List.take_of_length_le (Nat.le_refl _)]
theorem nth_diff {a b : List Box} (hl : a.length = b.length) (j : Nat) : nth (diffL a b) j = cnt b j - cnt a j := by
  by_cases hj : j < a.length
  · refine nth_some ?_
    simp [diffL, diffT, hj]
  · rw [nth_out (by rw [diffL, diffT_len]; omega), cnt_out (by omega), cnt_out (by omega)]; rfl
theorem diff_mem {a b : List Box} (ha : caseB a = true) (hb : caseB b = true) : ∀ z ∈ diffL a b, -9999 ≤ z ∧ z ≤ 9999 := fun z hz => by
  obtain ⟨j, _, rfl⟩ := List.mem_map.1 hz
  have := case_cnt ha j
  have := case_cnt hb j
  omega
def codeAt (a : List Box) (i : Nat) : List UInt8 := (a[i]?.map fun x => x.1).getD []
theorem codeAt_some {a : List Box} {i : Nat} {x : Box} (h : a[i]? = some x) : codeAt a i = x.1 := by unfold codeAt; rw [h]; rfl
def slipOf (a : List Box) (w : Nat × Nat × Int) : Slip := (codeAt a w.1, codeAt a w.2.1, w.2.2)
def slipsF (a : List Box) (left : List Int) (i k : Nat) : List Slip := (slipW left i k).map (slipOf a)
theorem slipsF_more {a : List Box} {l : List Int} {i k : Nat} (h1 : nth l (negI l i) < 0) (h2 : 0 < nth l (posI l k)) : slipsF a l i k = (codeAt a (negI l i), codeAt a (posI l k), stepN l (negI l i) (posI l k)) :: slipsF a (updL l (negI l i) (posI l k)) (negI l i) (posI l k) := by
  unfold slipsF; rw [slipW_more h1 h2]; rfl
theorem slipsF_none {a : List Box} {l : List Int} {i k : Nat} (h : ¬ nth l (negI l i) < 0) : slipsF a l i k = [] := by
  unfold slipsF; rw [slipW_none h]; rfl
theorem slipW_len : ∀ (n : Nat) (l : List Int) (i k : Nat), (posS l).toNat ≤ n → (slipW l i k).length ≤ (posS l).toNat
  | n, l, i, k, hn => by
    by_cases h : nth l (negI l i) < 0 ∧ 0 < nth l (posI l k)
    · have u := upd_facts h.1 h.2
      have p := posS_nn (updL l (negI l i) (posI l k))
      rw [slipW_more h.1 h.2, List.length_cons]
      cases n with
      | zero => omega
      | succ n =>
        have := slipW_len n (updL l (negI l i) (posI l k)) (negI l i) (posI l k) (by omega)
        omega
    · rw [slipW, dif_neg h]; simp
theorem posS_bound : ∀ (l : List Int), (∀ z ∈ l, z ≤ 9999) → posS l ≤ 9999 * l.length
  | [], _ => by simp [posS]
  | x :: r, h => by
    have h1 := posS_bound r fun z hz => h z (by simp [hz])
    have h2 := h x (by simp)
    unfold posS at h1 ⊢
    simp only [List.map_cons, List.sum_cons, List.length_cons]
    omega
theorem upd_mem {l : List Int} {i k : Nat} (h1 : nth l i < 0) (h2 : 0 < nth l k) (hb : ∀ z ∈ l, -9999 ≤ z ∧ z ≤ 9999) : ∀ z ∈ updL l i k, -9999 ≤ z ∧ z ≤ 9999 := fun z hz => by
  have hi := nth_lt (l := l) (j := i) (by omega)
  have hk := nth_lt (l := l) (j := k) (by omega)
  have bi := hb (nth l i) (by rw [nth, List.getElem?_eq_getElem hi]; simp)
  have bk := hb (nth l k) (by rw [nth, List.getElem?_eq_getElem hk]; simp)
  have hn : 1 ≤ stepN l i k ∧ stepN l i k ≤ -nth l i ∧ stepN l i k ≤ nth l k := by unfold stepN; omega
  unfold updL at hz
  rcases List.mem_or_eq_of_mem_set hz with hz | rfl
  · rcases List.mem_or_eq_of_mem_set hz with hz | rfl
    · exact hb z hz
    · omega
  · omega
def findAns (a b : List Box) : List Slip × Bool := if (alikeB a b && decide ((diffL a b).sum = 0)) && decide (((slipsF a (diffL a b) 0 0).length : Int) ≤ 20) then (slipsF a (diffL a b) 0 0, true) else ([], false)
def diffAns (a b : List Box) : List Int × Bool := if alikeB a b then (diffL a b, true) else ([], false)
/-! ### Mending -/
def okSlip (x : Slip) : Bool := ((lettersB x.1 && inB x.1.length 1 3) && (lettersB x.2.1 && inB x.2.1.length 1 3)) && (!decide (x.1 = x.2.1) && inB x.2.2 1 99)
def slipsB (s : List Slip) : Bool := s.all okSlip && decide ((s.length : Int) ≤ 20)
def moveB (l out : List Box) (x : Slip) : List Box := addC (addC out (findB x.2.1 l 0).toNat (-x.2.2)) (findB x.1 l 0).toNat x.2.2
def mendR (l : List Box) : List Box → List Slip → List Box × Bool
  | out, [] => (out, true)
  | out, x :: r => if findB x.1 l 0 < 0 ∨ findB x.2.1 l 0 < 0 then ([], false) else if caseB (moveB l out x) then mendR l (moveB l out x) r else ([], false)
def mendAns (l : List Box) (s : List Slip) : List Box × Bool := if caseB l && slipsB s then mendR l l s else ([], false)
theorem mendR_drop {l out : List Box} {s : List Slip} {i : Nat} {x : Slip} (h : s[i]? = some x) : mendR l out (s.drop i) = if findB x.1 l 0 < 0 ∨ findB x.2.1 l 0 < 0 then ([], false) else if caseB (moveB l out x) then mendR l (moveB l out x) (s.drop (i + 1)) else ([], false) := by
  have hi := (List.getElem?_eq_some_iff.1 h).1
  rw [List.drop_eq_getElem_cons hi, mendR, (List.getElem?_eq_some_iff.1 h).2]
theorem mendR_end {l out : List Box} {s : List Slip} {i : Nat} (h : s.length ≤ i) : mendR l out (s.drop i) = (out, true) := by
  rw [List.drop_of_length_le h, mendR]
theorem moveB_codes (l out : List Box) (x : Slip) : codesB (moveB l out x) = codesB out := by
  unfold moveB codesB; rw [addC_codes, addC_codes]
theorem addC_len (l : List Box) (j : Nat) (n : Int) : (addC l j n).length = l.length := by
  unfold addC; split <;> simp
theorem moveB_len (l out : List Box) (x : Slip) : (moveB l out x).length = out.length := by
  unfold moveB; rw [addC_len, addC_len]
theorem findB_lt {c : List UInt8} {l : List Box} : findB c l 0 < l.length ∨ findB c l 0 = -1 := by
  rcases findB_in (c := c) l 0 (by omega) with e | ⟨_, h2, _⟩
  · exact .inr e
  · exact .inl (by omega)
theorem addC_sum {l : List Box} {j : Nat} {n : Int} (h : j < l.length) : cntS (addC l j n) = cntS l + n := by
  have go : ∀ (l : List Box) (j : Nat) (v x : Box), l[j]? = some x → cntS (l.set j v) = cntS l - x.2.2.2 + v.2.2.2 := by
    intro l
    induction l with
    | nil => intro j v x h; simp at h
    | cons y r ih =>
      intro j v x h
      cases j with
      | zero => obtain rfl : y = x := by simpa using h
                simp [cntS]; omega
      | succ j =>
        have := ih j v x (by simpa using h)
        unfold cntS at this ⊢
        simp only [List.set_cons_succ, List.map_cons, List.sum_cons, this]
        omega
  unfold addC
  rw [List.getElem?_eq_getElem h]
  rw [go l j _ _ (List.getElem?_eq_getElem h)]
  dsimp only
  omega
theorem moveB_sum {l out : List Box} {x : Slip} (hl : l.length = out.length) (h1 : ¬ findB x.1 l 0 < 0) (h2 : ¬ findB x.2.1 l 0 < 0) : cntS (moveB l out x) = cntS out := by
  have b1 := findB_lt (c := x.1) (l := l)
  have b2 := findB_lt (c := x.2.1) (l := l)
  unfold moveB
  rw [addC_sum (by rw [addC_len]; omega), addC_sum (by omega)]
  omega
theorem moveB_cnt {l out : List Box} {x : Slip} (hl : l.length = out.length) (h1 : ¬ findB x.1 l 0 < 0) (h2 : ¬ findB x.2.1 l 0 < 0) (j : Nat) : cnt (moveB l out x) j = cnt out j + (if (findB x.1 l 0).toNat = j then x.2.2 else 0) - (if (findB x.2.1 l 0).toNat = j then x.2.2 else 0) := by
  have b1 := findB_lt (c := x.1) (l := l)
  have b2 := findB_lt (c := x.2.1) (l := l)
  unfold moveB
  rw [cnt_add (by rw [addC_len]; omega), cnt_add (by omega)]
  split <;> split <;> omega
/-- What has been mended has the same types, and is a case. -/
theorem mendR_types {l : List Box} : ∀ (s : List Slip) (out m : List Box), l.length = out.length → caseB out = true → mendR l out s = (m, true) → caseB m = true ∧ cntS m = cntS out
  | [], out, m, hl, hc, h => by
    rw [mendR] at h
    obtain rfl := (Prod.mk.inj h).1
    exact ⟨hc, rfl⟩
  | x :: r, out, m, hl, hc, h => by
    rw [mendR] at h
    split at h
    · cases (Prod.mk.inj h).2
    · rename_i hn
      split at h
      · rename_i hcc
        have := mendR_types r (moveB l out x) m (by rw [moveB_len, hl]) hcc h
        exact ⟨this.1, this.2.trans (moveB_sum hl (fun h => hn (.inl h)) (fun h => hn (.inr h)))⟩
      · cases (Prod.mk.inj h).2
theorem mend_types {l m : List Box} {s : List Slip} (h : (m, true) = mendAns l s) : caseB l = true ∧ caseB m = true ∧ cntS m = cntS l := by
  unfold mendAns at h
  split at h
  · rename_i hc
    simp only [Bool.and_eq_true] at hc
    have := mendR_types s l m rfl hc.1 h.symm
    exact ⟨hc.1, this.1, this.2⟩
  · cases (Prod.mk.inj h).2
/-- Slips that were found are mended to the counts of the case before. -/
theorem mendR_found {a b : List Box} (ha : caseB a = true) (hb : caseB b = true) (hc : codesB a = codesB b) (hl : a.length = b.length) : ∀ (n : Nat) (left : List Int) (i k : Nat) (out m : List Box), (posS left).toNat ≤ n → SlipI left i k → left.length = a.length → codesB out = codesB b →
    (∀ j, cnt out j = cnt a j + nth left j) → mendR b out (slipsF a left i k) = (m, true) → codesB m = codesB a ∧ ∀ j, cnt m j = cnt a j
  | n, left, i, k, out, m, hn, I, hll, ho, hj, h => by
    have hlo : out.length = b.length := by
      have := congrArg List.length ho
      simpa [codesB] using this
    rcases slip_both I with ⟨h1, h2⟩ | ⟨h1, h2⟩
    · have u := upd_facts h1 h2
      have p := posS_nn (updL left (negI left i) (posI left k))
      have hi := nth_lt (l := left) (j := negI left i) (by omega)
      have hk := nth_lt (l := left) (j := posI left k) (by omega)
      have e1 : findB (codeAt a (negI left i)) b 0 = negI left i := by
        have e := findB_codes (c := codeAt a (negI left i)) b a 0 hc.symm
        have hz : a[negI left i]? = some a[negI left i] := List.getElem?_eq_getElem (by omega)
        rw [e, codeAt_some hz]
        exact findB_at ha hz
      have e2 : findB (codeAt a (posI left k)) b 0 = posI left k := by
        have e := findB_codes (c := codeAt a (posI left k)) b a 0 hc.symm
        have hz : a[posI left k]? = some a[posI left k] := List.getElem?_eq_getElem (by omega)
        rw [e, codeAt_some hz]
        exact findB_at ha hz
      rw [slipsF_more h1 h2, mendR] at h
      dsimp only at h
      rw [if_neg (by omega)] at h
      split at h
      · cases n with
        | zero => omega
        | succ n =>
          refine mendR_found ha hb hc hl n _ _ _ _ m (by omega) (slipI_next I h1 h2) (by rw [u.2.2.1, hll]) (by rw [moveB_codes, ho]) (fun j => ?_) h
          rw [moveB_cnt (by omega) (by dsimp only; omega) (by dsimp only; omega), hj j, nth_upd h1 h2]
          dsimp only
          rw [e1, e2]
          simp only [Int.toNat_natCast]
          have hne : negI left i ≠ posI left k := fun e => by rw [e] at h1; omega
          by_cases c1 : negI left i = j
          · subst c1
            rw [if_pos rfl, if_neg (Ne.symm hne), if_neg (Ne.symm hne), if_pos rfl]
            omega
          · rw [if_neg c1]
            by_cases c2 : posI left k = j
            · subst c2
              rw [if_pos rfl, if_pos rfl]
              omega
            · rw [if_neg c2, if_neg c2, if_neg c1]
              omega
      · cases (Prod.mk.inj h).2
    · rw [slipsF_none (by rw [h2]; omega), mendR] at h
      obtain rfl := (Prod.mk.inj h).1
      refine ⟨ho.trans hc.symm, fun j => ?_⟩
      have := hj j
      have := h2 j
      omega
theorem findAns_spec {a b : List Box} {s : List Slip} (h : (s, true) = findAns a b) : alikeB a b = true ∧ (diffL a b).sum = 0 ∧ s = slipsF a (diffL a b) 0 0 ∧ s.length ≤ 20 := by
  unfold findAns at h
  split at h
  · rename_i hc
    simp only [Bool.and_eq_true, decide_eq_true_eq] at hc
    obtain rfl := (Prod.mk.inj h).1
    exact ⟨hc.1.1, hc.1.2, rfl, by omega⟩
  · cases (Prod.mk.inj h).2
theorem mend_found {a b m : List Box} {s : List Slip} (h : (s, true) = findAns a b) (hm : (m, true) = mendAns b s) : codesB m = codesB a ∧ ∀ j, cnt m j = cnt a j := by
  obtain ⟨h1, h2, h3, h4⟩ := findAns_spec h
  obtain ⟨ha, hb, hc, hl⟩ := alikeB_spec h1
  unfold mendAns at hm
  split at hm
  · rw [h3] at hm
    refine mendR_found ha hb hc hl _ _ _ _ _ m (Nat.le_refl _) (slipI_zero h2) (by rw [diffL, diffT_len]) rfl (fun j => ?_) hm.symm
    rw [nth_diff hl]; omega
  · cases (Prod.mk.inj hm).2
theorem slipW_ok : ∀ (n : Nat) (l : List Int) (i k : Nat), (posS l).toNat ≤ n → ∀ w ∈ slipW l i k, w.1 < l.length ∧ w.2.1 < l.length ∧ w.1 ≠ w.2.1 ∧ 1 ≤ w.2.2 ∧ w.2.2 ≤ 99
  | n, l, i, k, hn, w, hw => by
    by_cases h : nth l (negI l i) < 0 ∧ 0 < nth l (posI l k)
    · have u := upd_facts h.1 h.2
      have p := posS_nn (updL l (negI l i) (posI l k))
      have hi := nth_lt (l := l) (j := negI l i) (by omega)
      have hk := nth_lt (l := l) (j := posI l k) (by omega)
      rw [slipW_more h.1 h.2] at hw
      rcases List.mem_cons.1 hw with rfl | hw
      · refine ⟨hi, hk, fun e => ?_, u.2.2.2, ?_⟩
        · dsimp only at e; have := h.1; have := h.2; rw [e] at *; omega
        · dsimp only; unfold stepN; omega
      · cases n with
        | zero => omega
        | succ n =>
          have := slipW_ok n _ _ _ (by omega) w hw
          rw [u.2.2.1] at this
          exact this
    · rw [slipW, dif_neg h] at hw; cases hw
theorem slips_ok {a b : List Box} {s : List Slip} (h : (s, true) = findAns a b) : ∀ x ∈ s, x.1 ≠ x.2.1 ∧ 1 ≤ x.2.2 ∧ x.2.2 ≤ 99 := fun x hx => by
  obtain ⟨h1, h2, h3, h4⟩ := findAns_spec h
  obtain ⟨ha, hb, hc, hl⟩ := alikeB_spec h1
  rw [h3] at hx
  obtain ⟨w, hw, rfl⟩ := List.mem_map.1 hx
  obtain ⟨w1, w2, w3, w4, w5⟩ := slipW_ok _ _ _ _ (Nat.le_refl _) w hw
  rw [diffL, diffT_len] at w1 w2
  refine ⟨fun e => w3 ?_, w4, w5⟩
  have z1 : a[w.1]? = some a[w.1] := List.getElem?_eq_getElem w1
  have z2 : a[w.2.1]? = some a[w.2.1] := List.getElem?_eq_getElem w2
  unfold slipOf at e
  dsimp only at e
  rw [codeAt_some z1, codeAt_some z2] at e
  exact case_inj ha z1 z2 e
theorem find_diff {a b : List Box} {s : List Slip} {d : List Int} {o : Bool} (h : (s, true) = findAns a b) (hd : (d, o) = diffAns a b) : o = true ∧ d.sum = 0 := by
  obtain ⟨h1, h2, h3, h4⟩ := findAns_spec h
  unfold diffAns at hd
  rw [if_pos h1] at hd
  obtain ⟨rfl, rfl⟩ := Prod.mk.inj hd
  exact ⟨rfl, h2⟩
theorem diffAns_spec {a b : List Box} {d : List Int} (h : (d, true) = diffAns a b) : alikeB a b = true ∧ d = diffL a b := by
  unfold diffAns at h
  split at h
  · rename_i hc
    exact ⟨hc, (Prod.mk.inj h).1⟩
  · cases (Prod.mk.inj h).2
end Go.Proofs.Ytmlojdpfpccgoaa.Ai
