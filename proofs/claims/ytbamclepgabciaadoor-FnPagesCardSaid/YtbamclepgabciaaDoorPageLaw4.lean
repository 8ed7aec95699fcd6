/- Plain laws on pages of a galley: for the walks. -/
import Derived.Test.YtbamclepgabciaaDoorPageLaw3
namespace Go.Proofs.YtbamclepgabciaaDoor.Ai
open Go Go.Proofs
set_option linter.unusedSimpArgs false
set_option linter.unusedVariables false

theorem inB_not {n a b : Int} (h : inB n a b = false) : n < a ∨ b < n := by
  simp [inB] at h; omega
/-- The paragraph before line i. -/
def prevP (l : List SLine) (i : Int) : Option Int := if i ≤ 0 then none else l[(i - 1).toNat]?.map fun x => x.2.2
theorem prevP_zero {l : List SLine} {i : Int} (h : i = 0) : prevP l i = none := by rw [prevP, if_pos (by omega)]
theorem prevP_some {l : List SLine} {i : Int} {x : SLine} (h : 0 < i) (hx : l[(i - 1).toNat]? = some x) : prevP l i = some x.2.2 := by rw [prevP, if_neg (by omega), hx]; rfl
theorem prevP_next {l : List SLine} {i : Int} {x : SLine} (h : 0 ≤ i) (hx : l[i.toNat]? = some x) : prevP l (i + 1) = some x.2.2 := prevP_some (by omega) (by rw [show i + 1 - 1 = i by omega]; exact hx)
def stepP (p : Option Int) (c : Int) : Bool := match p with | none => decide (c = 0) | some q => inB (c - q) 0 1
theorem galG_step {p : Option Int} {x : SLine} {r : List SLine} (h1 : okS x = true) (h2 : stepP p x.2.2 = true) : galG p (x :: r) = galG (some x.2.2) r := by
  show (okS x && stepP p x.2.2 && galG (some x.2.2) r) = _
  rw [h1, h2]; rfl
theorem galG_bad {p : Option Int} {x : SLine} {r : List SLine} (h : okS x = false ∨ stepP p x.2.2 = false) : galG p (x :: r) = false := by
  show (okS x && stepP p x.2.2 && galG (some x.2.2) r) = _
  rcases h with h | h <;> rw [h] <;> simp
theorem all_no {l : List SLine} {x : SLine} (hx : x ∈ l) (h : okS x = false) : l.all okS = false := by
  cases hc : l.all okS
  · rfl
  · rw [List.all_eq_true.1 hc x hx] at h; cases h
theorem gal_all {l : List SLine} (h : okGal l = true) : l.all okS = true := List.all_eq_true.2 (okGal_spec h).1
theorem okPg_alt (l : List SLine) (d : Int) : okPg l d = ((l.all okS && l.all (fun x => decide (x.1 + x.2.1 ≤ d))) && (okGal l && inB d 40 2000)) := by
  rw [okPg]
  cases h : okGal l
  · simp
  · rw [gal_all h]; simp
theorem orphan_alt {l : List SLine} {i : Int} (h : 0 ≤ i) : orphanB l (i + 1) = (firstB l i && (decide (i + 1 < (l.length : Int)) && decide (parAt l (i + 1).toNat = parAt l i.toNat))) := by
  rw [orphanB, show i + 1 - 1 = i by omega, lastB]
  by_cases hl : i + 1 < (l.length : Int)
  · rw [decide_eq_true hl, decide_eq_false (show ¬ i = (l.length : Int) - 1 by omega)]
    simp
  · rw [decide_eq_false hl]; simp
theorem widow_alt (l : List SLine) (i : Int) : widowB l i = (lastB l i && (decide (0 < i) && decide (parAt l (i - 1).toNat = parAt l i.toNat))) := by
  rw [widowB, firstB]
  by_cases hi : 0 < i
  · rw [decide_eq_true hi, decide_eq_false (show ¬ i = 0 by omega)]
    simp
  · rw [decide_eq_false hi]; simp
theorem nextG_spec {l : List SLine} {d i : Int} (h0 : 0 ≤ i) (hi : i < l.length) (f : 0 ≤ fewG l d i) : i < nextF (edgeB l d) l.length i ∧ nextF (edgeB l d) l.length i ≤ l.length ∧ 0 ≤ fewG l d (nextF (edgeB l d) l.length i) ∧ fewG l d (nextF (edgeB l d) l.length i) + 1 = fewG l d i := by
  obtain ⟨a, b, c, g, h, _⟩ := nextF_spec h0 hi f
  exact ⟨a, b, c, h⟩
theorem next_hit {l : List SLine} {d i t x r : Int} (w : widowB l i = false) (h0 : 0 ≤ i) (hi : i < l.length) (f : 0 ≤ fewG l d i) (e : t = nextF (edgeB l d) l.length i) (hx : x = pgF l d t) (hr : r = fewG l d i - 1) : x = r ∧ cleanB l d i t = true := by
  obtain ⟨a, b, c, g, h, _⟩ := nextF_spec h0 hi f
  rw [← e] at a b c g h
  have hp : widowB l t = false := by
    rcases Int.lt_or_le t l.length with h1 | h1
    · exact ((edge_split g).2 h1).2
    · exact widow_end l (by omega)
  refine ⟨?_, by rw [clean_edge b w hp]; exact g⟩
  rw [hx, hr, pgF_pos hp]; simp only [fewG]; omega
theorem next_is {l : List SLine} {d i t : Int} (w : widowB l i = false) (h0 : 0 ≤ i) (hi : i < l.length) (f : 0 ≤ fewG l d i) (hge : nextF (edgeB l d) l.length i ≤ t) (hle : t ≤ l.length) (hp : 0 ≤ pgF l d t) (he : pgF l d t = fewG l d i - 1) (hc : cleanB l d i t = true) : t = nextF (edgeB l d) l.length i := by
  obtain ⟨a, b, c, g, h, k⟩ := nextF_spec h0 hi f
  rcases Int.lt_or_le (nextF (edgeB l d) l.length i) t with hlt | hle'
  · obtain ⟨hw, ep⟩ := pgF_le hp
    have hb := k t hlt hle
    rw [clean_edge hle w hw] at hc
    have : bestE (edgeB l d) l.length i t = true := by
      simp only [bestE, Bool.and_eq_true, decide_eq_true_eq]
      simp only [fewG] at ep he
      exact ⟨by omega, by omega, hc, by omega⟩
    rw [this] at hb; cases hb
  · omega
theorem deep_more {l : List SLine} {f i : Nat} {x : SLine} (hx : l[i]? = some x) (h : f ≤ i) : deepS ((l.take (i + 1)).drop f) = deepS ((l.take i).drop f) + (x.1 + x.2.1) := by
  have hl := (List.getElem?_eq_some_iff.1 hx).1
  rw [List.take_add_one, hx, List.drop_append_of_le_length (by rw [List.length_take]; omega), deepS_append]
  simp [deepS]
theorem deep_one {l : List SLine} {i : Nat} {x : SLine} (hx : l[i]? = some x) : deepS ((l.take (i + 1)).drop i) = x.1 + x.2.1 := by
  rw [deep_more hx (Nat.le_refl i), List.drop_of_length_le (by rw [List.length_take]; omega)]
  simp [deepS]

/-! ### Ends -/
theorem rising_up {lo hi : Int} : ∀ {p : Option Int} {xs : List Int}, rising lo hi p xs = true → ∀ (i j : Nat) (a b : Int), i < j → xs[i]? = some a → xs[j]? = some b → a < b
  | p, x :: r, h, i, j, a, b, hij, ha, hb => by
    rw [rising_cons] at h
    simp only [Bool.and_eq_true] at h
    cases j with
    | zero => omega
    | succ j =>
      rw [List.getElem?_cons_succ] at hb
      cases i with
      | succ i =>
        rw [List.getElem?_cons_succ] at ha
        exact rising_up h.2 i j a b (by omega) ha hb
      | zero =>
        simp at ha
        subst ha
        have : ∀ {q : Int} {ys : List Int}, rising lo hi (some q) ys = true → ∀ (j : Nat) (b : Int), ys[j]? = some b → q < b := by
          intro q ys
          induction ys generalizing q with
          | nil => intro _ j b hb; simp at hb
          | cons y t ih =>
            intro h j b hb
            rw [rising_cons] at h
            simp only [Bool.and_eq_true, decide_eq_true_eq] at h
            cases j with
            | zero => simp at hb; subst hb; exact h.1.2
            | succ j =>
              rw [List.getElem?_cons_succ] at hb
              have := ih h.2 j b hb
              omega
        exact this h.2 j b hb
  | p, [], _, i, j, a, b, _, ha, _ => by simp at ha
structure Ends (l : List SLine) (c : List Int) : Prop where
  ok : ∀ x ∈ l, okS x = true
  few : (l.length : Int) ≤ 40
  pos : 1 ≤ (c.length : Int)
  mem : ∀ e ∈ c, 1 ≤ e ∧ e ≤ l.length
  last : nth c (c.length - 1) = l.length
  up : ∀ (i j : Nat) (a b : Int), i < j → c[i]? = some a → c[j]? = some b → a < b
theorem okEnds_spec {l : List SLine} {c : List Int} (h : okEnds l c = true) : Ends l c := by
  simp only [okEnds, Bool.and_eq_true, decide_eq_true_eq] at h
  obtain ⟨h1, h2, h3, h4⟩ := h
  have := okGal_spec h1
  exact ⟨this.1, this.2.2, h2, fun e he => rising_all h3 e he, h4, rising_up h3⟩
theorem Ends.le {l : List SLine} {c : List Int} (h : Ends l c) : ∀ e ∈ c, 0 ≤ e ∧ e ≤ l.length := fun e he => by have := h.mem e he; omega
theorem Ends.step {l : List SLine} {c : List Int} (h : Ends l c) : ∀ (i : Nat) (a b : Int), c[i]? = some a → c[i + 1]? = some b → a ≤ b := fun i a b ha hb => by have := h.up i (i + 1) a b (by omega) ha hb; omega
theorem Ends.count {l : List SLine} {c : List Int} (h : Ends l c) : (c.length : Int) ≤ l.length := by
  have go : ∀ (i : Nat) (a : Int), c[i]? = some a → (i : Int) + 1 ≤ a := by
    intro i
    induction i with
    | zero => intro a ha; have := h.mem a (List.mem_of_getElem? ha); omega
    | succ i ih =>
      intro a ha
      have hlt := (List.getElem?_eq_some_iff.1 ha).1
      obtain ⟨b, hb⟩ : ∃ b, c[i]? = some b := ⟨_, List.getElem?_eq_getElem (by omega)⟩
      have := ih b hb
      have := h.up i (i + 1) b a (by omega) hb ha
      omega
  have hp := h.pos
  obtain ⟨b, hb⟩ : ∃ b, c[c.length - 1]? = some b := ⟨_, List.getElem?_eq_getElem (by omega)⟩
  have h1 := go _ b hb
  have h2 := h.mem b (List.mem_of_getElem? hb)
  omega
theorem Ends.early {l : List SLine} {c : List Int} (h : Ends l c) {i : Nat} {x : Int} (hx : c[i]? = some x) (hi : (i : Int) < c.length - 1) : 1 ≤ x ∧ x < l.length := by
  have h1 := h.mem x (List.mem_of_getElem? hx)
  obtain ⟨y, hy⟩ : ∃ y, c[c.length - 1]? = some y := ⟨_, List.getElem?_eq_getElem (by omega)⟩
  have h2 := h.up i (c.length - 1) x y (by omega) hx hy
  have h3 := h.last
  rw [nth_some hy] at h3
  omega
theorem drop_take_cons {c : List Int} {i n : Nat} {x : Int} (hx : c[i]? = some x) (h : i < n) : (c.take n).drop i = x :: (c.take n).drop (i + 1) := by
  have e : (c.take n)[i]? = some x := by rw [List.getElem?_take, if_pos h]; exact hx
  obtain ⟨h', rfl⟩ := List.getElem?_eq_some_iff.1 e
  exact List.drop_eq_getElem_cons h'
theorem deepsL_cuts (l : List SLine) : ∀ (c : List Int) (k : Int), deepsL l k c = (cutsL l k c).map deepS
  | [], _ => rfl
  | j :: r, k => by simp [deepsL, cutsL, deepsL_cuts l r j]
theorem notesL_cuts (l : List SLine) : ∀ (c : List Int) (k : Int), notesL l k c = (cutsL l k c).map noteN
  | [], _ => rfl
  | j :: r, k => by simp [notesL, cutsL, notesL_cuts l r j]
theorem cutsL_length (l : List SLine) : ∀ (c : List Int) (k : Int), (cutsL l k c).length = c.length
  | [], _ => rfl
  | j :: r, k => by simp [cutsL, cutsL_length l r]
theorem cutsL_sub (l : List SLine) : ∀ {c : List Int} {k : Int} {p : List SLine}, p ∈ cutsL l k c → ∃ i j : Nat, p = (l.take j).drop i
  | j :: r, k, p, h => by
    rcases List.mem_cons.1 h with rfl | h
    · exact ⟨_, _, rfl⟩
    · exact cutsL_sub l h
theorem cutsL_mem {l : List SLine} (ok : ∀ x ∈ l, okS x = true) {c : List Int} {k : Int} {p : List SLine} (h : p ∈ cutsL l k c) : ∀ x ∈ p, okS x = true := by
  obtain ⟨i, j, rfl⟩ := cutsL_sub l h
  exact cut_mem ok
theorem cutsL_len {l : List SLine} (hl : (l.length : Int) ≤ 40) {c : List Int} {k : Int} {p : List SLine} (h : p ∈ cutsL l k c) : (p.length : Int) ≤ 40 := by
  obtain ⟨i, j, rfl⟩ := cutsL_sub l h
  rw [List.length_drop, List.length_take]; omega
theorem noteN_take {l : List SLine} {i : Nat} {x : SLine} {v : Int} (hx : l[i]? = some x) (hv : (if 0 < x.2.1 then (1 : Int) else 0) = v) : noteN (l.take (i + 1)) = noteN (l.take i) + v := by
  rw [List.take_add_one, hx, noteN_append]
  simp [noteN, hv]
theorem set_zero (xs : List Int) (p : Nat) : xs.set p (nth xs p + 0) = xs := by
  refine List.ext_getElem? fun j => ?_
  rw [List.getElem?_set]
  split
  · rename_i e
    subst e
    split
    · rename_i h; rw [nth, List.getElem?_eq_getElem h]; simp
    · rename_i h; rw [List.getElem?_eq_none (by omega)]
  · rfl
theorem notes_tail {l : List SLine} {i : Nat} : ∀ {r : List Int} {j : Int}, (i : Int) < j → (∀ y ∈ r, (i : Int) < y) → notesL (l.take (i + 1)) j r = notesL (l.take i) j r
  | [], _, _, _ => rfl
  | y :: t, j, hj, hr => by
    have e1 : ((l.take (i + 1)).take y.toNat).drop j.toNat = [] := List.drop_of_length_le (by rw [List.length_take, List.length_take]; omega)
    have e2 : ((l.take i).take y.toNat).drop j.toNat = [] := List.drop_of_length_le (by rw [List.length_take, List.length_take]; omega)
    simp only [notesL, e1, e2]
    rw [notes_tail (hr y (by simp)) fun z hz => hr z (by simp [hz])]
theorem notes_step {l : List SLine} {i : Nat} {x : SLine} {v : Int} (hx : l[i]? = some x) (hv : (if 0 < x.2.1 then (1 : Int) else 0) = v) : ∀ {c : List Int} {k : Int} {p : Nat} {e : Int}, 0 ≤ k → k ≤ i → c[p]? = some e → (i : Int) < e →
    (∀ (q : Nat) (a : Int), q < p → c[q]? = some a → 0 ≤ a ∧ a ≤ i) → (∀ (q : Nat) (a : Int), p < q → c[q]? = some a → e ≤ a) → notesL (l.take (i + 1)) k c = (notesL (l.take i) k c).set p (nth (notesL (l.take i) k c) p + v)
  | j :: r, k, 0, e, h0, hk, hp, he, hb, ha => by
    have hl := (List.getElem?_eq_some_iff.1 hx).1
    simp at hp
    subst hp
    have e1 : (l.take (i + 1)).take j.toNat = l.take (i + 1) := List.take_of_length_le (by rw [List.length_take]; omega)
    have e2 : (l.take i).take j.toNat = l.take i := List.take_of_length_le (by rw [List.length_take]; omega)
    have e3 : noteN ((l.take (i + 1)).drop k.toNat) = noteN ((l.take i).drop k.toNat) + v := by
      rw [List.take_add_one, hx, List.drop_append_of_le_length (by rw [List.length_take]; omega), noteN_append]
      simp [noteN, hv]
    have e4 : ∀ y ∈ r, (i : Int) < y := fun y hy => by
      obtain ⟨q, hq⟩ := List.getElem?_of_mem hy
      have := ha (q + 1) y (by omega) (by rw [List.getElem?_cons_succ]; exact hq)
      omega
    simp only [notesL, e1, e2, e3, notes_tail he e4, List.set_cons_zero]
    simp [nth]
  | j :: r, k, p + 1, e, h0, hk, hp, he, hb, ha => by
    have hl := (List.getElem?_eq_some_iff.1 hx).1
    have hj := hb 0 j (by omega) rfl
    have e1 : (l.take (i + 1)).take j.toNat = l.take j.toNat := by rw [List.take_take]; congr 1; omega
    have e2 : (l.take i).take j.toNat = l.take j.toNat := by rw [List.take_take]; congr 1; omega
    have ih := notes_step hx hv (c := r) (k := j) (p := p) (e := e) hj.1 hj.2 (by rw [List.getElem?_cons_succ] at hp; exact hp) he (fun q a hq h => hb (q + 1) a (by omega) (by rw [List.getElem?_cons_succ]; exact h))
      (fun q a hq h => ha (q + 1) a (by omega) (by rw [List.getElem?_cons_succ]; exact h))
    simp only [notesL, e1, e2, ih, List.set_cons_succ]
    simp [nth]
  | [], k, p, e, _, _, hp, _, _, _ => by simp at hp
theorem notes_nil : ∀ (c : List Int) (k : Int), notesL [] k c = List.replicate c.length 0
  | [], _ => rfl
  | j :: r, k => by simp [notesL, notes_nil r, noteN, List.replicate_succ]
theorem notes_sum {l : List SLine} : ∀ {c : List Int} {k : Int}, 0 ≤ k → (∀ e ∈ c, k ≤ e ∧ e ≤ l.length) → (∀ (i j : Nat) (a b : Int), i < j → c[i]? = some a → c[j]? = some b → a < b) → c ≠ [] → (notesL l k c).sum = noteN ((l.take (nth c (c.length - 1)).toNat).drop k.toNat)
  | [j], k, h0, hm, hu, _ => by simp [notesL, nth]
  | j :: y :: r, k, h0, hm, hu, _ => by
    have hj := hm j (by simp)
    have ih := notes_sum (l := l) (c := y :: r) (k := j) (by omega) (fun e he => ⟨by
      obtain ⟨q, hq⟩ := List.getElem?_of_mem he
      have := hu 0 (q + 1) j e (by omega) rfl (by rw [List.getElem?_cons_succ]; exact hq)
      omega, (hm e (by simp only [List.mem_cons] at he ⊢; exact .inr he)).2⟩) (fun i k a b hik ha hb => hu (i + 1) (k + 1) a b (by omega) (by rw [List.getElem?_cons_succ]; exact ha) (by rw [List.getElem?_cons_succ]; exact hb)) (by simp)
    have hz : j ≤ nth (y :: r) ((y :: r).length - 1) := by
      have hq : (y :: r)[(y :: r).length - 1]? = some ((y :: r)[(y :: r).length - 1]'(by simp)) := List.getElem?_eq_getElem _
      have := hu 0 ((y :: r).length - 1 + 1) j _ (by omega) rfl (by rw [List.getElem?_cons_succ]; exact hq)
      rw [nth, hq]; simp only [Option.getD_some]; omega
    have en : nth (j :: y :: r) ((j :: y :: r).length - 1) = nth (y :: r) ((y :: r).length - 1) := by simp [nth]
    rw [en, notesL, List.sum_cons, ih, ← noteN_append]
    congr 1
    have e1 : l.take j.toNat = (l.take (nth (y :: r) ((y :: r).length - 1)).toNat).take j.toNat := by rw [List.take_take]; congr 1; omega
    generalize nth (y :: r) ((y :: r).length - 1) = z at *
    rw [e1]
    have hlen : ((l.take z.toNat).take j.toNat).length = j.toNat := by rw [List.length_take, List.length_take]; omega
    rw [← List.drop_append_of_le_length (by rw [hlen]; omega), List.take_append_drop]
theorem noteN_le {l : List SLine} {i j : Nat} (hl : (l.length : Int) ≤ 40) : 0 ≤ noteN ((l.take j).drop i) ∧ noteN ((l.take j).drop i) ≤ 40 := by
  have := noteN_bound ((l.take j).drop i)
  have e : ((l.take j).drop i).length ≤ l.length := by rw [List.length_drop, List.length_take]; omega
  omega
theorem notes_bound {l : List SLine} (hl : (l.length : Int) ≤ 40) {m : Nat} : ∀ {c : List Int} {k : Int} (j : Nat), 0 ≤ nth (notesL (l.take m) k c) j ∧ nth (notesL (l.take m) k c) j ≤ 40
  | [], k, j => by simp [notesL, nth]
  | y :: r, k, 0 => by
    have := noteN_le (l := l.take m) (i := k.toNat) (j := y.toNat) (by rw [List.length_take]; omega)
    simpa [notesL, nth] using this
  | y :: r, k, j + 1 => by
    have := notes_bound hl (m := m) (c := r) (k := y) j
    simpa [notesL, nth] using this
/-- One line more on page p. -/
theorem notes_at {l : List SLine} {c : List Int} (h : Ends l c) {i p : Int} {x : SLine} {v : Int} (hx : l[i.toNat]? = some x) (hv : (if 0 < x.2.1 then (1 : Int) else 0) = v) (h0 : 0 ≤ i) (hp : 0 ≤ p) (hb : p = 0 ∨ ∃ a, c[(p - 1).toNat]? = some a ∧ a ≤ i)
    (ha : ∃ e, c[p.toNat]? = some e ∧ i < e) : notesL (l.take (i.toNat + 1)) 0 c = (notesL (l.take i.toNat) 0 c).set p.toNat (nth (notesL (l.take i.toNat) 0 c) p.toNat + v) := by
  obtain ⟨e, he, hlt⟩ := ha
  refine notes_step hx hv (Int.le_refl 0) (by omega) he (by omega) (fun q a hq hqa => ?_) fun q a hq hqa => by have := h.up _ _ _ _ hq he hqa; omega
  have h1 := h.le a (List.mem_of_getElem? hqa)
  refine ⟨h1.1, ?_⟩
  rcases hb with hb | ⟨b, hb1, hb2⟩
  · omega
  · rcases Nat.lt_or_ge q (p - 1).toNat with h2 | h2
    · have := h.up _ _ _ _ h2 hqa hb1; omega
    · rw [show q = (p - 1).toNat by omega] at hqa
      have := Option.some.inj (hqa.symm.trans hb1); omega
theorem Ends.more {l : List SLine} {c : List Int} (h : Ends l c) {p x : Int} (hx : c[p.toNat]? = some x) (hlt : x < l.length) (h0 : 0 ≤ p := by omega) : p + 1 < c.length := by
  have h1 := (List.getElem?_eq_some_iff.1 hx).1
  rcases Nat.lt_or_ge (p.toNat + 1) c.length with h2 | h2
  · omega
  · have h3 := h.last
    rw [show c.length - 1 = p.toNat by omega, nth_some hx] at h3
    omega
theorem Ends.next {l : List SLine} {c : List Int} (h : Ends l c) {p q x i : Int} (hx : c[q.toNat]? = some x) (hp : p = q + 1) (h0 : 0 ≤ q) (hl : p < c.length) (hi : i ≤ x) : ∃ e, c[p.toNat]? = some e ∧ i < e := by
  obtain ⟨e, he⟩ : ∃ e, c[p.toNat]? = some e := ⟨_, List.getElem?_eq_getElem (by omega)⟩
  have := h.up q.toNat p.toNat x e (by omega) hx he
  exact ⟨e, he, by omega⟩
theorem orphan_last {l : List SLine} {c : List Int} (h : Ends l c) {p : Int} (hp : p = (c.length : Int) - 1) : markL (orphanB l) p (c.drop p.toNat) = [] := by
  have h1 := h.pos
  have e : c.drop p.toNat = [nth c (c.length - 1)] := by
    have hlt : c.length - 1 < c.length := by omega
    rw [show p.toNat = c.length - 1 by omega, List.drop_eq_getElem_cons hlt, List.drop_of_length_le (by omega), nth, List.getElem?_eq_getElem hlt]; rfl
  rw [e, h.last, markL, orphan_end l rfl]; rfl
theorem fewG_end (l : List SLine) (d : Int) : fewG l d l.length = 0 := fewE_end _ _

/-! ### The reference's way of finding clean pages -/
noncomputable def nxF (l : List SLine) (d i : Int) : Int := if i < l.length ∧ 0 ≤ fewG l d i then nextF (edgeB l d) l.length i else 0
theorem nxF_end (l : List SLine) (d : Int) : nxF l d l.length = 0 := by rw [nxF, if_neg (by omega)]
structure SpMin (l : List SLine) (d i j v w : Int) : Prop where
  min : IsMin (NextE (edgeB l d) l.length i (Behind j)) v
  non : v < 0 → w = 0
  at_ : 0 ≤ v → j < w ∧ w ≤ l.length ∧ edgeB l d i w = true ∧ 0 ≤ fewG l d w ∧ fewG l d w + 1 = v ∧ ∀ k, w < k → k ≤ l.length → edgeB l d i k = true → 0 ≤ fewG l d k → v < fewG l d k + 1
theorem SpMin.ge {l : List SLine} {d i j v w : Int} (h : SpMin l d i j v w) : -1 ≤ v := h.min.ge
theorem spMin_first {l : List SLine} {d i j : Int} (hj : j = l.length) : SpMin l d i j (-1) 0 :=
  ⟨nextE_none _ _ _ fun k h1 h2 h3 => by simp only [Behind] at h3; omega, fun _ => rfl, fun h => by omega⟩
theorem spMin_skip {l : List SLine} {d i j j' v w : Int} (h : SpMin l d i j v w) (hj : j' = j - 1) (hf : edgeB l d i j = false ∨ fewG l d j < 0) : SpMin l d i j' v w :=
  ⟨nextE_skip (k := j) h.min (fun k _ _ => by simp only [Behind]; omega) hf, h.non, fun hv => by obtain ⟨a, b⟩ := h.at_ hv; exact ⟨by omega, b⟩⟩
theorem spMin_keep {l : List SLine} {d i j j' v w : Int} (h : SpMin l d i j v w) (hj : j' = j - 1) (hi : i < j ∧ j ≤ l.length) (he : edgeB l d i j = true) (hf : 0 ≤ fewG l d j) (hn : ¬ v < 0 ∧ ¬ fewG l d j + 1 < v) : SpMin l d i j' v w := by
  have ht := nextE_take (k := j) h.min (S' := Behind j') (fun k _ _ => by simp only [Behind]; omega) hi he hf
  rw [if_neg (fun h => h.elim hn.1 hn.2)] at ht
  exact ⟨ht, h.non, fun hv => by obtain ⟨a, b⟩ := h.at_ hv; exact ⟨by omega, b⟩⟩
theorem spMin_take {l : List SLine} {d i j j' v w u : Int} (h : SpMin l d i j v w) (hj : j' = j - 1) (hi : i < j ∧ j ≤ l.length) (he : edgeB l d i j = true) (hf : 0 ≤ fewG l d j) (hn : v < 0 ∨ fewG l d j + 1 < v) (hu : u = fewG l d j + 1) : SpMin l d i j' u j := by
  have ht := nextE_take (k := j) h.min (S' := Behind j') (fun k _ _ => by simp only [Behind]; omega) hi he hf
  rw [if_pos hn] at ht
  subst hu
  refine ⟨ht, fun h' => by omega, fun _ => ⟨by omega, hi.2, he, hf, rfl, fun k h1 h2 h3 h4 => ?_⟩⟩
  have := h.min.le (x := fewG l d k + 1) (by omega) ⟨k, h1, by omega, h2, h3, h4, rfl⟩
  omega
theorem spMin_end {l : List SLine} {d i j v w : Int} (h : SpMin l d i j v w) (h0 : 0 ≤ i) (hi : i < l.length) (hj : j = i) : v = fewG l d i ∧ w = nxF l d i := by
  have e : v = fewG l d i := fewE_next hi (fun k _ _ => by simp only [Behind]; omega) h.min
  refine ⟨e, ?_⟩
  rw [nxF]
  split
  · rename_i hc
    obtain ⟨a, b, c, g, f, k⟩ := h.at_ (by omega)
    refine (nextF_eq ⟨by omega, b⟩ ?_ fun t ht1 ht2 => ?_).symm
    · simp only [bestE, Bool.and_eq_true, decide_eq_true_eq]
      simp only [fewG] at f e
      exact ⟨by omega, g, c, by omega⟩
    · cases hb : bestE (edgeB l d) l.length i t
      · rfl
      · simp only [bestE, Bool.and_eq_true, decide_eq_true_eq] at hb
        have := k t ht1 ht2 hb.2.2.1 hb.2.1
        have e2 := hb.2.2.2
        simp only [fewG] at this e
        omega
  · rename_i hc
    exact h.non (by omega)
theorem edge_deep {l : List SLine} {d i j : Int} (h : d < deepS ((l.take j.toNat).drop i.toNat)) : edgeB l d i j = false := by
  cases he : edgeB l d i j
  · rfl
  · have := (edge_split he).1; omega
theorem edge_orphan {l : List SLine} {d i j : Int} (hj : j < l.length) (h : orphanB l j = true) : edgeB l d i j = false := by
  cases he : edgeB l d i j
  · rfl
  · rw [((edge_split he).2 hj).1] at h; cases h
theorem edge_widow {l : List SLine} {d i j : Int} (hj : j < l.length) (h : widowB l j = true) : edgeB l d i j = false := by
  cases he : edgeB l d i j
  · rfl
  · rw [((edge_split he).2 hj).2] at h; cases h
end Go.Proofs.YtbamclepgabciaaDoor.Ai
