/- Plain laws of filled pages, leads, texts of galleys. -/
import Derived.Test.YtbamclepgabciaaDoorPageLaw4
import Derived.Lib.ItoaLen
namespace Go.Proofs.YtbamclepgabciaaDoor.Ai
open Go Go.Proofs
set_option linter.unusedSimpArgs false
set_option linter.unusedVariables false

def fillPg (l : List SLine) (d : Int) : List Int × Bool := if okPg l d then (fillL d 0 0 l, true) else ([], false)
def cutE (l : List SLine) (d i j : Int) : Bool := decide (deepS ((l.take j.toNat).drop i.toNat) ≤ d)

theorem fill_chain {l : List SLine} {d : Int} (hd : ∀ x ∈ l, 0 ≤ x.1 + x.2.1 ∧ x.1 + x.2.1 ≤ d) : ∀ (r : List SLine) (f i : Nat) (s : Int), l.drop i = r → f ≤ i → f < l.length → i ≤ l.length → s = deepS ((l.take i).drop f) → s ≤ d →
    Chain (cutE l d) l.length f (fillL d s i r)
  | [], f, i, s, hr, h1, h2, hi, hs, hsd => by
    have hl : i = l.length := by have := List.drop_eq_nil_iff.1 hr; omega
    subst hl
    rw [fillL]
    exact .cons _ (by omega) (by omega) (by rw [cutE]; exact decide_eq_true (by rw [hs] at hsd; simpa using hsd)) .nil
  | x :: r, f, i, s, hr, h1, h2, hi, hs, hsd => by
    have hx : l[i]? = some x := by rw [← List.head?_drop, hr]; rfl
    have hlt := (List.getElem?_eq_some_iff.1 hx).1
    have hr' : l.drop (i + 1) = r := by rw [← List.drop_drop, hr]; rfl
    have bx := hd x (List.mem_of_getElem? hx)
    have e1 := deep_more hx h1
    have e2 := deep_one hx
    rw [fillL]
    split
    · rename_i hc
      have hfi : f < i := by
        rcases Nat.lt_or_ge f i with h | h
        · exact h
        · have : f = i := by omega
          subst this
          rw [List.drop_of_length_le (by rw [List.length_take]; omega), deepS_nil] at hs
          omega
      have := fill_chain hd r i (i + 1) (x.1 + x.2.1) hr' (by omega) hlt (by omega) e2.symm bx.2
      exact .cons _ (by omega) (by omega) (by rw [cutE]; exact decide_eq_true (by rw [hs] at hsd; simpa using hsd)) (by simpa using this)
    · rename_i hc
      have := fill_chain hd r f (i + 1) (s + (x.1 + x.2.1)) hr' (by omega) h2 (by omega) (by rw [e1, hs]) (by omega)
      simpa using this

theorem Chain.deep {l : List SLine} {d n i : Int} {c : List Int} (h : Chain (cutE l d) n i c) : ∀ x ∈ deepsL l i c, x ≤ d := by
  induction h with
  | nil => intro j hj; cases hj
  | @cons j r i h1 h2 he hr ih =>
    intro x hx
    rcases List.mem_cons.1 hx with rfl | hx
    · exact of_decide_eq_true he
    · exact ih x hx
theorem Chain.sum {l : List SLine} {E : Int → Int → Bool} {n i : Int} {c : List Int} (h : Chain E n i c) (hn : n = l.length) : 0 ≤ i → (deepsL l i c).sum = deepS (l.drop i.toNat) := by
  induction h with
  | nil => intro h0; rw [List.drop_of_length_le (by omega)]; rfl
  | @cons j r i h1 h2 he hr ih =>
    intro h0
    rw [deepsL, List.sum_cons, ih (by omega), ← deepS_append]
    congr 1
    have e : l.drop j.toNat = (l.drop i.toNat).drop (j.toNat - i.toNat) := by rw [List.drop_drop]; congr 1; omega
    rw [List.drop_take, e, List.take_append_drop]
theorem deepsL_pos {l : List SLine} (h : ∀ x ∈ l, okS x = true) (hl : (l.length : Int) ≤ 40) : ∀ (c : List Int) (i : Int), ∀ x ∈ deepsL l i c, 0 ≤ x ∧ x ≤ 4000
  | [], _, x, hx => by cases hx
  | j :: r, i, x, hx => by
    rcases List.mem_cons.1 hx with rfl | hx
    · exact cut_bound h hl
    · exact deepsL_pos h hl r j x hx
theorem chain_up {E : Int → Int → Bool} {n i : Int} {c : List Int} (h : Chain E n i c) : ∀ (lo : Int) (p : Option Int), lo ≤ i + 1 → (∀ y, p = some y → y ≤ i) → rising lo n p c = true := by
  induction h with
  | nil => intro _ _ _ _; rfl
  | @cons j r i h1 h2 he hr ih =>
    intro lo p hlo hp
    rw [rising_cons, ih lo (some j) (by omega) fun y hy => by obtain rfl := Option.some.inj hy; exact Int.le_refl _]
    have e1 : inB j lo n = true := by simp [inB]; omega
    rw [e1]
    cases p with
    | none => rfl
    | some y => show ((true && decide (y < j)) && true) = true; rw [decide_eq_true (show y < j by have := hp y rfl; omega)]; rfl
/-- What is known of filled pages. -/
theorem fill_facts {l : List SLine} {d : Int} (h : okPg l d = true) : okEnds l (fillL d 0 0 l) = true ∧ (∀ x ∈ deepsL l 0 (fillL d 0 0 l), x ≤ d) ∧ (deepsL l 0 (fillL d 0 0 l)).sum = deepS l ∧ nth (fillL d 0 0 l) ((fillL d 0 0 l).length - 1) = l.length ∧ 0 < (fillL d 0 0 l).length ∧ (∀ x ∈ deepsL l 0 (fillL d 0 0 l), 0 ≤ x ∧ x ≤ 4000) ∧ ((fillL d 0 0 l).length : Int) ≤ 40 := by
  obtain ⟨os, oh, ol, od, og⟩ := okPg_spec h
  have hc : Chain (cutE l d) l.length 0 (fillL d 0 0 l) := by
    have := fill_chain (d := d) oh l 0 0 0 rfl (Nat.le_refl 0) (by omega) (Nat.zero_le _) rfl (by omega)
    simpa using this
  have hl := hc.last (by omega)
  have hp := List.length_pos_iff.2 hl.1
  have he : okEnds l (fillL d 0 0 l) = true := by
    rw [okEnds, og, decide_eq_true (by omega), chain_up hc 1 none (by omega) (fun y hy => by cases hy), decide_eq_true hl.2]; rfl
  have hs := hc.sum rfl (Int.le_refl 0)
  have hcnt := (okEnds_spec he).count
  exact ⟨he, hc.deep, by simpa using hs, hl.2, hp, deepsL_pos os (by omega) _ _, by omega⟩

/-! ### Leads -/
def leadsL (q m : Int) (g : Nat) : List Int := (List.range g).map fun i : Nat => if (i : Int) < m then q + 1 else q
theorem leadsL_succ (q m : Int) (g : Nat) : leadsL q m (g + 1) = leadsL q m g ++ [if (g : Int) < m then q + 1 else q] := by simp [leadsL, List.range_succ]
theorem leadsL_length (q m : Int) (g : Nat) : (leadsL q m g).length = g := by simp [leadsL]
theorem leadsL_sum (q m : Int) (h0 : 0 ≤ m) : ∀ g : Nat, (leadsL q m g).sum = g * q + min m g
  | 0 => by simp [leadsL]; omega
  | g + 1 => by
    rw [leadsL_succ, List.sum_append, leadsL_sum q m h0 g, Int.natCast_add, Int.add_mul]
    simp only [List.sum_cons, List.sum_nil]
    split <;> omega
theorem leadsL_mem {q m : Int} {g : Nat} {x : Int} (h : x ∈ leadsL q m g) : x = q + 1 ∨ x = q := by
  simp only [leadsL, List.mem_map] at h
  obtain ⟨i, -, rfl⟩ := h
  split
  · exact .inl rfl
  · exact .inr rfl
def leadsF (l : List SLine) (d : Int) : List Int × Bool :=
  if okPg l d && !(decide (d - deepS l < 0) || (decide ((l.length : Int) - 1 = 0) && decide (0 < d - deepS l))) then (leadsL ((d - deepS l) / ((l.length : Int) - 1)) ((d - deepS l) % ((l.length : Int) - 1)) (l.length - 1), true) else ([], false)
theorem leadsF_spec {l : List SLine} {d : Int} {x : List Int} (h : (x, true) = leadsF l d) : okPg l d = true ∧ 0 ≤ d - deepS l ∧ (x.length : Int) = (l.length : Int) - 1 ∧ x.sum + deepS l = d ∧ (∀ n ∈ x, 0 ≤ n ∧ n ≤ 2001) := by
  unfold leadsF at h
  split at h
  case isFalse => simp at h
  rename_i hc
  simp only [Bool.and_eq_true, Bool.not_eq_true', Bool.or_eq_false_iff, Bool.and_eq_false_iff, decide_eq_false_iff_not] at hc
  obtain ⟨h1, h2, h3⟩ := hc
  obtain ⟨os, oh, ol, od, og⟩ := okPg_spec h1
  obtain rfl := (Prod.mk.inj h).1
  have hb := deepS_bound os
  generalize hr : d - deepS l = R at *
  have hn : ((l.length - 1 : Nat) : Int) = (l.length : Int) - 1 := by omega
  generalize hg : (l.length : Int) - 1 = g at *
  have hd : 0 ≤ R / g := by
    rcases Int.lt_or_le 0 g with hg0 | hg0
    · exact Int.ediv_nonneg (by omega) (by omega)
    · rw [show g = 0 by omega]; simp
  have hd2 : R / g ≤ R := Int.ediv_le_self _ (by omega)
  refine ⟨h1, by omega, by rw [leadsL_length]; omega, ?_, fun n hn' => ?_⟩
  · rcases Int.lt_or_le 0 g with hg0 | hg0
    · have h4 := Int.emod_nonneg R (show g ≠ 0 by omega)
      have h5 := Int.emod_lt_of_pos R hg0
      have h6 := Int.mul_ediv_add_emod R g
      rw [leadsL_sum _ _ h4, hn, Int.min_eq_left (by omega)]
      omega
    · have : g = 0 := by omega
      subst this
      rw [show l.length - 1 = 0 by omega]
      simp [leadsL]
      omega
  · rcases leadsL_mem hn' with e | e <;> omega

/-! ### A galley as text -/
def pieceT (l : List SLine) (i : Nat) : List UInt8 := match l[i]? with
  | some x => Lib.itoa x.1 ++ ((if 0 < x.2.1 then [43] ++ Lib.itoa x.2.1 else []) ++ (if lastB l i then [59] else [44]))
  | none => []
def galT (l : List SLine) (n : Nat) : List UInt8 := (List.range n).flatMap (pieceT l)
theorem galT_succ (l : List SLine) (n : Nat) : galT l (n + 1) = galT l n ++ pieceT l n := by simp [galT, List.range_succ]
def textF (l : List SLine) : List UInt8 × Bool := if okGal l then (galT l l.length, true) else ([], false)
theorem pieceT_at {l : List SLine} {i : Nat} {x : SLine} (h : l[i]? = some x) : pieceT l i = Lib.itoa x.1 ++ ((if 0 < x.2.1 then [43] ++ Lib.itoa x.2.1 else []) ++ (if lastB l i then [59] else [44])) := by rw [pieceT, h]
theorem galT_len (l : List SLine) (h : ∀ x ∈ l, okS x = true) : ∀ n, (galT l n).length ≤ 44 * n
  | 0 => by simp [galT]
  | n + 1 => by
    rw [galT_succ, List.length_append]
    have := galT_len l h n
    have : (pieceT l n).length ≤ 44 := by
      unfold pieceT
      split
      · rename_i x hx
        have := okS_spec (h x (List.mem_of_getElem? hx))
        have h1 := Lib.itoa_length_le x.1 (by omega) (by omega)
        have h2 := Lib.itoa_length_le x.2.1 (by omega) (by omega)
        simp only [List.length_append]
        split <;> split <;> simp <;> omega
      · simp
    omega
theorem galT_note {l : List SLine} {i : Nat} {x : SLine} {c : List UInt8} (hx : l[i]? = some x) (hb : 0 < x.2.1) (hc : (if lastB l i then [59] else [44]) = c) : galT l (i + 1) = galT l i ++ Lib.itoa x.1 ++ ([43] ++ Lib.itoa x.2.1) ++ c := by
  rw [galT_succ, pieceT_at hx, if_pos hb, hc]; simp only [List.append_assoc]
theorem galT_bare {l : List SLine} {i : Nat} {x : SLine} {c : List UInt8} (hx : l[i]? = some x) (hb : ¬ 0 < x.2.1) (hc : (if lastB l i then [59] else [44]) = c) : galT l (i + 1) = galT l i ++ Lib.itoa x.1 ++ c := by
  rw [galT_succ, pieceT_at hx, if_neg hb, hc]; simp only [List.append_assoc, List.nil_append]
theorem deepS_wide {l : List SLine} (h : ∀ x ∈ l, -100000 ≤ x.1 + x.2.1 ∧ x.1 + x.2.1 ≤ 100000) : -100000 * (l.length : Int) ≤ deepS l ∧ deepS l ≤ 100000 * l.length := by
  induction l with
  | nil => simp [deepS]
  | cons x r ih =>
    have h1 := h x (by simp)
    have h2 := ih fun y hy => h y (by simp [hy])
    rw [deepS_cons, List.length_cons]
    omega
theorem leadsF_no {l : List SLine} {d : Int} (h : okPg l d = false ∨ d - deepS l < 0 ∨ ((l.length : Int) - 1 = 0 ∧ 0 < d - deepS l)) : (([] : List Int), false) = leadsF l d := by
  unfold leadsF
  rw [if_neg]
  rcases h with h | h | h
  · simp [h]
  · simp [h]
  · rw [decide_eq_true h.1, decide_eq_true h.2]; simp
theorem leadsF_yes {l : List SLine} {d left g i : Int} {leads : List Int} (h1 : okPg l d = true) (hl : left = d - deepS l) (hg : g = (l.length : Int) - 1) (h2 : 0 ≤ left) (h3 : ¬ (g = 0 ∧ 0 < left)) (hi : i.toNat = l.length - 1)
    (q : leads = leadsL (left / g) (left % g) i.toNat) : (leads, true) = leadsF l d := by
  unfold leadsF
  rw [if_pos, q, hi, hl, hg]
  rw [h1, ← hl, ← hg, decide_eq_false (by omega)]
  rcases Decidable.em (g = 0) with e | e
  · rw [decide_eq_true e, decide_eq_false (by omega)]; rfl
  · rw [decide_eq_false e]; rfl
theorem fill_ok {l : List SLine} {d : Int} {c : List Int} {b : Bool} (h : (c, b) = fillPg l d) : okPg l d = b ∧ (b = true → c = fillL d 0 0 l) := by
  unfold fillPg at h
  split at h <;> simp_all
end Go.Proofs.YtbamclepgabciaaDoor.Ai
