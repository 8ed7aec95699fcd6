/- Plain laws on pages of a galley: clean pages, greedy pages. -/
import Derived.Test.YtbamclepgabciaaDoorPayLaw
namespace Go.Proofs.YtbamclepgabciaaDoor.Ai
open Go Go.Proofs
set_option linter.unusedSimpArgs false
set_option linter.unusedVariables false

/-- Depth, note, paragraph. -/
abbrev SLine := Int × Int × Int
def cSetLine (x : SLine) : List PV := [.int .i64 x.1, .int .i64 x.2.1, .int .i64 x.2.2]
theorem flat_cSetLine : ∀ x, ∀ c ∈ cSetLine x, flat c := fun x c hc => by
  simp only [cSetLine, List.mem_cons, List.not_mem_nil, or_false] at hc
  rcases hc with rfl | rfl | rfl <;> trivial

def okS (x : SLine) : Bool := inB x.1 1 40 && inB x.2.1 0 60
/-- Lines behind a line of paragraph p. -/
def galG : Option Int → List SLine → Bool
  | _, [] => true
  | p, x :: r => okS x && (match p with | none => decide (x.2.2 = 0) | some q => inB (x.2.2 - q) 0 1) && galG (some x.2.2) r
def okGal (l : List SLine) : Bool := galG none l && inB l.length 1 40
def deepS (l : List SLine) : Int := (l.map fun x => x.1 + x.2.1).sum
def okPg (l : List SLine) (d : Int) : Bool := l.all (fun x => decide (x.1 + x.2.1 ≤ d)) && (okGal l && inB d 40 2000)
theorem okS_spec {x : SLine} (h : okS x = true) : (1 ≤ x.1 ∧ x.1 ≤ 40) ∧ (0 ≤ x.2.1 ∧ x.2.1 ≤ 60) := by
  rw [okS, Bool.and_eq_true] at h
  exact ⟨inB_spec h.1, inB_spec h.2⟩
theorem galG_mem : ∀ {p : Option Int} {l : List SLine}, galG p l = true → ∀ x ∈ l, okS x = true
  | _, x :: r, h, y, hy => by
    simp only [galG, Bool.and_eq_true] at h
    rcases List.mem_cons.1 hy with rfl | hy
    · exact h.1.1
    · exact galG_mem h.2 y hy
theorem deepS_nil : deepS [] = 0 := rfl
theorem deepS_cons (x : SLine) (r : List SLine) : deepS (x :: r) = x.1 + x.2.1 + deepS r := by simp [deepS]
theorem deepS_append (a b : List SLine) : deepS (a ++ b) = deepS a + deepS b := by simp [deepS]
theorem deepS_take {l : List SLine} {i : Nat} {x : SLine} (h : l[i]? = some x) : deepS (l.take (i + 1)) = deepS (l.take i) + (x.1 + x.2.1) := by
  rw [List.take_add_one, h, deepS_append]; simp [deepS]
theorem deepS_bound {l : List SLine} (h : ∀ x ∈ l, okS x = true) : 0 ≤ deepS l ∧ deepS l ≤ 100 * l.length := by
  induction l with
  | nil => simp [deepS]
  | cons x r ih =>
    have h1 := okS_spec (h x (by simp))
    have h2 := ih fun y hy => h y (by simp [hy])
    rw [deepS_cons, List.length_cons]
    omega

/-! ### Breaks between lines -/
def parAt (l : List SLine) (i : Nat) : Int := match l[i]? with | some x => x.2.2 | none => 0
def lastB (l : List SLine) (i : Int) : Bool := decide (i = (l.length : Int) - 1) || !decide (parAt l (i + 1).toNat = parAt l i.toNat)
def firstB (l : List SLine) (i : Int) : Bool := decide (i = 0) || !decide (parAt l (i - 1).toNat = parAt l i.toNat)
def widowB (l : List SLine) (i : Int) : Bool := decide (0 < i) && (lastB l i && !firstB l i)
def orphanB (l : List SLine) (j : Int) : Bool := decide (j < (l.length : Int)) && (firstB l (j - 1) && !lastB l (j - 1))
theorem parAt_some {l : List SLine} {i : Nat} {x : SLine} (h : l[i]? = some x) : parAt l i = x.2.2 := by rw [parAt, h]
/-- Whether lines i .. j - 1 may be a page. -/
def edgeB (l : List SLine) (d i j : Int) : Bool := decide (deepS ((l.take j.toNat).drop i.toNat) ≤ d) && !(decide (j < (l.length : Int)) && (orphanB l j || widowB l j))

inductive PathE (E : Int → Int → Bool) (n : Int) : Int → Int → Prop
  | stop : PathE E n n 0
  | step {j x : Int} (i : Int) (h1 : i < j) (h2 : j ≤ n) (he : E i j = true) (h : PathE E n j x) : PathE E n i (x + 1)
theorem PathE.pos {E : Int → Int → Bool} {n i x : Int} (h : PathE E n i x) : 0 ≤ x ∧ i ≤ n ∧ x ≤ n - i := by
  induction h with
  | stop => omega
  | step i h1 h2 _ _ ih => omega
noncomputable def fewE (E : Int → Int → Bool) (n i : Int) : Int := minOf (PathE E n i)
theorem fewE_spec (E : Int → Int → Bool) (n i : Int) : IsMin (PathE E n i) (fewE E n i) := minOf_spec _
theorem fewE_end (E : Int → Int → Bool) (n : Int) : fewE E n n = 0 := by
  have := (fewE_spec E n n).le (Int.le_refl 0) .stop
  omega
theorem fewE_bound (E : Int → Int → Bool) {n i : Int} (h : i ≤ n) : -1 ≤ fewE E n i ∧ fewE E n i ≤ n - i := by
  rcases fewE_spec E n i with ⟨h1, _⟩ | ⟨h1, h2, _⟩
  · omega
  · have := h2.pos; omega
/-- The next break, out of a list of those that are looked at. -/
def NextE (E : Int → Int → Bool) (n i : Int) (S : Int → Prop) (x : Int) : Prop := ∃ j, S j ∧ i < j ∧ j ≤ n ∧ E i j = true ∧ 0 ≤ fewE E n j ∧ x = fewE E n j + 1
theorem fewE_next {E : Int → Int → Bool} {n i v : Int} {S : Int → Prop} (hi : i < n) (hS : ∀ j, i < j → j ≤ n → S j) (h : IsMin (NextE E n i S) v) : v = fewE E n i := by
  refine minOf_eq ?_
  have up : ∀ x, 0 ≤ x → NextE E n i S x → PathE E n i x := fun x hx ⟨j, _, h1, h2, h3, h4, h5⟩ => by
    rw [h5]
    exact .step i h1 h2 h3 ((fewE_spec E n j).mem h4)
  have dn : ∀ x, 0 ≤ x → PathE E n i x → ∃ y, 0 ≤ y ∧ y ≤ x ∧ NextE E n i S y := fun x hx hp => by
    cases hp with
    | stop => omega
    | @step j x' _ h1 h2 h3 h4 =>
      have h5 := h4.pos
      have h6 := (fewE_spec E n j).le h5.1 h4
      exact ⟨fewE E n j + 1, by omega, by omega, j, hS j h1 h2, h1, h2, h3, h6.1, rfl⟩
  rcases h with ⟨h1, h2⟩ | ⟨h1, h2, h3⟩
  · exact .inl ⟨h1, fun x hx hs => by obtain ⟨y, a, _, b⟩ := dn x hx hs; exact h2 y a b⟩
  · exact .inr ⟨h1, up v h1 h2, fun x hx hs => by obtain ⟨y, a, b, c⟩ := dn x hx hs; have := h3 y a c; omega⟩
theorem nextE_none (E : Int → Int → Bool) (n i : Int) {S : Int → Prop} (hS : ∀ j, i < j → j ≤ n → ¬ S j) : IsMin (NextE E n i S) (-1) := .inl ⟨rfl, fun x _ ⟨j, h, h1, h2, _⟩ => hS j h1 h2 h⟩
theorem nextE_skip {E : Int → Int → Bool} {n i v k : Int} {S S' : Int → Prop} (h : IsMin (NextE E n i S) v) (hS : ∀ j, i < j → j ≤ n → (S' j ↔ S j ∨ j = k)) (hf : E i k = false ∨ fewE E n k < 0) : IsMin (NextE E n i S') v :=
  h.congr fun x hx => ⟨fun ⟨j, a, b, c, d⟩ => ⟨j, (hS j b c).2 (.inl a), b, c, d⟩, fun ⟨j, a, b, c, d, e, f⟩ => by
    rcases (hS j b c).1 a with a | a
    · exact ⟨j, a, b, c, d, e, f⟩
    · subst a
      rcases hf with hf | hf
      · rw [hf] at d; cases d
      · omega⟩
theorem nextE_take {E : Int → Int → Bool} {n i v k : Int} {S S' : Int → Prop} (h : IsMin (NextE E n i S) v) (hS : ∀ j, i < j → j ≤ n → (S' j ↔ S j ∨ j = k)) (hk : i < k ∧ k ≤ n) (he : E i k = true) (hf : 0 ≤ fewE E n k) :
    IsMin (NextE E n i S') (if v < 0 ∨ fewE E n k + 1 < v then fewE E n k + 1 else v) :=
  (h.add (y := fewE E n k + 1) (by omega)).congr fun x hx => ⟨fun hs => by
    rcases hs with ⟨j, a, b, c, d⟩ | hs
    · exact ⟨j, (hS j b c).2 (.inl a), b, c, d⟩
    · exact ⟨k, (hS k hk.1 hk.2).2 (.inr rfl), hk.1, hk.2, he, hf, hs⟩, fun ⟨j, a, b, c, d, e, f⟩ => by
    rcases (hS j b c).1 a with a | a
    · exact .inl ⟨j, a, b, c, d, e, f⟩
    · subst a; exact .inr f⟩
/-- The last of the best next breaks. -/
noncomputable def bestE (E : Int → Int → Bool) (n i j : Int) : Bool := decide (i < j) && (decide (0 ≤ fewE E n j) && (E i j && decide (fewE E n j + 1 = fewE E n i)))
noncomputable def nextF (E : Int → Int → Bool) (n i : Int) : Int := down (bestE E n i) n.toNat
theorem nextF_spec {E : Int → Int → Bool} {n i : Int} (h0 : 0 ≤ i) (hi : i < n) (h : 0 ≤ fewE E n i) : i < nextF E n i ∧ nextF E n i ≤ n ∧ 0 ≤ fewE E n (nextF E n i) ∧ E i (nextF E n i) = true ∧ fewE E n (nextF E n i) + 1 = fewE E n i ∧
    ∀ j, nextF E n i < j → j ≤ n → bestE E n i j = false := by
  have hp := (fewE_spec E n i).mem h
  have hex : ∃ j, i < j ∧ j ≤ n ∧ bestE E n i j = true := by
    generalize hx : fewE E n i = x at hp
    cases hp with
    | stop => omega
    | @step j x' _ h1 h2 h3 h4 =>
      have h5 := h4.pos
      have h6 := (fewE_spec E n j).le h5.1 h4
      have h7 := (fewE_spec E n i).le (x := fewE E n j + 1) (by omega) (.step i h1 h2 h3 ((fewE_spec E n j).mem h6.1))
      refine ⟨j, h1, h2, ?_⟩
      simp only [bestE, Bool.and_eq_true, decide_eq_true_eq]
      exact ⟨h1, h6.1, h3, by omega⟩
  obtain ⟨j, h1, h2, h3⟩ := hex
  obtain ⟨a, b, c⟩ := down_spec (hi := n.toNat) (show 0 ≤ j by omega) (by omega) h3
  have a' := a
  simp only [bestE, Bool.and_eq_true, decide_eq_true_eq] at a'
  refine ⟨a'.1, by show down _ _ ≤ n; omega, a'.2.1, a'.2.2.1, a'.2.2.2, fun k hk1 hk2 => ?_⟩
  cases hb : bestE E n i k
  · rfl
  · have := (down_spec (hi := n.toNat) (show 0 ≤ k by simp only [bestE, Bool.and_eq_true, decide_eq_true_eq] at hb; omega) (by omega) hb).2.1
    have e : nextF E n i = down (bestE E n i) n.toNat := rfl
    omega
theorem nextF_eq {E : Int → Int → Bool} {n i j : Int} (hj : 0 ≤ j ∧ j ≤ n) (h : bestE E n i j = true) (hn : ∀ k, j < k → k ≤ n → bestE E n i k = false) : nextF E n i = j :=
  down_eq hj.1 (by omega) (.inl h) fun k a b => hn k a (by omega)
/-- The breaks from i to the end (at most t of them). -/
noncomputable def chainE (E : Int → Int → Bool) (n : Int) : Nat → Int → List Int
  | 0, _ => []
  | t + 1, i => if i < n then nextF E n i :: chainE E n t (nextF E n i) else []
theorem chainE_step {E : Int → Int → Bool} {n i : Int} {t : Nat} (h : i < n) : chainE E n (t + 1) i = nextF E n i :: chainE E n t (nextF E n i) := by rw [chainE, if_pos h]
theorem chainE_stop {E : Int → Int → Bool} {n i : Int} (h : ¬ i < n) : ∀ t, chainE E n t i = []
  | 0 => rfl
  | t + 1 => by rw [chainE, if_neg h]
/-- With breaks enough it is the same. -/
theorem chainE_more {E : Int → Int → Bool} {n : Int} : ∀ {t : Nat} {i : Int}, 0 ≤ i → i ≤ n → 0 ≤ fewE E n i → n - i ≤ t → chainE E n (t + 1) i = chainE E n t i
  | 0, i, h0, h1, h2, h3 => by simp [chainE]; omega
  | t + 1, i, h0, h1, h2, h3 => by
    by_cases hlt : i < n
    · obtain ⟨a, b, c, d, e, _⟩ := nextF_spec h0 hlt h2
      rw [chainE_step hlt, chainE_step hlt, chainE_more (by omega) b c (by omega)]
    · rw [chainE_stop hlt, chainE_stop hlt]
theorem chainE_length {E : Int → Int → Bool} {n : Int} : ∀ {t : Nat} {i : Int}, 0 ≤ i → i ≤ n → 0 ≤ fewE E n i → n - i ≤ t → ((chainE E n t i).length : Int) = fewE E n i
  | 0, i, h0, h1, h2, h3 => by
    rw [show i = n by omega, fewE_end]; rfl
  | t + 1, i, h0, h1, h2, h3 => by
    rw [chainE]
    split
    · rename_i hlt
      obtain ⟨a, b, c, d, e, _⟩ := nextF_spec h0 hlt h2
      rw [List.length_cons, Int.natCast_add, chainE_length (by omega) b c (by omega)]
      exact e
    · rw [show i = n by omega, fewE_end]; rfl
end Go.Proofs.YtbamclepgabciaaDoor.Ai
