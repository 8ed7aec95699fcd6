/- Plain laws on pages of a galley: greedy pages, what a page's ends tell. -/
import Derived.Test.YtbamclepgabciaaDoorPageLaw
namespace Go.Proofs.YtbamclepgabciaaDoor.Ai
open Go Go.Proofs
set_option linter.unusedSimpArgs false
set_option linter.unusedVariables false

/-- Pages that are filled line by line: s is the depth of the page so far. -/
def grd (D : Int) : Int → List SLine → Int
  | _, [] => 1
  | s, x :: r => if D < s + (x.1 + x.2.1) then 1 + grd D (x.1 + x.2.1) r else grd D (s + (x.1 + x.2.1)) r
theorem grd_pos (D : Int) : ∀ (l : List SLine) (s : Int), 1 ≤ grd D s l ∧ grd D s l ≤ l.length + 1
  | [], s => by simp [grd]
  | x :: r, s => by
    have h1 := grd_pos D r (x.1 + x.2.1)
    have h2 := grd_pos D r (s + (x.1 + x.2.1))
    simp only [grd, List.length_cons]
    split <;> omega
theorem grd_both {D : Int} : ∀ {l : List SLine}, (∀ x ∈ l, 0 ≤ x.1 + x.2.1 ∧ x.1 + x.2.1 ≤ D) → (∀ s s', s ≤ s' → grd D s l ≤ grd D s' l) ∧ (∀ s a, 0 ≤ s → 0 ≤ a → grd D (s + a) l ≤ 1 + grd D a l)
  | [], _ => ⟨fun _ _ _ => Int.le_refl _, fun _ _ _ _ => by simp [grd]⟩
  | x :: r, hl => by
    obtain ⟨ha, hb⟩ := grd_both (l := r) fun y hy => hl y (by simp [hy])
    have hx := hl x (by simp)
    constructor
    · intro s s' hs
      simp only [grd]
      split
      · rw [if_pos (by omega)]; exact Int.le_refl _
      · split
        · rcases Int.lt_or_le s 0 with h0 | h0
          · have := ha (s + (x.1 + x.2.1)) (x.1 + x.2.1) (by omega)
            omega
          · exact hb s (x.1 + x.2.1) h0 hx.1
        · exact ha _ _ (by omega)
    · intro s a hs h0
      simp only [grd]
      split
      · split
        · have := ha (x.1 + x.2.1) (x.1 + x.2.1) (Int.le_refl _); omega
        · have := ha (x.1 + x.2.1) (a + (x.1 + x.2.1)) (by omega); omega
      · rw [if_neg (by omega)]
        have := hb s (a + (x.1 + x.2.1)) hs (by omega)
        rwa [show s + a + (x.1 + x.2.1) = s + (a + (x.1 + x.2.1)) by omega]
/-- Lines that fit on the page. -/
theorem grd_skip {D : Int} : ∀ {a b : List SLine} {s : Int}, (∀ x ∈ a, 0 ≤ x.1 + x.2.1) → s + deepS a ≤ D → grd D s (a ++ b) = grd D (s + deepS a) b
  | [], b, s, _, h => by simp [deepS]
  | x :: r, b, s, hl, h => by
    rw [deepS_cons] at h ⊢
    have h0 : 0 ≤ deepS r := by
      have : ∀ r : List SLine, (∀ x ∈ r, 0 ≤ x.1 + x.2.1) → 0 ≤ deepS r := by
        intro r hr
        induction r with
        | nil => simp [deepS]
        | cons y q ih =>
          rw [deepS_cons]
          have := hr y (by simp)
          have := ih fun z hz => hr z (by simp [hz])
          omega
      exact this r fun y hy => hl y (by simp [hy])
    rw [List.cons_append, grd, if_neg (by omega), grd_skip (fun y hy => hl y (by simp [hy])) (by omega)]
    congr 1; omega
theorem grd_path {l : List SLine} {d : Int} (hl : ∀ x ∈ l, 0 ≤ x.1 + x.2.1 ∧ x.1 + x.2.1 ≤ d) {i x : Int} (h : PathE (edgeB l d) l.length i x) : 0 ≤ i → i < l.length → grd d 0 (l.drop i.toNat) ≤ x := by
  induction h with
  | stop => intro h0 h1; omega
  | @step j x i h1 h2 he hp ih =>
    intro h0 h3
    have hs : deepS ((l.take j.toNat).drop i.toNat) ≤ d := by
      simp only [edgeB, Bool.and_eq_true, decide_eq_true_eq] at he
      exact he.1
    have e : l.drop i.toNat = (l.take j.toNat).drop i.toNat ++ l.drop j.toNat := by
      rw [← List.drop_append_of_le_length (by rw [List.length_take, Nat.min_eq_left (by omega)]; omega), List.take_append_drop]
    have hm : ∀ y ∈ (l.take j.toNat).drop i.toNat, 0 ≤ y.1 + y.2.1 := fun y hy => (hl y (List.mem_of_mem_take (List.mem_of_mem_drop hy))).1
    rw [e, grd_skip hm (by omega), Int.zero_add]
    rcases Int.lt_or_le j l.length with h4 | h4
    · have h5 := ih (by omega) h4
      have hb := (grd_both (D := d) (l := l.drop j.toNat) fun y hy => hl y (List.mem_of_mem_drop hy)).2 (deepS ((l.take j.toNat).drop i.toNat)) 0 (by
        have : ∀ r : List SLine, (∀ x ∈ r, 0 ≤ x.1 + x.2.1) → 0 ≤ deepS r := by
          intro r hr
          induction r with
          | nil => simp [deepS]
          | cons y q ih =>
            rw [deepS_cons]
            have := hr y (by simp)
            have := ih fun z hz => hr z (by simp [hz])
            omega
        exact this _ hm) (by omega)
      rw [Int.add_zero] at hb
      omega
    · rw [show l.drop j.toNat = [] from List.drop_of_length_le (by omega)]
      have := hp.pos
      show (1 : Int) ≤ x + 1
      omega

/-! ### Ends of pages -/
inductive Chain (E : Int → Int → Bool) (n : Int) : Int → List Int → Prop
  | nil : Chain E n n []
  | cons {j : Int} {r : List Int} (i : Int) (h1 : i < j) (h2 : j ≤ n) (he : E i j = true) (h : Chain E n j r) : Chain E n i (j :: r)
theorem chainE_chain {E : Int → Int → Bool} {n : Int} : ∀ {t : Nat} {i : Int}, 0 ≤ i → i ≤ n → 0 ≤ fewE E n i → n - i ≤ t → Chain E n i (chainE E n t i)
  | 0, i, h0, h1, h2, h3 => by
    rw [show i = n by omega]; exact .nil
  | t + 1, i, h0, h1, h2, h3 => by
    by_cases hlt : i < n
    · obtain ⟨a, b, c, d, e, _⟩ := nextF_spec h0 hlt h2
      rw [chainE_step hlt]
      exact .cons i a b d (chainE_chain (by omega) b c (by omega))
    · rw [chainE_stop hlt, show i = n by omega]; exact .nil
theorem Chain.last {E : Int → Int → Bool} {n i : Int} {c : List Int} (h : Chain E n i c) : i < n → c ≠ [] ∧ nth c (c.length - 1) = n := by
  induction h with
  | nil => intro h; omega
  | @cons j r i h1 h2 he hr ih =>
    intro _
    refine ⟨by simp, ?_⟩
    rcases Int.lt_or_le j n with h3 | h3
    · obtain ⟨a, b⟩ := ih h3
      cases r with
      | nil => exact absurd rfl a
      | cons y q =>
        rw [← b]
        simp [nth]
    · cases hr with
      | nil => simp [nth]
      | cons _ h4 h5 => omega
theorem Chain.mem {E : Int → Int → Bool} {n i : Int} {c : List Int} (h : Chain E n i c) : ∀ j ∈ c, i < j ∧ j ≤ n ∧ ∃ i', i ≤ i' ∧ i' < j ∧ E i' j = true := by
  induction h with
  | nil => intro j hj; cases hj
  | @cons j r i h1 h2 he hr ih =>
    intro k hk
    rcases List.mem_cons.1 hk with rfl | hk
    · exact ⟨h1, h2, i, Int.le_refl _, h1, he⟩
    · obtain ⟨a, b, i', c, d⟩ := ih k hk
      exact ⟨by omega, b, i', by omega, d⟩
/-- Depths of the pages from line i on. -/
def deepsL (l : List SLine) : Int → List Int → List Int
  | _, [] => []
  | i, j :: r => deepS ((l.take j.toNat).drop i.toNat) :: deepsL l j r
theorem deepsL_length (l : List SLine) : ∀ (c : List Int) (i : Int), (deepsL l i c).length = c.length
  | [], _ => rfl
  | j :: r, i => by simp [deepsL, deepsL_length l r]
theorem Chain.deeps {l : List SLine} {d n i : Int} {c : List Int} (h : Chain (edgeB l d) n i c) : ∀ x ∈ deepsL l i c, x ≤ d := by
  induction h with
  | nil => intro j hj; cases hj
  | @cons j r i h1 h2 he hr ih =>
    intro x hx
    rcases List.mem_cons.1 hx with rfl | hx
    · simp only [edgeB, Bool.and_eq_true, decide_eq_true_eq] at he
      exact he.1
    · exact ih x hx
/-- Notes of the pages from line i on. -/
def noteN (l : List SLine) : Int := ((l.map fun x => if 0 < x.2.1 then 1 else 0) : List Int).sum
def notesL (l : List SLine) : Int → List Int → List Int
  | _, [] => []
  | i, j :: r => noteN ((l.take j.toNat).drop i.toNat) :: notesL l j r
theorem noteN_append (a b : List SLine) : noteN (a ++ b) = noteN a + noteN b := by simp [noteN]
theorem noteN_bound (l : List SLine) : 0 ≤ noteN l ∧ noteN l ≤ l.length := by
  induction l with
  | nil => simp [noteN]
  | cons x r ih =>
    simp only [noteN, List.map_cons, List.sum_cons, List.length_cons] at ih ⊢
    split <;> omega
theorem notesL_length (l : List SLine) : ∀ (c : List Int) (i : Int), (notesL l i c).length = c.length
  | [], _ => rfl
  | j :: r, i => by simp [notesL, notesL_length l r]
end Go.Proofs.YtbamclepgabciaaDoor.Ai
