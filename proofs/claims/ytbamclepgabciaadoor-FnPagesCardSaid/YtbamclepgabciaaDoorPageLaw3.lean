/- Plain laws on pages of a galley: what the functions answer. -/
import Derived.Test.YtbamclepgabciaaDoorPageLaw2
import Derived.Test.YtbamclepgabciaaDoorPayLaw2
namespace Go.Proofs.YtbamclepgabciaaDoor.Ai
open Go Go.Proofs
set_option linter.unusedSimpArgs false
set_option linter.unusedVariables false

/-- f at i .. n. -/
def tailF (f : Int → Int) (i n : Int) : List Int := (List.range (n + 1 - i).toNat).map fun t : Nat => f (i + t)
theorem tailF_length (f : Int → Int) (i n : Int) : (tailF f i n).length = (n + 1 - i).toNat := by simp [tailF]
theorem tailF_cons {f : Int → Int} {i n : Int} (h : i ≤ n) : tailF f i n = f i :: tailF f (i + 1) n := by
  rw [tailF, tailF, show (n + 1 - i).toNat = (n + 1 - (i + 1)).toNat + 1 by omega, List.range_succ_eq_map, List.map_cons, List.map_map]
  refine congr (congrArg List.cons (by simp)) (List.map_congr_left fun t _ => ?_)
  show f (i + ((t + 1 : Nat) : Int)) = f (i + 1 + t)
  congr 1; omega
theorem tailF_end (f : Int → Int) (n : Int) : tailF f n n = [f n] := by
  rw [tailF_cons (Int.le_refl n), tailF, show (n + 1 - (n + 1)).toNat = 0 by omega]; rfl
theorem tailF_nth {f : Int → Int} {xs : List Int} {a n : Int} {j : Nat} (hx : (xs.length : Int) = a) (h0 : a ≤ j) (h1 : (j : Int) ≤ n) : nth (xs ++ tailF f a n) j = f j := by
  rw [nth, List.getElem?_append_right (by omega), tailF, List.getElem?_map, List.getElem?_range (by omega)]
  show f (a + ((j - xs.length : Nat) : Int)) = f j
  congr 1; omega
theorem tailF_nth' {f : Int → Int} {xs : List Int} {v a n : Int} {j : Nat} (hx : (xs.length : Int) = a) (h0 : a + 1 ≤ j) (h1 : (j : Int) ≤ n) : nth (xs ++ v :: tailF f (a + 1) n) j = f j := by
  have := tailF_nth (f := f) (xs := xs ++ [v]) (a := a + 1) (n := n) (j := j) (by simp; omega) h0 h1
  rwa [List.append_assoc] at this

/-! ### Clean pages -/
noncomputable abbrev fewG (l : List SLine) (d i : Int) : Int := fewE (edgeB l d) l.length i
/-- The number of pages from line i on, -1 for a line that is a widow. -/
noncomputable def pgF (l : List SLine) (d i : Int) : Int := if widowB l i then -1 else fewG l d i
def cleanB (l : List SLine) (d i j : Int) : Bool := decide (deepS ((l.take j.toNat).drop i.toNat) ≤ d) && (!widowB l i && !orphanB l j)
theorem widow_end (l : List SLine) {n : Int} (hn : n = l.length) : widowB l n = false := by
  subst hn
  have e : parAt l ((l.length : Int) + 1).toNat = parAt l (l.length : Int).toNat := by
    rw [parAt, parAt, List.getElem?_eq_none (by omega), List.getElem?_eq_none (by omega)]
  have : lastB l l.length = false := by
    rw [lastB, e, decide_eq_false (by omega)]; simp
  rw [widowB, this]; simp
theorem orphan_end (l : List SLine) {n : Int} (hn : n = l.length) : orphanB l n = false := by
  rw [orphanB, decide_eq_false (by omega)]; rfl
theorem widow_zero (l : List SLine) : widowB l 0 = false := by simp [widowB]
theorem edge_split {l : List SLine} {d i j : Int} : edgeB l d i j = true → deepS ((l.take j.toNat).drop i.toNat) ≤ d ∧ (j < (l.length : Int) → orphanB l j = false ∧ widowB l j = false) := fun h => by
  simp only [edgeB, Bool.and_eq_true, decide_eq_true_eq, Bool.not_eq_true', Bool.and_eq_false_iff, decide_eq_false_iff_not, Bool.or_eq_false_iff] at h
  exact ⟨h.1, fun hj => by rcases h.2 with h | h; exact absurd hj h; exact h⟩
theorem edge_of {l : List SLine} {d i j : Int} (h1 : deepS ((l.take j.toNat).drop i.toNat) ≤ d) (h2 : j < (l.length : Int) → orphanB l j = false ∧ widowB l j = false) : edgeB l d i j = true := by
  rw [edgeB, decide_eq_true h1, Bool.true_and]
  by_cases hj : j < (l.length : Int)
  · rw [(h2 hj).1, (h2 hj).2]; simp
  · rw [decide_eq_false hj]; rfl
/-- A clean page that ends where pages can go on is an edge. -/
theorem clean_edge {l : List SLine} {d i j : Int} (hj : j ≤ l.length) (hw : widowB l i = false) (hp : widowB l j = false) : cleanB l d i j = edgeB l d i j := by
  have e1 : ∀ b : Bool, (b = true ↔ edgeB l d i j = true) → b = edgeB l d i j := fun b h => by
    cases hb : edgeB l d i j <;> cases b <;> simp_all
  refine e1 _ ⟨fun h => ?_, fun h => ?_⟩
  · simp only [cleanB, Bool.and_eq_true, decide_eq_true_eq, Bool.not_eq_true'] at h
    exact edge_of h.1 fun _ => ⟨h.2.2, hp⟩
  · have := edge_split h
    simp only [cleanB, Bool.and_eq_true, decide_eq_true_eq, Bool.not_eq_true']
    refine ⟨this.1, hw, ?_⟩
    rcases Int.lt_or_le j l.length with hlt | hle
    · exact (this.2 hlt).1
    · exact orphan_end l (by omega)
theorem pgF_end (l : List SLine) (d : Int) {n : Int} (hn : n = l.length) : pgF l d n = 0 := by
  rw [pgF, widow_end l hn, fewG, hn]; exact fewE_end _ _
theorem pgF_neg {l : List SLine} {d i : Int} (h : widowB l i = true) : pgF l d i = -1 := by rw [pgF, h]; rfl
theorem pgF_pos {l : List SLine} {d i : Int} (h : widowB l i = false) : pgF l d i = fewG l d i := by rw [pgF, h]; rfl
theorem pgF_le {l : List SLine} {d i : Int} (h : 0 ≤ pgF l d i) : widowB l i = false ∧ pgF l d i = fewG l d i := by
  cases hw : widowB l i
  · exact ⟨rfl, pgF_pos hw⟩
  · rw [pgF_neg hw] at h; omega
theorem pgF_bound {l : List SLine} {d i : Int} (h0 : 0 ≤ i) (h : i ≤ l.length) : -1 ≤ pgF l d i ∧ pgF l d i ≤ l.length := by
  have := fewE_bound (edgeB l d) h
  rw [pgF]
  split
  · omega
  · rw [fewG]; omega
theorem fewG_bound {l : List SLine} {d i : Int} (h0 : 0 ≤ i) (h : i ≤ l.length) : -1 ≤ fewG l d i ∧ fewG l d i ≤ l.length := by
  have := fewE_bound (edgeB l d) h
  rw [fewG]; omega
/-- The next breaks up to t, or behind t. -/
abbrev Upto (t : Int) (j : Int) : Prop := j < t
abbrev Behind (t : Int) (j : Int) : Prop := t < j
/-- The page's place in the table while it is looked for. -/
def PgMin (l : List SLine) (d i t v : Int) : Prop := (widowB l i = true → v = -1) ∧ (widowB l i = false → IsMin (NextE (edgeB l d) l.length i (Upto t)) v)
theorem pgMin_first {l : List SLine} {d i t : Int} (ht : t = i + 1) : PgMin l d i t (-1) := ⟨fun _ => rfl, fun _ => nextE_none _ _ _ fun j h1 h2 h3 => by simp only [Upto] at h3; omega⟩
theorem pgMin_skip {l : List SLine} {d i t t' v : Int} (h : PgMin l d i t v) (ht : t' = t + 1) (hl : t ≤ l.length) (hf : pgF l d t < 0 ∨ cleanB l d i t = false) : PgMin l d i t' v :=
  ⟨h.1, fun hw => nextE_skip (k := t) (h.2 hw) (fun j _ _ => by simp only [Upto]; omega) (by
    rcases hf with hf | hf
    · cases hp : widowB l t
      · rw [pgF_pos hp] at hf; exact .inr hf
      · refine .inl ?_
        cases he : edgeB l d i t
        · rfl
        · have hlt : t < l.length := by
            rcases Int.lt_or_le t l.length with h1 | h1
            · exact h1
            · rw [widow_end l (n := t) (by omega)] at hp; cases hp
          rw [((edge_split he).2 hlt).2] at hp; cases hp
    · cases he : edgeB l d i t
      · exact .inl rfl
      · have := edge_split he
        have hp : widowB l t = false := by
          rcases Int.lt_or_le t l.length with h1 | h1
          · exact (this.2 h1).2
          · exact widow_end l (by omega)
        rw [clean_edge hl hw hp, he] at hf; cases hf)⟩
theorem pgMin_take {l : List SLine} {d i t t' v : Int} (h : PgMin l d i t v) (ht : t' = t + 1) (hl : t ≤ l.length) (hi : i < t) (hf : 0 ≤ pgF l d t) (hc : cleanB l d i t = true) : PgMin l d i t' (if v < 0 ∨ pgF l d t + 1 < v then pgF l d t + 1 else v) := by
  have hw : widowB l i = false := by
    simp only [cleanB, Bool.and_eq_true, Bool.not_eq_true'] at hc; exact hc.2.1
  obtain ⟨hp, ep⟩ := pgF_le hf
  refine ⟨fun h' => (by rw [hw] at h'; cases h'), fun _ => ?_⟩
  rw [ep] at hf ⊢
  exact nextE_take (k := t) (h.2 hw) (fun j _ _ => by simp only [Upto]; omega) ⟨hi, hl⟩ (by rw [← clean_edge hl hw hp]; exact hc) hf
theorem pgMin_end {l : List SLine} {d i t v : Int} (h : PgMin l d i t v) (hi : i < l.length) (ht : l.length < t) : v = pgF l d i := by
  cases hw : widowB l i
  · rw [pgF_pos hw]
    exact fewE_next hi (fun j _ _ => by simp only [Upto]; omega) (h.2 hw)
  · rw [pgF_neg hw]; exact h.1 hw
theorem pgMin_ge {l : List SLine} {d i t v : Int} (h : PgMin l d i t v) : -1 ≤ v := by
  cases hw : widowB l i
  · exact (h.2 hw).ge
  · rw [h.1 hw]; omega

noncomputable def chainF (E : Int → Int → Bool) (n i : Int) : List Int := chainE E n (n - i).toNat i
theorem chainE_fuel {E : Int → Int → Bool} {n : Int} {i : Int} (h0 : 0 ≤ i) (h1 : i ≤ n) (h2 : 0 ≤ fewE E n i) : ∀ k : Nat, chainE E n ((n - i).toNat + k) i = chainF E n i
  | 0 => rfl
  | k + 1 => by rw [← Nat.add_assoc, chainE_more h0 h1 h2 (by omega), chainE_fuel h0 h1 h2 k]
theorem chainF_step {E : Int → Int → Bool} {n i : Int} (h0 : 0 ≤ i) (h1 : i < n) (h2 : 0 ≤ fewE E n i) : chainF E n i = nextF E n i :: chainF E n (nextF E n i) := by
  obtain ⟨a, b, c, d, e, _⟩ := nextF_spec h0 h1 h2
  rw [chainF, show (n - i).toNat = ((n - i).toNat - 1) + 1 by omega, chainE_step h1]
  congr 1
  have := chainE_fuel (E := E) (n := n) (i := nextF E n i) (by omega) b c ((n - i).toNat - 1 - (n - nextF E n i).toNat)
  rwa [show (n - nextF E n i).toNat + ((n - i).toNat - 1 - (n - nextF E n i).toNat) = (n - i).toNat - 1 by omega] at this
theorem chainF_end {E : Int → Int → Bool} {n i : Int} (h : ¬ i < n) : chainF E n i = [] := chainE_stop h _
noncomputable def cleanF (l : List SLine) (d : Int) : List Int × Bool := if okPg l d && decide (0 ≤ fewG l d 0) then (chainF (edgeB l d) l.length 0, true) else ([], false)
theorem okPg_spec {l : List SLine} {d : Int} (h : okPg l d = true) : (∀ x ∈ l, okS x = true) ∧ (∀ x ∈ l, 0 ≤ x.1 + x.2.1 ∧ x.1 + x.2.1 ≤ d) ∧ (1 ≤ (l.length : Int) ∧ (l.length : Int) ≤ 40) ∧ (40 ≤ d ∧ d ≤ 2000) ∧ okGal l = true := by
  simp only [okPg, Bool.and_eq_true, List.all_eq_true, decide_eq_true_eq] at h
  have h2 := h.2.1
  simp only [okGal, Bool.and_eq_true] at h2
  refine ⟨galG_mem h2.1, fun x hx => ⟨?_, h.1 x hx⟩, inB_spec h2.2, inB_spec h.2.2, h.2.1⟩
  have := okS_spec (galG_mem h2.1 x hx)
  omega
theorem okGal_spec {l : List SLine} (h : okGal l = true) : (∀ x ∈ l, okS x = true) ∧ (1 ≤ (l.length : Int) ∧ (l.length : Int) ≤ 40) := by
  simp only [okGal, Bool.and_eq_true] at h
  exact ⟨galG_mem h.1, inB_spec h.2⟩
theorem cut_mem {l : List SLine} {i j : Nat} (h : ∀ x ∈ l, okS x = true) : ∀ x ∈ (l.take j).drop i, okS x = true := fun x hx => h x (List.mem_of_mem_take (List.mem_of_mem_drop hx))
theorem cut_bound {l : List SLine} {i j : Nat} (h : ∀ x ∈ l, okS x = true) (hl : (l.length : Int) ≤ 40) : 0 ≤ deepS ((l.take j).drop i) ∧ deepS ((l.take j).drop i) ≤ 4000 := by
  have := deepS_bound (cut_mem (i := i) (j := j) h)
  have e : ((l.take j).drop i).length ≤ l.length := by rw [List.length_drop, List.length_take]; omega
  omega

/-! ### Greedy pages -/
def fillL (d : Int) : Int → Int → List SLine → List Int
  | _, i, [] => [i]
  | s, i, x :: r => if d < s + (x.1 + x.2.1) then i :: fillL d (x.1 + x.2.1) (i + 1) r else fillL d (s + (x.1 + x.2.1)) (i + 1) r
theorem fillL_length (d : Int) : ∀ (l : List SLine) (s i : Int), ((fillL d s i l).length : Int) = grd d s l
  | [], _, _ => rfl
  | x :: r, s, i => by
    simp only [fillL, grd]
    split
    · rw [List.length_cons, Int.natCast_add, fillL_length]; simp; omega
    · exact fillL_length d r _ _
def pagesF (l : List SLine) (d : Int) : Int × Bool := if okPg l d then (grd d 0 l, true) else (0, false)

/-! ### Ends that are given -/
def okEnds (l : List SLine) (c : List Int) : Bool := okGal l && (decide (0 < (c.length : Int)) && (rising 1 l.length none c && decide (nth c (c.length - 1) = l.length)))
def widF (l : List SLine) (c : List Int) : List Int × Bool := if okEnds l c then (markL (widowB l) 1 (c.take (c.length - 1)), true) else ([], false)
def orpF (l : List SLine) (c : List Int) : List Int × Bool := if okEnds l c then (markL (orphanB l) 0 c, true) else ([], false)
def depF (l : List SLine) (c : List Int) : List Int × Bool := if okEnds l c then (deepsL l 0 c, true) else ([], false)
def notF (l : List SLine) (c : List Int) : List Int × Bool := if okEnds l c then (notesL l 0 c, true) else ([], false)
def cutsL (l : List SLine) : Int → List Int → List (List SLine)
  | _, [] => []
  | i, j :: r => (l.take j.toNat).drop i.toNat :: cutsL l j r
end Go.Proofs.YtbamclepgabciaaDoor.Ai
