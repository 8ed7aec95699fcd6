/- Plain laws on pages: even breaks. -/
import Derived.Test.YtalookmhhkojeaaParLaw
import Derived.Test.YtalookmhhkojeaaPar
import Derived.Test.YtalookmhhkojeaaThaw
import Derived.Test.YtalookmhhkojeaaTri
namespace Go.Proofs.Ytalookmhhkojeaa.Ai
open Go Go.Proofs
set_option linter.unusedSimpArgs false
set_option linter.unusedVariables false
set_option maxRecDepth 10000
set_option maxHeartbeats 4000000

def sqF (d u : Int) : Int := (d - u) * (d - u)
/-- The breaks of a page that is filled as far as it goes: spec.plBreaks, impl.PageBreaks. -/
def breaksU (d : Int) : List Int → Int → Int → List Int
  | [], _, _ => []
  | h :: t, i, u => if u + h > d then i :: breaksU d t (i + 1) h else breaksU d t (i + 1) (u + h)
def breaksF (d : Int) (l : List Int) : List Int := breaksU d l 0 0
/-- How many of them. -/
def grU (d : Int) : Int → List Int → Nat
  | _, [] => 0
  | u, h :: t => if u + h > d then 1 + grU d h t else grU d (u + h) t
def grF (d : Int) (l : List Int) : Nat := if l = [] then 0 else 1 + grU d 0 l
theorem breaksU_length (d : Int) : ∀ (l : List Int) (i u : Int), (breaksU d l i u).length = grU d u l
  | [], _, _ => rfl
  | h :: t, i, u => by
    rw [breaksU, grU]
    split
    · rw [List.length_cons, breaksU_length d t]; omega
    · rw [breaksU_length d t]
theorem grU_mono {d : Int} : ∀ (l : List Int), (∀ h ∈ l, 0 ≤ h ∧ h ≤ d) → ∀ u v : Int, u ≤ v → grU d u l ≤ grU d v l ∧ (0 ≤ u → v ≤ d → grU d v l ≤ 1 + grU d u l)
  | [], _, _, _, _ => ⟨Nat.le_refl _, fun _ _ => by simp [grU]⟩
  | h :: t, hl, u, v, huv => by
    have hh := hl h (by simp)
    have ht : ∀ x ∈ t, 0 ≤ x ∧ x ≤ d := fun x hx => hl x (by simp [hx])
    rw [grU, grU]
    by_cases e1 : u + h > d
    · rw [if_pos e1, if_pos (by omega : v + h > d)]
      exact ⟨Nat.le_refl _, fun _ _ => by omega⟩
    · rw [if_neg e1]
      by_cases e2 : v + h > d
      · rw [if_pos e2]
        by_cases h0 : 0 ≤ u
        · have q := grU_mono t ht h (u + h) (by omega)
          have q2 := q.2 hh.1 (by omega)
          exact ⟨by omega, fun _ _ => by omega⟩
        · have q := grU_mono t ht (u + h) h (by omega)
          exact ⟨by omega, fun h1 => by omega⟩
      · rw [if_neg e2]
        have q := grU_mono t ht (u + h) (v + h) (by omega)
        exact ⟨q.1, fun h1 h2 => q.2 (by omega) (by omega)⟩
/-- The first pages that there are: how much of it is used, and what is left behind it. -/
def cutsF (d : Int) : Int → List Int → List (Int × List Int)
  | _, [] => []
  | u, h :: t => if u + h ≤ d then (u + h, t) :: cutsF d (u + h) t else []
theorem cuts_mem {d : Int} : ∀ {l : List Int} {u : Int}, (∀ h ∈ l, 0 ≤ h ∧ h ≤ d) → 0 ≤ u → ∀ x ∈ cutsF d u l, u ≤ x.1 ∧ x.1 ≤ d ∧ x.2.length < l.length ∧ (∀ h ∈ x.2, h ∈ l) ∧ (∃ k, x.2 = l.drop k) ∧ grU d u l = grU d x.1 x.2
  | [], u, _, _, x, hx => by cases hx
  | h :: t, u, hl, h0, x, hx => by
    have hh := hl h (by simp)
    rw [cutsF] at hx
    by_cases e : u + h ≤ d
    · rw [if_pos e] at hx
      have eg : grU d u (h :: t) = grU d (u + h) t := by rw [grU, if_neg (by omega)]
      rcases List.mem_cons.1 hx with rfl | hx
      · exact ⟨by omega, e, by simp, fun y hy => by simp [hy], ⟨1, rfl⟩, eg⟩
      · obtain ⟨a1, a2, a3, a4, ⟨k, a5⟩, a6⟩ := cuts_mem (fun y hy => hl y (by simp [hy])) (by omega : (0 : Int) ≤ u + h) x hx
        exact ⟨by omega, a2, by simp; omega, fun y hy => by simp [a4 y hy], ⟨k + 1, by rw [a5]; rfl⟩, by rw [eg, a6]⟩
    · rw [if_neg e] at hx; cases hx
/-- One page more than behind the first page is enough. -/
theorem gr_le {d : Int} {l : List Int} (hl : ∀ h ∈ l, 0 ≤ h ∧ h ≤ d) (hd : 0 ≤ d) {x : Int × List Int} (hx : x ∈ cutsF d 0 l) : grF d l ≤ grF d x.2 + 1 := by
  obtain ⟨a1, a2, a3, a4, -, a6⟩ := cuts_mem hl (Int.le_refl 0) x hx
  have ne : l ≠ [] := by rintro rfl; cases hx
  rw [grF, if_neg ne, a6, grF]
  by_cases e : x.2 = []
  · rw [if_pos e, e]; simp [grU]
  · rw [if_neg e]
    have := (grU_mono x.2 (fun h hh => hl h (a4 h hh)) 0 x.1 a1).2 (Int.le_refl 0) a2
    omega
/-- And some first page is the best there is. -/
theorem gr_eq {d : Int} : ∀ {l : List Int} {u : Int}, (∀ h ∈ l, 0 ≤ h ∧ h ≤ d) → 0 ≤ u → u ≤ d → l ≠ [] → (u = 0 ∨ (∃ h t, l = h :: t ∧ u + h ≤ d)) → ∃ x ∈ cutsF d u l, 1 + grU d u l = grF d x.2 + 1
  | [], u, _, _, _, hn, _ => absurd rfl hn
  | h :: t, u, hl, h0, hd, _, hf => by
    have hh := hl h (by simp)
    have e : u + h ≤ d := by
      rcases hf with rfl | ⟨a, b, q, r⟩
      · omega
      · cases q; exact r
    rw [cutsF, if_pos e, grU, if_neg (by omega)]
    have ht : ∀ x ∈ t, 0 ≤ x ∧ x ≤ d := fun x hx => hl x (by simp [hx])
    match t, ht with
    | [], _ => exact ⟨(u + h, []), by simp, by simp [grU, grF]⟩
    | b :: s, ht =>
      by_cases e2 : u + h + b ≤ d
      · obtain ⟨x, hx, q⟩ := gr_eq ht (by omega : (0 : Int) ≤ u + h) e (by simp) (.inr ⟨b, s, rfl, e2⟩)
        exact ⟨x, by simp [hx], q⟩
      · refine ⟨(u + h, b :: s), by simp, ?_⟩
        have hb := ht b (by simp)
        rw [grF, if_neg (by simp), grU, if_pos (by omega), grU, if_neg (by omega), Int.zero_add]
        omega
/-! ### Costs -/
/-- spec.plCosts: one step. -/
def cstep (d : Int) (g : List Int → Int) (acc : Int) (x : Int × List Int) : Int := if 0 ≤ g x.2 ∧ (acc < 0 ∨ sqF d x.1 + g x.2 < acc) then sqF d x.1 + g x.2 else acc
def costF (d : Int) : Nat → List Int → Int
  | 0, l => if l = [] then 0 else -1
  | p + 1, l => (cutsF d 0 l).foldl (cstep d (costF d p)) (-1)
theorem sq_nonneg (d u : Int) : 0 ≤ sqF d u := by
  unfold sqF
  rcases Int.le_total 0 (d - u) with h | h
  · exact Int.mul_nonneg h h
  · have := Int.mul_nonneg (show 0 ≤ -(d - u) by omega) (show 0 ≤ -(d - u) by omega)
    rwa [Int.neg_mul_neg] at this
theorem sq_le {d u : Int} (h0 : 0 ≤ u) (hd : u ≤ d) (h : d ≤ 1000) : sqF d u ≤ 1000000 := by
  have := Int.mul_le_mul (show d - u ≤ 1000 by omega) (show d - u ≤ 1000 by omega) (by omega) (by omega)
  unfold sqF; omega
/-- The least of what can be had. -/
theorem cfold {d : Int} {g : List Int → Int} : ∀ (xs : List (Int × List Int)) (acc : Int),
    (0 ≤ acc → 0 ≤ xs.foldl (cstep d g) acc ∧ xs.foldl (cstep d g) acc ≤ acc) ∧
    (∀ x ∈ xs, 0 ≤ g x.2 → 0 ≤ xs.foldl (cstep d g) acc ∧ xs.foldl (cstep d g) acc ≤ sqF d x.1 + g x.2) ∧
    (xs.foldl (cstep d g) acc = acc ∨ ∃ x ∈ xs, 0 ≤ g x.2 ∧ xs.foldl (cstep d g) acc = sqF d x.1 + g x.2)
  | [], acc => ⟨fun h => ⟨h, Int.le_refl _⟩, fun x hx => (by cases hx), .inl rfl⟩
  | y :: r, acc => by
    have ih := cfold (d := d) (g := g) r (cstep d g acc y)
    rw [List.foldl_cons]
    have sy := sq_nonneg d y.1
    have st : (0 ≤ acc → 0 ≤ cstep d g acc y ∧ cstep d g acc y ≤ acc) ∧ (0 ≤ g y.2 → 0 ≤ cstep d g acc y ∧ cstep d g acc y ≤ sqF d y.1 + g y.2) ∧ (cstep d g acc y = acc ∨ (0 ≤ g y.2 ∧ cstep d g acc y = sqF d y.1 + g y.2)) := by
      unfold cstep
      split
      · exact ⟨fun _ => by omega, fun _ => by omega, .inr (by omega)⟩
      · exact ⟨fun _ => by omega, fun _ => by omega, .inl rfl⟩
    refine ⟨fun h => ?_, fun x hx hg => ?_, ?_⟩
    · have a := st.1 h
      have b := ih.1 a.1
      omega
    · rcases List.mem_cons.1 hx with rfl | hx
      · have a := st.2.1 hg
        have b := ih.1 a.1
        omega
      · exact ih.2.1 x hx hg
    · rcases ih.2.2 with e | ⟨x, hx, hg, e⟩
      · rcases st.2.2 with s | ⟨s1, s2⟩
        · exact .inl (by rw [e, s])
        · exact .inr ⟨y, by simp, s1, by rw [e, s2]⟩
      · exact .inr ⟨x, by simp [hx], hg, e⟩
theorem cost_le {d : Int} {p : Nat} {l : List Int} {x : Int × List Int} (hx : x ∈ cutsF d 0 l) (hg : 0 ≤ costF d p x.2) : 0 ≤ costF d (p + 1) l ∧ costF d (p + 1) l ≤ sqF d x.1 + costF d p x.2 := (cfold _ _).2.1 x hx hg
theorem cost_some {d : Int} {p : Nat} {l : List Int} (h : 0 ≤ costF d (p + 1) l) : ∃ x ∈ cutsF d 0 l, 0 ≤ costF d p x.2 ∧ costF d (p + 1) l = sqF d x.1 + costF d p x.2 := by
  rcases (cfold (d := d) (g := costF d p) (cutsF d 0 l) (-1)).2.2 with e | h'
  · rw [costF, e] at h; omega
  · exact h'
theorem cost_ge (d : Int) : ∀ (p : Nat) (l : List Int), -1 ≤ costF d p l
  | 0, l => by rw [costF]; split <;> omega
  | p + 1, l => by
    rcases (cfold (d := d) (g := costF d p) (cutsF d 0 l) (-1)).2.2 with e | ⟨x, hx, hg, e⟩
    · rw [costF, e]; omega
    · have := sq_nonneg d x.1
      rw [costF, e]; omega
theorem cost_gr {d : Int} : ∀ {p : Nat} {l : List Int}, (∀ h ∈ l, 0 ≤ h ∧ h ≤ d) → 0 ≤ d → 0 ≤ costF d p l → grF d l ≤ p
  | 0, l, _, _, h => by
    rw [costF] at h
    by_cases e : l = []
    · rw [grF, if_pos e]; omega
    · rw [if_neg e] at h; omega
  | p + 1, l, hl, hd, h => by
    obtain ⟨x, hx, hg, -⟩ := cost_some h
    have a := cuts_mem hl (Int.le_refl 0) x hx
    have := cost_gr (fun y hy => hl y (a.2.2.2.1 y hy)) hd hg
    have := gr_le hl hd hx
    omega
theorem gr_one {d : Int} {l : List Int} (hl : ∀ h ∈ l, 0 ≤ h ∧ h ≤ d) (hd : 0 ≤ d) (hn : l ≠ []) : ∃ x ∈ cutsF d 0 l, grF d l = grF d x.2 + 1 := by
  obtain ⟨x, hx, e⟩ := gr_eq hl (Int.le_refl 0) hd hn (.inl rfl)
  exact ⟨x, hx, by rw [← e, grF, if_neg hn]⟩
theorem cost_own {d : Int} (hd : 0 ≤ d) : ∀ (n : Nat) {l : List Int}, l.length ≤ n → (∀ h ∈ l, 0 ≤ h ∧ h ≤ d) → 0 ≤ costF d (grF d l) l
  | n, l, hn, hl => by
    by_cases e : l = []
    · subst e; simp [grF, costF]
    · obtain ⟨x, hx, eq⟩ := gr_one hl hd e
      have a := cuts_mem hl (Int.le_refl 0) x hx
      match n, hn with
      | 0, hn => exact absurd (List.length_eq_zero_iff.1 (by omega)) e
      | n + 1, hn =>
        have := cost_own hd n (by omega) (fun y hy => hl y (a.2.2.2.1 y hy))
        rw [eq]
        exact (cost_le hx this).1
/-! ### Pairs of pages and squares -/
def sqrF (d : Int) (l : List Int) : Int := costF d (grF d l) l
/-- The first cut that leads to the best: fewest pages, then least squares. -/
def goodCut (d : Int) (l : List Int) (x : Int × List Int) : Prop := 0 ≤ costF d (grF d l - 1) x.2 ∧ sqF d x.1 + costF d (grF d l - 1) x.2 = sqrF d l
instance (d : Int) (l : List Int) (x : Int × List Int) : Decidable (goodCut d l x) := by unfold goodCut; infer_instance
def restF (d : Int) (l : List Int) : List Int := (((cutsF d 0 l).find? fun x => decide (goodCut d l x)).getD (0, [])).2
/-- impl.EvenBreaks: one step of its table. -/
def pstep (d : Int) (s : Int × Int × List Int) (x : Int × List Int) : Int × Int × List Int :=
  if s.1 ≥ 0 ∧ (((grF d x.2 : Nat) : Int) + 1 > s.1 ∨ ((grF d x.2 : Nat) : Int) + 1 = s.1 ∧ sqrF d x.2 + sqF d x.1 ≥ s.2.1) then s else (((grF d x.2 : Nat) : Int) + 1, sqrF d x.2 + sqF d x.1, x.2)
/-- What the fold has found: the first one of the best among the cuts so far. -/
theorem pfold {d : Int} (R0 : List Int) : ∀ (xs : List (Int × List Int)), xs ≠ [] → ∃ pre y post, xs = pre ++ y :: post ∧ xs.foldl (pstep d) (-1, 0, R0) = (((grF d y.2 : Nat) : Int) + 1, sqrF d y.2 + sqF d y.1, y.2) ∧
      (∀ x ∈ pre, grF d y.2 < grF d x.2 ∨ grF d y.2 = grF d x.2 ∧ sqrF d y.2 + sqF d y.1 < sqrF d x.2 + sqF d x.1) ∧ (∀ x ∈ post, grF d y.2 < grF d x.2 ∨ grF d y.2 = grF d x.2 ∧ sqrF d y.2 + sqF d y.1 ≤ sqrF d x.2 + sqF d x.1) := by
  intro xs
  rw [show xs = xs.reverse.reverse by simp]
  generalize xs.reverse = ys
  induction ys with
  | nil => intro h; exact absurd rfl h
  | cons z r ih =>
    intro _
    rw [List.reverse_cons, List.foldl_append]
    by_cases e : r = []
    · subst e
      refine ⟨[], z, [], rfl, ?_, fun x hx => (by cases hx), fun x hx => (by cases hx)⟩
      show pstep d (-1, 0, R0) z = _
      rw [pstep, if_neg (by simp)]
    · obtain ⟨pre, y, post, e1, e2, h1, h2⟩ := ih (by simpa using e)
      rw [e2]
      show ∃ pre y post, _ ∧ pstep d _ z = _ ∧ _
      by_cases c : ((grF d z.2 : Nat) : Int) + 1 > ((grF d y.2 : Nat) : Int) + 1 ∨ ((grF d z.2 : Nat) : Int) + 1 = ((grF d y.2 : Nat) : Int) + 1 ∧ sqrF d z.2 + sqF d z.1 ≥ sqrF d y.2 + sqF d y.1
      · refine ⟨pre, y, post ++ [z], by rw [e1]; simp, by rw [pstep, if_pos ⟨by show (0 : Int) ≤ _; omega, c⟩], h1, fun x hx => ?_⟩
        rcases List.mem_append.1 hx with hx | hx
        · exact h2 x hx
        · obtain rfl : x = z := by simpa using hx
          omega
      · refine ⟨pre ++ y :: post, z, [], by rw [e1], by rw [pstep, if_neg (fun h => c h.2)], fun x hx => ?_, fun x hx => (by cases hx)⟩
        rcases List.mem_append.1 hx with hx | hx
        · have := h1 x hx
          omega
        · rcases List.mem_cons.1 hx with rfl | hx
          · omega
          · have := h2 x hx
            omega
/-- The table's fold gives the fewest pages, their least squares, and the cut that the specification finds first. -/
theorem pfold_best {d : Int} {l : List Int} (hl : ∀ h ∈ l, 0 ≤ h ∧ h ≤ d) (hd : 0 ≤ d) (hn : l ≠ []) (R0 : List Int) :
    (cutsF d 0 l).foldl (pstep d) (-1, 0, R0) = (((grF d l : Nat) : Int), sqrF d l, restF d l) ∧ ∃ pre u post, cutsF d 0 l = pre ++ (u, restF d l) :: post ∧ goodCut d l (u, restF d l) ∧ (∀ x ∈ pre, ¬ goodCut d l x) ∧ grF d (restF d l) + 1 = grF d l ∧ sqrF d l = sqF d u + sqrF d (restF d l) := by
  obtain ⟨z, hz, ez⟩ := gr_one hl hd hn
  obtain ⟨pre, y, post, e1, e2, h1, h2⟩ := pfold (d := d) R0 (cutsF d 0 l) (List.ne_nil_of_mem hz)
  have hy : y ∈ cutsF d 0 l := by rw [e1]; simp
  have own : ∀ x ∈ cutsF d 0 l, 0 ≤ sqrF d x.2 ∧ ∀ h ∈ x.2, 0 ≤ h ∧ h ≤ d := fun x hx => by
    have a := cuts_mem hl (Int.le_refl 0) x hx
    exact ⟨cost_own hd _ (Nat.le_refl _) fun h hh => hl h (a.2.2.2.1 h hh), fun h hh => hl h (a.2.2.2.1 h hh)⟩
  have all : ∀ x ∈ cutsF d 0 l, grF d y.2 < grF d x.2 ∨ grF d y.2 = grF d x.2 ∧ sqrF d y.2 + sqF d y.1 ≤ sqrF d x.2 + sqF d x.1 := fun x hx => by
    rw [e1] at hx
    rcases List.mem_append.1 hx with hx | hx
    · have := h1 x hx; omega
    · rcases List.mem_cons.1 hx with rfl | hx
      · omega
      · exact h2 x hx
  have gy : grF d y.2 + 1 = grF d l := by
    have := gr_le hl hd hy
    have := all z hz
    omega
  have pe : grF d l - 1 = grF d y.2 := by omega
  have key : ∀ x ∈ cutsF d 0 l, 0 ≤ costF d (grF d l - 1) x.2 → grF d x.2 = grF d y.2 ∧ costF d (grF d l - 1) x.2 = sqrF d x.2 := fun x hx hc => by
    have a := cost_gr (own x hx).2 hd hc
    have b := gr_le hl hd hx
    have e : grF d x.2 = grF d y.2 := by omega
    exact ⟨e, by rw [sqrF, pe, e]⟩
  have cy : costF d (grF d l - 1) y.2 = sqrF d y.2 := by rw [pe]; rfl
  have sq : sqrF d l = sqF d y.1 + sqrF d y.2 := by
    have c0 : 0 ≤ costF d (grF d l - 1) y.2 := by rw [cy]; exact (own y hy).1
    have up := cost_le (p := grF d l - 1) hy c0
    rw [show grF d l - 1 + 1 = grF d l by omega] at up
    have lo := cost_some (p := grF d l - 1) (l := l) (d := d) (by rw [show grF d l - 1 + 1 = grF d l by omega]; exact up.1)
    rw [show grF d l - 1 + 1 = grF d l by omega] at lo
    obtain ⟨x, hx, hc, ex⟩ := lo
    have k := key x hx hc
    have a := all x hx
    have : sqrF d l = costF d (grF d l) l := rfl
    omega
  have good : goodCut d l y := ⟨by rw [cy]; exact (own y hy).1, by rw [cy, sq]⟩
  have bad : ∀ x ∈ pre, ¬ goodCut d l x := fun x hx hg => by
    have hm : x ∈ cutsF d 0 l := by rw [e1]; simp [hx]
    have k := key x hm hg.1
    have a := h1 x hx
    have := hg.2
    omega
  have hr : restF d l = y.2 := by
    rw [restF, e1, List.find?_append, List.find?_eq_none.2 (fun x hx => by simpa using bad x hx), Option.none_or, List.find?_cons_of_pos (by simpa using good)]
    rfl
  rw [hr]
  refine ⟨?_, pre, y.1, post, e1, good, bad, gy, sq⟩
  rw [e2, sq, show ((grF d l : Nat) : Int) = ((grF d y.2 : Nat) : Int) + 1 by omega, Int.add_comm (sqF d y.1)]

/- Plain laws on pages: lists of breaks. -/

/-- The heights of the rows s .. t - 1. -/
def segF (hs : List Int) (s t : Nat) : Int := ((hs.drop s).take (t - s)).sum
theorem segF_self (hs : List Int) (s : Nat) : segF hs s s = 0 := by simp [segF]
theorem segF_next {hs : List Int} {s t : Nat} {h : Int} (hst : s ≤ t) (ht : hs[t]? = some h) : segF hs s (t + 1) = segF hs s t + h := by
  unfold segF
  rw [show t + 1 - s = t - s + 1 by omega, List.take_add_one, List.getElem?_drop, show s + (t - s) = t by omega, ht]
  simp
theorem seg_bound {hs : List Int} {d : Int} (hl : ∀ h ∈ hs, 0 ≤ h ∧ h ≤ d) (s t : Nat) : 0 ≤ segF hs s t := by
  unfold segF
  have : ∀ l : List Int, (∀ h ∈ l, 0 ≤ h) → 0 ≤ l.sum := fun l => by
    induction l with
    | nil => intro _; simp
    | cons a r ih => intro h; have := h a (by simp); have := ih fun x hx => h x (by simp [hx]); simp; omega
  exact this _ fun h hh => (hl h (List.mem_of_mem_drop (List.mem_of_mem_take hh))).1
theorem cuts_at {d : Int} {hs : List Int} {s : Nat} : ∀ (k t : Nat), hs.length - t = k → s ≤ t → ∀ x ∈ cutsF d (segF hs s t) (hs.drop t), ∃ e, t < e ∧ e ≤ hs.length ∧ x = (segF hs s e, hs.drop e) ∧ segF hs s e ≤ d
  | 0, t, hk, hst, x, hx => by
    rw [List.drop_eq_nil_of_le (by omega)] at hx; cases hx
  | k + 1, t, hk, hst, x, hx => by
    have ht : t < hs.length := by omega
    rw [List.drop_eq_getElem_cons ht, cutsF] at hx
    have e := segF_next hst (List.getElem?_eq_getElem ht)
    by_cases c : segF hs s t + hs[t] ≤ d
    · rw [if_pos c, ← e] at hx
      rcases List.mem_cons.1 hx with rfl | hx
      · exact ⟨t + 1, by omega, by omega, rfl, by omega⟩
      · obtain ⟨y, h1, h2, h3, h4⟩ := cuts_at k (t + 1) (by omega) (by omega) x hx
        exact ⟨y, by omega, h2, h3, h4⟩
    · rw [if_neg c] at hx; cases hx
theorem cuts_of {d : Int} {hs : List Int} (hl : ∀ h ∈ hs, 0 ≤ h ∧ h ≤ d) {s e : Nat} (he : e ≤ hs.length) (hd : segF hs s e ≤ d) : ∀ (k t : Nat), e - t = k → s ≤ t → t < e → (segF hs s e, hs.drop e) ∈ cutsF d (segF hs s t) (hs.drop t)
  | 0, t, hk, hst, hte => by omega
  | k + 1, t, hk, hst, hte => by
    have ht : t < hs.length := by omega
    rw [List.drop_eq_getElem_cons ht, cutsF]
    have e1 := segF_next hst (List.getElem?_eq_getElem ht)
    by_cases c : t + 1 = e
    · subst c
      rw [if_pos (by omega), e1]; simp
    · have ih := cuts_of hl he hd k (t + 1) (by omega) (by omega) (by omega)
      have : segF hs s (t + 1) ≤ segF hs s e := by
        have mono : ∀ j a, a + j = e → s ≤ a → segF hs s a ≤ segF hs s e := by
          intro j
          induction j with
          | zero => intro a h _; rw [show a = e by omega]; exact Int.le_refl _
          | succ j ih => 
            intro a h hs'
            have ha : a < hs.length := by omega
            have := segF_next hs' (List.getElem?_eq_getElem ha)
            have := (hl _ (List.getElem_mem ha)).1
            have := ih (a + 1) (by omega) (by omega)
            omega
        exact mono (e - (t + 1)) (t + 1) (by omega) (by omega)
      rw [if_pos (by omega), ← e1]
      exact List.mem_cons_of_mem _ ih
/-- A list of breaks that fills no page beyond its depth, and its squares. -/
inductive Part (d : Int) (hs : List Int) : Nat → List Int → Int → Prop where
  | one {s : Nat} (h1 : s < hs.length) (h2 : segF hs s hs.length ≤ d) : Part d hs s [] (sqF d (segF hs s hs.length))
  | more {s e : Nat} {bs : List Int} {t : Int} (h1 : s < e) (h2 : e < hs.length) (h3 : segF hs s e ≤ d) (h4 : Part d hs e bs t) : Part d hs s ((e : Int) :: bs) (sqF d (segF hs s e) + t)
theorem Part.cost {d : Int} {hs : List Int} (hl : ∀ h ∈ hs, 0 ≤ h ∧ h ≤ d) {s : Nat} {bs : List Int} {t : Int} (h : Part d hs s bs t) : 0 ≤ costF d (bs.length + 1) (hs.drop s) ∧ costF d (bs.length + 1) (hs.drop s) ≤ t := by
  induction h with
  | @one s h1 h2 =>
    have m := cuts_of (d := d) hl (Nat.le_refl _) h2 _ s rfl (Nat.le_refl _) h1
    rw [segF_self] at m
    have c := cost_le (p := 0) m (by rw [costF, if_pos (by simp)]; omega)
    have e : costF d 0 (hs.drop hs.length) = 0 := by rw [costF, if_pos (by simp)]
    exact ⟨c.1, by have := c.2; rw [e] at this; simpa using this⟩
  | @more s e bs t h1 h2 h3 h4 ih =>
    have m := cuts_of (d := d) hl (by omega) h3 _ s rfl (Nat.le_refl _) h1
    rw [segF_self] at m
    have c := cost_le (p := bs.length + 1) m ih.1
    rw [List.length_cons]
    exact ⟨c.1, by have := c.2; have := ih.2; simp only at *; omega⟩
theorem Part.nonneg {d : Int} {hs : List Int} {s : Nat} {bs : List Int} {t : Int} (h : Part d hs s bs t) : 0 ≤ t := by
  induction h with
  | one h1 h2 => exact sq_nonneg _ _
  | @more s e bs t h1 h2 h3 h4 ih => have := sq_nonneg d (segF hs s e); omega
/-! ### The two lists -/
def evenN (d n : Int) : Nat → List Int → List Int
  | 0, _ => []
  | k + 1, l => (n - (restF d l).length) :: evenN d n k (restF d l)
def evenF (d : Int) (l : List Int) : List Int := evenN d l.length (grF d l - 1) l
theorem evenN_length (d n : Int) : ∀ (k : Nat) (l : List Int), (evenN d n k l).length = k
  | 0, _ => rfl
  | k + 1, l => by rw [evenN, List.length_cons, evenN_length d n k]
theorem gr_nil {d : Int} {l : List Int} (h : grF d l = 0) : l = [] := by
  unfold grF at h
  split at h
  · assumption
  · omega
/-- What the first page of the best leaves. -/
theorem rest_at {d : Int} {hs : List Int} (hl : ∀ h ∈ hs, 0 ≤ h ∧ h ≤ d) (hd : 0 ≤ d) {s : Nat} (hs' : s < hs.length) : ∃ e, s < e ∧ e ≤ hs.length ∧ restF d (hs.drop s) = hs.drop e ∧ segF hs s e ≤ d ∧ goodCut d (hs.drop s) (segF hs s e, hs.drop e) ∧ grF d (hs.drop e) + 1 = grF d (hs.drop s) ∧ sqrF d (hs.drop s) = sqF d (segF hs s e) + sqrF d (hs.drop e) := by
  have ne : hs.drop s ≠ [] := by intro h; have := congrArg List.length h; simp at this; omega
  obtain ⟨-, pre, u, post, e1, g, -, g1, g2⟩ := pfold_best (fun h hh => hl h (List.mem_of_mem_drop hh)) hd ne []
  have m : (u, restF d (hs.drop s)) ∈ cutsF d (segF hs s s) (hs.drop s) := by rw [segF_self, e1]; simp
  obtain ⟨e, a1, a2, a3, a4⟩ := cuts_at _ s rfl (Nat.le_refl _) _ m
  have h1 : u = segF hs s e := congrArg Prod.fst a3
  have h2 : restF d (hs.drop s) = hs.drop e := congrArg Prod.snd a3
  rw [h1, h2] at g
  rw [h2] at g1
  rw [h1, h2] at g2
  exact ⟨e, a1, a2, h2, a4, g, g1, g2⟩
theorem evenN_part {d : Int} {hs : List Int} (hl : ∀ h ∈ hs, 0 ≤ h ∧ h ≤ d) (hd : 0 ≤ d) : ∀ (k s : Nat), s < hs.length → grF d (hs.drop s) - 1 = k → Part d hs s (evenN d hs.length k (hs.drop s)) (sqrF d (hs.drop s))
  | k, s, h, hk => by
    obtain ⟨e, a1, a2, a3, a4, -, a5, a6⟩ := rest_at hl hd h
    rw [a6]
    match k, hk with
    | 0, hk =>
      have z : hs.drop e = [] := gr_nil (d := d) (by omega)
      have ez : e = hs.length := by have := congrArg List.length z; simp at this; omega
      subst ez
      have q : sqrF d (hs.drop hs.length) = 0 := by rw [z]; simp [sqrF, grF, costF]
      rw [q, Int.add_zero, evenN]
      exact .one h a4
    | k + 1, hk =>
      have lt : e < hs.length := by
        rcases Nat.lt_or_ge e hs.length with h' | h'
        · exact h'
        · have z : grF d (hs.drop e) = 0 := by rw [List.drop_eq_nil_of_le h']; rfl
          omega
      rw [evenN, a3, List.length_drop, show (hs.length : Int) - ((hs.length - e : Nat) : Int) = e by omega]
      exact .more a1 lt a4 (evenN_part hl hd k e lt (by omega))
theorem breaksU_part {d : Int} {hs : List Int} (hl : ∀ h ∈ hs, 0 ≤ h ∧ h ≤ d) : ∀ (k i s : Nat), hs.length - i = k → s < i → i ≤ hs.length → segF hs s i ≤ d → ∃ t, Part d hs s (breaksU d (hs.drop i) i (segF hs s i)) t
  | 0, i, s, hk, hs', hi, h => by
    obtain rfl : i = hs.length := by omega
    rw [List.drop_length, breaksU]
    exact ⟨_, .one hs' h⟩
  | k + 1, i, s, hk, hs', hi, h => by
    have lt : i < hs.length := by omega
    rw [List.drop_eq_getElem_cons lt, breaksU]
    have e1 := segF_next (Nat.le_of_lt hs') (List.getElem?_eq_getElem lt)
    by_cases c : segF hs s i + hs[i] > d
    · rw [if_pos c]
      have e2 := segF_next (Nat.le_refl i) (List.getElem?_eq_getElem lt)
      rw [segF_self, Int.zero_add] at e2
      obtain ⟨t, ht⟩ := breaksU_part hl k (i + 1) i (by omega) (by omega) (by omega) (by rw [e2]; exact (hl _ (List.getElem_mem lt)).2)
      rw [e2] at ht
      exact ⟨_, .more hs' lt h ht⟩
    · rw [if_neg c, ← e1]
      exact breaksU_part hl k (i + 1) s (by omega) (by omega) (by omega) (by omega)
theorem breaksF_part {d : Int} {hs : List Int} (hl : ∀ h ∈ hs, 0 ≤ h ∧ h ≤ d) (hn : hs ≠ []) : ∃ t, Part d hs 0 (breaksF d hs) t := by
  match hs, hl, hn with
  | h :: t, hl, _ =>
    have hh := hl h (by simp)
    have e : segF (h :: t) 0 1 = h := by simp [segF]
    obtain ⟨x, hx⟩ := breaksU_part hl _ 1 0 rfl (by omega) (by simp) (by rw [e]; exact hh.2)
    rw [e] at hx
    rw [breaksF, breaksU, if_neg (by omega), Int.zero_add, Int.zero_add]
    exact ⟨x, hx⟩
theorem breaksF_length {d : Int} {hs : List Int} (hn : hs ≠ []) : (breaksF d hs).length = grF d hs - 1 := by
  rw [breaksF, breaksU_length, grF, if_neg hn]; omega
theorem even_length {d : Int} {hs : List Int} : (evenF d hs).length = grF d hs - 1 := evenN_length _ _ _ _
theorem even_breaks_length {d : Int} {hs : List Int} : (evenF d hs).length = (breaksF d hs).length := by
  by_cases e : hs = []
  · subst e; rfl
  · rw [even_length, breaksF_length e]
theorem even_part {d : Int} {hs : List Int} (hl : ∀ h ∈ hs, 0 ≤ h ∧ h ≤ d) (hd : 0 ≤ d) (hn : hs ≠ []) : Part d hs 0 (evenF d hs) (sqrF d hs) := by
  have := evenN_part hl hd (grF d hs - 1) 0 (List.length_pos_iff.2 hn) rfl
  exact this
/-- The squares of the full pages are no fewer. -/
theorem breaks_cost {d : Int} {hs : List Int} (hl : ∀ h ∈ hs, 0 ≤ h ∧ h ≤ d) (hd : 0 ≤ d) (hn : hs ≠ []) {t : Int} (h : Part d hs 0 (breaksF d hs) t) : sqrF d hs ≤ t := by
  have c := (h.cost hl).2
  have g : 0 < grF d hs := Nat.pos_of_ne_zero fun h0 => hn (gr_nil h0)
  rw [breaksF_length hn, show grF d hs - 1 + 1 = grF d hs by omega] at c
  simpa [sqrF] using c
theorem Part.le {d : Int} {hs : List Int} (hl : ∀ h ∈ hs, 0 ≤ h ∧ h ≤ d) (hd : d ≤ 1000) {s : Nat} {bs : List Int} {t : Int} (h : Part d hs s bs t) : t ≤ 1000000 * (bs.length + 1) := by
  induction h with
  | @one s h1 h2 => have := sq_le (seg_bound hl s hs.length) h2 hd; simp; omega
  | @more s e bs t h1 h2 h3 h4 ih =>
    have := sq_le (seg_bound hl s e) h3 hd
    rw [List.length_cons]; omega
theorem Part.length {d : Int} {hs : List Int} {s : Nat} {bs : List Int} {t : Int} (h : Part d hs s bs t) : bs.length + 1 ≤ hs.length - s := by
  induction h with
  | one h1 h2 => simp; omega
  | more h1 h2 h3 h4 ih => rw [List.length_cons]; omega

/- Plain laws on marks: rows that are joined. -/

/-- impl.heightWithout from row i on, of which the part so far is row. -/
def hwF (ms : List Int) : Nat → List Int → List (List Int) → Int
  | _, row, [] => hiF row
  | i, row, r :: t => if (i : Int) ∈ ms then hwF ms (i + 1) (addR row r) t else hiF row + hwF ms (i + 1) r t
def hwL (l : List (List Int)) (ms : List Int) : Int := match l with
  | [] => 0
  | r :: t => hwF ms 0 r t
/-- spec.plLeft. -/
def leftL (l : List (List Int)) (ms : List Int) : List (List Int) := ms.foldr (fun m l => joinF l m.toNat) l
def leftF (l : List (List Int)) (ms : List Int) : Int := totalF (leftL l ms)
theorem addR_assoc : ∀ (a b c : List Int), addR (addR a b) c = addR a (addR b c)
  | [], _, _ => by simp [addR]
  | _ :: _, [], _ => by simp [addR]
  | _ :: _, _ :: _, [] => by simp [addR]
  | x :: a, y :: b, z :: c => by
    have := addR_assoc a b c
    simp only [addR, List.zipWith_cons_cons] at this ⊢
    rw [this, Int.add_assoc]
theorem total_cons (r : List Int) (t : List (List Int)) : totalF (r :: t) = hiF r + totalF t := by simp [totalF, heightsF]
/-- No marks from row i on. -/
theorem hw_tail {ms : List Int} : ∀ (t : List (List Int)) (i : Nat) (x : List Int), (∀ m ∈ ms, m < i) → hwF ms i x t = hiF x + totalF t
  | [], i, x, h => by simp [hwF, totalF, heightsF]
  | r :: t, i, x, h => by
    rw [hwF, if_neg (fun hm => by have := h _ hm; omega), hw_tail t (i + 1) r (fun m hm => by have := h m hm; omega), total_cons]
theorem last_lt {ms : List Int} {m : Nat} (hms : ∀ x ∈ ms, x < m) : ∀ y ∈ ms ++ [(m : Int)], y < ((m + 1 : Nat) : Int) := fun y hy => by
  rcases List.mem_append.1 hy with h | h
  · have := hms y h; omega
  · have : y = (m : Int) := by simpa using h
    omega
theorem hw_cons (ms : List Int) (i : Nat) (row r : List Int) (t : List (List Int)) : hwF ms i row (r :: t) = if (i : Int) ∈ ms then hwF ms (i + 1) (addR row r) t else hiF row + hwF ms (i + 1) r t := rfl
/-- The last mark alone. -/
theorem hw_last {ms : List Int} {m : Nat} (hms : ∀ x ∈ ms, x < m) : ∀ (k : Nat) (i : Nat) (row : List Int) (rest : List (List Int)), i + 1 + k = m → k + 1 < rest.length → hwF (ms ++ [(m : Int)]) i row rest = hwF ms i row (joinF rest k)
  | 0, i, row, rest, e, hl => by
    match rest, hl with
    | a :: b :: t, _ =>
      have j : joinF (a :: b :: t) 0 = addR a b :: t := rfl
      have tl : ∀ (x : List Int), hwF (ms ++ [(m : Int)]) (m + 1) x t = hwF ms m x t := fun x => by
        rw [hw_tail t (m + 1) x (last_lt hms), hw_tail t m x (fun y hy => hms y hy)]
      have im : i + 1 = m := by omega
      rw [j, hw_cons _ i row a, hw_cons _ i row (addR a b)]
      have mm : (m : Int) ∈ ms ++ [(m : Int)] := by simp
      by_cases c : (i : Int) ∈ ms
      · rw [if_pos (by simp [c]), if_pos c, im, hw_cons, if_pos mm, tl, addR_assoc]
      · rw [if_neg (by simp [c]; omega), if_neg c, im, hw_cons, if_pos mm, tl]
  | k + 1, i, row, rest, e, hl => by
    match rest, hl with
    | a :: t, hl =>
      have j : joinF (a :: t) (k + 1) = a :: joinF t k := rfl
      have ih := fun x => hw_last hms k (i + 1) x t (by omega) (by simp at hl; omega)
      rw [j, hw_cons _ i row a, hw_cons _ i row a, ih, ih]
      by_cases c : (i : Int) ∈ ms
      · rw [if_pos (by simp [c]), if_pos c]
      · rw [if_neg (by simp [c]; omega), if_neg c]
theorem hwL_last {ms : List Int} {m : Nat} (hms : ∀ x ∈ ms, x < m) {l : List (List Int)} (hl : m + 1 < l.length) : hwL l (ms ++ [(m : Int)]) = hwL (joinF l m) ms := by
  match m, l, hl with
  | 0, a :: b :: t, _ =>
    have j : joinF (a :: b :: t) 0 = addR a b :: t := rfl
    rw [j]
    show hwF (ms ++ [((0 : Nat) : Int)]) 0 a (b :: t) = hwF ms 0 (addR a b) t
    rw [hwF, if_pos (by simp), hw_tail t 1 _ (last_lt hms), hw_tail t 0 _ (fun y hy => hms y hy)]
  | m + 1, a :: t, hl =>
    have j : joinF (a :: t) (m + 1) = a :: joinF t m := rfl
    rw [j]
    exact hw_last hms m 0 a t (by omega) (by simp at hl; omega)
theorem join_length {l : List (List Int)} {m : Nat} (hl : m + 1 < l.length) : (joinF l m).length = l.length - 1 := by
  unfold joinF; simp; omega
/-- Marks in order, all in front of a row. -/
def MarksOk (n : Nat) (ms : List Int) : Prop := ms.Pairwise (· < ·) ∧ ∀ m ∈ ms, 0 ≤ m ∧ m + 1 < n
theorem hw_left : ∀ (k : Nat) (ms : List Int) (l : List (List Int)), ms.length = k → MarksOk l.length ms → hwL l ms = leftF l ms
  | 0, ms, l, hk, h => by
    obtain rfl := List.length_eq_zero_iff.1 hk
    cases l with
    | nil => rfl
    | cons r t => exact (hw_tail t 0 r (fun m hm => by cases hm)).trans (total_cons r t).symm
  | k + 1, ms, l, hk, h => by
    obtain ⟨i, m, rfl⟩ : ∃ i m, ms = i ++ [m] := ⟨ms.dropLast, ms.getLast (by intro e; simp [e] at hk), (List.dropLast_concat_getLast _).symm⟩
    have hm := h.2 m (by simp)
    have hp := List.pairwise_append.1 h.1
    have hi : ∀ x ∈ i, x < m := fun x hx => hp.2.2 x hx m (by simp)
    have em : ((m.toNat : Nat) : Int) = m := by omega
    have a := hwL_last (m := m.toNat) (l := l) (ms := i) (fun x hx => by have := hi x hx; omega) (by omega)
    rw [em] at a
    rw [a, hw_left k i (joinF l m.toNat) (by simpa using hk) ⟨hp.1, fun x hx => by
      have := h.2 x (by simp [hx]); have := hi x hx
      rw [join_length (by omega)]; omega⟩]
    unfold leftF leftL
    rw [List.foldr_append]; rfl
theorem left_le : ∀ (ms : List Int) (l : List (List Int)), MarksOk l.length ms → totalF (leftL l ms) ≤ totalF l ∧ (leftL l ms).length = l.length - ms.length
  | [], l, _ => ⟨Int.le_refl _, rfl⟩
  | m :: r, l, h => by
    have hr : MarksOk l.length r := ⟨(List.pairwise_cons.1 h.1).2, fun x hx => h.2 x (by simp [hx])⟩
    have ih := left_le r l hr
    have hm := h.2 m (by simp)
    have room : (m : Int) + 1 < l.length - r.length := by
      have key : ∀ (r : List Int) (m : Int), (m :: r).Pairwise (· < ·) → (∀ x ∈ m :: r, x + 1 < l.length) → m + 1 + r.length < l.length := by
        intro r
        induction r with
        | nil => intro m _ hx; have := hx m (by simp); simp; omega
        | cons b s ih =>
          intro m hp hx
          have hp' := List.pairwise_cons.1 hp
          have := hp'.1 b (by simp)
          have := ih b hp'.2 (fun x h => hx x (by simp at h ⊢; exact .inr h))
          simp at this ⊢; omega
      have := key r m h.1 (fun x hx => (h.2 x hx).2)
      omega
    have e : leftL l (m :: r) = joinF (leftL l r) m.toNat := rfl
    have hlt : m.toNat + 1 < (leftL l r).length := by rw [ih.2]; omega
    rw [e, total_join hlt, join_length hlt, ih.2, List.length_cons]
    have := saved_nn (leftL l r) m.toNat
    exact ⟨by omega, by omega⟩
/-! ### The first least of all choices -/
def stepM (h : List Int → Int) (s : List Int × Int) (ms : List Int) : List Int × Int := if s.2 < 0 ∨ h ms < s.2 then (ms, h ms) else s
def mergeM (s t : List Int × Int) : List Int × Int := if 0 ≤ t.2 ∧ (s.2 < 0 ∨ t.2 < s.2) then t else s
/-- impl.LeaveMarks: what is found from the marks ms on, k of them lacking. -/
def nextS (n : Nat) (h : List Int → Int) : Nat → Nat → List Int → List Int × Int → List Int × Int
  | 0, _, ms, s => stepM h s ms
  | k + 1, f, ms, s => (List.range' f (n - 1 - f)).foldl (fun s i => nextS n h k (i + 1) (ms ++ [(i : Int)]) s) s
/-- spec.plChoose. -/
def chooseS (n : Nat) (h : List Int → Int) : Nat → Nat → List Int → List Int × Int
  | 0, _, ms => (ms, h ms)
  | k + 1, f, ms => (List.range' f (n - 1 - f)).foldl (fun s i => mergeM s (chooseS n h k (i + 1) (ms ++ [(i : Int)]))) ([], -1)
theorem merge_assoc (a b c : List Int × Int) : mergeM (mergeM a b) c = mergeM a (mergeM b c) := by
  unfold mergeM
  by_cases h1 : 0 ≤ b.2 ∧ (a.2 < 0 ∨ b.2 < a.2) <;> by_cases h2 : 0 ≤ c.2 ∧ (b.2 < 0 ∨ c.2 < b.2)
  · rw [if_pos h1, if_pos h2, if_pos (by omega)]
  · rw [if_pos h1, if_neg h2, if_pos h1]
  · rw [if_neg h1, if_pos h2]
  · rw [if_neg h1, if_neg h2, if_neg h1]
    by_cases h3 : 0 ≤ c.2 ∧ (a.2 < 0 ∨ c.2 < a.2)
    · exfalso; omega
    · rw [if_neg h3]
theorem merge_none {s : List Int × Int} : mergeM s ([], -1) = s := by unfold mergeM; rw [if_neg (by simp)]
theorem merge_fold (c : Nat → List Int × Int) : ∀ (xs : List Nat) (s : List Int × Int), xs.foldl (fun s i => mergeM s (c i)) s = mergeM s (xs.foldl (fun s i => mergeM s (c i)) ([], -1))
  | [], s => by simp [merge_none]
  | x :: r, s => by
    rw [List.foldl_cons, List.foldl_cons, merge_fold c r (mergeM s (c x)), merge_fold c r (mergeM ([], -1) (c x)), ← merge_assoc s, ← merge_assoc s, merge_none]
theorem merge_facts (c : Nat → List Int × Int) : ∀ (xs : List Nat) (s : List Int × Int),
    (xs.foldl (fun s i => mergeM s (c i)) s = s ∨ ∃ i ∈ xs, xs.foldl (fun s i => mergeM s (c i)) s = c i ∧ 0 ≤ (c i).2) ∧
    (0 ≤ s.2 → 0 ≤ (xs.foldl (fun s i => mergeM s (c i)) s).2 ∧ (xs.foldl (fun s i => mergeM s (c i)) s).2 ≤ s.2) ∧
    (∀ i ∈ xs, 0 ≤ (c i).2 → 0 ≤ (xs.foldl (fun s i => mergeM s (c i)) s).2 ∧ (xs.foldl (fun s i => mergeM s (c i)) s).2 ≤ (c i).2)
  | [], s => ⟨.inl rfl, fun h => ⟨h, Int.le_refl _⟩, fun i hi => (by cases hi)⟩
  | x :: r, s => by
    obtain ⟨a1, a2, a3⟩ := merge_facts c r (mergeM s (c x))
    rw [List.foldl_cons]
    have st : (mergeM s (c x) = s ∨ (mergeM s (c x) = c x ∧ 0 ≤ (c x).2)) ∧ (0 ≤ s.2 → 0 ≤ (mergeM s (c x)).2 ∧ (mergeM s (c x)).2 ≤ s.2) ∧ (0 ≤ (c x).2 → 0 ≤ (mergeM s (c x)).2 ∧ (mergeM s (c x)).2 ≤ (c x).2) := by
      unfold mergeM
      split
      · rename_i h
        exact ⟨.inr ⟨rfl, h.1⟩, fun _ => by omega, fun _ => by omega⟩
      · exact ⟨.inl rfl, fun _ => by omega, fun _ => by omega⟩
    refine ⟨?_, fun h => ?_, fun i hi h => ?_⟩
    · rcases a1 with e | ⟨i, hi, e⟩
      · rcases st.1 with f | ⟨f, f2⟩
        · exact .inl (by rw [e, f])
        · exact .inr ⟨x, by simp, by rw [e, f], f2⟩
      · exact .inr ⟨i, by simp [hi], e⟩
    · have b := st.2.1 h
      have := a2 b.1
      omega
    · rcases List.mem_cons.1 hi with rfl | hi
      · have b := st.2.2 h
        have := a2 b.1
        omega
      · exact a3 i hi h
theorem next_choose {n : Nat} {h : List Int → Int} (h0 : ∀ ms, 0 ≤ h ms) : ∀ (k f : Nat) (ms : List Int) (s : List Int × Int), nextS n h k f ms s = mergeM s (chooseS n h k f ms)
  | 0, f, ms, s => by
    rw [nextS, chooseS, stepM, mergeM]
    by_cases c : s.2 < 0 ∨ h ms < s.2
    · rw [if_pos c, if_pos ⟨h0 ms, c⟩]
    · rw [if_neg c, if_neg (fun x => c x.2)]
  | k + 1, f, ms, s => by
    rw [nextS, chooseS, ← merge_fold]
    congr 1
    funext s i
    exact next_choose h0 k (i + 1) (ms ++ [(i : Int)]) s
theorem marks_snoc {n : Nat} {ms : List Int} (h : MarksOk n ms) {i : Nat} (hi : ∀ m ∈ ms, m < i) (hn : i + 1 < n) : MarksOk n (ms ++ [(i : Int)]) := by
  refine ⟨List.pairwise_append.2 ⟨h.1, by simp, fun x hx y hy => ?_⟩, fun m hm => ?_⟩
  · obtain rfl : y = (i : Int) := by simpa using hy
    exact hi x hx
  · rcases List.mem_append.1 hm with hm | hm
    · exact h.2 m hm
    · obtain rfl : m = (i : Int) := by simpa using hm
      omega
theorem choose_cand {n : Nat} {h : List Int → Int} (h0 : ∀ ms, 0 ≤ h ms) : ∀ (k f : Nat) (ms : List Int), MarksOk n ms → (∀ m ∈ ms, m < f) →
    (chooseS n h k f ms = ([], -1) ∨ ∃ ms', chooseS n h k f ms = (ms', h ms') ∧ MarksOk n ms' ∧ ms'.length = ms.length + k) ∧ (k = 0 ∨ f + k + 1 ≤ n → 0 ≤ (chooseS n h k f ms).2)
  | 0, f, ms, hm, hf => ⟨.inr ⟨ms, rfl, hm, rfl⟩, fun _ => h0 ms⟩
  | k + 1, f, ms, hm, hf => by
    have sub : ∀ i ∈ List.range' f (n - 1 - f), f ≤ i ∧ i + 1 < n ∧ MarksOk n (ms ++ [(i : Int)]) ∧ ∀ m ∈ ms ++ [(i : Int)], m < ((i + 1 : Nat) : Int) := fun i hi => by
      have := List.mem_range'_1.1 hi
      exact ⟨this.1, by omega, marks_snoc hm (fun m hm => by have := hf m hm; omega) (by omega), last_lt (fun m hm => by have := hf m hm; omega)⟩
    obtain ⟨a1, -, a3⟩ := merge_facts (fun i => chooseS n h k (i + 1) (ms ++ [(i : Int)])) (List.range' f (n - 1 - f)) ([], -1)
    rw [chooseS]
    refine ⟨?_, fun hk => ?_⟩
    · rcases a1 with e | ⟨i, hi, e, hp⟩
      · exact .inl e
      · obtain ⟨s1, s2, s3, s4⟩ := sub i hi
        rcases (choose_cand h0 k (i + 1) _ s3 s4).1 with e' | ⟨ms', e', o, l⟩
        · exact .inl (e.trans e')
        · exact .inr ⟨ms', e.trans e', o, by rw [l, List.length_append, List.length_singleton]; omega⟩
    · have hf : f ∈ List.range' f (n - 1 - f) := List.mem_range'_1.2 ⟨Nat.le_refl _, by omega⟩
      obtain ⟨s1, s2, s3, s4⟩ := sub f hf
      exact (a3 f hf ((choose_cand h0 k (f + 1) _ s3 s4).2 (by omega))).1
/-- The answer of both. -/
def leaveOk (l : List (List Int)) (k : Int) : Bool := (parB l && inB k 0 4) && decide (k ≤ max 0 ((l.length : Int) - 1))
def leaveF (l : List (List Int)) (k : Int) : List Int × Int := chooseS l.length (leftF l) k.toNat 0 []
def leaveAns (l : List (List Int)) (k : Int) : List Int × Int × Bool := if leaveOk l k then ((leaveF l k).1, (leaveF l k).2, true) else ([], 0, false)
theorem hi_nn (l : List (List Int)) : 0 ≤ totalF l := by
  unfold totalF heightsF
  induction l with
  | nil => simp
  | cons r t ih => have := (hiF_ge r).1; simp; omega
theorem left_nn (l : List (List Int)) (ms : List Int) : 0 ≤ leftF l ms := hi_nn _
theorem leave_facts {l : List (List Int)} {k : Int} (h : leaveOk l k = true) : MarksOk l.length (leaveF l k).1 ∧ ((leaveF l k).1.length : Int) = k ∧ (leaveF l k).2 = leftF l (leaveF l k).1 ∧ (leaveF l k).2 ≤ totalF l ∧ 0 ≤ (leaveF l k).2 := by
  simp only [leaveOk, Bool.and_eq_true, decide_eq_true_eq] at h
  have hk := inB_spec h.1.2
  obtain ⟨a, b⟩ := choose_cand (n := l.length) (left_nn l) k.toNat 0 [] ⟨.nil, fun m hm => (by cases hm)⟩ (fun m hm => (by cases hm))
  have b' := b (by omega)
  rcases a with e | ⟨ms, e, o, q⟩
  · rw [e] at b'; exact absurd b' (by simp)
  · have e' : leaveF l k = (ms, leftF l ms) := e
    rw [e']
    exact ⟨o, by rw [show ((ms, leftF l ms) : List Int × Int).1 = ms from rfl, q, List.length_nil]; omega, rfl, (left_le ms l o).1, left_nn l ms⟩
theorem leave_zero (l : List (List Int)) : (leaveF l 0).2 = totalF l := rfl
theorem leave_one {l : List (List Int)} (h : leaveOk l 1 = true) : bestPAns l = (((bestI (savedF l) (l.length - 2) : Nat) : Int), savedF l (bestI (savedF l) (l.length - 2)), true) ∧ (leaveF l 1).2 = totalF l - savedF l (bestI (savedF l) (l.length - 2)) := by
  simp only [leaveOk, Bool.and_eq_true, decide_eq_true_eq] at h
  have hn : 2 ≤ l.length := by have := h.2; omega
  refine ⟨by unfold bestPAns; rw [if_pos (by unfold markB; rw [h.1.1, inBp_of (by omega) (by omega)]; rfl)], ?_⟩
  have one : ∀ i : Nat, i + 1 < l.length → leftF l [(i : Int)] = totalF l - savedF l i := fun i hi => by
    show totalF (joinF l ((i : Int)).toNat) = _
    rw [show ((i : Int)).toNat = i by omega, total_join hi]
  obtain ⟨a1, -, a3⟩ := merge_facts (fun i => chooseS l.length (leftF l) 0 (i + 1) ([] ++ [(i : Int)])) (List.range' 0 (l.length - 1 - 0)) ([], -1)
  have e : (leaveF l 1) = (List.range' 0 (l.length - 1 - 0)).foldl (fun s i => mergeM s (chooseS l.length (leftF l) 0 (i + 1) ([] ++ [(i : Int)]))) ([], -1) := rfl
  rw [← e] at a1 a3
  have bl := bestI_le (savedF l) (l.length - 2)
  have hb : bestI (savedF l) (l.length - 2) ∈ List.range' 0 (l.length - 1 - 0) := List.mem_range'_1.2 ⟨Nat.zero_le _, by omega⟩
  have up := a3 _ hb (left_nn l _)
  have eb : leftF l ([] ++ [((bestI (savedF l) (l.length - 2) : Nat) : Int)]) = _ := one _ (by omega)
  have up2 : (leaveF l 1).2 ≤ leftF l ([] ++ [((bestI (savedF l) (l.length - 2) : Nat) : Int)]) := up.2
  rcases a1 with q | ⟨i, hi, q, -⟩
  · rw [q] at up; exact absurd up.1 (by simp)
  · have hi' := List.mem_range'_1.1 hi
    have ei : (leaveF l 1).2 = leftF l ([] ++ [(i : Int)]) := congrArg Prod.snd q
    have := bestI_ge (savedF l) (l.length - 2) i (by omega)
    have e2 : leftF l ([] ++ [(i : Int)]) = _ := one i (by omega)
    omega

/- Contracts of the functions on pages of parallel columns. -/
theorem par_rows {l : List (List Int)} (h : parB l = true) {i j : Nat} {x y : List Int} (hx : l[i]? = some x) (hy : l[j]? = some y) : x.length = y.length ∧ x.length ≤ 1000 ∧ (∀ z ∈ x, 0 ≤ z ∧ z ≤ 100000) ∧ ∀ z ∈ y, 0 ≤ z ∧ z ≤ 100000 := by
  obtain ⟨p1, p2⟩ := parB_spec h
  have a1 := p1 x (List.mem_of_getElem? hx)
  have a2 := p1 y (List.mem_of_getElem? hy)
  exact ⟨by omega, by omega, fun z hz => by have := a1.2.2.2 z hz; omega, fun z hz => by have := a2.2.2.2 z hz; omega⟩
theorem par_hi {l : List (List Int)} (h : parB l = true) {i : Nat} {x : List Int} (hx : l[i]? = some x) : 0 ≤ hiF x ∧ hiF x ≤ 200 := hiF_in h x (List.mem_of_getElem? hx)
theorem saved_at {l : List (List Int)} {i : Nat} {x y : List Int} (hx : l[i]? = some x) (hy : l[i + 1]? = some y) : savedF l i = hiF x + hiF y - hiF (addR x y) := by
  unfold savedF; rw [rowAt_some hx, rowAt_some hy]
theorem joinF_at {l : List (List Int)} {i : Nat} {x y : List Int} (hx : l[i]? = some x) (hy : l[i + 1]? = some y) : joinF l i = l.take i ++ addR x y :: l.drop (i + 2) := by
  unfold joinF; rw [rowAt_some hx, rowAt_some hy]
theorem join_small {l : List (List Int)} (h : parB l = true) (i : Nat) : (∀ r ∈ joinF l i, ∀ z ∈ r, z ≤ 4000) ∧ (joinF l i).length ≤ 1000 := by
  obtain ⟨p1, p2⟩ := parB_spec h
  have hr : ∀ j, ∀ z ∈ rowAt l j, z ≤ 200 := fun j z hz => by
    unfold rowAt at hz
    rw [List.getD_eq_getElem?_getD] at hz
    cases e : l[j]? with
    | none => rw [e] at hz; cases hz
    | some r => rw [e] at hz; exact ((p1 r (List.mem_of_getElem? e)).2.2.2 z hz).2
  refine ⟨fun r hr2 z hz => ?_, by simp [joinF]; omega⟩
  unfold joinF at hr2
  rcases List.mem_append.1 hr2 with hm | hm
  · have := (p1 r (List.mem_of_mem_take hm)).2.2.2 z hz; omega
  · rcases List.mem_cons.1 hm with rfl | hm
    · obtain ⟨x, hx, y, hy, rfl⟩ := mem_addR hz
      have := hr _ x hx; have := hr _ y hy; omega
    · have := (p1 r (List.mem_of_mem_drop hm)).2.2.2 z hz; omega
theorem heights_fits {l : List (List Int)} (h : parB l = true) : SumFits (heightsF l) := by
  have h2 := (parB_spec h).2
  refine sumfits_of 200 (fun n hn => ?_) (by simp [heightsF]; omega)
  obtain ⟨r, hr, rfl⟩ := List.mem_map.1 hn
  have := hiF_in h r hr
  omega
theorem mark_spec {l : List (List Int)} {i : Int} (h : markB l i = true) : parB l = true ∧ 0 ≤ i ∧ i + 1 < l.length := by
  simp only [markB, Bool.and_eq_true] at h
  have := inB_spec h.2
  exact ⟨h.1, by omega, by omega⟩
theorem mark_of {l : List (List Int)} {i r : Int} (h1 : parB l = true) (hr : r = l.length - 2) (h2 : inB i 0 r = true) : markB l i = true := by
  unfold markB; rw [h1, ← hr, h2]; rfl
theorem mark_no {l : List (List Int)} {i r : Int} (hr : r = l.length - 2) (h2 : inB i 0 r = false) : markB l i = false := by
  unfold markB; rw [← hr, h2, Bool.and_false]
theorem par_400 {l : List (List Int)} (h : parB l = true) : (∀ r ∈ l, ∀ z ∈ r, z ≤ 4000) ∧ l.length ≤ 1000 := by
  obtain ⟨p1, p2⟩ := parB_spec h
  exact ⟨fun r hr z hz => by have := (p1 r hr).2.2.2 z hz; omega, by omega⟩
theorem total_all {l : List (List Int)} (hb : ∀ r ∈ l, ∀ z ∈ r, z ≤ 4000) : 0 ≤ totalF l ∧ totalF l ≤ 4000 * l.length := by
  have := total_bound hb l.length
  rwa [List.take_length] at this
def bestJ (f : Nat → Int) : Nat → Nat
  | 0 => 0
  | k + 1 => bestI f k
theorem bestJ_step {f : Nat → Int} {k b : Nat} (h : b = bestJ f k) : bestJ f (k + 1) = if f k > f b then k else b := by
  subst h
  cases k with
  | zero => show 0 = _; split <;> rfl
  | succ k => rfl

def rowsB (l : List (List Int)) (d : Int) : Bool := (parB l && inB d 1 1000) && decide (hiF (heightsF l) ≤ d)
theorem rowsB_spec {l : List (List Int)} {d : Int} (h : rowsB l d = true) : parB l = true ∧ (1 ≤ d ∧ d ≤ 1000) ∧ (∀ x ∈ heightsF l, 0 ≤ x ∧ x ≤ d) ∧ (heightsF l).length = l.length ∧ l.length ≤ 24 := by
  simp only [rowsB, Bool.and_eq_true, decide_eq_true_eq] at h
  refine ⟨h.1.1, inB_spec h.1.2, fun x hx => ?_, by simp [heightsF], (parB_spec h.1.1).2⟩
  obtain ⟨r, hr, rfl⟩ := List.mem_map.1 hx
  exact ⟨(hiF_ge r).1, Int.le_trans ((hiF_ge _).2 _ hx) h.2⟩
theorem rows_all {l : List (List Int)} {d : Int} (hp : parB l = true) (hd : inB d 1 1000 = true) : rowsB l d = allB (heightsF l) 0 d := by
  unfold rowsB
  rw [hp, hd]
  have := inB_spec hd
  by_cases e : hiF (heightsF l) ≤ d
  · rw [decide_eq_true e, allB_of fun n hn => ?_]; rfl
    obtain ⟨r, hr, rfl⟩ := List.mem_map.1 hn
    exact ⟨(hiF_ge r).1, Int.le_trans ((hiF_ge _).2 _ hn) e⟩
  · rw [decide_eq_false e]
    cases q : allB (heightsF l) 0 d with
    | false => rfl
    | true => exact absurd (hiF_le (by omega) fun z hz => (allB_mem q z hz).2) e
def pagesAns (l : List (List Int)) (d : Int) : List Int × Bool := if rowsB l d then (breaksF d (heightsF l), true) else ([], false)
def breaksT (d : Int) (hs : List Int) (k : Nat) (u : Int) : List Int := breaksU d (hs.drop k) k u
theorem breaksT_step {d : Int} {hs : List Int} {k : Nat} {u h : Int} (hh : hs[k]? = some h) : breaksT d hs k u = if u + h > d then (k : Int) :: breaksT d hs (k + 1) h else breaksT d hs (k + 1) (u + h) := by
  have hk := (List.getElem?_eq_some_iff.1 hh).1
  unfold breaksT
  rw [List.drop_eq_getElem_cons hk, breaksU, (List.getElem?_eq_some_iff.1 hh).2]
  rfl
theorem breaksT_end {d : Int} {hs : List Int} {k : Nat} {u : Int} (h : hs.length ≤ k) : breaksT d hs k u = [] := by
  unfold breaksT; rw [List.drop_eq_nil_of_le h]; rfl
theorem savedBy_ok (l : List (List Int)) (i : Int) (hp : parB l = true) (hi : 0 ≤ i ∧ i + 1 < l.length) : OkA Try.prog 69 [.isl 1 (rows (cSl 1 cInt) l), .int .i64 i] (· = .int .i64 (savedF l i.toNat)) :=
  fn_intro envOk fieldsOk mixed Try.func69 rfl fun κ X Y L Q m hQ => by
    have hl4 := (parB_spec hp).2
    conv => cbv
    refine r_draw m (by kernel_rfl) ?_
    conv => cbv
    refine r_index m.sY (by omega) (by omega) fun x1 hx1 => ?_
    conv => cbv
    have mx1 := get_mem hx1
    have w1 := par_hi hp hx1
    refine r_callFS (PV.int .i64) m.sY (greatest_ok x1) trivial fun r1 hr1 => ?_
    conv => cbv
    refine r_addf m.sY (by omega) (by omega) fun r2 hr2 => ?_
    conv => cbv
    refine r_index m.sY (by omega) (by omega) fun x2 hx2 => ?_
    conv => cbv
    have mx2 := get_mem hx2
    have w2 := par_hi hp hx2
    refine r_callFS (PV.int .i64) m.sY (greatest_ok x2) trivial fun r3 hr3 => ?_
    conv => cbv
    refine r_addf m.sY (by omega) (by omega) fun r4 hr4 => ?_
    conv => cbv
    refine r_index m.sY (by omega) (by omega) fun x3 hx3 => ?_
    conv => cbv
    have mx3 := get_mem hx3
    obtain rfl : x1 = x3 := Option.some.inj (hx1.symm.trans hx3)
    refine r_addf m.sY (by omega) (by omega) fun r5 hr5 => ?_
    conv => cbv
    refine r_index m.sY (by omega) (by omega) fun x4 hx4 => ?_
    conv => cbv
    have mx4 := get_mem hx4
    have e4 : x4 = x2 := (by have e : Int.toNat r5 = Int.toNat r2 := (by omega); rw [e] at hx4; exact Option.some.inj (hx4.symm.trans hx2))
    obtain ⟨j1, j2, j3, j4⟩ := par_rows hp hx1 hx4
    refine r_callFS (fun l => PV.isl _ (rows _ l)) m.sY ((joined_ok x1 x4 (by first | rfl | assumption | omega | (simp only [List.length_append, List.length_cons, List.length_nil] at *; omega)) (by first | rfl | assumption | omega | (simp only [List.length_append, List.length_cons, List.length_nil] at *; omega)) (by first | rfl | assumption | omega | (simp only [List.length_append, List.length_cons, List.length_nil] at *; omega)) (by first | rfl | assumption | omega | (simp only [List.length_append, List.length_cons, List.length_nil] at *; omega))).ice) trivial fun v1 hv1 => ?_
    conv => cbv
    refine r_callFS (PV.int .i64) m.sY (greatest_ok v1) trivial fun r6 hr6 => ?_
    conv => cbv
    have w6 := hi_addR x1 x4
    have w7 := (hiF_ge v1).1
    rw [← hv1, e4] at w6
    refine r_subf m.sY (by omega) (by omega) fun r7 hr7 => ?_
    conv => cbv
    exact hQ (.int .i64 r7) (Eq.trans (by first | rfl | (simp only [lb, lbI, rows_cons, rows_nil, unnilT, unnil, unnilTI, unnilI]; done) | (simp only [lb, lbI, rows_cons, rows_nil, unnilT, unnil, unnilTI, unnilI]; rfl)) (congrArg (PV.int .i64) (show r7 = savedF l i.toNat from by rw [saved_at hx1 (by rw [show i.toNat + 1 = r2.toNat by omega]; exact hx2), hr7, hr4, hr6, hr1, hr3, hv1, e4])))   -- leaf 1

theorem TotalHeight_ok (l : List (List Int))  : OkA Try.prog 19 [.isl 1 (rows (cSl 1 cInt) l)] (· = ib (totalAns l)) :=
  fn_intro envOk fieldsOk mixed Try.func19 rfl fun κ X Y L Q m hQ => by
    conv => cbv
    refine r_callB m.sX (AreParallel_ok l) (fun h1 => ?_) (fun h1 => ?_) <;> conv => cbv
    · have hl := (parB_spec h1).2
      refine r_callF (fun l => PV.fr _ _ (rows _ l)) m.sX (heights_ok l (by first | rfl | assumption | omega | (simp only [List.length_append, List.length_cons, List.length_nil] at *; omega))) fun v1 hv1 => ?_
      conv => cbv
      have hs : SumFits v1 := (by rw [hv1]; exact heights_fits h1)
      refine .inl (r_callFO intPV m.sX ((sum_ok v1 (by first | rfl | assumption | omega | (simp only [List.length_append, List.length_cons, List.length_nil] at *; omega))).ok flat_int) fun r1 hr1 => ?_)
      conv => cbv
      exact hQ (.tup [.int .i64 r1, .bool true]) (Eq.trans (by first | rfl | (simp only [lb, lbI, rows_cons, rows_nil, unnilT, unnil, unnilTI, unnilI]; done) | (simp only [lb, lbI, rows_cons, rows_nil, unnilT, unnil, unnilTI, unnilI]; rfl)) (congrArg (ib) (show (r1, true) = totalAns l from by rw [totalAns, if_pos h1, hr1, hv1]; rfl)))   -- leaf 1
    · exact hQ (.tup [.int .i64 0, .bool false]) (Eq.trans (by first | rfl | (simp only [lb, lbI, rows_cons, rows_nil, unnilT, unnil, unnilTI, unnilI]; done) | (simp only [lb, lbI, rows_cons, rows_nil, unnilT, unnil, unnilTI, unnilI]; rfl)) (congrArg (ib) (show (0, false) = totalAns l from by rw [totalAns, if_neg (by rw [h1]; simp)])))   -- leaf 2

theorem RowHeights_ok (l : List (List Int))  : OkA Try.prog 13 [.isl 1 (rows (cSl 1 cInt) l)] (· = (lb 3 1 cInt) (heightsAns l)) :=
  OkA.unnil 3 1 (fn_intro envOk fieldsOk mixed Try.func13 rfl fun κ X Y L Q m hQ => by
    conv => cbv
    refine r_callB m.sX (AreParallel_ok l) (fun h1 => ?_) (fun h1 => ?_) <;> conv => cbv
    · have hl := (parB_spec h1).2
      refine r_callF (fun l => PV.fr _ _ (rows _ l)) m.sX (heights_ok l (by first | rfl | assumption | omega | (simp only [List.length_append, List.length_cons, List.length_nil] at *; omega))) fun v1 hv1 => ?_
      conv => cbv
      exact hQ (.tup [.fr 3 1 (rows cInt v1), .bool true]) (Eq.trans (by first | rfl | (simp only [lb, lbI, rows_cons, rows_nil, unnilT, unnil, unnilTI, unnilI]; done) | (simp only [lb, lbI, rows_cons, rows_nil, unnilT, unnil, unnilTI, unnilI]; rfl)) (congrArg ((lb 3 1 cInt)) (show (v1, true) = heightsAns l from by rw [heightsAns, if_pos h1, hv1])))   -- leaf 1
    · exact hQ (.tup [.fr 3 1 [], .bool false]) (Eq.trans (by first | rfl | (simp only [lb, lbI, rows_cons, rows_nil, unnilT, unnil, unnilTI, unnilI]; done) | (simp only [lb, lbI, rows_cons, rows_nil, unnilT, unnil, unnilTI, unnilI]; rfl)) (congrArg ((lb 3 1 cInt)) (show ([], false) = heightsAns l from by rw [heightsAns, if_neg (by rw [h1]; simp)]))))   -- leaf 2

theorem specRowHeights_ok (l : List (List Int))  : OkA Try.prog 14 [.isl 1 (rows (cSl 1 cInt) l)] (· = (lb 3 1 cInt) (heightsAns l)) :=
  OkA.unnil 3 1 (fn_intro envOk fieldsOk mixed Try.func14 rfl fun κ X Y L Q m hQ => by
    conv => cbv
    refine r_callB m.sX (plGood_ok l) (fun h1 => ?_) (fun h1 => ?_) <;> conv => cbv
    · have hl := (parB_spec h1).2
      refine r_callF (fun l => PV.fr _ _ (rows _ l)) m.sX (plHeights_ok l (by first | rfl | assumption | omega | (simp only [List.length_append, List.length_cons, List.length_nil] at *; omega))) fun v1 hv1 => ?_
      conv => cbv
      exact hQ (.tup [.fr 3 1 (rows cInt v1), .bool true]) (Eq.trans (by first | rfl | (simp only [lb, lbI, rows_cons, rows_nil, unnilT, unnil, unnilTI, unnilI]; done) | (simp only [lb, lbI, rows_cons, rows_nil, unnilT, unnil, unnilTI, unnilI]; rfl)) (congrArg ((lb 3 1 cInt)) (show (v1, true) = heightsAns l from by rw [heightsAns, if_pos h1, hv1])))   -- leaf 1
    · exact hQ (.tup [.nil, .bool false]) (Eq.trans (by first | rfl | (simp only [lb, lbI, rows_cons, rows_nil, unnilT, unnil, unnilTI, unnilI]; done) | (simp only [lb, lbI, rows_cons, rows_nil, unnilT, unnil, unnilTI, unnilI]; rfl)) (congrArg ((lb 3 1 cInt)) (show ([], false) = heightsAns l from by rw [heightsAns, if_neg (by rw [h1]; simp)]))))   -- leaf 2

theorem BestJoin_ok (l : List (List Int))  : OkA Try.prog 20 [.isl 1 (rows (cSl 1 cInt) l)] (· = iib (bestPAns l)) :=
  fn_intro envOk fieldsOk mixed Try.func20 rfl fun κ X Y L Q m hQ => by
    conv => cbv
    refine r_callB m.sX (isMark_ok l 0) (fun h1 => ?_) (fun h1 => ?_) <;> conv => cbv
    · obtain ⟨hp, hi⟩ := mark_spec h1
      have hl4 := (parB_spec hp).2
      refine r_loopF (α := Int × Int) m 29 [0, 5, 6] [] (fun σ => [(0, .isl 1 (rows (cSl 1 cInt) l)), (5, .int .i64 σ.1), (6, .int .i64 σ.2)]) (fun σ => [])
        (fun σ => (0 ≤ σ.2 ∧ σ.2 + 1 ≤ l.length) ∧ (0 ≤ σ.1 ∧ σ.1 + 1 < l.length) ∧ (σ.1.toNat = bestJ (savedF l) σ.2.toNat)) (fun σ => ((l.length : Int) - σ.2).toNat) (0, 0) ?_ ?_ ?_ ?_
      · cbv
      · cbv
      · exact ⟨(by (try dsimp only) <;> first | omega | rfl | (simp [*]; done)), (by (try dsimp only) <;> first | omega | rfl | (simp [*]; done)), (by (try dsimp only) <;> (rfl))⟩
      rintro ⟨best, i⟩ ⟨ip, bb, bq⟩ E hE F hF
      dsimp only at ip bb bq
      conv => cbv
      refine r_addf m.sX (by omega) (by omega) fun r1 hr1 => ?_
      conv => cbv
      refine r_lenR m.sX fun n1 hn1 mn1 => ?_
      conv => cbv
      refine r_lss m.sX (fun h2 => ?_) (fun h2 => ?_) <;> conv => cbv
      · refine r_callF (PV.int .i64) m.sX (savedBy_ok l i (by first | rfl | assumption | omega | (simp only [List.length_append, List.length_cons, List.length_nil] at *; omega)) (by first | rfl | assumption | omega | (simp only [List.length_append, List.length_cons, List.length_nil] at *; omega))) fun r2 hr2 => ?_
        conv => cbv
        refine r_callF (PV.int .i64) m.sX (savedBy_ok l best (by first | rfl | assumption | omega | (simp only [List.length_append, List.length_cons, List.length_nil] at *; omega)) (by first | rfl | assumption | omega | (simp only [List.length_append, List.length_cons, List.length_nil] at *; omega))) fun r3 hr3 => ?_
        conv => cbv
        refine r_gtr m.sX (fun h3 => ?_) (fun h3 => ?_) <;> conv => cbv
        · refine r_addf m.sX (by omega) (by omega) fun i_2 hi_2 => ?_
          conv => cbv
          refine hE _ (i, i_2) ?_ ?_ ⟨(by (try dsimp only) <;> first | omega | rfl | (simp [*]; done) | (rw [ip]; simp [*]; done)), (by (try dsimp only) <;> first | omega | rfl | (simp [*]; done) | (rw [bb]; simp [*]; done)), (by (try dsimp only) <;> (first | (rw [show i_2.toNat = i.toNat + 1 by omega, bestJ_step bq, if_pos (by rw [← hr2, ← hr3]; omega)]; done) | (rw [show i_3.toNat = i.toNat + 1 by omega, bestJ_step bq, if_neg (by rw [← hr2, ← hr3]; omega)]; done)))⟩ (by first | omega | (dsimp only; omega))
          · cbv
          · cbv
        · refine r_addf m.sX (by omega) (by omega) fun i_3 hi_3 => ?_
          conv => cbv
          refine hE _ (best, i_3) ?_ ?_ ⟨(by (try dsimp only) <;> first | omega | rfl | (simp [*]; done) | (rw [ip]; simp [*]; done)), (by (try dsimp only) <;> first | omega | rfl | (simp [*]; done) | (rw [bb]; simp [*]; done)), (by (try dsimp only) <;> (first | (rw [show i_2.toNat = i.toNat + 1 by omega, bestJ_step bq, if_pos (by rw [← hr2, ← hr3]; omega)]; done) | (rw [show i_3.toNat = i.toNat + 1 by omega, bestJ_step bq, if_neg (by rw [← hr2, ← hr3]; omega)]; done)))⟩ (by first | omega | (dsimp only; omega))
          · cbv
          · cbv
      · refine hF _ _ ?_
        conv => cbv
        refine r_callF (PV.int .i64) m.sX (savedBy_ok l best (by first | rfl | assumption | omega | (simp only [List.length_append, List.length_cons, List.length_nil] at *; omega)) (by first | rfl | assumption | omega | (simp only [List.length_append, List.length_cons, List.length_nil] at *; omega))) fun r4 hr4 => ?_
        conv => cbv
        exact hQ (.tup [.int .i64 best, .int .i64 r4, .bool true]) (Eq.trans (by first | rfl | (simp only [lb, lbI, rows_cons, rows_nil, unnilT, unnil, unnilTI, unnilI]; done) | (simp only [lb, lbI, rows_cons, rows_nil, unnilT, unnil, unnilTI, unnilI]; rfl)) (congrArg (iib) (show (best, r4, true) = bestPAns l from by have e : best.toNat = bestI (savedF l) (l.length - 2) := (by rw [bq, show i.toNat = (l.length - 2) + 1 by omega]; rfl); rw [bestPAns, if_pos h1, hr4, ← e, show ((best.toNat : Nat) : Int) = best by omega])))   -- leaf 1
    · exact hQ (.tup [.int .i64 0, .int .i64 0, .bool false]) (Eq.trans (by first | rfl | (simp only [lb, lbI, rows_cons, rows_nil, unnilT, unnil, unnilTI, unnilI]; done) | (simp only [lb, lbI, rows_cons, rows_nil, unnilT, unnil, unnilTI, unnilI]; rfl)) (congrArg (iib) (show (0, 0, false) = bestPAns l from by rw [bestPAns, if_neg (by rw [h1]; simp)])))   -- leaf 2

theorem areRowsOn_ok (l : List (List Int)) (depth : Int)  : OkA Try.prog 51 [.isl 1 (rows (cSl 1 cInt) l), .int .i64 depth] (· = .bool (rowsB l depth)) :=
  fn_intro envOk fieldsOk mixed Try.func51 rfl fun κ X Y L Q m hQ => by
    have bp : parB l = true → l.length ≤ 24 := fun h => (parB_spec h).2
    conv => cbv
    refine r_callB m.sX (AreParallel_ok l) (fun h1 => ?_) (fun h1 => ?_) <;> conv => cbv
    · have hl := bp h1
      refine r_callB m.sX (within_ok depth 1 1000) (fun h2 => ?_) (fun h2 => ?_) <;> conv => cbv
      · refine r_callF (fun l => PV.fr _ _ (rows _ l)) m.sX (heights_ok l (by first | rfl | assumption | omega | (simp only [List.length_append, List.length_cons, List.length_nil] at *; omega))) fun v1 hv1 => ?_
        conv => cbv
        refine .inl (r_callFO intPV m.sX ((greatest_ok v1).ok flat_int) fun r1 hr1 => ?_)
        conv => cbv
        refine r_leq m.sX (fun h3 => ?_) (fun h3 => ?_) <;> conv => cbv
        · exact hQ _ (congrArg PV.bool (by first | (simp [rowsB, *]; done) | (rw [rowsB, h1, h2, ← hv1, ← hr1, decide_eq_true (by omega)]; done) | (rw [rowsB, h1, h2, ← hv1, ← hr1, decide_eq_true (by omega)]; rfl) | (rw [rowsB, h1, h2, ← hv1, ← hr1, decide_eq_false (by omega)]; done) | (rw [rowsB, h1, h2, ← hv1, ← hr1, decide_eq_false (by omega)]; rfl)))   -- leaf 1
        · exact hQ _ (congrArg PV.bool (by first | (simp [rowsB, *]; done) | (rw [rowsB, h1, h2, ← hv1, ← hr1, decide_eq_true (by omega)]; done) | (rw [rowsB, h1, h2, ← hv1, ← hr1, decide_eq_true (by omega)]; rfl) | (rw [rowsB, h1, h2, ← hv1, ← hr1, decide_eq_false (by omega)]; done) | (rw [rowsB, h1, h2, ← hv1, ← hr1, decide_eq_false (by omega)]; rfl)))   -- leaf 2
      · exact hQ _ (congrArg PV.bool (by first | (simp [rowsB, *]; done) | (rw [rowsB, h1, h2, ← hv1, ← hr1, decide_eq_true (by omega)]; done) | (rw [rowsB, h1, h2, ← hv1, ← hr1, decide_eq_true (by omega)]; rfl) | (rw [rowsB, h1, h2, ← hv1, ← hr1, decide_eq_false (by omega)]; done) | (rw [rowsB, h1, h2, ← hv1, ← hr1, decide_eq_false (by omega)]; rfl)))   -- leaf 3
    · exact hQ _ (congrArg PV.bool (by first | (simp [rowsB, *]; done) | (rw [rowsB, h1, h2, ← hv1, ← hr1, decide_eq_true (by omega)]; done) | (rw [rowsB, h1, h2, ← hv1, ← hr1, decide_eq_true (by omega)]; rfl) | (rw [rowsB, h1, h2, ← hv1, ← hr1, decide_eq_false (by omega)]; done) | (rw [rowsB, h1, h2, ← hv1, ← hr1, decide_eq_false (by omega)]; rfl)))   -- leaf 4

theorem PageBreaks_ok (l : List (List Int)) (depth : Int)  : OkA Try.prog 8 [.isl 1 (rows (cSl 1 cInt) l), .int .i64 depth] (· = (lb 3 1 cInt) (pagesAns l depth)) :=
  OkA.unnil 3 1 (fn_intro envOk fieldsOk mixed Try.func8 rfl fun κ X Y L Q m hQ => by
    conv => cbv
    refine r_callB m.sX (areRowsOn_ok l depth) (fun h1 => ?_) (fun h1 => ?_) <;> conv => cbv
    · obtain ⟨hp, hd, hx, hl, h24⟩ := rowsB_spec h1
      refine r_callF (fun l => PV.fr _ _ (rows _ l)) m.sX (heights_ok l (by first | rfl | assumption | omega | (simp only [List.length_append, List.length_cons, List.length_nil] at *; omega))) fun v1 hv1 => ?_
      conv => cbv
      rw [← hv1] at hx hl
      refine r_lenR m.sX fun n1 hn1 mn1 => ?_
      conv => cbv
      refine r_loopF (α := List Int × Int × Int) m 38 [1, 7, 18, 19] [⟨6, 49, 3, 1, 0⟩, ⟨17, 137, 3, 1, 0⟩] (fun σ => [(1, .int .i64 depth), (6, .osl 49 0), (7, .int .i64 σ.2.1), (17, .osl 137 0), (18, .int .i64 n1), (19, .int .i64 σ.2.2)]) (fun σ => [(49, 0, .row 3 1 (rows cInt σ.1)), (137, 0, .row 3 1 (rows cInt v1))])
        (fun σ => (0 ≤ σ.2.2) ∧ (σ.2.2 ≤ n1) ∧ (σ.1 ++ breaksT depth (heightsF l) σ.2.2.toNat σ.2.1 = breaksF depth (heightsF l)) ∧ (0 ≤ σ.2.1 ∧ σ.2.1 ≤ depth) ∧ ((σ.1.length : Int) ≤ σ.2.2)) (fun σ => (n1 - σ.2.2).toNat) ([], 0, 0) ?_ ?_ ?_ ?_
      · cbv
      · (try dsimp only); (try simp only [rows_cons, rows_nil]); cbv
      · exact ⟨(by (try dsimp only); first | omega | (simp only [List.length_nil]; omega) | (simp only [List.length_cons, List.length_nil]; omega)), (by (try dsimp only); first | omega | (simp only [List.length_nil]; omega) | (simp only [List.length_cons, List.length_nil]; omega)), (by (try dsimp only) <;> (rfl)), (by (try dsimp only) <;> first | omega | rfl | (simp [*]; done)), (by (try dsimp only) <;> first | omega | rfl | (simp [*]; done))⟩
      rintro ⟨breaks, page, i1⟩ ⟨lo1, hi1, q, pg, ll⟩ E hE F hF
      dsimp only at lo1 hi1 q pg ll
      conv => cbv
      refine r_lss m.sX (fun h2 => ?_) (fun h2 => ?_) <;> conv => cbv
      · refine r_oindex m.sX (by omega) (by omega) ?_
        conv => cbv
        obtain ⟨n, hn⟩ := get_ex (xs := v1) (i := Int.toNat i1) (by omega)
        have mn := get_mem hn
        have dn := drop_cons hn
        have kn := take_snoc hn
        have jn : (i1 + 1).toNat = Int.toNat i1 + 1 := by omega
        have vn := nth_some hn
        have bn := hx n mn
        refine r_oload m.sX hn (Nat.le_of_ble_eq_true rfl) ?_
        conv => cbv
        refine r_addf m.sX (by omega) (by omega) fun r1 hr1 => ?_
        conv => cbv
        refine r_gtr m.sX (fun h3 => ?_) (fun h3 => ?_) <;> conv => cbv
        · refine r_append1 (i1) m.sX rfl (by first | omega | (dsimp only; omega)) (by first | omega | (dsimp only; omega)) fun breaks_2 hbreaks_2 => ?_
          conv => cbv
          have lbreaks_2 : (breaks_2.length : Int) = breaks.length + 1 := by rw [hbreaks_2]; first | done | (simp; done) | (simp; omega)
          refine r_addf m.sX (by omega) (by omega) fun page_2 hpage_2 => ?_
          conv => cbv
          refine r_addf m.sX (by omega) (by omega) fun r2 hr2 => ?_
          conv => cbv
          try have tr2 : Int.toNat r2 = Int.toNat i1 + 1 := by omega
          refine hE _ (breaks_2, page_2, r2) ?_ ?_ ⟨(by (try dsimp only); first | omega | (simp only [List.length_nil]; omega) | (simp only [List.length_cons, List.length_nil]; omega)), (by (try dsimp only); first | omega | (simp only [List.length_nil]; omega) | (simp only [List.length_cons, List.length_nil]; omega)), (by (try dsimp only) <;> (first | (rw [tr2, hbreaks_2, hpage_2, ← q, breaksT_step (show (heightsF l)[i1.toNat]? = some n by rw [← hv1]; exact hn), if_pos (by omega), show ((i1.toNat : Nat) : Int) = i1 by omega, Int.zero_add, List.append_assoc]; rfl) | (rw [tr2, hpage_2, ← q, breaksT_step (show (heightsF l)[i1.toNat]? = some n by rw [← hv1]; exact hn), if_neg (by omega)]; done) | (rw [tr2, hpage_3, ← q, breaksT_step (show (heightsF l)[i1.toNat]? = some n by rw [← hv1]; exact hn), if_neg (by omega)]; done))), (by (try dsimp only) <;> first | omega | rfl | (simp [*]; done) | (rw [pg]; simp [*]; done)), (by (try dsimp only) <;> first | omega | rfl | (simp [*]; done) | (rw [ll]; simp [*]; done))⟩ (by first | omega | (dsimp only; omega))
          · cbv
          · cbv
        · refine r_addf m.sX (by omega) (by omega) fun page_3 hpage_3 => ?_
          conv => cbv
          refine r_addf m.sX (by omega) (by omega) fun r3 hr3 => ?_
          conv => cbv
          try have tr3 : Int.toNat r3 = Int.toNat i1 + 1 := by omega
          refine hE _ (breaks, page_3, r3) ?_ ?_ ⟨(by (try dsimp only); first | omega | (simp only [List.length_nil]; omega) | (simp only [List.length_cons, List.length_nil]; omega)), (by (try dsimp only); first | omega | (simp only [List.length_nil]; omega) | (simp only [List.length_cons, List.length_nil]; omega)), (by (try dsimp only) <;> (first | (rw [tr3, hbreaks_2, hpage_2, ← q, breaksT_step (show (heightsF l)[i1.toNat]? = some n by rw [← hv1]; exact hn), if_pos (by omega), show ((i1.toNat : Nat) : Int) = i1 by omega, Int.zero_add, List.append_assoc]; rfl) | (rw [tr3, hpage_2, ← q, breaksT_step (show (heightsF l)[i1.toNat]? = some n by rw [← hv1]; exact hn), if_neg (by omega)]; done) | (rw [tr3, hpage_3, ← q, breaksT_step (show (heightsF l)[i1.toNat]? = some n by rw [← hv1]; exact hn), if_neg (by omega)]; done))), (by (try dsimp only) <;> first | omega | rfl | (simp [*]; done) | (rw [pg]; simp [*]; done)), (by (try dsimp only) <;> first | omega | rfl | (simp [*]; done) | (rw [ll]; simp [*]; done))⟩ (by first | omega | (dsimp only; omega))
          · cbv
          · cbv
      · have dz_i1 := drop_end (xs := v1) (i := Int.toNat i1) (by omega)
        have tz_i1 := take_end (xs := v1) (i := Int.toNat i1) (by omega)
        refine hF _ _ ?_
        conv => cbv
        exact hQ (.tup [.fr 3 1 (rows cInt breaks), .bool true]) (Eq.trans (by first | rfl | (simp only [lb, lbI, rows_cons, rows_nil, unnilT, unnil, unnilTI, unnilI]; done) | (simp only [lb, lbI, rows_cons, rows_nil, unnilT, unnil, unnilTI, unnilI]; rfl)) (congrArg ((lb 3 1 cInt)) (show (breaks, true) = pagesAns l depth from by rw [pagesAns, if_pos h1, ← q, breaksT_end (by rw [← hv1]; omega), List.append_nil])))   -- leaf 1
    · exact hQ (.tup [.fr 3 1 [], .bool false]) (Eq.trans (by first | rfl | (simp only [lb, lbI, rows_cons, rows_nil, unnilT, unnil, unnilTI, unnilI]; done) | (simp only [lb, lbI, rows_cons, rows_nil, unnilT, unnil, unnilTI, unnilI]; rfl)) (congrArg ((lb 3 1 cInt)) (show ([], false) = pagesAns l depth from by rw [pagesAns, if_neg (by rw [h1]; simp)]))))   -- leaf 2

theorem plPaged_ok (l : List (List Int)) (depth : Int)  : OkA Try.prog 53 [.isl 1 (rows (cSl 1 cInt) l), .int .i64 depth] (· = .bool (rowsB l depth)) :=
  fn_intro envOk fieldsOk mixed Try.func53 rfl fun κ X Y L Q m hQ => by
    conv => cbv
    refine r_callB m.sX (plGood_ok l) (fun h1 => ?_) (fun h1 => ?_) <;> conv => cbv
    · have hl := (parB_spec h1).2
      refine r_callB m.sX (l1In_ok depth 1 1000) (fun h2 => ?_) (fun h2 => ?_) <;> conv => cbv
      · refine r_callF (fun l => PV.fr _ _ (rows _ l)) m.sX (plHeights_ok l (by first | rfl | assumption | omega | (simp only [List.length_append, List.length_cons, List.length_nil] at *; omega))) fun v1 hv1 => ?_
        conv => cbv
        refine .inl (r_callBO m.sX ((l1All_ok v1 0 depth).ok flat_bool) (fun h3 => ?_) (fun h3 => ?_)) <;> conv => cbv
        · exact hQ _ (congrArg PV.bool (by first | (rw [rows_all h1 h2, ← hv1, h3]; done) | (simp [rowsB, *]; done)))   -- leaf 1
        · exact hQ _ (congrArg PV.bool (by first | (rw [rows_all h1 h2, ← hv1, h3]; done) | (simp [rowsB, *]; done)))   -- leaf 2
      · exact hQ _ (congrArg PV.bool (by first | (rw [rows_all h1 h2, ← hv1, h3]; done) | (simp [rowsB, *]; done)))   -- leaf 3
    · exact hQ _ (congrArg PV.bool (by first | (rw [rows_all h1 h2, ← hv1, h3]; done) | (simp [rowsB, *]; done)))   -- leaf 4

theorem plBreaks_ok (heights : List Int) (depth : Int) (hl : heights.length ≤ 24) (hd : 1 ≤ depth ∧ depth ≤ 1000) (hx : ∀ x ∈ heights, 0 ≤ x ∧ x ≤ depth) : OkA Try.prog 54 [.isl 1 (rows cInt heights), .int .i64 depth] (· = .fr 3 1 (rows cInt (breaksF depth heights))) :=
  OkA.unnil 3 1 (fn_intro envOk fieldsOk mixed Try.func54 rfl fun κ X Y L Q m hQ => by
    conv => cbv
    refine r_lenR m.sX fun n1 hn1 mn1 => ?_
    conv => cbv
    refine r_loopF (α := List Int × Int × Int) m 30 [1, 6, 9, 10, 11] [⟨5, 41, 3, 1, 0⟩] (fun σ => [(1, .int .i64 depth), (5, .osl 41 0), (6, .int .i64 σ.2.1), (9, .isl 1 (rows cInt heights)), (10, .int .i64 n1), (11, .int .i64 σ.2.2)]) (fun σ => [(41, 0, .row 3 1 (rows cInt σ.1))])
      (fun σ => (0 ≤ σ.2.2) ∧ (σ.2.2 ≤ n1) ∧ (σ.1 ++ breaksT depth heights σ.2.2.toNat σ.2.1 = breaksF depth heights) ∧ (0 ≤ σ.2.1 ∧ σ.2.1 ≤ depth) ∧ ((σ.1.length : Int) ≤ σ.2.2)) (fun σ => (n1 - σ.2.2).toNat) ([], 0, 0) ?_ ?_ ?_ ?_
    · cbv
    · (try dsimp only); (try simp only [rows_cons, rows_nil]); cbv
    · exact ⟨(by (try dsimp only); first | omega | (simp only [List.length_nil]; omega) | (simp only [List.length_cons, List.length_nil]; omega)), (by (try dsimp only); first | omega | (simp only [List.length_nil]; omega) | (simp only [List.length_cons, List.length_nil]; omega)), (by (try dsimp only) <;> (rfl)), (by (try dsimp only) <;> first | omega | rfl | (simp [*]; done)), (by (try dsimp only) <;> first | omega | rfl | (simp [*]; done))⟩
    rintro ⟨out, used, i1⟩ ⟨lo1, hi1, q, pg, ll⟩ E hE F hF
    dsimp only at lo1 hi1 q pg ll
    conv => cbv
    refine r_lss m.sX (fun h1 => ?_) (fun h1 => ?_) <;> conv => cbv
    · refine r_index m.sX (by omega) (by omega) fun n hn => ?_
      conv => cbv
      have mn := get_mem hn
      have dn := drop_cons hn
      have kn := take_snoc hn
      have jn : (i1 + 1).toNat = Int.toNat i1 + 1 := by omega
      have vn := nth_some hn
      have bn := hx n (mn)
      refine r_addf m.sX (by omega) (by omega) fun r1 hr1 => ?_
      conv => cbv
      refine r_gtr m.sX (fun h2 => ?_) (fun h2 => ?_) <;> conv => cbv
      · refine r_append1 (i1) m.sX rfl (by first | omega | (dsimp only; omega)) (by first | omega | (dsimp only; omega)) fun out_2 hout_2 => ?_
        conv => cbv
        have lout_2 : (out_2.length : Int) = out.length + 1 := by rw [hout_2]; first | done | (simp; done) | (simp; omega)
        refine r_addf m.sX (by omega) (by omega) fun used_2 hused_2 => ?_
        conv => cbv
        refine r_addf m.sX (by omega) (by omega) fun r2 hr2 => ?_
        conv => cbv
        try have tr2 : Int.toNat r2 = Int.toNat i1 + 1 := by omega
        refine hE _ (out_2, used_2, r2) ?_ ?_ ⟨(by (try dsimp only); first | omega | (simp only [List.length_nil]; omega) | (simp only [List.length_cons, List.length_nil]; omega)), (by (try dsimp only); first | omega | (simp only [List.length_nil]; omega) | (simp only [List.length_cons, List.length_nil]; omega)), (by (try dsimp only) <;> (first | (rw [tr2, hout_2, hused_2, ← q, breaksT_step (show (heights)[i1.toNat]? = some n by exact hn), if_pos (by omega), show ((i1.toNat : Nat) : Int) = i1 by omega, Int.zero_add, List.append_assoc]; rfl) | (rw [tr2, hused_2, ← q, breaksT_step (show (heights)[i1.toNat]? = some n by exact hn), if_neg (by omega)]; done) | (rw [tr2, hused_3, ← q, breaksT_step (show (heights)[i1.toNat]? = some n by exact hn), if_neg (by omega)]; done))), (by (try dsimp only) <;> first | omega | rfl | (simp [*]; done) | (rw [pg]; simp [*]; done)), (by (try dsimp only) <;> first | omega | rfl | (simp [*]; done) | (rw [ll]; simp [*]; done))⟩ (by first | omega | (dsimp only; omega))
        · cbv
        · cbv
      · refine r_addf m.sX (by omega) (by omega) fun used_3 hused_3 => ?_
        conv => cbv
        refine r_addf m.sX (by omega) (by omega) fun r3 hr3 => ?_
        conv => cbv
        try have tr3 : Int.toNat r3 = Int.toNat i1 + 1 := by omega
        refine hE _ (out, used_3, r3) ?_ ?_ ⟨(by (try dsimp only); first | omega | (simp only [List.length_nil]; omega) | (simp only [List.length_cons, List.length_nil]; omega)), (by (try dsimp only); first | omega | (simp only [List.length_nil]; omega) | (simp only [List.length_cons, List.length_nil]; omega)), (by (try dsimp only) <;> (first | (rw [tr3, hout_2, hused_2, ← q, breaksT_step (show (heights)[i1.toNat]? = some n by exact hn), if_pos (by omega), show ((i1.toNat : Nat) : Int) = i1 by omega, Int.zero_add, List.append_assoc]; rfl) | (rw [tr3, hused_2, ← q, breaksT_step (show (heights)[i1.toNat]? = some n by exact hn), if_neg (by omega)]; done) | (rw [tr3, hused_3, ← q, breaksT_step (show (heights)[i1.toNat]? = some n by exact hn), if_neg (by omega)]; done))), (by (try dsimp only) <;> first | omega | rfl | (simp [*]; done) | (rw [pg]; simp [*]; done)), (by (try dsimp only) <;> first | omega | rfl | (simp [*]; done) | (rw [ll]; simp [*]; done))⟩ (by first | omega | (dsimp only; omega))
        · cbv
        · cbv
    · have dz_i1 := drop_end (xs := heights) (i := Int.toNat i1) (by omega)
      have tz_i1 := take_end (xs := heights) (i := Int.toNat i1) (by omega)
      refine hF _ _ ?_
      conv => cbv
      exact hQ (.fr 3 1 (rows cInt out)) (Eq.trans (by first | rfl | (simp only [lb, lbI, rows_cons, rows_nil, unnilT, unnil, unnilTI, unnilI]; done) | (simp only [lb, lbI, rows_cons, rows_nil, unnilT, unnil, unnilTI, unnilI]; rfl)) (congrArg (fun l => PV.fr 3 1 (rows cInt l)) (show out = breaksF depth heights from by rw [← q, breaksT_end (by omega), List.append_nil]))))   -- leaf 1

theorem specPageBreaks_ok (l : List (List Int)) (depth : Int)  : OkA Try.prog 9 [.isl 1 (rows (cSl 1 cInt) l), .int .i64 depth] (· = (lb 3 1 cInt) (pagesAns l depth)) :=
  OkA.unnil 3 1 (fn_intro envOk fieldsOk mixed Try.func9 rfl fun κ X Y L Q m hQ => by
    conv => cbv
    refine r_callB m.sX (plPaged_ok l depth) (fun h1 => ?_) (fun h1 => ?_) <;> conv => cbv
    · obtain ⟨hp, hd, hx, hl, h24⟩ := rowsB_spec h1
      refine r_callF (fun l => PV.fr _ _ (rows _ l)) m.sX (plHeights_ok l (by first | rfl | assumption | omega | (simp only [List.length_append, List.length_cons, List.length_nil] at *; omega))) fun v1 hv1 => ?_
      conv => cbv
      rw [← hv1] at hx hl
      refine .inl (r_callFO (fun l => PV.fr _ _ (rows _ l)) m.sX ((plBreaks_ok v1 depth (by first | rfl | assumption | omega | (simp only [List.length_append, List.length_cons, List.length_nil] at *; omega)) (by first | rfl | assumption | omega | (simp only [List.length_append, List.length_cons, List.length_nil] at *; omega)) (by first | rfl | assumption | omega | (simp only [List.length_append, List.length_cons, List.length_nil] at *; omega))).ok (flat_fr flat_cInt)) fun v2 hv2 => ?_)
      conv => cbv
      exact hQ (.tup [.fr 3 1 (rows cInt v2), .bool true]) (Eq.trans (by first | rfl | (simp only [lb, lbI, rows_cons, rows_nil, unnilT, unnil, unnilTI, unnilI]; done) | (simp only [lb, lbI, rows_cons, rows_nil, unnilT, unnil, unnilTI, unnilI]; rfl)) (congrArg ((lb 3 1 cInt)) (show (v2, true) = pagesAns l depth from by rw [pagesAns, if_pos h1, hv2, hv1])))   -- leaf 1
    · exact hQ (.tup [.nil, .bool false]) (Eq.trans (by first | rfl | (simp only [lb, lbI, rows_cons, rows_nil, unnilT, unnil, unnilTI, unnilI]; done) | (simp only [lb, lbI, rows_cons, rows_nil, unnilT, unnil, unnilTI, unnilI]; rfl)) (congrArg ((lb 3 1 cInt)) (show ([], false) = pagesAns l depth from by rw [pagesAns, if_neg (by rw [h1]; simp)]))))   -- leaf 2


/- Contracts of the functions on costs of pages. -/
theorem cost_up {d : Int} (hd : d ≤ 1000) : ∀ (p : Nat) (l : List Int), (∀ h ∈ l, 0 ≤ h ∧ h ≤ d) → costF d p l ≤ 1000000 * p
  | 0, l, _ => by rw [costF]; split <;> simp
  | p + 1, l, hl => by
    by_cases h : 0 ≤ costF d (p + 1) l
    · obtain ⟨x, hx, h1, h2⟩ := cost_some h
      have a := cuts_mem hl (Int.le_refl 0) x hx
      have := cost_up hd p x.2 fun y hy => hl y (a.2.2.2.1 y hy)
      have := sq_le a.1 a.2.1 hd
      omega
    · omega
def costR (d : Int) (hs : List Int) (p : Nat) : List Int := (List.range (hs.length + 1)).map fun f => costF d p (hs.drop f)
def costT (d : Int) (hs : List Int) (p f : Nat) : List Int := (List.range (hs.length + 1)).map fun g => if g < f then costF d p (hs.drop g) else -1
theorem costR_length (d : Int) (hs : List Int) (p : Nat) : (costR d hs p).length = hs.length + 1 := by simp [costR]
theorem costT_length (d : Int) (hs : List Int) (p f : Nat) : (costT d hs p f).length = hs.length + 1 := by simp [costT]
theorem costR_zero (d : Int) (hs : List Int) : List.replicate hs.length (-1) ++ [0] = costR d hs 0 := by
  unfold costR
  rw [List.range_succ, List.map_append]
  congr 1
  · apply List.ext_getElem
    · simp
    · intro i h1 h2
      have hi : i < hs.length := by simpa using h1
      rw [List.getElem_replicate, List.getElem_map, List.getElem_range, costF, if_neg (by intro e; have := congrArg List.length e; simp at this; omega)]
  · simp [costF]
theorem costT_zero (d : Int) (hs : List Int) (p : Nat) : List.replicate hs.length (-1) ++ [-1] = costT d hs p 0 := by
  unfold costT
  rw [List.range_succ, List.map_append]
  congr 1
  apply List.ext_getElem
  · simp
  · intro i h1 h2
    rw [List.getElem_replicate, List.getElem_map]; simp
theorem costT_all (d : Int) (hs : List Int) {p : Nat} (hp : 0 < p) : costT d hs p hs.length = costR d hs p := by
  unfold costT costR
  refine List.map_congr_left fun g hg => ?_
  have := List.mem_range.1 hg
  by_cases e : g < hs.length
  · rw [if_pos e]
  · rw [if_neg e, List.drop_eq_nil_of_le (by omega)]
    match p, hp with
    | p + 1, _ => rfl
theorem costT_step (d : Int) (hs : List Int) (p : Nat) {f : Nat} (hf : f < hs.length) : (costT d hs p f).set f (costF d p (hs.drop f)) = costT d hs p (f + 1) := by
  apply List.ext_getElem
  · simp [costT]
  · intro i h1 h2
    have hi : i < hs.length + 1 := by simpa [costT] using h2
    have g1 : ∀ k (h : i < (costT d hs p k).length), (costT d hs p k)[i] = if i < k then costF d p (hs.drop i) else -1 := fun k h => by
      simp [costT]
    rw [List.getElem_set, g1, g1]
    by_cases e : f = i
    · subst e; rw [if_pos rfl, if_pos (by omega)]
    · rw [if_neg e]
      by_cases e2 : i < f
      · rw [if_pos e2, if_pos (by omega)]
      · rw [if_neg e2, if_neg (by omega)]
theorem costT_at (d : Int) (hs : List Int) (p : Nat) {f : Nat} (hf : f < hs.length) : nth (costT d hs p f) f = -1 := by
  unfold nth costT; simp [List.getElem?_range (show f < hs.length + 1 by omega)]
theorem costR_at (d : Int) (hs : List Int) (p : Nat) {f : Nat} (hf : f ≤ hs.length) : (costR d hs p)[f]? = some (costF d p (hs.drop f)) := by
  unfold costR; simp [List.getElem?_range (show f < hs.length + 1 by omega)]
def costsF (d : Int) (hs : List Int) (n : Nat) : List (List Int) := (List.range n).map (costR d hs)
theorem costs_snoc (d : Int) (hs : List Int) (n : Nat) : costsF d hs (n + 1) = costsF d hs n ++ [costR d hs n] := by
  unfold costsF; rw [List.range_succ, List.map_append]; rfl
theorem costs_at (d : Int) (hs : List Int) {n p : Nat} (h : p < n) : (costsF d hs n)[p]? = some (costR d hs p) := by
  unfold costsF; simp [List.getElem?_range h]
theorem cut_step {d : Int} {hs : List Int} {g : List Int → Int} {u : Int} {t : Nat} {h acc : Int} (hh : hs[t]? = some h) (hu : u + h ≤ d) : (cutsF d u (hs.drop t)).foldl (cstep d g) acc = (cutsF d (u + h) (hs.drop (t + 1))).foldl (cstep d g) (cstep d g acc (u + h, hs.drop (t + 1))) := by
  rw [drop_cons hh, cutsF, if_pos hu, List.foldl_cons]
theorem cut_stop {d : Int} {hs : List Int} {g : List Int → Int} {u : Int} {t : Nat} {acc : Int} (h : ∀ h, hs[t]? = some h → d < u + h) : (cutsF d u (hs.drop t)).foldl (cstep d g) acc = acc := by
  cases e : hs[t]? with
  | none => rw [List.drop_eq_nil_of_le (List.getElem?_eq_none_iff.1 e)]; rfl
  | some x =>
    have := h x e
    rw [drop_cons e, cutsF, if_neg (by omega)]; rfl
theorem nth_set_self {xs : List Int} {i : Nat} {b : Int} (h : i < xs.length) : nth (xs.set i b) i = b := by
  unfold nth; rw [List.getElem?_set_self h]; rfl
theorem set_nth_self {xs : List Int} {i : Nat} (h : i < xs.length) : xs.set i (nth xs i) = xs := by
  unfold nth; rw [List.getElem?_eq_getElem h]; exact List.set_getElem_self h
theorem set_keep {row base : List Int} {i : Nat} {a b : Int} (h : row = base.set i a) (hi : i < base.length) : row.set i b = base.set i (nth (row.set i b) i) := by
  subst h
  rw [List.set_set, nth_set_self hi]
theorem cut_go {d : Int} {hs : List Int} {g : List Int → Int} {u : Int} {t : Nat} {h acc acc' F : Int} (hh : hs[t]? = some h) (hu : u + h ≤ d) (hc : cstep d g acc (u + h, hs.drop (t + 1)) = acc') (fq : (cutsF d u (hs.drop t)).foldl (cstep d g) acc = F) : (cutsF d (u + h) (hs.drop (t + 1))).foldl (cstep d g) acc' = F := by
  rw [← hc, ← fq, cut_step hh hu]
theorem plCosts_ok (heights : List Int) (pages : Int) (depth : Int) (hl : heights.length ≤ 24) (hd : 1 ≤ depth ∧ depth ≤ 1000) (hx : ∀ x ∈ heights, 0 ≤ x ∧ x ≤ depth) (hpg : 0 ≤ pages ∧ pages ≤ 25) : OkA Try.prog 58 [.isl 1 (rows cInt heights), .int .i64 pages, .int .i64 depth] (· = .isl 1 (rows (cSl 1 cInt) (costsF depth heights (pages.toNat + 1)))) :=
  OkA.iceI 1 (fn_intro envOk fieldsOk mixed Try.func58 rfl fun κ X Y L Q m hQ => by
    conv => cbv
    refine r_lenR m.sX fun n1 hn1 mn1 => ?_
    conv => cbv
    refine r_loopF (α := List Int × Int) m 113 [0, 1, 2, 17, 18] [⟨7, 57, 3, 1, 0⟩] (fun σ => [(0, .isl 1 (rows cInt heights)), (1, .int .i64 pages), (2, .int .i64 depth), (7, .osl 57 0), (17, .int .i64 n1), (18, .int .i64 σ.2)]) (fun σ => [(57, 0, .row 3 1 (rows cInt σ.1))])
      (fun σ => (0 ≤ σ.2) ∧ (σ.2 ≤ n1) ∧ (σ.1 = List.replicate σ.2.toNat (-1)) ∧ ((σ.1.length : Int) = σ.2)) (fun σ => (n1 - σ.2).toNat) ([], 0) ?_ ?_ ?_ ?_
    · cbv
    · (try dsimp only); (try simp only [rows_cons, rows_nil]); cbv
    · exact ⟨(by (try dsimp only); first | omega | (simp only [List.length_nil]; omega) | (simp only [List.length_cons, List.length_nil]; omega)), (by (try dsimp only); first | omega | (simp only [List.length_nil]; omega) | (simp only [List.length_cons, List.length_nil]; omega)), (by (try dsimp only) <;> (rfl)), (by (try dsimp only) <;> first | omega | rfl | (simp [*]; done))⟩
    rintro ⟨none_, i1⟩ ⟨lo1, hi1, q, ll⟩ E hE F hF
    dsimp only at lo1 hi1 q ll
    conv => cbv
    refine r_lss m.sX (fun h1 => ?_) (fun h1 => ?_) <;> conv => cbv
    · refine r_append1 (-1) m.sX rfl (by first | omega | (dsimp only; omega)) (by first | omega | (dsimp only; omega)) fun none__2 hnone__2 => ?_
      conv => cbv
      have lnone__2 : (none__2.length : Int) = none_.length + 1 := by rw [hnone__2]; first | done | (simp; done) | (simp; omega)
      refine r_addf m.sX (by omega) (by omega) fun r1 hr1 => ?_
      conv => cbv
      try have tr1 : Int.toNat r1 = Int.toNat i1 + 1 := by omega
      refine hE _ (none__2, r1) ?_ ?_ ⟨(by (try dsimp only); first | omega | (simp only [List.length_nil]; omega) | (simp only [List.length_cons, List.length_nil]; omega)), (by (try dsimp only); first | omega | (simp only [List.length_nil]; omega) | (simp only [List.length_cons, List.length_nil]; omega)), (by (try dsimp only) <;> (rw [hnone__2, q, tr1, List.replicate_succ'])), (by (try dsimp only) <;> first | omega | rfl | (simp [*]; done) | (rw [ll]; simp [*]; done))⟩ (by first | omega | (dsimp only; omega))
      · cbv
      · cbv
    · have dz_i1 := drop_end (xs := heights) (i := Int.toNat i1) (by omega)
      have tz_i1 := take_end (xs := heights) (i := Int.toNat i1) (by omega)
      refine hF _ _ ?_
      conv => cbv
      refine .inl (r_callFO (fun l => PV.fr _ _ (rows _ l)) m.sX ((l1Own_ok none_ (by first | rfl | assumption | omega | (simp only [List.length_append, List.length_cons, List.length_nil] at *; omega))).ok (flat_fr flat_cInt)) fun v1 hv1 => ?_)
      conv => cbv
      have lv1 : v1.length = none_.length := (by rw [hv1])
      refine r_append1 (0) m.sX rfl (by first | omega | (dsimp only; omega)) (by first | omega | (dsimp only; omega)) fun zs1 hzs1 => ?_
      conv => cbv
      have lzs1 : (zs1.length : Int) = v1.length + 1 := by rw [hzs1]; first | done | (simp; done) | (simp; omega)
      have zq : zs1 = costR depth heights 0 := (by rw [hzs1, hv1, q, show i1.toNat = heights.length by omega, costR_zero])
      refine r_loopF (α := List (List Int) × Int) m 113 [0, 1, 2, 9] [⟨7, 57, 3, 1, 0⟩, ⟨8, 65, 27, 1, 0⟩] (fun σ => [(0, .isl 1 (rows cInt heights)), (1, .int .i64 pages), (2, .int .i64 depth), (7, .osl 57 0), (8, .osl 65 0), (9, .int .i64 σ.2)]) (fun σ => [(57, 0, .row 3 1 (rows cInt none_)), (65, 0, .row 27 1 (rows (cSl 1 cInt) σ.1))])
        (fun σ => (1 ≤ σ.2 ∧ σ.2 ≤ pages + 1) ∧ (σ.1 = costsF depth heights σ.2.toNat)) (fun σ => (pages + 1 - σ.2).toNat) ([zs1], 1) ?_ ?_ ?_ ?_
      · cbv
      · (try dsimp only); (try simp only [rows_cons, rows_nil]); cbv
      · exact ⟨(by (try dsimp only) <;> first | omega | rfl | (simp [*]; done)), (by (try dsimp only) <;> (rw [zq]; rfl))⟩
      rintro ⟨out, p⟩ ⟨pb, oq⟩ E hE F hF
      dsimp only at pb oq
      conv => cbv
      refine r_leq m.sX (fun h2 => ?_) (fun h2 => ?_) <;> conv => cbv
      · have lout0 : out.length = p.toNat := (by rw [oq]; simp [costsF])
        refine .inl (r_callFO (fun l => PV.fr _ _ (rows _ l)) m.sX ((l1Own_ok none_ (by first | rfl | assumption | omega | (simp only [List.length_append, List.length_cons, List.length_nil] at *; omega))).ok (flat_fr flat_cInt)) fun v2 hv2 => ?_)
        conv => cbv
        have lv2 : v2.length = none_.length := (by rw [hv2])
        refine r_append1 (-1) m.sX rfl (by first | omega | (dsimp only; omega)) (by first | omega | (dsimp only; omega)) fun row hrow => ?_
        conv => cbv
        have lrow : (row.length : Int) = v2.length + 1 := by rw [hrow]; first | done | (simp; done) | (simp; omega)
        have rq0 : row = costT depth heights p.toNat 0 := (by rw [hrow, hv2, q, show i1.toNat = heights.length by omega, costT_zero])
        refine r_lenR m.sX fun n2 hn2 mn2 => ?_
        conv => cbv
        refine r_loopF (α := List Int × Int) m 113 [0, 1, 2, 9, 39, 40] [⟨7, 57, 3, 1, 0⟩, ⟨8, 65, 27, 1, 0⟩, ⟨10, 81, 3, 1, 0⟩] (fun σ => [(0, .isl 1 (rows cInt heights)), (1, .int .i64 pages), (2, .int .i64 depth), (7, .osl 57 0), (8, .osl 65 0), (9, .int .i64 p), (10, .osl 81 0), (39, .int .i64 n2), (40, .int .i64 σ.2)]) (fun σ => [(57, 0, .row 3 1 (rows cInt none_)), (65, 0, .row 27 1 (rows (cSl 1 cInt) out)), (81, 0, .row 3 1 (rows cInt σ.1))])
          (fun σ => (0 ≤ σ.2) ∧ (σ.2 ≤ n2) ∧ (σ.1 = costT depth heights p.toNat σ.2.toNat)) (fun σ => (n2 - σ.2).toNat) (row, 0) ?_ ?_ ?_ ?_
        · cbv
        · cbv
        · exact ⟨(by (try dsimp only); first | omega | (simp only [List.length_nil]; omega) | (simp only [List.length_cons, List.length_nil]; omega)), (by (try dsimp only); first | omega | (simp only [List.length_nil]; omega) | (simp only [List.length_cons, List.length_nil]; omega)), (by (try dsimp only) <;> (exact rq0))⟩
        rintro ⟨row_2, i2⟩ ⟨lo3, hi3, rq⟩ E2 hE2 F2 hF2
        dsimp only at lo3 hi3 rq
        conv => cbv
        refine r_lss m.sX (fun h3 => ?_) (fun h3 => ?_) <;> conv => cbv
        · have fl : i2.toNat < heights.length := (by omega)
          have lr2 : row_2.length = heights.length + 1 := (by rw [rq, costT_length])
          refine r_loopF (α := List Int × Int × Int) m 113 [0, 1, 2, 9, 11, 12, 13, 39, 40] [⟨7, 57, 3, 1, 0⟩, ⟨8, 65, 27, 1, 0⟩, ⟨10, 81, 3, 1, 0⟩] (fun σ => [(0, .isl 1 (rows cInt heights)), (1, .int .i64 pages), (2, .int .i64 depth), (7, .osl 57 0), (8, .osl 65 0), (9, .int .i64 p), (10, .osl 81 0), (11, .int .i64 i2), (12, .int .i64 σ.2.1), (13, .int .i64 σ.2.2), (39, .int .i64 n2), (40, .int .i64 i2)]) (fun σ => [(57, 0, .row 3 1 (rows cInt none_)), (65, 0, .row 27 1 (rows (cSl 1 cInt) out)), (81, 0, .row 3 1 (rows cInt σ.1))])
            (fun σ => (i2 ≤ σ.2.2 ∧ σ.2.2 ≤ heights.length) ∧ (0 ≤ σ.2.1 ∧ σ.2.1 ≤ depth) ∧ (σ.1.length = heights.length + 1) ∧ (-1 ≤ nth σ.1 i2.toNat ∧ nth σ.1 i2.toNat ≤ 30000000) ∧ (σ.1 = (costT depth heights p.toNat i2.toNat).set i2.toNat (nth σ.1 i2.toNat)) ∧ ((cutsF depth σ.2.1 (heights.drop σ.2.2.toNat)).foldl (cstep depth (costF depth (p.toNat - 1))) (nth σ.1 i2.toNat) = costF depth p.toNat (heights.drop i2.toNat))) (fun σ => (heights.length - σ.2.2).toNat) (row_2, 0, i2) ?_ ?_ ?_ ?_
          · cbv
          · cbv
          · exact ⟨(by (try dsimp only) <;> first | omega | rfl | (simp [*]; done)), (by (try dsimp only) <;> first | omega | rfl | (simp [*]; done)), (by (try dsimp only) <;> first | omega | rfl | (simp [*]; done)), (by (try dsimp only) <;> (rw [rq, costT_at _ _ _ fl]; omega)), (by (try dsimp only) <;> (rw [← rq]; exact (set_nth_self (by omega)).symm)), (by (try dsimp only) <;> (rw [rq, costT_at _ _ _ fl, show p.toNat = (p.toNat - 1) + 1 by omega]; rfl))⟩
          rintro ⟨row_3, used, to_⟩ ⟨tb, ub, lr, ab, rq4, fq⟩ E3 hE3 F3 hF3
          dsimp only at tb ub lr ab rq4 fq
          conv => cbv
          refine r_lenR m.sX fun n3 hn3 mn3 => ?_
          conv => cbv
          refine r_lss m.sX (fun h4 => ?_) (fun h4 => ?_) <;> conv => cbv
          · refine r_index m.sX (by omega) (by omega) fun x1 hx1 => ?_
            conv => cbv
            have mx1 := get_mem hx1
            have vx1 := nth_some hx1
            have b1 := hx x1 mx1
            refine r_addf m.sX (by omega) (by omega) fun r2 hr2 => ?_
            conv => cbv
            refine r_leq m.sX (fun h5 => ?_) (fun h5 => ?_) <;> conv => cbv
            · refine r_index m.sX (by omega) (by omega) fun x2 hx2 => ?_
              conv => cbv
              have mx2 := get_mem hx2
              have vx2 := nth_some hx2
              obtain rfl : x1 = x2 := Option.some.inj (hx1.symm.trans hx2)
              refine r_addf m.sX (by omega) (by omega) fun used_2 hused_2 => ?_
              conv => cbv
              refine r_draw m (by kernel_rfl) ?_
              conv => cbv
              refine r_subf m.sY (by omega) (by omega) fun r3 hr3 => ?_
              conv => cbv
              refine r_subf m.sY (by omega) (by omega) fun r4 hr4 => ?_
              conv => cbv
              have mb := mul_bound (show 0 ≤ r3 by omega) (show r3 ≤ 1000 by omega) (show 0 ≤ r4 by omega) (show r4 ≤ 1000 by omega)
              refine r_mulf m.sY (by first | omega | (subst_vars; omega)) (by first | omega | (subst_vars; omega)) fun rest hrest => ?_
              conv => cbv
              have sr : sqF depth (used + x1) = rest := (by rw [hrest, hr3, hr4, hused_2]; rfl)
              have sb : 0 ≤ rest ∧ rest ≤ 1000000 := (by rw [hrest]; omega)
              refine r_subf m.sY (by omega) (by omega) fun r5 hr5 => ?_
              conv => cbv
              refine r_oindex m.sY (by omega) (by omega) ?_
              conv => cbv
              obtain ⟨x3, hx3⟩ := get_ex (xs := out) (i := Int.toNat r5) (by omega)
              have mx3 := get_mem hx3
              have e3 : x3 = costR depth heights (p.toNat - 1) := (by have := costs_at depth heights (n := p.toNat) (p := p.toNat - 1) (by omega); rw [← oq, show p.toNat - 1 = r5.toNat by omega, hx3] at this; rw [show p.toNat - 1 = r5.toNat by omega]; exact Option.some.inj this)
              have l3 : x3.length = heights.length + 1 := (by rw [e3, costR_length])
              refine r_oload m.sY hx3 (Nat.le_of_ble_eq_true rfl) ?_
              conv => cbv
              refine r_addf m.sY (by omega) (by omega) fun r6 hr6 => ?_
              conv => cbv
              refine r_index m.sY (by omega) (by omega) fun tail htail => ?_
              conv => cbv
              have mtail := get_mem htail
              have vtail := nth_some htail
              have et : costF depth (p.toNat - 1) (heights.drop (to_.toNat + 1)) = tail := (by have := costR_at depth heights (p.toNat - 1) (f := to_.toNat + 1) (by omega); rw [← e3, show to_.toNat + 1 = r6.toNat by omega, htail] at this; rw [show to_.toNat + 1 = r6.toNat by omega]; exact (Option.some.inj this).symm)
              have t1 := cost_ge depth (p.toNat - 1) (heights.drop (to_.toNat + 1))
              have t2 := cost_up hd.2 (p.toNat - 1) (heights.drop (to_.toNat + 1)) (fun x hm => hx x (List.mem_of_mem_drop hm))
              rw [et] at t1 t2
              have cs : ∀ acc, cstep depth (costF depth (p.toNat - 1)) acc (used + x1, heights.drop (to_.toNat + 1)) = if 0 ≤ tail ∧ (acc < 0 ∨ rest + tail < acc) then rest + tail else acc := fun acc => (by rw [cstep]; show (if 0 ≤ costF depth (p.toNat - 1) (heights.drop (to_.toNat + 1)) ∧ _ then _ else _) = _; rw [et, sr])
              refine r_geq m.sX (fun h6 => ?_) (fun h6 => ?_) <;> conv => cbv
              · refine r_oindex m.sX (by omega) (by omega) ?_
                conv => cbv
                obtain ⟨x4, hx4⟩ := get_ex (xs := row_3) (i := Int.toNat i2) (by omega)
                have mx4 := get_mem hx4
                have dx4 := drop_cons hx4
                have kx4 := take_snoc hx4
                have jx4 : (i2 + 1).toNat = Int.toNat i2 + 1 := by omega
                have vx4 := nth_some hx4
                refine r_oload m.sX hx4 (Nat.le_of_ble_eq_true rfl) ?_
                conv => cbv
                refine r_lss m.sX (fun h7 => ?_) (fun h7 => ?_) <;> conv => cbv
                · refine r_addf m.sX (by omega) (by omega) fun r7 hr7 => ?_
                  conv => cbv
                  refine r_oindex m.sX (by omega) (by omega) ?_
                  conv => cbv
                  obtain ⟨y1, hy1⟩ := get_ex (xs := row_3) (i := Int.toNat i2) (by omega)
                  refine r_ostore (l := Int.toNat i2) r7 m.sX hy1 (Nat.le_of_ble_eq_true rfl) rfl fun row_4 hrow_4 => ?_   -- row_4 = row_3.set i2 r7
                  have lrow_4 : (row_4.length : Int) = row_3.length := by rw [hrow_4]; first | done | (simp; done) | (simp; omega)
                  have rq0 : row = costT depth heights p.toNat 0 := (by rw [hrow, hv2, q, show i1.toNat = heights.length by omega, costT_zero])
                  conv => cbv
                  refine r_addf m.sX (by omega) (by omega) fun to__2 hto__2 => ?_
                  conv => cbv
                  refine hE3 _ (row_4, used_2, to__2) ?_ ?_ ⟨(by (try dsimp only) <;> first | omega | rfl | (simp [*]; done) | (rw [tb]; simp [*]; done)), (by (try dsimp only) <;> first | omega | rfl | (simp [*]; done) | (rw [ub]; simp [*]; done)), (by (try dsimp only) <;> (first | exact lr | omega)), (by (try dsimp only) <;> (first | exact ab | (rw [hrow_4, nth_set_self (by omega)]; omega) | (rw [hrow_5, nth_set_self (by omega)]; omega))), (by (try dsimp only) <;> (first | exact rq4 | (rw [hrow_4]; exact set_keep rq4 (by rw [costT_length]; omega)) | (rw [hrow_5]; exact set_keep rq4 (by rw [costT_length]; omega)))), (by (try dsimp only) <;> (first | (rw [show to__2.toNat = to_.toNat + 1 by omega, hused_2, hrow_4, nth_set_self (by omega)]; exact cut_go hx1 (by omega) (by rw [cs, if_pos (by omega), hr7]) fq) | (rw [show to__3.toNat = to_.toNat + 1 by omega, hused_2, hrow_5, nth_set_self (by omega)]; exact cut_go hx1 (by omega) (by rw [cs, if_pos (by omega), hr9]) fq) | (rw [show to__4.toNat = to_.toNat + 1 by omega, hused_2]; exact cut_go hx1 (by omega) (by rw [cs, if_neg (by omega)]) fq) | (rw [show to__5.toNat = to_.toNat + 1 by omega, hused_2]; exact cut_go hx1 (by omega) (by rw [cs, if_neg (by omega)]) fq)))⟩ (by first | omega | (dsimp only; omega))
                  · cbv
                  · cbv
                · refine r_addf m.sX (by omega) (by omega) fun r8 hr8 => ?_
                  conv => cbv
                  refine r_oindex m.sX (by omega) (by omega) ?_
                  conv => cbv
                  obtain ⟨x5, hx5⟩ := get_ex (xs := row_3) (i := Int.toNat i2) (by omega)
                  have mx5 := get_mem hx5
                  have dx5 := drop_cons hx5
                  have kx5 := take_snoc hx5
                  have jx5 : (i2 + 1).toNat = Int.toNat i2 + 1 := by omega
                  have vx5 := nth_some hx5
                  refine r_oload m.sX hx5 (Nat.le_of_ble_eq_true rfl) ?_
                  conv => cbv
                  refine r_lss m.sX (fun h8 => ?_) (fun h8 => ?_) <;> conv => cbv
                  · refine r_addf m.sX (by omega) (by omega) fun r9 hr9 => ?_
                    conv => cbv
                    refine r_oindex m.sX (by omega) (by omega) ?_
                    conv => cbv
                    obtain ⟨y2, hy2⟩ := get_ex (xs := row_3) (i := Int.toNat i2) (by omega)
                    refine r_ostore (l := Int.toNat i2) r9 m.sX hy2 (Nat.le_of_ble_eq_true rfl) rfl fun row_5 hrow_5 => ?_   -- row_5 = row_3.set i2 r9
                    have lrow_5 : (row_5.length : Int) = row_3.length := by rw [hrow_5]; first | done | (simp; done) | (simp; omega)
                    have rq0 : row = costT depth heights p.toNat 0 := (by rw [hrow, hv2, q, show i1.toNat = heights.length by omega, costT_zero])
                    conv => cbv
                    refine r_addf m.sX (by omega) (by omega) fun to__3 hto__3 => ?_
                    conv => cbv
                    refine hE3 _ (row_5, used_2, to__3) ?_ ?_ ⟨(by (try dsimp only) <;> first | omega | rfl | (simp [*]; done) | (rw [tb]; simp [*]; done)), (by (try dsimp only) <;> first | omega | rfl | (simp [*]; done) | (rw [ub]; simp [*]; done)), (by (try dsimp only) <;> (first | exact lr | omega)), (by (try dsimp only) <;> (first | exact ab | (rw [hrow_4, nth_set_self (by omega)]; omega) | (rw [hrow_5, nth_set_self (by omega)]; omega))), (by (try dsimp only) <;> (first | exact rq4 | (rw [hrow_4]; exact set_keep rq4 (by rw [costT_length]; omega)) | (rw [hrow_5]; exact set_keep rq4 (by rw [costT_length]; omega)))), (by (try dsimp only) <;> (first | (rw [show to__2.toNat = to_.toNat + 1 by omega, hused_2, hrow_4, nth_set_self (by omega)]; exact cut_go hx1 (by omega) (by rw [cs, if_pos (by omega), hr7]) fq) | (rw [show to__3.toNat = to_.toNat + 1 by omega, hused_2, hrow_5, nth_set_self (by omega)]; exact cut_go hx1 (by omega) (by rw [cs, if_pos (by omega), hr9]) fq) | (rw [show to__4.toNat = to_.toNat + 1 by omega, hused_2]; exact cut_go hx1 (by omega) (by rw [cs, if_neg (by omega)]) fq) | (rw [show to__5.toNat = to_.toNat + 1 by omega, hused_2]; exact cut_go hx1 (by omega) (by rw [cs, if_neg (by omega)]) fq)))⟩ (by first | omega | (dsimp only; omega))
                    · cbv
                    · cbv
                  · refine r_addf m.sX (by omega) (by omega) fun to__4 hto__4 => ?_
                    conv => cbv
                    refine hE3 _ (row_3, used_2, to__4) ?_ ?_ ⟨(by (try dsimp only) <;> first | omega | rfl | (simp [*]; done) | (rw [tb]; simp [*]; done)), (by (try dsimp only) <;> first | omega | rfl | (simp [*]; done) | (rw [ub]; simp [*]; done)), (by (try dsimp only) <;> (first | exact lr | omega)), (by (try dsimp only) <;> (first | exact ab | (rw [hrow_4, nth_set_self (by omega)]; omega) | (rw [hrow_5, nth_set_self (by omega)]; omega))), (by (try dsimp only) <;> (first | exact rq4 | (rw [hrow_4]; exact set_keep rq4 (by rw [costT_length]; omega)) | (rw [hrow_5]; exact set_keep rq4 (by rw [costT_length]; omega)))), (by (try dsimp only) <;> (first | (rw [show to__2.toNat = to_.toNat + 1 by omega, hused_2, hrow_4, nth_set_self (by omega)]; exact cut_go hx1 (by omega) (by rw [cs, if_pos (by omega), hr7]) fq) | (rw [show to__3.toNat = to_.toNat + 1 by omega, hused_2, hrow_5, nth_set_self (by omega)]; exact cut_go hx1 (by omega) (by rw [cs, if_pos (by omega), hr9]) fq) | (rw [show to__4.toNat = to_.toNat + 1 by omega, hused_2]; exact cut_go hx1 (by omega) (by rw [cs, if_neg (by omega)]) fq) | (rw [show to__5.toNat = to_.toNat + 1 by omega, hused_2]; exact cut_go hx1 (by omega) (by rw [cs, if_neg (by omega)]) fq)))⟩ (by first | omega | (dsimp only; omega))
                    · cbv
                    · cbv
              · refine r_addf m.sX (by omega) (by omega) fun to__5 hto__5 => ?_
                conv => cbv
                refine hE3 _ (row_3, used_2, to__5) ?_ ?_ ⟨(by (try dsimp only) <;> first | omega | rfl | (simp [*]; done) | (rw [tb]; simp [*]; done)), (by (try dsimp only) <;> first | omega | rfl | (simp [*]; done) | (rw [ub]; simp [*]; done)), (by (try dsimp only) <;> (first | exact lr | omega)), (by (try dsimp only) <;> (first | exact ab | (rw [hrow_4, nth_set_self (by omega)]; omega) | (rw [hrow_5, nth_set_self (by omega)]; omega))), (by (try dsimp only) <;> (first | exact rq4 | (rw [hrow_4]; exact set_keep rq4 (by rw [costT_length]; omega)) | (rw [hrow_5]; exact set_keep rq4 (by rw [costT_length]; omega)))), (by (try dsimp only) <;> (first | (rw [show to__2.toNat = to_.toNat + 1 by omega, hused_2, hrow_4, nth_set_self (by omega)]; exact cut_go hx1 (by omega) (by rw [cs, if_pos (by omega), hr7]) fq) | (rw [show to__3.toNat = to_.toNat + 1 by omega, hused_2, hrow_5, nth_set_self (by omega)]; exact cut_go hx1 (by omega) (by rw [cs, if_pos (by omega), hr9]) fq) | (rw [show to__4.toNat = to_.toNat + 1 by omega, hused_2]; exact cut_go hx1 (by omega) (by rw [cs, if_neg (by omega)]) fq) | (rw [show to__5.toNat = to_.toNat + 1 by omega, hused_2]; exact cut_go hx1 (by omega) (by rw [cs, if_neg (by omega)]) fq)))⟩ (by first | omega | (dsimp only; omega))
                · cbv
                · cbv
            · refine hF3 _ _ ?_
              conv => cbv
              refine r_addf m.sX (by omega) (by omega) fun r10 hr10 => ?_
              conv => cbv
              try have tr10 : Int.toNat r10 = Int.toNat i2 + 1 := by omega
              refine hE2 _ (row_3, r10) ?_ ?_ ⟨(by (try dsimp only); first | omega | (simp only [List.length_nil]; omega) | (simp only [List.length_cons, List.length_nil]; omega)), (by (try dsimp only); first | omega | (simp only [List.length_nil]; omega) | (simp only [List.length_cons, List.length_nil]; omega)), (by (try dsimp only) <;> (first | (rw [tr10, ← costT_step _ _ _ fl, ← fq, cut_stop (fun h hh => by rw [hx1] at hh; cases hh; omega)]; exact rq4) | (rw [tr10, ← costT_step _ _ _ fl, ← fq, cut_stop (fun h hh => by have := (List.getElem?_eq_some_iff.1 hh).1; omega)]; exact rq4)))⟩ (by first | omega | (dsimp only; omega))
              · cbv
              · cbv
          · refine hF3 _ _ ?_
            conv => cbv
            refine r_addf m.sX (by omega) (by omega) fun r11 hr11 => ?_
            conv => cbv
            try have tr11 : Int.toNat r11 = Int.toNat i2 + 1 := by omega
            refine hE2 _ (row_3, r11) ?_ ?_ ⟨(by (try dsimp only); first | omega | (simp only [List.length_nil]; omega) | (simp only [List.length_cons, List.length_nil]; omega)), (by (try dsimp only); first | omega | (simp only [List.length_nil]; omega) | (simp only [List.length_cons, List.length_nil]; omega)), (by (try dsimp only) <;> (first | (rw [tr11, ← costT_step _ _ _ fl, ← fq, cut_stop (fun h hh => by rw [hx1] at hh; cases hh; omega)]; exact rq4) | (rw [tr11, ← costT_step _ _ _ fl, ← fq, cut_stop (fun h hh => by have := (List.getElem?_eq_some_iff.1 hh).1; omega)]; exact rq4)))⟩ (by first | omega | (dsimp only; omega))
            · cbv
            · cbv
        · have dz_i2 := drop_end (xs := heights) (i := Int.toNat i2) (by omega)
          have tz_i2 := take_end (xs := heights) (i := Int.toNat i2) (by omega)
          refine hF2 _ _ ?_
          conv => cbv
          refine r_append1 (row_2) m.sX rfl (by first | omega | (dsimp only; omega)) (by first | omega | (dsimp only; omega)) fun out_2 hout_2 => ?_
          conv => cbv
          have lout_2 : (out_2.length : Int) = out.length + 1 := by rw [hout_2]; first | done | (simp; done) | (simp; omega)
          refine r_addf m.sX (by omega) (by omega) fun p_2 hp_2 => ?_
          conv => cbv
          refine hE _ (out_2, p_2) ?_ ?_ ⟨(by (try dsimp only) <;> first | omega | rfl | (simp [*]; done) | (rw [pb]; simp [*]; done)), (by (try dsimp only) <;> (rw [hout_2, oq, rq, show i2.toNat = heights.length by omega, costT_all _ _ (by omega), show p_2.toNat = p.toNat + 1 by omega, costs_snoc]))⟩ (by first | omega | (dsimp only; omega))
          · cbv
          · cbv
      · refine hF _ _ ?_
        conv => cbv
        exact hQ (.fr 27 1 (rows (cSl 1 cInt) out)) (Eq.trans (by first | rfl | (simp only [lb, lbI, rows_cons, rows_nil, unnilT, unnil, unnilTI, unnilI]; done) | (simp only [lb, lbI, rows_cons, rows_nil, unnilT, unnil, unnilTI, unnilI]; rfl)) (congrArg (fun l => PV.isl 1 (rows (cSl 1 cInt) l)) (show out = costsF depth heights (pages.toNat + 1) from by rw [oq, show p.toNat = pages.toNat + 1 by omega]))))   -- leaf 1


/- Contract of spec.EvenBreaks. -/
def evenAns (l : List (List Int)) (d : Int) : List Int × Int × Bool := if rowsB l d then (evenF d (heightsF l), sqrF d (heightsF l), true) else ([], 0, false)
abbrev goodB (d : Int) (l : List Int) : Int × List Int → Bool := fun x => decide (goodCut d l x)
theorem rest_find {d : Int} {hs : List Int} (hl : ∀ h ∈ hs, 0 ≤ h ∧ h ≤ d) (hd : 0 ≤ d) {s : Nat} (h : s < hs.length) : ∃ u, (cutsF d 0 (hs.drop s)).find? (goodB d (hs.drop s)) = some (u, restF d (hs.drop s)) := by
  have ne : hs.drop s ≠ [] := by intro h; have := congrArg List.length h; simp at this; omega
  obtain ⟨-, pre, u, post, e1, g, b, -⟩ := pfold_best (fun h hh => hl h (List.mem_of_mem_drop hh)) hd ne []
  refine ⟨u, ?_⟩
  rw [e1, List.find?_append, List.find?_eq_none.2 (fun x hx => by simpa [goodB] using b x hx), Option.none_or, List.find?_cons_of_pos (by simpa [goodB] using g)]
theorem find_first {d : Int} {hs l : List Int} {s : Nat} {h : Int} {r : Option (Int × List Int)} (hh : hs[s]? = some h) (hd : h ≤ d) (e : (cutsF d 0 (hs.drop s)).find? (goodB d l) = r) : ((h, hs.drop (s + 1)) :: cutsF d h (hs.drop (s + 1))).find? (goodB d l) = r := by
  rw [← e, drop_cons hh, cutsF, if_pos (by omega), Int.zero_add]
theorem find_next {d : Int} {hs l : List Int} {t : Nat} {u : Int} {r : Int × List Int} (hn : ¬ goodCut d l (u, hs.drop t)) (e : ((u, hs.drop t) :: cutsF d u (hs.drop t)).find? (goodB d l) = some r) : t < hs.length ∧ ∀ h, hs[t]? = some h → u + h ≤ d ∧ ((u + h, hs.drop (t + 1)) :: cutsF d (u + h) (hs.drop (t + 1))).find? (goodB d l) = some r := by
  rw [List.find?_cons_of_neg (by simpa [goodB] using hn)] at e
  refine ⟨?_, fun h hh => ?_⟩
  · rcases Nat.lt_or_ge t hs.length with h | h
    · exact h
    · rw [List.drop_eq_nil_of_le h] at e; cases e
  · rw [drop_cons hh, cutsF] at e
    by_cases c : u + h ≤ d
    · rw [if_pos c] at e; exact ⟨c, e⟩
    · rw [if_neg c] at e; cases e
theorem find_done {d : Int} {hs l : List Int} {t : Nat} {u : Int} {r : Int × List Int} (hg : goodCut d l (u, hs.drop t)) (e : ((u, hs.drop t) :: cutsF d u (hs.drop t)).find? (goodB d l) = some r) : r.2 = hs.drop t := by
  rw [List.find?_cons_of_pos (by simpa [goodB] using hg)] at e
  cases e; rfl
theorem plHeightsI_ok (l : List (List Int)) (hn : l.length ≤ 1000) : OkA Try.prog 55 [.isl 1 (rows (cSl 1 cInt) l)] (· = .isl 1 (rows cInt (heightsF l))) :=
  OkA.iceI 1 ((plHeights_ok l hn).mono fun r h => by rw [h]; rfl)
theorem specEvenBreaks_ok (l : List (List Int)) (depth : Int)  : OkA Try.prog 11 [.isl 1 (rows (cSl 1 cInt) l), .int .i64 depth] (· = (lic 3 1 cInt) (evenAns l depth)) :=
  OkA.unnil 3 1 (fn_intro envOk fieldsOk mixed Try.func11 rfl fun κ X Y L Q m hQ => by
    conv => cbv
    refine r_callB m.sX (plPaged_ok l depth) (fun h1 => ?_) (fun h1 => ?_) <;> conv => cbv
    · obtain ⟨hp, hd, hx, hl, h24⟩ := rowsB_spec h1
      refine r_lenR m.sX fun n1 hn1 mn1 => ?_
      conv => cbv
      refine r_eql m.sX (fun h2 => ?_) (fun h2 => ?_) <;> conv => cbv
      · exact hQ (.tup [.nil, .int .i64 0, .bool true]) (Eq.trans (by first | rfl | (simp only [lic, licI, lb, lbI, rows_cons, rows_nil, unnilT, unnil, unnilTI, unnilI]; done) | (simp only [lic, licI, lb, lbI, rows_cons, rows_nil, unnilT, unnil, unnilTI, unnilI]; rfl)) (congrArg ((lic 3 1 cInt)) (show ([], 0, true) = evenAns l depth from by obtain rfl := List.eq_nil_of_length_eq_zero (show l.length = 0 by omega); rw [evenAns, if_pos h1]; rfl)))   -- leaf 1
      · refine r_callF (fun l => PV.isl _ (rows _ l)) m.sX (plHeightsI_ok l (by omega)) fun heights hheights => ?_
        conv => cbv
        rw [← hheights] at hx hl
        have ne : heights ≠ [] := (by intro e; rw [e] at hl; simp at hl; omega)
        refine r_callF (fun l => PV.fr _ _ (rows _ l)) m.sX (plBreaks_ok heights depth (by first | rfl | assumption | omega | (simp only [List.length_append, List.length_cons, List.length_nil] at *; omega)) (by first | rfl | assumption | omega | (simp only [List.length_append, List.length_cons, List.length_nil] at *; omega)) (by first | rfl | assumption | omega | (simp only [List.length_append, List.length_cons, List.length_nil] at *; omega))) fun v1 hv1 => ?_
        conv => cbv
        have lv : v1.length = grF depth heights - 1 := (by rw [hv1, breaksF_length ne])
        have g0 : 0 < grF depth heights := Nat.pos_of_ne_zero fun h0 => ne (gr_nil h0)
        obtain ⟨pt, hpt⟩ := breaksF_part hx ne
        have pl := hpt.length
        rw [breaksF_length ne] at pl
        refine r_lenR m.sX fun n2 hn2 mn2 => ?_
        conv => cbv
        refine r_addf m.sX (by omega) (by omega) fun pages hpages => ?_
        conv => cbv
        have pg : pages.toNat = grF depth heights := (by omega)
        refine r_callF (fun l => PV.isl _ (rows _ l)) m.sX (plCosts_ok heights pages depth (by first | rfl | assumption | omega | (simp only [List.length_append, List.length_cons, List.length_nil] at *; omega)) (by first | rfl | assumption | omega | (simp only [List.length_append, List.length_cons, List.length_nil] at *; omega)) (by first | rfl | assumption | omega | (simp only [List.length_append, List.length_cons, List.length_nil] at *; omega)) (by first | rfl | assumption | omega | (simp only [List.length_append, List.length_cons, List.length_nil] at *; omega))) fun costs hcosts => ?_
        conv => cbv
        have ca : ∀ p : Nat, p ≤ grF depth heights → costs[p]? = some (costR depth heights p) := fun p hp => (by rw [hcosts, pg]; exact costs_at _ _ (by omega))
        have cl : costs.length = grF depth heights + 1 := (by rw [hcosts, pg]; simp [costsF])
        refine r_loopF (α := List Int × Int × Int) m 99 [1, 7, 8, 9, 11, 12] [⟨10, 81, 3, 1, 0⟩] (fun σ => [(1, .int .i64 depth), (7, .isl 1 (rows cInt heights)), (8, .int .i64 pages), (9, .isl 1 (rows (cSl 1 cInt) costs)), (10, .osl 81 0), (11, .int .i64 σ.2.1), (12, .int .i64 σ.2.2)]) (fun σ => [(81, 0, .row 3 1 (rows cInt σ.1))])
          (fun σ => (1 ≤ σ.2.2 ∧ σ.2.2 ≤ pages) ∧ (0 ≤ σ.2.1 ∧ σ.2.1 < heights.length) ∧ (σ.2.2.toNat = grF depth (heights.drop σ.2.1.toNat)) ∧ (σ.1 ++ evenN depth heights.length (σ.2.2.toNat - 1) (heights.drop σ.2.1.toNat) = evenF depth heights) ∧ ((σ.1.length : Int) + σ.2.2 = pages)) (fun σ => σ.2.2.toNat) ([], 0, pages) ?_ ?_ ?_ ?_
        · cbv
        · (try dsimp only); (try simp only [rows_cons, rows_nil]); cbv
        · exact ⟨(by (try dsimp only) <;> first | omega | rfl | (simp [*]; done)), (by (try dsimp only) <;> first | omega | rfl | (simp [*]; done)), (by (try dsimp only) <;> (exact pg)), (by (try dsimp only) <;> (rw [pg]; rfl)), (by (try dsimp only) <;> first | omega | rfl | (simp [*]; done))⟩
        rintro ⟨out, from_, p⟩ ⟨pb, fb, gq, oq, ll⟩ E hE F hF
        dsimp only at pb fb gq oq ll
        conv => cbv
        refine r_gtr m.sX (fun h3 => ?_) (fun h3 => ?_) <;> conv => cbv
        · refine r_draw m (by kernel_rfl) ?_
          conv => cbv
          refine r_addf m.sY (by omega) (by omega) fun next hnext => ?_
          conv => cbv
          refine r_index m.sY (by omega) (by omega) fun used hused => ?_
          conv => cbv
          have mused := get_mem hused
          have vused := nth_some hused
          have fl : from_.toNat < heights.length := (by omega)
          obtain ⟨u0, fd⟩ := rest_find hx (by omega) fl
          obtain ⟨e, a1, a2, a3, a4, -, a5, a6⟩ := rest_at hx (by omega) fl
          have bu := hx used mused
          refine r_loopF (α := Int × Int) m 99 [1, 7, 8, 9, 11, 12, 13, 14] [⟨10, 81, 3, 1, 0⟩] (fun σ => [(1, .int .i64 depth), (7, .isl 1 (rows cInt heights)), (8, .int .i64 pages), (9, .isl 1 (rows (cSl 1 cInt) costs)), (10, .osl 81 0), (11, .int .i64 from_), (12, .int .i64 p), (13, .int .i64 σ.1), (14, .int .i64 σ.2)]) (fun σ => [(81, 0, .row 3 1 (rows cInt out))])
            (fun σ => (from_ + 1 ≤ σ.1 ∧ σ.1 ≤ heights.length) ∧ (0 ≤ σ.2 ∧ σ.2 ≤ depth) ∧ (((σ.2, heights.drop σ.1.toNat) :: cutsF depth σ.2 (heights.drop σ.1.toNat)).find? (goodB depth (heights.drop from_.toNat)) = some (u0, restF depth (heights.drop from_.toNat)))) (fun σ => (heights.length - σ.1).toNat) (next, used) ?_ ?_ ?_ ?_
          · cbv
          · cbv
          · exact ⟨(by (try dsimp only) <;> first | omega | rfl | (simp [*]; done)), (by (try dsimp only) <;> first | omega | rfl | (simp [*]; done)), (by (try dsimp only) <;> (rw [show next.toNat = from_.toNat + 1 by omega]; exact find_first hused (by omega) fd))⟩
          rintro ⟨next_2, used_2⟩ ⟨nb, ub, fq⟩ E2 hE2 F2 hF2
          dsimp only at nb ub fq
          conv => cbv
          refine r_draw m (by kernel_rfl) ?_
          conv => cbv
          refine r_subf m.sY (by omega) (by omega) fun r1 hr1 => ?_
          conv => cbv
          refine r_index m.sY (by omega) (by omega) fun x1 hx1 => ?_
          conv => cbv
          have mx1 := get_mem hx1
          have e1 : x1 = costR depth heights (p.toNat - 1) := (by have := ca (p.toNat - 1) (by omega); rw [show p.toNat - 1 = r1.toNat by omega] at this ⊢; exact Option.some.inj (hx1.symm.trans this))
          have l1 : x1.length = heights.length + 1 := (by rw [e1, costR_length])
          refine r_index m.sY (by omega) (by omega) fun x2 hx2 => ?_
          conv => cbv
          have mx2 := get_mem hx2
          have vx2 := nth_some hx2
          have e2 : x2 = costF depth (p.toNat - 1) (heights.drop next_2.toNat) := (by have := costR_at depth heights (p.toNat - 1) (f := next_2.toNat) (by omega); rw [← e1, hx2] at this; exact Option.some.inj this)
          have t1 := cost_ge depth (p.toNat - 1) (heights.drop next_2.toNat)
          have t2 := cost_up hd.2 (p.toNat - 1) (heights.drop next_2.toNat) (fun x hm => hx x (List.mem_of_mem_drop hm))
          rw [← e2] at t1 t2
          refine r_lss m.sY (fun h4 => ?_) (fun h4 => ?_) <;> conv => cbv
          · have hn : ¬ goodCut depth (heights.drop from_.toNat) (used_2, heights.drop next_2.toNat) := fun g => (by have g1 : 0 ≤ costF depth (grF depth (heights.drop from_.toNat) - 1) (heights.drop next_2.toNat) := g.1; rw [← gq, ← e2] at g1; omega)
            obtain ⟨nl, nf⟩ := find_next hn fq
            refine r_index m.sX (by omega) (by omega) fun x3 hx3 => ?_
            conv => cbv
            have mx3 := get_mem hx3
            have vx3 := nth_some hx3
            have n3 := nf x3 hx3
            have n31 := n3.1
            have b3 := hx x3 mx3
            refine r_addf m.sX (by omega) (by omega) fun used_3 hused_3 => ?_
            conv => cbv
            have fl : from_.toNat < heights.length := (by omega)
            obtain ⟨u0, fd⟩ := rest_find hx (by omega) fl
            obtain ⟨e, a1, a2, a3, a4, -, a5, a6⟩ := rest_at hx (by omega) fl
            have bu := hx used mused
            refine r_addf m.sX (by omega) (by omega) fun next_3 hnext_3 => ?_
            conv => cbv
            refine hE2 _ (next_3, used_3) ?_ ?_ ⟨(by (try dsimp only) <;> first | omega | rfl | (simp [*]; done) | (rw [nb]; simp [*]; done)), (by (try dsimp only) <;> first | omega | rfl | (simp [*]; done) | (rw [ub]; simp [*]; done)), (by (try dsimp only) <;> (first | (rw [hused_3, show next_3.toNat = next_2.toNat + 1 by omega]; exact n3.2) | (rw [hused_4, show next_4.toNat = next_2.toNat + 1 by omega]; exact n3.2)))⟩ (by first | omega | (dsimp only; omega))
            · cbv
            · cbv
          · refine r_subf m.sY (by omega) (by omega) fun r2 hr2 => ?_
            conv => cbv
            refine r_subf m.sY (by omega) (by omega) fun r3 hr3 => ?_
            conv => cbv
            have mb := mul_bound (show 0 ≤ r2 by omega) (show r2 ≤ 1000 by omega) (show 0 ≤ r3 by omega) (show r3 ≤ 1000 by omega)
            refine r_mulf m.sY (by first | omega | (subst_vars; omega)) (by first | omega | (subst_vars; omega)) fun r4 hr4 => ?_
            conv => cbv
            have sr : sqF depth used_2 = r4 := (by rw [hr4, hr2, hr3]; rfl)
            have sb : 0 ≤ r4 ∧ r4 ≤ 1000000 := (by rw [hr4]; omega)
            refine r_subf m.sY (by omega) (by omega) fun r5 hr5 => ?_
            conv => cbv
            refine r_index m.sY (by omega) (by omega) fun x4 hx4 => ?_
            conv => cbv
            have mx4 := get_mem hx4
            have e4 : x4 = x1 := (by rw [show r5.toNat = r1.toNat by omega] at hx4; exact Option.some.inj (hx4.symm.trans hx1))
            have l4 : x4.length = heights.length + 1 := (by rw [e4]; exact l1)
            refine r_index m.sY (by omega) (by omega) fun x5 hx5 => ?_
            conv => cbv
            have mx5 := get_mem hx5
            have vx5 := nth_some hx5
            have e5 : x5 = x2 := (by rw [e4] at hx5; exact Option.some.inj (hx5.symm.trans hx2))
            refine r_addf m.sY (by omega) (by omega) fun r6 hr6 => ?_
            conv => cbv
            refine r_index m.sY (by omega) (by omega) fun x6 hx6 => ?_
            conv => cbv
            have mx6 := get_mem hx6
            have e6 : x6 = costR depth heights p.toNat := Option.some.inj (hx6.symm.trans (ca p.toNat (by omega)))
            have l6 : x6.length = heights.length + 1 := (by rw [e6, costR_length])
            refine r_index m.sY (by omega) (by omega) fun x7 hx7 => ?_
            conv => cbv
            have mx7 := get_mem hx7
            have vx7 := nth_some hx7
            have e7 : x7 = sqrF depth (heights.drop from_.toNat) := (by have := costR_at depth heights p.toNat (f := from_.toNat) (by omega); rw [← e6, hx7] at this; rw [sqrF, ← gq]; exact Option.some.inj this)
            refine r_neq m.sY (fun h5 => ?_) (fun h5 => ?_) <;> conv => cbv
            · have hn : ¬ goodCut depth (heights.drop from_.toNat) (used_2, heights.drop next_2.toNat) := fun g => (by have g2 : sqF depth used_2 + costF depth (grF depth (heights.drop from_.toNat) - 1) (heights.drop next_2.toNat) = sqrF depth (heights.drop from_.toNat) := g.2; rw [← gq, ← e2, ← e7, sr] at g2; omega)
              obtain ⟨nl, nf⟩ := find_next hn fq
              refine r_index m.sX (by omega) (by omega) fun x8 hx8 => ?_
              conv => cbv
              have mx8 := get_mem hx8
              have vx8 := nth_some hx8
              have n3 := nf x8 hx8
              have n31 := n3.1
              have b3 := hx x8 mx8
              refine r_addf m.sX (by omega) (by omega) fun used_4 hused_4 => ?_
              conv => cbv
              have fl : from_.toNat < heights.length := (by omega)
              obtain ⟨u0, fd⟩ := rest_find hx (by omega) fl
              obtain ⟨e, a1, a2, a3, a4, -, a5, a6⟩ := rest_at hx (by omega) fl
              have bu := hx used mused
              refine r_addf m.sX (by omega) (by omega) fun next_4 hnext_4 => ?_
              conv => cbv
              refine hE2 _ (next_4, used_4) ?_ ?_ ⟨(by (try dsimp only) <;> first | omega | rfl | (simp [*]; done) | (rw [nb]; simp [*]; done)), (by (try dsimp only) <;> first | omega | rfl | (simp [*]; done) | (rw [ub]; simp [*]; done)), (by (try dsimp only) <;> (first | (rw [hused_3, show next_3.toNat = next_2.toNat + 1 by omega]; exact n3.2) | (rw [hused_4, show next_4.toNat = next_2.toNat + 1 by omega]; exact n3.2)))⟩ (by first | omega | (dsimp only; omega))
              · cbv
              · cbv
            · have hg : goodCut depth (heights.drop from_.toNat) (used_2, heights.drop next_2.toNat) := ⟨(by show 0 ≤ costF _ _ _; rw [← gq, ← e2]; omega), (by show sqF _ _ + costF _ _ _ = _; rw [← gq, ← e2, ← e7, sr]; omega)⟩
              have hr0 : restF depth (heights.drop from_.toNat) = heights.drop next_2.toNat := (by have q := find_done hg fq; exact q)
              have ge : grF depth (heights.drop next_2.toNat) + 1 = grF depth (heights.drop from_.toNat) := (by rw [← hr0, a3]; exact a5)
              have lt : next_2 < heights.length := (by by_cases h : next_2 < heights.length; exact h; exfalso; have z : grF depth (heights.drop next_2.toNat) = 0 := (by rw [List.drop_eq_nil_of_le (by omega)]; rfl); omega)
              refine hF2 _ _ ?_
              conv => cbv
              refine r_append1 (next_2) m.sX rfl (by first | omega | (dsimp only; omega)) (by first | omega | (dsimp only; omega)) fun out_2 hout_2 => ?_
              conv => cbv
              have lout_2 : (out_2.length : Int) = out.length + 1 := by rw [hout_2]; first | done | (simp; done) | (simp; omega)
              refine r_subf m.sX (by omega) (by omega) fun p_2 hp_2 => ?_
              conv => cbv
              refine hE _ (out_2, next_2, p_2) ?_ ?_ ⟨(by (try dsimp only) <;> first | omega | rfl | (simp [*]; done) | (rw [pb]; simp [*]; done)), (by (try dsimp only) <;> first | omega | rfl | (simp [*]; done) | (rw [fb]; simp [*]; done)), (by (try dsimp only) <;> (omega)), (by (try dsimp only) <;> (rw [hout_2, ← oq, show p.toNat - 1 = (p_2.toNat - 1) + 1 by omega, evenN, hr0, List.length_drop, show (heights.length : Int) - ((heights.length - next_2.toNat : Nat) : Int) = next_2 by omega, List.append_assoc]; rfl)), (by (try dsimp only) <;> first | omega | rfl | (simp [*]; done) | (rw [ll]; simp [*]; done))⟩ (by first | omega | (dsimp only; omega))
              · cbv
              · cbv
        · refine hF _ _ ?_
          conv => cbv
          refine r_draw m (by kernel_rfl) ?_
          conv => cbv
          refine r_index m.sY (by omega) (by omega) fun x9 hx9 => ?_
          conv => cbv
          have mx9 := get_mem hx9
          have e9 : x9 = costR depth heights (grF depth heights) := Option.some.inj (hx9.symm.trans (by rw [pg]; exact ca _ (Nat.le_refl _)))
          have l9 : x9.length = heights.length + 1 := (by rw [e9, costR_length])
          refine r_index m.sY (by omega) (by omega) fun x10 hx10 => ?_
          conv => cbv
          have mx10 := get_mem hx10
          have vx10 := nth_some hx10
          have e10 : x10 = sqrF depth heights := (by have := costR_at depth heights (grF depth heights) (f := 0) (by omega); rw [← e9] at this; exact Option.some.inj (hx10.symm.trans this))
          exact hQ (.tup [.fr 3 1 (rows cInt out), .int .i64 x10, .bool true]) (Eq.trans (by first | rfl | (simp only [lic, licI, lb, lbI, rows_cons, rows_nil, unnilT, unnil, unnilTI, unnilI]; done) | (simp only [lic, licI, lb, lbI, rows_cons, rows_nil, unnilT, unnil, unnilTI, unnilI]; rfl)) (congrArg ((lic 3 1 cInt)) (show (out, x10, true) = evenAns l depth from by rw [evenAns, if_pos h1, ← hheights, e10, ← oq, show p.toNat - 1 = 0 by omega, evenN, List.append_nil])))   -- leaf 2
    · exact hQ (.tup [.nil, .int .i64 0, .bool false]) (Eq.trans (by first | rfl | (simp only [lic, licI, lb, lbI, rows_cons, rows_nil, unnilT, unnil, unnilTI, unnilI]; done) | (simp only [lic, licI, lb, lbI, rows_cons, rows_nil, unnilT, unnil, unnilTI, unnilI]; rfl)) (congrArg ((lic 3 1 cInt)) (show ([], 0, false) = evenAns l depth from by rw [evenAns, if_neg (by rw [h1]; simp)]))))   -- leaf 3


/- Plain laws on the tables of impl.EvenBreaks. -/

theorem grU_le (d : Int) : ∀ (l : List Int) (u : Int), grU d u l ≤ l.length
  | [], _ => by simp [grU]
  | h :: t, u => by
    rw [grU, List.length_cons]
    split
    · have := grU_le d t h; omega
    · have := grU_le d t (u + h); omega
theorem grF_le (d : Int) (l : List Int) : grF d l ≤ l.length + 1 := by
  unfold grF
  split
  · omega
  · have := grU_le d l 0; omega
section
variable {d : Int} {hs : List Int}
theorem sqr_bound (hl : ∀ h ∈ hs, 0 ≤ h ∧ h ≤ d) (hd : 0 ≤ d ∧ d ≤ 1000) (h24 : hs.length ≤ 24) (j : Nat) : 0 ≤ sqrF d (hs.drop j) ∧ sqrF d (hs.drop j) ≤ 100000000 ∧ grF d (hs.drop j) ≤ 25 := by
  have hx : ∀ h ∈ hs.drop j, 0 ≤ h ∧ h ≤ d := fun h hh => hl h (List.mem_of_mem_drop hh)
  have a := cost_own hd.1 _ (Nat.le_refl _) hx
  have b := cost_up hd.2 (grF d (hs.drop j)) (hs.drop j) hx
  have c := grF_le d (hs.drop j)
  rw [List.length_drop] at c
  unfold sqrF
  refine ⟨a, by omega, by omega⟩
/-- The tables: all entries from k on are found. -/
structure TabE (d : Int) (hs : List Int) (k : Nat) (P S N : List Int) : Prop where
  lp : P.length = hs.length + 1
  ls : S.length = hs.length + 1
  ln : N.length = hs.length + 1
  low : ∀ j, j < k → S[j]? = some 0 ∧ N[j]? = some 0
  hi : ∀ j, k ≤ j → j ≤ hs.length → P[j]? = some ((grF d (hs.drop j) : Nat) : Int) ∧ S[j]? = some (sqrF d (hs.drop j))
  nx : ∀ j, k ≤ j → j < hs.length → N[j]? = some ((hs.length : Int) - (restF d (hs.drop j)).length)
theorem tab0 (d : Int) (hs : List Int) : TabE d hs hs.length (List.replicate (hs.length + 1) 0) (List.replicate (hs.length + 1) 0) (List.replicate (hs.length + 1) 0) := by
  have g : ∀ j, j ≤ hs.length → (List.replicate (hs.length + 1) (0 : Int))[j]? = some 0 := fun j hj => by
    rw [List.getElem?_replicate, if_pos (by omega)]
  refine ⟨by simp, by simp, by simp, fun j hj => ⟨g j (by omega), g j (by omega)⟩, fun j h1 h2 => ?_, fun j h1 h2 => by omega⟩
  have e : j = hs.length := by omega
  subst e
  rw [List.drop_length, g _ (Nat.le_refl _)]
  simp [sqrF, grF, costF]
/-- Row i is being found; the pages up to t have been looked at. -/
structure InE (d : Int) (hs : List Int) (i t : Nat) (s : Int × Int × List Int) (P S N : List Int) : Prop where
  lp : P.length = hs.length + 1
  ls : S.length = hs.length + 1
  ln : N.length = hs.length + 1
  low : ∀ j, j < i → S[j]? = some 0 ∧ N[j]? = some 0
  hi : ∀ j, i < j → j ≤ hs.length → P[j]? = some ((grF d (hs.drop j) : Nat) : Int) ∧ S[j]? = some (sqrF d (hs.drop j))
  nx : ∀ j, i < j → j < hs.length → N[j]? = some ((hs.length : Int) - (restF d (hs.drop j)).length)
  cp : P[i]? = some s.1
  cs : S[i]? = some s.2.1
  cn : N[i]? = some ((hs.length : Int) - s.2.2.length)
  fold : (cutsF d (segF hs i t) (hs.drop t)).foldl (pstep d) s = (((grF d (hs.drop i) : Nat) : Int), sqrF d (hs.drop i), restF d (hs.drop i))
  sb : -1 ≤ s.1 ∧ s.1 ≤ 100 ∧ 0 ≤ s.2.1 ∧ s.2.1 ≤ 1000000000
  tb : i ≤ t ∧ t ≤ hs.length ∧ i < hs.length
  ub : segF hs i t ≤ d
theorem in0 {i : Nat} {P S N : List Int} (hl : ∀ h ∈ hs, 0 ≤ h ∧ h ≤ d) (hd : 0 ≤ d) (hi : i < hs.length) (h : TabE d hs (i + 1) P S N) : InE d hs i i (-1, 0, hs) (P.set i (-1)) S N := by
  obtain ⟨h1, h2, h3, h4, h5, h6⟩ := h
  refine ⟨by rw [List.length_set]; exact h1, h2, h3, fun j hj => h4 j (by omega), fun j a b => ⟨by rw [List.getElem?_set, if_neg (by omega)]; exact (h5 j (by omega) b).1, (h5 j (by omega) b).2⟩, fun j a b => h6 j (by omega) b,
    by rw [List.getElem?_set, if_pos rfl, if_pos (by omega)], (h4 i (by omega)).1, by rw [(h4 i (by omega)).2]; simp, ?_, ⟨by dsimp only; omega, by dsimp only; omega, by dsimp only; omega, by dsimp only; omega⟩, ⟨Nat.le_refl _, by omega, hi⟩, by rw [segF_self]; exact hd⟩
  have ne : hs.drop i ≠ [] := by intro h; have := congrArg List.length h; simp at this; omega
  rw [segF_self]
  exact (pfold_best (fun h hh => hl h (List.mem_of_mem_drop hh)) hd ne hs).1
theorem fold_next {i t : Nat} {h : Int} {s R : Int × Int × List Int} (ht : hs[t]? = some h) (hu : segF hs i t + h ≤ d) (e : (cutsF d (segF hs i t) (hs.drop t)).foldl (pstep d) s = R) : (cutsF d (segF hs i t + h) (hs.drop (t + 1))).foldl (pstep d) (pstep d s (segF hs i t + h, hs.drop (t + 1))) = R := by
  rw [drop_cons ht, cutsF, if_pos hu, List.foldl_cons] at e
  exact e
theorem in_no {i t : Nat} {h : Int} {s : Int × Int × List Int} {P S N : List Int} (q : InE d hs i t s P S N) (ht : hs[t]? = some h) (hu : segF hs i (t + 1) ≤ d)
    (hc : 0 ≤ s.1 ∧ (((grF d (hs.drop (t + 1)) : Nat) : Int) + 1 > s.1 ∨ ((grF d (hs.drop (t + 1)) : Nat) : Int) + 1 = s.1 ∧ sqrF d (hs.drop (t + 1)) + sqF d (segF hs i (t + 1)) ≥ s.2.1)) : InE d hs i (t + 1) s P S N := by
  have e := segF_next q.tb.1 ht
  have tl := (List.getElem?_eq_some_iff.1 ht).1
  obtain ⟨h1, h2, h3, h4, h5, h6, h7, h8, h9, h10, h11, h12, h13⟩ := q
  refine ⟨h1, h2, h3, h4, h5, h6, h7, h8, h9, ?_, h11, ⟨by omega, by omega, h12.2.2⟩, hu⟩
  have f := fold_next ht (by omega) h10
  rw [← e] at f
  rw [pstep, if_pos hc] at f
  exact f
theorem in_yes {i t : Nat} {h : Int} {s : Int × Int × List Int} {P S N : List Int} (hl : ∀ h ∈ hs, 0 ≤ h ∧ h ≤ d) (hd : 0 ≤ d ∧ d ≤ 1000) (h24 : hs.length ≤ 24) (q : InE d hs i t s P S N) (ht : hs[t]? = some h) (hu : segF hs i (t + 1) ≤ d)
    (hc : ¬ (0 ≤ s.1 ∧ (((grF d (hs.drop (t + 1)) : Nat) : Int) + 1 > s.1 ∨ ((grF d (hs.drop (t + 1)) : Nat) : Int) + 1 = s.1 ∧ sqrF d (hs.drop (t + 1)) + sqF d (segF hs i (t + 1)) ≥ s.2.1))) :
    ∃ s', InE d hs i (t + 1) s' (P.set i (((grF d (hs.drop (t + 1)) : Nat) : Int) + 1)) (S.set i (sqrF d (hs.drop (t + 1)) + sqF d (segF hs i (t + 1)))) (N.set i ((t + 1 : Nat) : Int)) := by
  have e := segF_next q.tb.1 ht
  have tl := (List.getElem?_eq_some_iff.1 ht).1
  have sb := sqr_bound hl hd h24 (t + 1)
  have s0 := seg_bound hl i (t + 1)
  have s2 := sq_le s0 hu hd.2
  have s3 := sq_nonneg d (segF hs i (t + 1))
  obtain ⟨h1, h2, h3, h4, h5, h6, h7, h8, h9, h10, h11, h12, h13⟩ := q
  have f := fold_next ht (by omega) h10
  rw [← e] at f
  rw [pstep, if_neg hc] at f
  refine ⟨_, by rw [List.length_set]; exact h1, by rw [List.length_set]; exact h2, by rw [List.length_set]; exact h3, fun j hj => ?_, fun j a b => ?_, fun j a b => ?_, by rw [List.getElem?_set, if_pos rfl, if_pos (by omega)], by rw [List.getElem?_set, if_pos rfl, if_pos (by omega)], ?_, f, ⟨by dsimp only; omega, by dsimp only; omega, by dsimp only; omega, by dsimp only; omega⟩, ⟨by omega, by omega, h12.2.2⟩, hu⟩
  · rw [List.getElem?_set, if_neg (by omega), List.getElem?_set, if_neg (by omega)]; exact h4 j hj
  · rw [List.getElem?_set, if_neg (by omega), List.getElem?_set, if_neg (by omega)]; exact h5 j a b
  · rw [List.getElem?_set, if_neg (by omega)]; exact h6 j a b
  · rw [List.getElem?_set, if_pos rfl, if_pos (by omega)]
    show some _ = some ((hs.length : Int) - ((hs.drop (t + 1)).length : Int))
    rw [List.length_drop]
    congr 1; omega
theorem in_end {i t : Nat} {s : Int × Int × List Int} {P S N : List Int} (q : InE d hs i t s P S N) (hx : ∀ h, hs[t]? = some h → d < segF hs i (t + 1)) : TabE d hs i P S N := by
  have sl : (cutsF d (segF hs i t) (hs.drop t)).foldl (pstep d) s = s := by
    cases e : hs[t]? with
    | none => rw [List.drop_eq_nil_of_le (List.getElem?_eq_none_iff.1 e)]; rfl
    | some h =>
      have a := hx h e
      rw [segF_next q.tb.1 e] at a
      rw [drop_cons e, cutsF, if_neg (by omega)]; rfl
  obtain ⟨h1, h2, h3, h4, h5, h6, h7, h8, h9, h10, h11, h12, h13⟩ := q
  rw [sl] at h10
  subst h10
  refine ⟨h1, h2, h3, h4, fun j a b => ?_, fun j a b => ?_⟩
  · by_cases e : j = i
    · subst e; exact ⟨h7, h8⟩
    · exact h5 j (by omega) b
  · by_cases e : j = i
    · subst e; exact h9
    · exact h6 j (by omega) b
/-- Where the next page begins. -/
theorem tab_next {P S N : List Int} (hl : ∀ h ∈ hs, 0 ≤ h ∧ h ≤ d) (hd : 0 ≤ d) (h : TabE d hs 0 P S N) {a : Nat} (ha : a < hs.length) : ∃ e : Nat, N[a]? = some (e : Int) ∧ a < e ∧ e ≤ hs.length ∧
    (e < hs.length → ∀ out, out ++ evenN d hs.length (grF d (hs.drop a) - 1) (hs.drop a) = evenF d hs → (out ++ [(e : Int)]) ++ evenN d hs.length (grF d (hs.drop e) - 1) (hs.drop e) = evenF d hs) ∧
    (e = hs.length → ∀ out, out ++ evenN d hs.length (grF d (hs.drop a) - 1) (hs.drop a) = evenF d hs → out = evenF d hs) := by
  obtain ⟨e, a1, a2, a3, a4, -, a5, a6⟩ := rest_at hl hd ha
  have hn := h.nx a (Nat.zero_le _) ha
  rw [a3, List.length_drop] at hn
  refine ⟨e, by rw [hn]; congr 1; omega, a1, a2, fun he out ho => ?_, fun he out ho => ?_⟩
  · have g0 : 0 < grF d (hs.drop e) := Nat.pos_of_ne_zero fun h0 => by
      have := congrArg List.length (gr_nil h0); simp at this; omega
    rw [show grF d (hs.drop a) - 1 = (grF d (hs.drop e) - 1) + 1 by omega, evenN, a3, List.length_drop, show (hs.length : Int) - ((hs.length - e : Nat) : Int) = e by omega] at ho
    rw [← ho, List.append_assoc]; rfl
  · subst he
    have z : grF d (hs.drop a) = 1 := by
      rw [List.drop_length] at a5
      simp [grF] at a5 ⊢
      omega
    rw [z] at ho
    simpa [evenN] using ho
end

end Go.Proofs.Ytalookmhhkojeaa.Ai
