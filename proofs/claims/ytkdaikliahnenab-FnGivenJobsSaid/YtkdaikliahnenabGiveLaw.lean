/- Plain laws on jobs that are given. -/
import Derived.Test.YtkdaikliahnenabWithin
namespace Go.Proofs.Ytkdaikliahnenab.Ai
open Go Go.Proofs
set_option linter.unusedVariables false

/-- The most jobs that can be done, those in g being busy. -/
def mostF (ps : List (List Int)) : List Int → List Int → Int
  | [], _ => 0
  | j :: r, g => (whoF ps j).foldl (fun m i => if has g i = true then m else max m (1 + mostF ps r (g ++ [i]))) (mostF ps r g)
def mstep (ps : List (List Int)) (r g : List Int) (m i : Int) : Int := if has g i = true then m else max m (1 + mostF ps r (g ++ [i]))
theorem mostF_cons (ps : List (List Int)) (j : Int) (r g : List Int) : mostF ps (j :: r) g = (whoF ps j).foldl (mstep ps r g) (mostF ps r g) := rfl
def firstG (ps : List (List Int)) (r g : List Int) (v : Int) : List Int → Int
  | [] => -1
  | i :: t => if has g i = false ∧ 1 + mostF ps r (g ++ [i]) = v then i else firstG ps r g v t
def pickF (ps : List (List Int)) (j : Int) (r g : List Int) : Int := firstG ps r g (mostF ps (j :: r) g) (whoF ps j)
def greedF (ps : List (List Int)) : List Int → List Int → List Int
  | [], _ => []
  | j :: r, g => pickF ps j r g :: greedF ps r (g ++ [pickF ps j r g])

theorem fold_le {ps : List (List Int)} {r g : List Int} {B : Int} (h : ∀ i, 1 + mostF ps r (g ++ [i]) ≤ B) : ∀ (l : List Int) (m : Int), m ≤ B → m ≤ l.foldl (mstep ps r g) m ∧ l.foldl (mstep ps r g) m ≤ B
  | [], m, hm => ⟨Int.le_refl _, hm⟩
  | i :: t, m, hm => by
    rw [List.foldl_cons]
    have h1 : m ≤ mstep ps r g m i ∧ mstep ps r g m i ≤ B := by
      unfold mstep
      have := h i
      split <;> omega
    have h2 := fold_le h t (mstep ps r g m i) h1.2
    exact ⟨Int.le_trans h1.1 h2.1, h2.2⟩
theorem mostF_in (ps : List (List Int)) : ∀ (js g : List Int), 0 ≤ mostF ps js g ∧ mostF ps js g ≤ js.length
  | [], g => by simp [mostF]
  | j :: r, g => by
    have h0 := mostF_in ps r
    rw [mostF_cons]
    have := fold_le (ps := ps) (r := r) (g := g) (B := (r.length : Int) + 1) (fun i => by have := h0 (g ++ [i]); omega) (whoF ps j) (mostF ps r g) (by have := h0 g; omega)
    have h1 := h0 g
    simp only [List.length_cons]
    omega
/-- Only the nonnegative ones count as busy. -/
def busyEq (a b : List Int) : Prop := ∀ i, 0 ≤ i → has a i = has b i
theorem busy_app {a b : List Int} (h : busyEq a b) (i : Int) : busyEq (a ++ [i]) (b ++ [i]) := fun k hk => by rw [has_app, has_app, h k hk]
theorem busy_neg {a b : List Int} (h : busyEq a b) {i : Int} (hi : i < 0) : busyEq (a ++ [i]) b := fun k hk => by
  rw [has_app, h k hk, decide_eq_false (by omega), Bool.or_false]
theorem busy_neg' {a b : List Int} (h : busyEq a b) {i : Int} (hi : i < 0) : busyEq a (b ++ [i]) := fun k hk => by
  rw [has_app, h k hk, decide_eq_false (by omega), Bool.or_false]
theorem whoFrom_nonneg : ∀ {c i : Int} {ps : List (List Int)}, 0 ≤ i → ∀ z ∈ whoFrom c i ps, i ≤ z ∧ z < i + ps.length
  | c, i, [], _, z, hz => by cases hz
  | c, i, p :: r, hi, z, hz => by
    have ih := whoFrom_nonneg (c := c) (i := i + 1) (ps := r) (by omega)
    have e : (((p :: r).length : Nat) : Int) = r.length + 1 := by simp
    rw [whoFrom] at hz
    split at hz
    · rcases List.mem_cons.1 hz with rfl | hz
      · omega
      · have := ih z hz; omega
    · have := ih z hz; omega
theorem whoF_in {ps : List (List Int)} {c : Int} : ∀ z ∈ whoF ps c, 0 ≤ z ∧ z < ps.length := fun z hz => by
  have := whoFrom_nonneg (i := 0) (by omega) z hz
  omega
theorem fold_congr {ps : List (List Int)} {r a b : List Int} (hs : ∀ i, 0 ≤ i → mstep ps r a = mstep ps r a → has a i = has b i ∧ mostF ps r (a ++ [i]) = mostF ps r (b ++ [i])) : ∀ (l : List Int) (m : Int), (∀ i ∈ l, 0 ≤ i) → l.foldl (mstep ps r a) m = l.foldl (mstep ps r b) m
  | [], _, _ => rfl
  | i :: t, m, h => by
    rw [List.foldl_cons, List.foldl_cons]
    have h1 := hs i (h i (by simp)) rfl
    have e : mstep ps r a m i = mstep ps r b m i := by unfold mstep; rw [h1.1, h1.2]
    rw [e]
    exact fold_congr hs t _ fun k hk => h k (by simp [hk])
theorem mostF_congr (ps : List (List Int)) : ∀ (js : List Int) {a b : List Int}, busyEq a b → mostF ps js a = mostF ps js b
  | [], _, _, _ => rfl
  | j :: r, a, b, h => by
    rw [mostF_cons, mostF_cons, mostF_congr ps r h]
    exact fold_congr (fun i hi _ => ⟨h i hi, mostF_congr ps r (busy_app h i)⟩) _ _ fun i hi => (whoF_in i hi).1
theorem firstG_congr {ps : List (List Int)} {r a b : List Int} {v : Int} (h : busyEq a b) : ∀ (l : List Int), (∀ i ∈ l, 0 ≤ i) → firstG ps r a v l = firstG ps r b v l
  | [], _ => rfl
  | i :: t, hl => by
    rw [firstG, firstG, h i (hl i (by simp)), mostF_congr ps r (busy_app h i), firstG_congr h t fun k hk => hl k (by simp [hk])]
theorem pickF_congr {ps : List (List Int)} {j : Int} {r a b : List Int} (h : busyEq a b) : pickF ps j r a = pickF ps j r b := by
  unfold pickF
  rw [mostF_congr ps (j :: r) h]
  exact firstG_congr h _ fun i hi => (whoF_in i hi).1
theorem greedF_congr {ps : List (List Int)} : ∀ (js : List Int) {a b : List Int}, busyEq a b → greedF ps js a = greedF ps js b
  | [], _, _, _ => rfl
  | j :: r, a, b, h => by
    rw [greedF, greedF, pickF_congr h, greedF_congr r (busy_app h _)]
theorem greedF_len {ps : List (List Int)} : ∀ (js g : List Int), (greedF ps js g).length = js.length
  | [], _ => rfl
  | j :: r, g => by rw [greedF, List.length_cons, greedF_len r, List.length_cons]
/-- With the cut that the reference has. -/
theorem mstep_cut {ps : List (List Int)} {r g : List Int} {m i n : Int} (hn : n = r.length + 1) (hm : m ≤ n) : mstep ps r g m i = if has g i = false ∧ m < n then max m (1 + mostF ps r (g ++ [i])) else m := by
  unfold mstep
  have := (mostF_in ps r (g ++ [i])).2
  by_cases h : has g i = true
  · rw [if_pos h, if_neg (by rw [h]; simp)]
  · rw [if_neg h]
    by_cases h2 : m < n
    · rw [if_pos ⟨by simpa using h, h2⟩]
    · rw [if_neg (by omega)]
      omega

/-! ### The search through all ways -/
def valF (ps : List (List Int)) (r g : List Int) (w : Int) : Int := (if 0 ≤ w then 1 else 0) + mostF ps r (g ++ [w])
def lstF (ps : List (List Int)) (r g : List Int) (w : Int) : List Int := g ++ [w] ++ greedF ps r (g ++ [w])
def scanF (ps : List (List Int)) (r g : List Int) : List Int → Int → Int → Int × Int
  | [], c, m => (c, m)
  | w :: t, c, m => if 0 ≤ w ∧ has g w = true then scanF ps r g t c m else if valF ps r g w > m then scanF ps r g t w (valF ps r g w) else scanF ps r g t c m
theorem scan_pos {ps : List (List Int)} {r g : List Int} : ∀ (t : List Int) (c m : Int), (∀ w ∈ t, 0 ≤ w) →
    scanF ps r g t c m = if t.foldl (mstep ps r g) m = m then (c, m) else (firstG ps r g (t.foldl (mstep ps r g) m) t, t.foldl (mstep ps r g) m)
  | [], c, m, _ => by simp [scanF]
  | w :: t, c, m, h => by
    have hw := h w (by simp)
    have ht : ∀ x ∈ t, 0 ≤ x := fun x hx => h x (by simp [hx])
    rw [scanF, List.foldl_cons, firstG]
    by_cases hb : has g w = true
    · have e : mstep ps r g m w = m := by unfold mstep; rw [if_pos hb]
      rw [if_pos ⟨hw, hb⟩, e, scan_pos t c m ht, if_neg (show ¬ (has g w = false ∧ 1 + mostF ps r (g ++ [w]) = t.foldl (mstep ps r g) m) by rw [hb]; simp)]
    · have hb' : has g w = false := by simpa using hb
      have hv : valF ps r g w = 1 + mostF ps r (g ++ [w]) := by unfold valF; rw [if_pos hw]
      rw [if_neg (fun hh => hb hh.2)]
      have mono : ∀ (l : List Int) (x : Int), x ≤ l.foldl (mstep ps r g) x := by
        intro l
        induction l with
        | nil => exact fun x => Int.le_refl _
        | cons y l ih =>
          intro x
          rw [List.foldl_cons]
          refine Int.le_trans ?_ (ih _)
          unfold mstep
          split <;> omega
      by_cases hgt : valF ps r g w > m
      · have e : mstep ps r g m w = valF ps r g w := by unfold mstep; rw [if_neg hb, ← hv]; omega
        rw [if_pos hgt, e, scan_pos t w _ ht]
        have h1 := mono t (valF ps r g w)
        rw [if_neg (show ¬ t.foldl (mstep ps r g) (valF ps r g w) = m by omega)]
        by_cases e2 : t.foldl (mstep ps r g) (valF ps r g w) = valF ps r g w
        · rw [if_pos e2, if_pos ⟨hb', by rw [← hv, e2]⟩, e2]
        · rw [if_neg e2, if_neg (fun hh => e2 (hh.2.symm.trans hv.symm))]
      · have e : mstep ps r g m w = m := by unfold mstep; rw [if_neg hb, ← hv]; omega
        rw [if_neg hgt, e, scan_pos t c m ht]
        by_cases e2 : t.foldl (mstep ps r g) m = m
        · rw [if_pos e2, if_pos e2]
        · rw [if_neg e2, if_neg e2]
          have h1 := mono t m
          rw [if_neg (fun hh => by have := hh.2; rw [← hv] at this; omega)]
theorem fold_max {ps : List (List Int)} {r g : List Int} : ∀ (t : List Int) (a b : Int), t.foldl (mstep ps r g) (max a b) = max (t.foldl (mstep ps r g) a) b
  | [], _, _ => rfl
  | w :: t, a, b => by
    rw [List.foldl_cons, List.foldl_cons]
    have e : mstep ps r g (max a b) w = max (mstep ps r g a w) b := by
      unfold mstep
      split
      · rfl
      · omega
    rw [e, fold_max t]
theorem scan_app {ps : List (List Int)} {r g : List Int} : ∀ (t u : List Int) (c m : Int), scanF ps r g (t ++ u) c m = scanF ps r g u (scanF ps r g t c m).1 (scanF ps r g t c m).2
  | [], _, _, _ => rfl
  | w :: t, u, c, m => by
    rw [List.cons_append, scanF, scanF]
    split
    · exact scan_app t u c m
    · split
      · exact scan_app t u _ _
      · exact scan_app t u c m
theorem firstG_none {ps : List (List Int)} {r g : List Int} {v : Int} : ∀ (t : List Int) (m : Int), m ≤ v → t.foldl (mstep ps r g) m < v → firstG ps r g v t = -1
  | [], _, _, _ => rfl
  | w :: t, m, hm, h => by
    have mono : ∀ (l : List Int) (x : Int), x ≤ l.foldl (mstep ps r g) x := by
      intro l
      induction l with
      | nil => exact fun x => Int.le_refl _
      | cons y l ih =>
        intro x
        rw [List.foldl_cons]
        refine Int.le_trans ?_ (ih _)
        unfold mstep
        split <;> omega
    rw [List.foldl_cons] at h
    have h1 := mono t (mstep ps r g m w)
    rw [firstG, if_neg, firstG_none t (mstep ps r g m w) (by omega) h]
    rintro ⟨hb, hv⟩
    have : mstep ps r g m w = max m (1 + mostF ps r (g ++ [w])) := by unfold mstep; rw [if_neg (by rw [hb]; simp)]
    omega
theorem scan_all (ps : List (List Int)) (j : Int) (r g : List Int) : scanF ps r g (whoF ps j ++ [-1]) (-2) (-1) = (pickF ps j r g, mostF ps (j :: r) g) := by
  rw [scan_app, scan_pos _ _ _ fun w hw => (whoF_in w hw).1]
  have hn := mostF_congr ps r (busy_neg (a := g) (b := g) (fun _ _ => rfl) (i := -1) (by omega))
  have hv : valF ps r g (-1) = mostF ps r g := by unfold valF; rw [if_neg (by omega), hn]; omega
  have h0 := (mostF_in ps r g).1
  have hM : mostF ps (j :: r) g = max ((whoF ps j).foldl (mstep ps r g) (-1)) (mostF ps r g) := by
    rw [mostF_cons, ← fold_max, show max (-1 : Int) (mostF ps r g) = mostF ps r g by omega]
  have one : ∀ c m, scanF ps r g [-1] c m = if mostF ps r g > m then (-1, mostF ps r g) else (c, m) := fun c m => by
    rw [scanF, if_neg (by omega), hv]
    split <;> rfl
  unfold pickF
  by_cases e : (whoF ps j).foldl (mstep ps r g) (-1) = -1
  · rw [if_pos e, one, if_pos (by show mostF ps r g > -1; omega)]
    rw [e] at hM
    rw [hM, show max (-1 : Int) (mostF ps r g) = mostF ps r g by omega, firstG_none _ (-1) (by omega) (by omega)]
  · rw [if_neg e, one]
    show (if mostF ps r g > (whoF ps j).foldl (mstep ps r g) (-1) then _ else _) = _
    by_cases h2 : mostF ps r g > (whoF ps j).foldl (mstep ps r g) (-1)
    · rw [if_pos h2]
      have hM2 : mostF ps (j :: r) g = mostF ps r g := by omega
      rw [hM2, firstG_none _ (-1) (by omega) (by omega)]
    · rw [if_neg h2]
      have hM2 : mostF ps (j :: r) g = (whoF ps j).foldl (mstep ps r g) (-1) := by omega
      rw [hM2]

def jobsOk (l : List Craft) (ps : List (List Int)) (js : List Int) : Bool := (goodP l ps && decide ((js.length : Int) ≤ 6)) && js.all fun i => inB i 0 (l.length - 1)
def giveAns (l : List Craft) (ps : List (List Int)) (js : List Int) : List Int × Bool := if jobsOk l ps js then (greedF ps js [], true) else ([], false)
theorem giveAns_len (l : List Craft) (ps : List (List Int)) (js : List Int) : (giveAns l ps js).1.length ≤ 6 := by
  unfold giveAns
  split
  · rename_i h
    simp only [jobsOk, Bool.and_eq_true, decide_eq_true_eq] at h
    show (greedF ps js []).length ≤ 6
    rw [greedF_len]
    omega
  · simp
end Go.Proofs.Ytkdaikliahnenab.Ai
