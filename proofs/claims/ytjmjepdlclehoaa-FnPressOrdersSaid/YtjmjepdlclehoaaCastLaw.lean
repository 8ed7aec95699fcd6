/- Plain laws of casting orders and machines. -/
import Derived.Test.YtjmjepdlclehoaaCommon
namespace Go.Proofs.Ytjmjepdlclehoaa.Ai
open Go Go.Proofs
set_option linter.unusedSimpArgs false
set_option linter.unusedVariables false

/-- Body, hourly, change; body, count. -/
abbrev CMach := Int × Int × Int
abbrev Casting := Int × Int
def cMachine (m : CMach) : List PV := [.int .i64 m.1, .int .i64 m.2.1, .int .i64 m.2.2]
def cCasting (x : Casting) : List PV := [.int .i64 x.1, .int .i64 x.2]
def okM (m : CMach) : Bool := inB m.1 1 72 && (inB m.2.1 1 10000 && inB m.2.2 0 600)
def okX (x : Casting) : Bool := inB x.1 1 72 && inB x.2 1 100000
def okCs (l : List Casting) : Bool := l.all okX && decide (l.length ≤ 8)
def timeC (m : CMach) (x : Casting) : Int := (60 * x.2 + m.2.1 - 1) / m.2.1
def castAt (l : List Casting) (i : Int) : Casting := (l[i.toNat]?).getD (0, 0)
def stepT (m : CMach) (l : List Casting) (b t : Int) (i : Int) : Int := t + (if (castAt l i).1 = b then 0 else m.2.2) + timeC m (castAt l i)
def endsG (m : CMach) (l : List Casting) : Int → Int → List Int → List Int
  | _, _, [] => []
  | b, t, i :: r => stepT m l b t i :: endsG m l (castAt l i).1 (stepT m l b t i) r
def lastG (m : CMach) (l : List Casting) : Int → Int → List Int → Int
  | _, t, [] => t
  | b, t, i :: r => lastG m l (castAt l i).1 (stepT m l b t i) r
def chgG (l : List Casting) : Int → List Int → Int
  | _, [] => 0
  | b, i :: r => (if (castAt l i).1 = b then 0 else 1) + chgG l (castAt l i).1 r
def timeF (m : CMach) (l : List Casting) (o : List Int) : Int := lastG m l m.1 0 o
theorem timeC_pos {m : CMach} {x : Casting} (hm : okM m = true) (hx : 0 ≤ x.2) : 0 ≤ timeC m x := by
  simp only [okM, Bool.and_eq_true] at hm
  have := inB_spec hm.2.1
  exact Int.ediv_nonneg (by omega) (by omega)
theorem lastG_last (m : CMach) (l : List Casting) : ∀ (o : List Int) (b t : Int), lastG m l b t o = ((endsG m l b t o).getLast?).getD t
  | [], _, _ => rfl
  | i :: r, b, t => by
    rw [lastG, endsG, lastG_last m l r]
    cases h : endsG m l (castAt l i).1 (stepT m l b t i) r with
    | nil => rfl
    | cons y q => simp [List.getLast?_cons]
theorem endsG_length (m : CMach) (l : List Casting) : ∀ (o : List Int) (b t : Int), (endsG m l b t o).length = o.length
  | [], _, _ => rfl
  | i :: r, b, t => by simp [endsG, endsG_length m l r]
/-- The body that is on the machine behind an order. -/
def bodyG (l : List Casting) : Int → List Int → Int
  | b, [] => b
  | _, i :: r => bodyG l (castAt l i).1 r
theorem lastG_append (m : CMach) (l : List Casting) : ∀ (o : List Int) (b t : Int) (s : List Int), lastG m l b t (o ++ s) = lastG m l (bodyG l b o) (lastG m l b t o) s
  | [], _, _, _ => rfl
  | i :: r, b, t, s => by rw [List.cons_append, lastG, bodyG, lastG, lastG_append m l r]
def okAll (l : List Casting) : Prop := ∀ i, 0 ≤ (castAt l i).2
theorem okAll_of {l : List Casting} (h : okCs l = true) : okAll l := fun i => by
  simp only [okCs, Bool.and_eq_true, List.all_eq_true] at h
  unfold castAt
  cases hx : l[i.toNat]? with
  | none => simp
  | some x =>
    have := h.1 x (List.mem_of_getElem? hx)
    simp only [okX, Bool.and_eq_true] at this
    have := inB_spec this.2
    simp; omega
theorem lastG_mono {m : CMach} {l : List Casting} (hm : okM m = true) (hl : okAll l) : ∀ (s : List Int) (b t : Int), t ≤ lastG m l b t s
  | [], _, _ => Int.le_refl _
  | i :: r, b, t => by
    have h1 := timeC_pos hm (hl i)
    have h2 := lastG_mono hm hl r (castAt l i).1 (stepT m l b t i)
    have h3 : 0 ≤ m.2.2 := by
      simp only [okM, Bool.and_eq_true] at hm
      exact (inB_spec hm.2.2).1
    rw [lastG]
    unfold stepT at h2 ⊢
    split at h2 <;> (rename_i hc; simp only [hc, if_true, if_false] at h2 ⊢; omega)
theorem timeF_more {m : CMach} {l : List Casting} (hm : okM m = true) (hl : okAll l) (o s : List Int) : timeF m l o ≤ timeF m l (o ++ s) := by
  unfold timeF
  rw [lastG_append]
  exact lastG_mono hm hl _ _ _
theorem timeF_pos {m : CMach} {l : List Casting} (hm : okM m = true) (hl : okAll l) (o : List Int) : 0 ≤ timeF m l o := lastG_mono hm hl _ _ _

/-! ### Orders, depth first -/
def ordersF (n : Nat) : Nat → List Int → List (List Int)
  | 0, o => [o]
  | k + 1, o => o :: (List.range n).flatMap fun i : Nat => if (i : Int) ∈ o then [] else ordersF n k (o ++ [(i : Int)])
theorem orders_ext (n : Nat) : ∀ (k : Nat) (o p : List Int), p ∈ ordersF n k o → ∃ s, p = o ++ s ∧ s.length ≤ k
  | 0, o, p, h => ⟨[], by simpa [ordersF] using h, Nat.le_refl _⟩
  | k + 1, o, p, h => by
    rw [ordersF] at h
    rcases List.mem_cons.1 h with rfl | h
    · exact ⟨[], by simp, by simp⟩
    · obtain ⟨i, -, hi⟩ := List.mem_flatMap.1 h
      split at hi
      · simp at hi
      · obtain ⟨s, rfl, hs⟩ := orders_ext n k _ _ hi
        exact ⟨(i : Int) :: s, by simp, by simpa using hs⟩
/-- Distinct numbers below n. -/
def Diff (n : Nat) (o : List Int) : Prop := o.Nodup ∧ ∀ x ∈ o, 0 ≤ x ∧ x < n
theorem orders_diff (n : Nat) : ∀ (k : Nat) (o p : List Int), Diff n o → p ∈ ordersF n k o → Diff n p
  | 0, o, p, hd, h => by rw [show p = o by simpa [ordersF] using h]; exact hd
  | k + 1, o, p, hd, h => by
    rw [ordersF] at h
    rcases List.mem_cons.1 h with rfl | h
    · exact hd
    · obtain ⟨i, hi, hp⟩ := List.mem_flatMap.1 h
      split at hp
      · simp at hp
      · rename_i hn
        refine orders_diff n k _ _ ⟨?_, fun x hx => ?_⟩ hp
        · rw [List.nodup_append]
          exact ⟨hd.1, by simp, fun a ha b hb => by simp at hb; subst hb; intro e; exact hn (e ▸ ha)⟩
        · rcases List.mem_append.1 hx with hx | hx
          · exact hd.2 x hx
          · have := List.mem_range.1 hi
            simp at hx; subst hx; omega
/-- Every order of distinct numbers that goes on from o is met. -/
theorem orders_all (n : Nat) : ∀ (k : Nat) (o s : List Int), Diff n (o ++ s) → s.length ≤ k → o ++ s ∈ ordersF n k o
  | 0, o, s, _, hs => by rw [List.length_eq_zero_iff.1 (Nat.le_zero.1 hs)]; simp [ordersF]
  | k + 1, o, [], _, _ => by simp [ordersF]
  | k + 1, o, x :: s, hd, hs => by
    have hx := hd.2 x (by simp)
    have hn := List.nodup_append.1 hd.1
    rw [ordersF]
    refine List.mem_cons_of_mem _ (List.mem_flatMap.2 ⟨x.toNat, List.mem_range.2 (by omega), ?_⟩)
    have e : ((x.toNat : Nat) : Int) = x := by omega
    rw [e, if_neg (fun h => hn.2.2 x h x (by simp) rfl)]
    have := orders_all n k (o ++ [x]) s (by simpa using hd) (by simpa using hs)
    simpa using this

/-! ### Most castings -/
def mostStep (m : CMach) (l : List Casting) (minutes : Int) (best o : List Int) : List Int := if best.length < o.length ∧ timeF m l o ≤ minutes then o else best
def mostF (m : CMach) (l : List Casting) (minutes : Int) : List Int := (ordersF l.length l.length []).foldl (mostStep m l minutes) []
theorem most_keep {m : CMach} {l : List Casting} {minutes : Int} : ∀ {ps : List (List Int)} {best : List Int}, (∀ p ∈ ps, p.length ≤ best.length ∨ minutes < timeF m l p) → ps.foldl (mostStep m l minutes) best = best
  | [], _, _ => rfl
  | p :: r, best, h => by
    rw [List.foldl_cons]
    have e : mostStep m l minutes best p = best := if_neg fun hc => by rcases h p (by simp) with h1 | h1 <;> omega
    rw [e]
    exact most_keep fun q hq => h q (List.mem_cons_of_mem _ hq)
/-- The reference's search, which leaves out what can be no better. -/
def mostS (m : CMach) (l : List Casting) (minutes : Int) : Nat → List Int → List Int → List Int
  | 0, o, best => if best.length < o.length then o else best
  | k + 1, o, best => (List.range l.length).foldl (fun b (i : Nat) => if b.length = l.length then b else if (i : Int) ∈ o then b else if timeF m l (o ++ [(i : Int)]) ≤ minutes then mostS m l minutes k (o ++ [(i : Int)]) b else b)
      (if best.length < o.length then o else best)
theorem most_eq {m : CMach} {l : List Casting} {minutes : Int} (hm : okM m = true) (hl : okAll l) : ∀ (k : Nat) (o best : List Int), o.length + k = l.length → timeF m l o ≤ minutes →
    mostS m l minutes k o best = (ordersF l.length k o).foldl (mostStep m l minutes) best
  | 0, o, best, hk, ht => by
    rw [mostS, ordersF, List.foldl_cons, List.foldl_nil, mostStep]
    by_cases h : best.length < o.length
    · rw [if_pos h, if_pos ⟨h, ht⟩]
    · rw [if_neg h, if_neg (fun hc => h hc.1)]
  | k + 1, o, best, hk, ht => by
    rw [mostS, ordersF, List.foldl_cons]
    have e0 : mostStep m l minutes best o = if best.length < o.length then o else best := by
      rw [mostStep]
      by_cases h : best.length < o.length
      · rw [if_pos h, if_pos ⟨h, ht⟩]
      · rw [if_neg h, if_neg (fun hc => h hc.1)]
    rw [e0]
    generalize (if best.length < o.length then o else best) = b0
    rw [List.foldl_flatMap]
    congr 1
    funext b i
    by_cases hb : b.length = l.length
    · rw [if_pos hb]
      split
      · rfl
      · exact (most_keep fun p hp => .inl (by
          obtain ⟨s, rfl, hs⟩ := orders_ext _ _ _ _ hp
          simp only [List.length_append, List.length_cons, List.length_nil]; omega)).symm
    · rw [if_neg hb]
      split
      · rfl
      · split
        · rename_i ht2
          exact most_eq hm hl k _ _ (by simp only [List.length_append, List.length_cons, List.length_nil]; omega) ht2
        · rename_i ht2
          exact (most_keep fun p hp => .inr (by
            obtain ⟨s, rfl, hs⟩ := orders_ext _ _ _ _ hp
            have := timeF_more hm hl (o ++ [(i : Int)]) s
            omega)).symm
theorem most_inv {m : CMach} {l : List Casting} {minutes : Int} : ∀ (ps : List (List Int)) (a : List Int), (∀ p ∈ ps, p.length ≤ (ps.foldl (mostStep m l minutes) a).length ∨ minutes < timeF m l p) ∧ a.length ≤ (ps.foldl (mostStep m l minutes) a).length ∧
    (ps.foldl (mostStep m l minutes) a = a ∨ (ps.foldl (mostStep m l minutes) a ∈ ps ∧ timeF m l (ps.foldl (mostStep m l minutes) a) ≤ minutes))
  | [], a => ⟨(fun p hp => by cases hp), Nat.le_refl _, .inl rfl⟩
  | p :: r, a => by
    rw [List.foldl_cons]
    obtain ⟨h1, h2, h3⟩ := most_inv (m := m) (l := l) (minutes := minutes) r (mostStep m l minutes a p)
    have h4 : a.length ≤ (mostStep m l minutes a p).length ∧ (p.length ≤ (mostStep m l minutes a p).length ∨ minutes < timeF m l p) ∧ (mostStep m l minutes a p = a ∨ (mostStep m l minutes a p = p ∧ timeF m l p ≤ minutes)) := by
      unfold mostStep
      split
      · rename_i hc; exact ⟨by omega, .inl (Nat.le_refl _), .inr ⟨rfl, hc.2⟩⟩
      · rename_i hc; exact ⟨Nat.le_refl _, by omega, .inl rfl⟩
    refine ⟨fun q hq => ?_, by omega, ?_⟩
    · rcases List.mem_cons.1 hq with rfl | hq
      · rcases h4.2.1 with h5 | h5
        · exact .inl (by omega)
        · exact .inr h5
      · exact h1 q hq
    · rcases h3 with h3 | h3
      · rw [h3]
        rcases h4.2.2 with h5 | ⟨h5, h6⟩
        · exact .inl h5
        · rw [h5]; exact .inr ⟨by simp, h6⟩
      · exact .inr ⟨List.mem_cons_of_mem _ h3.1, h3.2⟩
theorem diff_nil (n : Nat) : Diff n [] := ⟨List.nodup_nil, (fun x hx => by cases hx)⟩
/-- What is known of most castings. -/
theorem mostF_spec {m : CMach} {l : List Casting} {minutes : Int} (h0 : 0 ≤ minutes) :
    Diff l.length (mostF m l minutes) ∧ timeF m l (mostF m l minutes) ≤ minutes ∧ (mostF m l minutes).length ≤ l.length ∧ ∀ p, Diff l.length p → p.length ≤ l.length → timeF m l p ≤ minutes → p.length ≤ (mostF m l minutes).length := by
  obtain ⟨h1, -, h3⟩ := most_inv (m := m) (l := l) (minutes := minutes) (ordersF l.length l.length []) []
  have hs : mostF m l minutes = [] ∨ (mostF m l minutes ∈ ordersF l.length l.length [] ∧ timeF m l (mostF m l minutes) ≤ minutes) := h3
  have hl : (mostF m l minutes).length ≤ l.length := by
    rcases hs with hs | hs
    · rw [hs]; simp
    · obtain ⟨s, e, hs'⟩ := orders_ext _ _ _ _ hs.1
      rw [e]; simpa using hs'
  refine ⟨?_, ?_, hl, fun p hp hlp ht => ?_⟩
  · rcases hs with hs | hs
    · rw [hs]; exact diff_nil _
    · exact orders_diff _ _ _ _ (diff_nil _) hs.1
  · rcases hs with hs | hs
    · rw [hs]; exact h0
    · exact hs.2
  · have := orders_all l.length l.length [] p (by simpa using hp) hlp
    rcases h1 p (by simpa using this) with h | h
    · exact h
    · omega

/-! ### The best order of all -/
def bestStep (m : CMach) (l : List Casting) (a : List Int × Int) (o : List Int) : List Int × Int :=
  if o.length < l.length then a else if a.2 < 0 ∨ timeF m l o < a.2 then (o, timeF m l o) else a
def bestO (m : CMach) (l : List Casting) : List Int × Int := (ordersF l.length l.length []).foldl (bestStep m l) ([], -1)
theorem best_keep {m : CMach} {l : List Casting} : ∀ {ps : List (List Int)} {a : List Int × Int}, 0 ≤ a.2 → (∀ p ∈ ps, p.length < l.length ∨ a.2 ≤ timeF m l p) → ps.foldl (bestStep m l) a = a
  | [], _, _, _ => rfl
  | p :: r, a, ha, h => by
    rw [List.foldl_cons]
    have e : bestStep m l a p = a := by
      unfold bestStep
      split
      · rfl
      · rename_i hc
        exact if_neg fun hd => by rcases h p (by simp) with h1 | h1 <;> omega
    rw [e]
    exact best_keep ha fun q hq => h q (List.mem_cons_of_mem _ hq)
def bestS (m : CMach) (l : List Casting) : Nat → List Int → List Int × Int → List Int × Int
  | 0, o, a => if a.1.length < l.length ∨ timeF m l o < a.2 then (o, timeF m l o) else a
  | k + 1, o, a => if a.1.length = l.length ∧ 0 < o.length ∧ a.2 ≤ timeF m l o then a else
      (List.range l.length).foldl (fun b (i : Nat) => if (i : Int) ∈ o then b else bestS m l k (o ++ [(i : Int)]) b) a
/-- The program's state and the reference's. -/
def BestRel (l : List Casting) (a s : List Int × Int) : Prop := (a.2 < 0 ∧ s.1.length < l.length) ∨ (0 ≤ a.2 ∧ a = s ∧ s.1.length = l.length)
theorem foldl_rel {α β γ : Type} {R : α → β → Prop} {f : α → γ → α} {g : β → γ → β} (h : ∀ a b c, R a b → R (f a c) (g b c)) : ∀ (cs : List γ) (a : α) (b : β), R a b → R (cs.foldl f a) (cs.foldl g b)
  | [], _, _, hab => hab
  | c :: cs, a, b, hab => foldl_rel h cs _ _ (h a b c hab)
theorem best_rel {m : CMach} {l : List Casting} (hm : okM m = true) (hl : okAll l) : ∀ (k : Nat) (o : List Int) (a s : List Int × Int), o.length + k = l.length → BestRel l a s → BestRel l ((ordersF l.length k o).foldl (bestStep m l) a) (bestS m l k o s)
  | 0, o, a, s, hk, hr => by
    have hp := timeF_pos hm hl o
    rw [ordersF, List.foldl_cons, List.foldl_nil, bestS, bestStep, if_neg (by omega)]
    rcases hr with ⟨h1, h2⟩ | ⟨h1, rfl, h2⟩
    · rw [if_pos (.inl h1), if_pos (.inl h2)]
      exact .inr ⟨hp, rfl, by simpa using hk⟩
    · by_cases hc : timeF m l o < a.2
      · rw [if_pos (.inr hc), if_pos (.inr hc)]
        exact .inr ⟨hp, rfl, by simpa using hk⟩
      · rw [if_neg (by omega), if_neg (by omega)]
        exact .inr ⟨h1, rfl, h2⟩
  | k + 1, o, a, s, hk, hr => by
    rw [ordersF, List.foldl_cons, bestS]
    have e0 : bestStep m l a o = a := if_pos (by omega)
    rw [e0]
    by_cases hc : s.1.length = l.length ∧ 0 < o.length ∧ s.2 ≤ timeF m l o
    · rw [if_pos hc]
      rcases hr with ⟨h1, h2⟩ | ⟨h1, rfl, h2⟩
      · omega
      · rw [best_keep h1 fun p hp => ?_]
        · exact .inr ⟨h1, rfl, h2⟩
        · obtain ⟨i, -, hi⟩ := List.mem_flatMap.1 hp
          split at hi
          · simp at hi
          · obtain ⟨t, rfl, -⟩ := orders_ext _ _ _ _ hi
            have := timeF_more hm hl o ([(i : Int)] ++ t)
            rw [← List.append_assoc] at this
            exact .inr (by omega)
    · rw [if_neg hc, List.foldl_flatMap]
      refine foldl_rel (R := BestRel l) (fun a s i hr => ?_) _ _ _ hr
      split
      · exact hr
      · exact best_rel hm hl k _ _ _ (by simp only [List.length_append, List.length_cons, List.length_nil]; omega) hr
theorem best_inv {m : CMach} {l : List Casting} (hm : okM m = true) (hl : okAll l) : ∀ (ps : List (List Int)) (a : List Int × Int), (0 ≤ a.2 → 0 ≤ (ps.foldl (bestStep m l) a).2 ∧ (ps.foldl (bestStep m l) a).2 ≤ a.2) ∧
    (∀ p ∈ ps, l.length ≤ p.length → 0 ≤ (ps.foldl (bestStep m l) a).2 ∧ (ps.foldl (bestStep m l) a).2 ≤ timeF m l p) ∧
    (ps.foldl (bestStep m l) a = a ∨ ∃ p ∈ ps, l.length ≤ p.length ∧ ps.foldl (bestStep m l) a = (p, timeF m l p))
  | [], a => ⟨fun h => ⟨h, Int.le_refl _⟩, (fun p hp => by cases hp), .inl rfl⟩
  | p :: r, a => by
    rw [List.foldl_cons]
    obtain ⟨h1, h2, h3⟩ := best_inv hm hl r (bestStep m l a p)
    have hp := timeF_pos hm hl p
    have h4 : (0 ≤ a.2 → 0 ≤ (bestStep m l a p).2 ∧ (bestStep m l a p).2 ≤ a.2) ∧ (l.length ≤ p.length → 0 ≤ (bestStep m l a p).2 ∧ (bestStep m l a p).2 ≤ timeF m l p) ∧ (bestStep m l a p = a ∨ (l.length ≤ p.length ∧ bestStep m l a p = (p, timeF m l p))) := by
      unfold bestStep
      split
      · rename_i hc; exact ⟨fun h => ⟨h, Int.le_refl _⟩, fun h => by omega, .inl rfl⟩
      · rename_i hc
        split
        · rename_i hd
          refine ⟨fun h => ⟨hp, ?_⟩, fun _ => ⟨hp, Int.le_refl _⟩, .inr ⟨by omega, rfl⟩⟩
          show timeF m l p ≤ a.2
          omega
        · rename_i hd
          exact ⟨fun h => ⟨h, Int.le_refl _⟩, fun _ => by omega, .inl rfl⟩
    refine ⟨fun ha => ?_, fun q hq hlq => ?_, ?_⟩
    · have := h4.1 ha
      have := h1 this.1
      omega
    · rcases List.mem_cons.1 hq with rfl | hq
      · have := h4.2.1 hlq
        have := h1 this.1
        omega
      · exact h2 q hq hlq
    · rcases h3 with h3 | ⟨q, hq, h5, h6⟩
      · rw [h3]
        rcases h4.2.2 with h5 | ⟨h5, h6⟩
        · exact .inl h5
        · exact .inr ⟨p, by simp, h5, h6⟩
      · exact .inr ⟨q, List.mem_cons_of_mem _ hq, h5, h6⟩
def upto (n : Nat) : List Int := (List.range n).map fun i : Nat => (i : Int)
theorem upto_diff (n : Nat) : Diff n (upto n) ∧ (upto n).length = n := by
  refine ⟨⟨?_, fun x hx => ?_⟩, by simp [upto]⟩
  · unfold upto
    rw [List.nodup_iff_pairwise_ne, List.pairwise_map]
    exact (List.nodup_iff_pairwise_ne.1 List.nodup_range).imp fun h e => h (by omega)
  · obtain ⟨i, hi, rfl⟩ := List.mem_map.1 hx
    have := List.mem_range.1 hi
    omega
/-- What is known of the best order. -/
theorem bestO_spec {m : CMach} {l : List Casting} (hm : okM m = true) (hl : okAll l) : Diff l.length (bestO m l).1 ∧ (bestO m l).1.length = l.length ∧ (bestO m l).2 = timeF m l (bestO m l).1 ∧ ∀ p, Diff l.length p → p.length = l.length → (bestO m l).2 ≤ timeF m l p := by
  obtain ⟨h1, h2, h3⟩ := best_inv hm hl (ordersF l.length l.length []) ([], -1)
  have hu := upto_diff l.length
  have hmem := orders_all l.length l.length [] (upto l.length) (by simpa using hu.1) (by omega)
  have h4 := h2 _ (by simpa using hmem) (by omega)
  have e : ∃ p ∈ ordersF l.length l.length [], l.length ≤ p.length ∧ bestO m l = (p, timeF m l p) := by
    rcases h3 with h3 | h3
    · rw [h3] at h4; have := h4.1; simp at this
    · exact h3
  obtain ⟨p, hp, hpl, e⟩ := e
  obtain ⟨s, es, hs⟩ := orders_ext _ _ _ _ hp
  refine ⟨by rw [e]; exact orders_diff _ _ _ _ (diff_nil _) hp, by rw [e]; show p.length = l.length; rw [es] at hpl ⊢; simp at hpl ⊢; omega, by rw [e], fun q hq hql => ?_⟩
  have := orders_all l.length l.length [] q (by simpa using hq) (by omega)
  exact (h2 q (by simpa using this) (by omega)).2
theorem bestS_eq {m : CMach} {l : List Casting} (hm : okM m = true) (hl : okAll l) (hn : 0 < l.length) : bestS m l l.length [] ([], 0) = bestO m l := by
  have h := best_rel hm hl l.length [] ([], -1) ([], 0) (by simp) (.inl ⟨by decide, by simpa using hn⟩)
  obtain ⟨h1, -⟩ := bestO_spec hm hl
  have h2 := (bestO_spec hm hl).2.2.1
  have h3 := timeF_pos hm hl (bestO m l).1
  rcases h with ⟨h4, -⟩ | ⟨-, h5, -⟩
  · have : (bestO m l).2 < 0 := h4
    omega
  · exact h5.symm

/-! ### Shares of two machines -/
def sharesL : Nat → List (List Int)
  | 0 => [[]]
  | n + 1 => (sharesL n).map (fun s => 0 :: s) ++ (sharesL n).map (fun s => 1 :: s)
def pickG (z : Bool) : Int → List Int → List Int
  | _, [] => []
  | i, k :: r => if (decide (k = 0) == z) = true then i :: pickG z (i + 1) r else pickG z (i + 1) r
def costS (m n : CMach) (l : List Casting) (s : List Int) : Int := max (timeF m l (pickG true 0 s)) (timeF n l (pickG false 0 s))
def shareStep (m n : CMach) (l : List Casting) (a : List Int × Int) (s : List Int) : List Int × Int := if a.2 < 0 ∨ costS m n l s < a.2 then (s, costS m n l s) else a
def shareF (m n : CMach) (l : List Casting) : List Int × Int := (sharesL l.length).foldl (shareStep m n l) ([], -1)
theorem shares_len : ∀ (n : Nat) (s : List Int), s ∈ sharesL n → s.length = n ∧ ∀ x ∈ s, x = 0 ∨ x = 1
  | 0, s, h => by simp [sharesL] at h; subst h; simp
  | n + 1, s, h => by
    rw [sharesL] at h
    rcases List.mem_append.1 h with h | h <;> (obtain ⟨t, ht, rfl⟩ := List.mem_map.1 h; obtain ⟨h1, h2⟩ := shares_len n t ht; refine ⟨by simp [h1], fun x hx => ?_⟩; rcases List.mem_cons.1 hx with rfl | hx)
    · exact .inl rfl
    · exact h2 x hx
    · exact .inr rfl
    · exact h2 x hx
theorem shares_all : ∀ (n : Nat), List.replicate n 0 ∈ sharesL n ∧ List.replicate n 1 ∈ sharesL n
  | 0 => by simp [sharesL]
  | n + 1 => by
    obtain ⟨h1, h2⟩ := shares_all n
    rw [sharesL, List.replicate_succ, List.replicate_succ]
    exact ⟨List.mem_append_left _ (List.mem_map.2 ⟨_, h1, rfl⟩), List.mem_append_right _ (List.mem_map.2 ⟨_, h2, rfl⟩)⟩
def bitsL (n c : Nat) : List Int := (List.range n).map fun i : Nat => ((c / 2 ^ (n - 1 - i) % 2 : Nat) : Int)
theorem bits_shares : ∀ n : Fin 9, (List.range (2 ^ n.val)).map (bitsL n.val) = sharesL n.val := by decide +kernel
theorem pick_all : ∀ (n : Nat) (i : Int), pickG true i (List.replicate n 0) = (List.range n).map (fun j : Nat => i + j) ∧ pickG false i (List.replicate n 0) = [] ∧ pickG true i (List.replicate n 1) = [] ∧ pickG false i (List.replicate n 1) = (List.range n).map (fun j : Nat => i + j)
  | 0, i => by simp [pickG]
  | n + 1, i => by
    obtain ⟨h1, h2, h3, h4⟩ := pick_all n (i + 1)
    have e : (List.range (n + 1)).map (fun j : Nat => i + j) = i :: (List.range n).map (fun j : Nat => i + 1 + j) := by
      rw [List.range_succ_eq_map, List.map_cons, List.map_map]
      simp only [Int.natCast_zero, Int.add_zero]
      congr 1
      apply List.map_congr_left
      intro j _
      simp only [Function.comp, Nat.succ_eq_add_one]
      omega
    refine ⟨?_, ?_, ?_, ?_⟩
    · rw [List.replicate_succ, pickG, if_pos (by decide), h1, e]
    · rw [List.replicate_succ, pickG, if_neg (by decide), h2]
    · rw [List.replicate_succ, pickG, if_neg (by decide), h3]
    · rw [List.replicate_succ, pickG, if_pos (by decide), h4, e]
theorem pick_diff (z : Bool) : ∀ (s : List Int) (i : Int), (pickG z i s).Nodup ∧ ∀ x ∈ pickG z i s, i ≤ x ∧ x < i + s.length
  | [], i => by simp [pickG]
  | k :: r, i => by
    obtain ⟨h1, h2⟩ := pick_diff z r (i + 1)
    rw [pickG]
    split
    · refine ⟨List.nodup_cons.2 ⟨fun h => by have := h2 i h; omega, h1⟩, fun x hx => ?_⟩
      rcases List.mem_cons.1 hx with rfl | hx
      · simp; omega
      · have := h2 x hx
        simp only [List.length_cons]; omega
    · refine ⟨h1, fun x hx => ?_⟩
      have := h2 x hx
      simp only [List.length_cons]; omega
theorem costS_pos {m n : CMach} {l : List Casting} (hm : okM m = true) (hl : okAll l) (s : List Int) : 0 ≤ costS m n l s := by
  have := timeF_pos hm hl (pickG true 0 s)
  unfold costS; omega
theorem share_inv {m n : CMach} {l : List Casting} (hm : okM m = true) (hl : okAll l) : ∀ (ps : List (List Int)) (a : List Int × Int), (0 ≤ a.2 → 0 ≤ (ps.foldl (shareStep m n l) a).2 ∧ (ps.foldl (shareStep m n l) a).2 ≤ a.2) ∧
    (∀ p ∈ ps, 0 ≤ (ps.foldl (shareStep m n l) a).2 ∧ (ps.foldl (shareStep m n l) a).2 ≤ costS m n l p) ∧
    (ps.foldl (shareStep m n l) a = a ∨ ∃ p ∈ ps, ps.foldl (shareStep m n l) a = (p, costS m n l p))
  | [], a => ⟨fun h => ⟨h, Int.le_refl _⟩, (fun p hp => by cases hp), .inl rfl⟩
  | p :: r, a => by
    rw [List.foldl_cons]
    obtain ⟨h1, h2, h3⟩ := share_inv (n := n) hm hl r (shareStep m n l a p)
    have hp := costS_pos (n := n) hm hl p
    have h4 : (0 ≤ a.2 → 0 ≤ (shareStep m n l a p).2 ∧ (shareStep m n l a p).2 ≤ a.2) ∧ (0 ≤ (shareStep m n l a p).2 ∧ (shareStep m n l a p).2 ≤ costS m n l p) ∧ (shareStep m n l a p = a ∨ shareStep m n l a p = (p, costS m n l p)) := by
      unfold shareStep
      split
      · rename_i hd
        refine ⟨fun h => ⟨hp, ?_⟩, ⟨hp, Int.le_refl _⟩, .inr rfl⟩
        show costS m n l p ≤ a.2
        omega
      · rename_i hd
        exact ⟨fun h => ⟨h, Int.le_refl _⟩, by omega, .inl rfl⟩
    refine ⟨fun ha => ?_, fun q hq => ?_, ?_⟩
    · have := h4.1 ha
      have := h1 this.1
      omega
    · rcases List.mem_cons.1 hq with rfl | hq
      · have a1 := h4.2.1
        have b1 := h1 a1.1
        omega
      · exact h2 q hq
    · rcases h3 with h3 | ⟨q, hq, h6⟩
      · rw [h3]
        rcases h4.2.2 with h5 | h5
        · exact .inl h5
        · exact .inr ⟨p, by simp, h5⟩
      · exact .inr ⟨q, List.mem_cons_of_mem _ hq, h6⟩
/-- What is known of the best share. -/
theorem shareF_spec {m n : CMach} {l : List Casting} (hm : okM m = true) (hn : okM n = true) (hl : okAll l) : (shareF m n l).1 ∈ sharesL l.length ∧ (shareF m n l).2 = costS m n l (shareF m n l).1 ∧ (shareF m n l).2 ≤ timeF m l (upto l.length) ∧ (shareF m n l).2 ≤ timeF n l (upto l.length) := by
  obtain ⟨h1, h2, h3⟩ := share_inv (n := n) hm hl (sharesL l.length) ([], -1)
  obtain ⟨s1, s2⟩ := shares_all l.length
  have a1 := h2 _ s1
  have a2 := h2 _ s2
  have e : ∃ p ∈ sharesL l.length, shareF m n l = (p, costS m n l p) := by
    rcases h3 with h3 | h3
    · rw [h3] at a1; have := a1.1; simp at this
    · exact h3
  obtain ⟨p, hp, e⟩ := e
  obtain ⟨q1, q2, q3, q4⟩ := pick_all l.length 0
  have eu : (List.range l.length).map (fun j : Nat => (0 : Int) + j) = upto l.length := List.map_congr_left fun j _ => by omega
  have c1 : costS m n l (List.replicate l.length 0) = timeF m l (upto l.length) := by
    have := timeF_pos hm hl (upto l.length)
    have hz : timeF n l [] = 0 := rfl
    rw [costS, q1, q2, eu, hz]; omega
  have c2 : costS m n l (List.replicate l.length 1) = timeF n l (upto l.length) := by
    have := timeF_pos hn hl (upto l.length)
    have hz : timeF m l [] = 0 := rfl
    rw [costS, q3, q4, eu, hz]; omega
  rw [c1] at a1
  rw [c2] at a2
  exact ⟨by rw [e]; exact hp, by rw [e], a1.2, a2.2⟩
theorem okM_spec {m : CMach} (h : okM m = true) : (1 ≤ m.1 ∧ m.1 ≤ 72) ∧ (1 ≤ m.2.1 ∧ m.2.1 ≤ 10000) ∧ (0 ≤ m.2.2 ∧ m.2.2 ≤ 600) := by
  simp only [okM, Bool.and_eq_true] at h
  exact ⟨inB_spec h.1, inB_spec h.2.1, inB_spec h.2.2⟩
theorem inB_of {n lo hi : Int} (h : lo ≤ n ∧ n ≤ hi) : inB n lo hi = true := by simp only [inB, Bool.and_eq_true, decide_eq_true_eq]; exact h
theorem okM_of {m : CMach} (h1 : 1 ≤ m.1 ∧ m.1 ≤ 72) (h2 : 1 ≤ m.2.1 ∧ m.2.1 ≤ 10000) (h3 : 0 ≤ m.2.2 ∧ m.2.2 ≤ 600) : okM m = true := by
  simp only [okM, Bool.and_eq_true]
  exact ⟨inB_of h1, inB_of h2, inB_of h3⟩
theorem okX_spec {x : Casting} (h : okX x = true) : (1 ≤ x.1 ∧ x.1 ≤ 72) ∧ (1 ≤ x.2 ∧ x.2 ≤ 100000) := by
  simp only [okX, Bool.and_eq_true] at h
  exact ⟨inB_spec h.1, inB_spec h.2⟩
theorem okCs_mem {l : List Casting} (h : okCs l = true) {x : Casting} (hx : x ∈ l) : okX x = true := by
  simp only [okCs, Bool.and_eq_true, List.all_eq_true] at h
  exact h.1 x hx
theorem okCs_len {l : List Casting} (h : okCs l = true) : l.length ≤ 8 := by
  simp only [okCs, Bool.and_eq_true, decide_eq_true_eq] at h
  exact h.2
theorem timeC_bound {m : CMach} {x : Casting} (hm : okM m = true) (hx : okX x = true) : 0 ≤ timeC m x ∧ timeC m x ≤ 6010000 := by
  have h1 := okM_spec hm
  have h2 := okX_spec hx
  refine ⟨timeC_pos hm (by omega), ?_⟩
  refine Int.ediv_le_of_le_mul (by omega) ?_
  have := Int.mul_le_mul_of_nonneg_left h1.2.1.1 (show (0 : Int) ≤ 6010000 by omega)
  omega
theorem castAt_some {l : List Casting} {i : Int} {x : Casting} (h : l[i.toNat]? = some x) : castAt l i = x := by rw [castAt, h]; rfl

/-! ### Orders that are asked -/
def fineB (n : Int) (o : List Int) : Bool := decide o.Nodup && allB o 0 (n - 1)
theorem fineB_iff {n : Int} {o : List Int} : fineB n o = true ↔ o.Nodup ∧ ∀ x ∈ o, 0 ≤ x ∧ x < n := by
  simp only [fineB, Bool.and_eq_true, decide_eq_true_eq]
  constructor
  · rintro ⟨h1, h2⟩
    exact ⟨h1, fun x hx => by have := allB_mem h2 x hx; omega⟩
  · rintro ⟨h1, h2⟩
    refine ⟨h1, ?_⟩
    clear h1
    induction o with
    | nil => rfl
    | cons x r ih =>
      have hx := h2 x (by simp)
      rw [allB_cons, ih (fun y hy => h2 y (by simp [hy])), Bool.and_true]
      simp only [inB, Bool.and_eq_true, decide_eq_true_eq]
      omega
theorem fineB_diff {n : Nat} {o : List Int} : fineB n o = true ↔ Diff n o := fineB_iff
theorem fine_take {n : Int} {o : List Int} (h : fineB n o = true) (k : Nat) : fineB n (o.take k) = true := by
  rw [fineB_iff] at h ⊢
  exact ⟨h.1.sublist (List.take_sublist _ _), fun x hx => h.2 x (List.mem_of_mem_take hx)⟩
theorem fine_next {n : Int} {o : List Int} {k : Nat} {x : Int} (hx : o[k]? = some x) : fineB n (o.take (k + 1)) = true ↔ fineB n (o.take k) = true ∧ (0 ≤ x ∧ x < n) ∧ x ∉ o.take k := by
  have e : o.take (k + 1) = o.take k ++ [x] := by
    rw [List.take_add_one, hx]; rfl
  rw [e, fineB_iff, fineB_iff, List.nodup_append]
  constructor
  · rintro ⟨⟨h1, -, h2⟩, h3⟩
    exact ⟨⟨h1, fun y hy => h3 y (by simp [hy])⟩, h3 x (by simp), fun h => h2 x h x (by simp) rfl⟩
  · rintro ⟨⟨h1, h2⟩, h3, h4⟩
    refine ⟨⟨h1, by simp, fun a ha b hb e2 => by simp at hb; subst hb; subst e2; exact h4 ha⟩, fun y hy => ?_⟩
    rcases List.mem_append.1 hy with hy | hy
    · exact h2 y hy
    · simp at hy; subst hy; exact h3
theorem fine_bad {n : Int} {o : List Int} {k : Nat} {x : Int} (hx : o[k]? = some x) (h : ¬ ((0 ≤ x ∧ x < n) ∧ x ∉ o.take k)) : fineB n o = false := by
  cases hf : fineB n o with
  | false => rfl
  | true => exact absurd ((fine_next hx).1 (fine_take hf (k + 1))).2 h
theorem diff_len : ∀ (n : Nat) (o : List Int), Diff n o → o.length ≤ n
  | 0, [], _ => Nat.le_refl _
  | 0, x :: r, h => by have := h.2 x (by simp); omega
  | n + 1, o, h => by
    have h2 := diff_len n (o.erase (n : Int)) ⟨h.1.erase _, fun x hx => by
      have h3 := (h.1.mem_erase_iff).1 hx
      have h4 := h.2 x h3.2
      have h5 := h3.1
      omega⟩
    rw [List.length_erase] at h2
    split at h2 <;> omega
theorem ends_nb {m : CMach} {l : List Casting} (hm : okM m = true) (hl : okCs l = true) {i : Int} {x : Casting} (hx : l[i.toNat]? = some x) : 0 ≤ timeC m x ∧ timeC m x ≤ 6010000 := timeC_bound hm (okCs_mem hl (List.mem_of_getElem? hx))
end Go.Proofs.Ytjmjepdlclehoaa.Ai
