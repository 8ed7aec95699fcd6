/- Plain laws on given jobs, the rarest craft. -/
import Derived.Test.YtkdaikliahnenabJobs
namespace Go.Proofs.Ytkdaikliahnenab.Ai
open Go Go.Proofs
set_option linter.unusedVariables false

theorem fold_mono {ps : List (List Int)} {r g : List Int} : ∀ (l : List Int) (x : Int), x ≤ l.foldl (mstep ps r g) x
  | [], x => Int.le_refl _
  | y :: l, x => by
    rw [List.foldl_cons]
    refine Int.le_trans ?_ (fold_mono l _)
    unfold mstep
    split <;> omega
theorem fold_ge {ps : List (List Int)} {r g : List Int} : ∀ (l : List Int) (x : Int), ∀ i ∈ l, has g i = false → 1 + mostF ps r (g ++ [i]) ≤ l.foldl (mstep ps r g) x
  | [], _, i, hi, _ => by cases hi
  | y :: l, x, i, hi, hb => by
    rw [List.foldl_cons]
    rcases List.mem_cons.1 hi with rfl | hi
    · have e : mstep ps r g x i = max x (1 + mostF ps r (g ++ [i])) := by unfold mstep; rw [if_neg (by rw [hb]; simp)]
      have := fold_mono (ps := ps) (r := r) (g := g) l (mstep ps r g x i)
      omega
    · exact fold_ge l _ i hi hb
theorem fold_att {ps : List (List Int)} {r g : List Int} : ∀ (l : List Int) (x : Int), l.foldl (mstep ps r g) x = x ∨ ∃ i ∈ l, has g i = false ∧ 1 + mostF ps r (g ++ [i]) = l.foldl (mstep ps r g) x
  | [], x => .inl rfl
  | y :: l, x => by
    rw [List.foldl_cons]
    rcases fold_att l (mstep ps r g x y) with e | ⟨i, hi, h1, h2⟩
    · rw [e]
      unfold mstep
      split
      · exact .inl rfl
      · rename_i hb
        by_cases hc : 1 + mostF ps r (g ++ [y]) ≤ x
        · left; omega
        · right
          exact ⟨y, by simp, by simpa using hb, by omega⟩
    · exact .inr ⟨i, List.mem_cons_of_mem _ hi, h1, h2⟩
theorem firstG_spec {ps : List (List Int)} {r g : List Int} {v : Int} : ∀ (l : List Int),
    (firstG ps r g v l = -1 ∧ ∀ i ∈ l, ¬ (has g i = false ∧ 1 + mostF ps r (g ++ [i]) = v)) ∨ (firstG ps r g v l ∈ l ∧ has g (firstG ps r g v l) = false ∧ 1 + mostF ps r (g ++ [firstG ps r g v l]) = v)
  | [] => .inl ⟨rfl, fun i hi => by cases hi⟩
  | y :: l => by
    rw [firstG]
    split
    · rename_i hc
      exact .inr ⟨by simp, hc.1, hc.2⟩
    · rename_i hc
      rcases firstG_spec l with ⟨e, h⟩ | ⟨h1, h2, h3⟩
      · refine .inl ⟨e, fun i hi => ?_⟩
        rcases List.mem_cons.1 hi with rfl | hi
        · exact hc
        · exact h i hi
      · exact .inr ⟨List.mem_cons_of_mem _ h1, h2, h3⟩
theorem neg_app (ps : List (List Int)) (r g : List Int) : mostF ps r (g ++ [-1]) = mostF ps r g := mostF_congr ps r (busy_neg (fun _ _ => rfl) (by omega))
theorem pick_val (ps : List (List Int)) (j : Int) (r g : List Int) :
    (pickF ps j r g = -1 ∧ mostF ps (j :: r) g = mostF ps r g) ∨ (pickF ps j r g ∈ whoF ps j ∧ has g (pickF ps j r g) = false ∧ mostF ps (j :: r) g = 1 + mostF ps r (g ++ [pickF ps j r g])) := by
  unfold pickF
  rcases firstG_spec (ps := ps) (r := r) (g := g) (v := mostF ps (j :: r) g) (whoF ps j) with ⟨e, h⟩ | ⟨h1, h2, h3⟩
  · refine .inl ⟨e, ?_⟩
    rcases fold_att (ps := ps) (r := r) (g := g) (whoF ps j) (mostF ps r g) with e2 | ⟨i, hi, h1, h2⟩
    · rw [mostF_cons, e2]
    · exact absurd ⟨h1, by rw [mostF_cons]; exact h2⟩ (h i hi)
  · exact .inr ⟨h1, h2, h3.symm⟩
theorem busy_comm (g : List Int) (a b : Int) : busyEq (g ++ [a] ++ [b]) (g ++ [b] ++ [a]) := fun k hk => by
  rw [has_app, has_app, has_app, has_app, Bool.or_assoc, Bool.or_assoc, Bool.or_comm (decide (a = k))]
theorem free_ge {ps : List (List Int)} : ∀ (r g : List Int) (i : Int), i ∉ greedF ps r g → mostF ps r g ≤ mostF ps r (g ++ [i])
  | [], g, i, _ => by simp [mostF]
  | j :: r, g, i, h => by
    rw [greedF, List.mem_cons, not_or] at h
    have ih := free_ge r (g ++ [pickF ps j r g]) i h.2
    rw [mostF_congr ps r (busy_comm g (pickF ps j r g) i)] at ih
    rcases pick_val ps j r g with ⟨e1, e2⟩ | ⟨h1, h2, h3⟩
    · rw [e1, neg_app, neg_app] at ih
      rw [e2, mostF_cons]
      exact Int.le_trans ih (fold_mono _ _)
    · rw [h3, mostF_cons]
      have := fold_ge (ps := ps) (r := r) (g := g ++ [i]) (whoF ps j) (mostF ps r (g ++ [i])) _ h1 (by rw [has_app, h2, decide_eq_false h.1]; rfl)
      omega
theorem greed_at {ps : List (List Int)} : ∀ (js g : List Int) (n : Nat) (j w : Int), js[n]? = some j → (greedF ps js g)[n]? = some w →
    (0 ≤ w → w ∈ whoF ps j ∧ w ∉ (greedF ps js g).take n) ∧ (w < 0 → ∀ i ∈ whoF ps j, i ∈ g ∨ i ∈ greedF ps js g) ∧ (0 ≤ w → w ∉ g)
  | [], _, _, _, _, h, _ => by simp at h
  | j :: r, g, 0, j', w, h1, h2 => by
    rw [greedF] at h2
    obtain rfl : j = j' := by simpa using h1
    obtain rfl : pickF ps j r g = w := by simpa using h2
    refine ⟨fun h0 => ?_, fun h0 i hi => ?_, fun h0 => ?_⟩
    · rcases pick_val ps j r g with ⟨e1, _⟩ | ⟨h3, h4, _⟩
      · omega
      · exact ⟨h3, by simp⟩
    · rw [greedF]
      by_cases hg : i ∈ g
      · exact .inl hg
      · right
        rcases pick_val ps j r g with ⟨e1, e2⟩ | ⟨h3, h4, _⟩
        · rw [e1]
          refine List.mem_cons_of_mem _ ?_
          refine Classical.byContradiction fun hn => ?_
          have f1 := free_ge r (g ++ [-1]) i hn
          rw [mostF_congr ps r (busy_comm g (-1) i), neg_app, neg_app] at f1
          have hb : has g i = false := by
            cases e : has g i with
            | false => rfl
            | true => exact absurd (by simpa [has] using e) hg
          have f2 := fold_ge (ps := ps) (r := r) (g := g) (whoF ps j) (mostF ps r g) i hi hb
          rw [← mostF_cons, e2] at f2
          omega
        · have := (whoF_in _ h3).1
          omega
    · rcases pick_val ps j r g with ⟨e1, _⟩ | ⟨h3, h4, _⟩
      · omega
      · intro hm
        have : has g (pickF ps j r g) = true := by simp only [has, List.any_eq_true, decide_eq_true_eq]; exact ⟨_, hm, rfl⟩
        rw [h4] at this; cases this
  | j :: r, g, n + 1, j', w, h1, h2 => by
    rw [greedF] at h2
    obtain ⟨i1, i2, i3⟩ := greed_at r (g ++ [pickF ps j r g]) n j' w (by simpa using h1) (by simpa using h2)
    refine ⟨fun h0 => ⟨(i1 h0).1, ?_⟩, fun h0 i hi => ?_, fun h0 hm => i3 h0 (List.mem_append_left _ hm)⟩
    · rw [greedF, List.take_succ_cons, List.mem_cons, not_or]
      exact ⟨fun e => i3 h0 (by rw [← e]; simp), (i1 h0).2⟩
    · rw [greedF]
      rcases i2 h0 i hi with hm | hm
      · rcases List.mem_append.1 hm with hm | hm
        · exact .inl hm
        · right; rw [List.mem_singleton.1 hm]; simp
      · exact .inr (List.mem_cons_of_mem _ hm)
structure Given (l : List Craft) (ps : List (List Int)) (js gs : List Int) : Prop where
  len : gs.length = js.length
  few : js.length ≤ 6
  ok : ∀ (n : Nat) (j w : Int), js[n]? = some j → gs[n]? = some w →
    (∀ may b, (may, b) = whoAns l ps j → b = true ∧ (0 ≤ w → w ∈ may ∧ w ∉ gs.take n) ∧ (w < 0 → ∀ i ∈ may, i ∈ gs))
theorem given_law {l : List Craft} {ps : List (List Int)} {js gs : List Int} (h : (gs, true) = giveAns l ps js) : Given l ps js gs := by
  unfold giveAns at h
  split at h
  · rename_i hc
    obtain rfl := (Prod.mk.inj h).1
    simp only [jobsOk, Bool.and_eq_true, decide_eq_true_eq] at hc
    refine ⟨greedF_len _ _, by omega, fun n j w h1 h2 may b hm => ?_⟩
    obtain ⟨g1, g2, g3⟩ := greed_at js [] n j w h1 h2
    have hj : inB j 0 (l.length - 1) = true := List.all_eq_true.1 hc.2 j (List.mem_of_getElem? h1)
    unfold whoAns at hm
    rw [hc.1.1, hj] at hm
    obtain ⟨rfl, rfl⟩ := Prod.mk.inj hm
    refine ⟨rfl, g1, fun h0 i hi => ?_⟩
    rcases g2 h0 i hi with hm | hm
    · cases hm
    · exact hm
  · cases (Prod.mk.inj h).2
theorem rareB_least (ps : List (List Int)) : ∀ (n : Nat), ∀ k : Nat, k < n → cnt ps (rareB ps n) ≤ cnt ps k
  | 0, k, h => by omega
  | n + 1, k, h => by
    rw [rareB]
    by_cases e : k = n
    · subst e
      split <;> omega
    · have := rareB_least ps n k (by omega)
      split <;> omega
theorem rare_law {u : List Craft} {v : List (List Int)} {r n : Int} (h : (r, n, true) = rare u v) : ∀ (c : Int), 0 ≤ c → c < u.length → ∀ who b, (who, b) = whoAns u v c → b = true ∧ n ≤ who.length ∧ (c = r → (who.length : Int) = n) := by
  intro c h0 h1 who b hw
  unfold rare at h
  split at h
  · rename_i hc
    simp only [Prod.mk.injEq] at h
    simp only [Bool.and_eq_true] at hc
    unfold whoAns at hw
    have hi : inB c 0 (u.length - 1) = true := by simp [inB]; omega
    rw [hc.1, hi] at hw
    obtain ⟨rfl, rfl⟩ := Prod.mk.inj hw
    refine ⟨rfl, ?_, fun e => ?_⟩
    · have := rareB_least v u.length c.toNat (by omega)
      rw [show ((c.toNat : Nat) : Int) = c by omega, ← h.2.1] at this
      exact this
    · rw [h.2.1, e, h.1]; rfl
  · simp at h
theorem wage_law {a : List Craft} {s : List Int} {b m w : Int} (h : (w, true) = wage a s b m) (hs : (s.length : Int) ≤ 1048576) : w = b + m * s.length ∧ (0 ≤ m ∧ m ≤ 10000) ∧ 0 ≤ b ∧ b ≤ 100000 := by
  unfold wage at h
  split at h
  · rename_i hc
    simp only [Bool.and_eq_true] at hc
    have h1 := inB_spec hc.1.2
    have h2 := inB_spec hc.2
    have h3 := mul_bound h2.1 h2.2 (show 0 ≤ (s.length : Int) by omega) hs
    refine ⟨?_, h2, h1⟩
    rw [(Prod.mk.inj h).1, wrap64 (x := m * s.length) (by omega) (by omega), wrap64 (by omega) (by omega)]
  · simp at h
theorem rare_small {u : List Craft} {v : List (List Int)} {r n : Int} {b : Bool} (h : (r, n, b) = rare u v) (hv : (v.length : Int) ≤ 100) : 0 ≤ r ∧ r ≤ u.length := by
  unfold rare at h
  split at h
  · simp only [Prod.mk.injEq] at h
    have := rareB_bound v u.length
    omega
  · simp only [Prod.mk.injEq] at h
    omega
end Go.Proofs.Ytkdaikliahnenab.Ai
