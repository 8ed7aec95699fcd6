/- Plain laws on parallel columns. -/
import Derived.Test.YtalookmhhkojeaaCommon
namespace Go.Proofs.Ytalookmhhkojeaa.Ai
open Go Go.Proofs
set_option linter.unusedSimpArgs false
set_option linter.unusedVariables false

def headP (l : List (List Int)) : Int := (l.headD []).length
def rowB (n : Int) (r : List Int) : Bool := (decide ((r.length : Int) = n) && inB r.length 1 6) && allB r 0 200
def parB (l : List (List Int)) : Bool := l.all (rowB (headP l)) && decide ((l.length : Int) ≤ 24)
def hiF (r : List Int) : Int := r.foldl max 0
def heightsF (l : List (List Int)) : List Int := l.map hiF
def totalF (l : List (List Int)) : Int := (heightsF l).sum
def addR (a b : List Int) : List Int := List.zipWith (fun x y => x + y) a b
def rowAt (l : List (List Int)) (i : Nat) : List Int := l.getD i []
def joinF (l : List (List Int)) (i : Nat) : List (List Int) := l.take i ++ addR (rowAt l i) (rowAt l (i + 1)) :: l.drop (i + 2)
def savedF (l : List (List Int)) (i : Nat) : Int := hiF (rowAt l i) + hiF (rowAt l (i + 1)) - hiF (addR (rowAt l i) (rowAt l (i + 1)))
def markB (l : List (List Int)) (i : Int) : Bool := parB l && inB i 0 (l.length - 2)
def savedAns (l : List (List Int)) (i : Int) : Int × Bool := if markB l i then (savedF l i.toNat, true) else (0, false)
def totalAns (l : List (List Int)) : Int × Bool := if parB l then (totalF l, true) else (0, false)
def heightsAns (l : List (List Int)) : List Int × Bool := if parB l then (heightsF l, true) else ([], false)
def blankR (r zs : List Int) : List Int := List.zipWith (fun z n => z + (hiF r - n)) zs r
def blanksF (l : List (List Int)) : List Int := l.foldl (fun zs r => blankR r zs) (List.replicate (headP l).toNat 0)
def blanksAns (l : List (List Int)) : List Int × Bool := if parB l then (blanksF l, true) else ([], false)
def joinAns (l : List (List Int)) (i : Int) : List (List Int) × Bool := if markB l i && parB (joinF l i.toNat) then (joinF l i.toNat, true) else ([], false)
/-- The first one of 0 .. k with the greatest value. -/
def bestI (f : Nat → Int) : Nat → Nat
  | 0 => 0
  | k + 1 => if f (k + 1) > f (bestI f k) then k + 1 else bestI f k
theorem bestI_le (f : Nat → Int) : ∀ k, bestI f k ≤ k
  | 0 => Nat.le_refl _
  | k + 1 => by
    rw [bestI]
    have := bestI_le f k
    split <;> omega
theorem bestI_ge (f : Nat → Int) : ∀ k, ∀ j ≤ k, f j ≤ f (bestI f k)
  | 0, j, h => by
    obtain rfl : j = 0 := by omega
    exact Int.le_refl _
  | k + 1, j, h => by
    rw [bestI]
    by_cases e : j = k + 1
    · subst e
      split <;> omega
    · have := bestI_ge f k j (by omega)
      split <;> omega
def bestPAns (l : List (List Int)) : Int × Int × Bool := if markB l 0 then (bestI (savedF l) (l.length - 2), savedF l (bestI (savedF l) (l.length - 2)), true) else (0, 0, false)
def swapR (i k : Nat) (r : List Int) : List Int := (r.set i (nth r k)).set k (nth r i)
def swapB (l : List (List Int)) (i k : Int) : Bool := (parB l && !decide ((l.length : Int) = 0)) && (inB i 0 (headP l - 1) && inB k 0 (headP l - 1))
def swapAns (l : List (List Int)) (i k : Int) : List (List Int) × Bool := if swapB l i k then (l.map (swapR i.toNat k.toNat), true) else ([], false)
def blankAns (l : List (List Int)) : Int × Bool := if parB l && !decide ((l.length : Int) = 0) then (bestI (nth (blanksF l)) (headP l - 1).toNat, true) else (0, false)

/-! ### Bounds -/
theorem foldl_max_ge : ∀ (zs : List Int) (a : Int), a ≤ zs.foldl max a ∧ ∀ z ∈ zs, z ≤ zs.foldl max a
  | [], a => ⟨Int.le_refl _, fun z hz => by cases hz⟩
  | y :: r, a => by
    rw [List.foldl_cons]
    have := foldl_max_ge r (max a y)
    refine ⟨by omega, fun z hz => ?_⟩
    rcases List.mem_cons.1 hz with rfl | hz
    · omega
    · exact this.2 z hz
theorem foldl_max_le : ∀ (zs : List Int) (a B : Int), a ≤ B → (∀ z ∈ zs, z ≤ B) → zs.foldl max a ≤ B
  | [], a, B, h, _ => h
  | y :: r, a, B, h, hz => by
    rw [List.foldl_cons]
    have := hz y (by simp)
    exact foldl_max_le r _ B (by omega) fun z hm => hz z (by simp [hm])
theorem hiF_ge (r : List Int) : 0 ≤ hiF r ∧ ∀ z ∈ r, z ≤ hiF r := foldl_max_ge r 0
theorem hiF_le {r : List Int} {B : Int} (h0 : 0 ≤ B) (h : ∀ z ∈ r, z ≤ B) : hiF r ≤ B := foldl_max_le r 0 B h0 h
theorem rowB_spec {n : Int} {r : List Int} (h : rowB n r = true) : (r.length : Int) = n ∧ 1 ≤ r.length ∧ r.length ≤ 6 ∧ ∀ z ∈ r, 0 ≤ z ∧ z ≤ 200 := by
  simp only [rowB, Bool.and_eq_true, decide_eq_true_eq] at h
  have h1 := inB_spec h.1.2
  exact ⟨h.1.1, by omega, by omega, allB_mem h.2⟩
theorem parB_spec {l : List (List Int)} (h : parB l = true) : (∀ r ∈ l, (r.length : Int) = headP l ∧ 1 ≤ r.length ∧ r.length ≤ 6 ∧ ∀ z ∈ r, 0 ≤ z ∧ z ≤ 200) ∧ l.length ≤ 24 := by
  simp only [parB, Bool.and_eq_true, decide_eq_true_eq] at h
  exact ⟨fun r hr => rowB_spec (List.all_eq_true.1 h.1 r hr), by omega⟩
theorem hiF_in {l : List (List Int)} (h : parB l = true) : ∀ r ∈ l, 0 ≤ hiF r ∧ hiF r ≤ 200 := fun r hr => ⟨(hiF_ge r).1, hiF_le (by omega) fun z hz => (((parB_spec h).1 r hr).2.2.2 z hz).2⟩
theorem mem_addR {a b : List Int} {z : Int} (h : z ∈ addR a b) : ∃ x ∈ a, ∃ y ∈ b, z = x + y := by
  induction a generalizing b with
  | nil => cases b <;> simp [addR] at h
  | cons x r ih =>
    cases b with
    | nil => simp [addR] at h
    | cons y t =>
      rcases List.mem_cons.1 (show z ∈ (x + y) :: addR r t from h) with rfl | h
      · exact ⟨x, by simp, y, by simp, rfl⟩
      · obtain ⟨p, hp, q, hq, e⟩ := ih h
        exact ⟨p, by simp [hp], q, by simp [hq], e⟩
theorem hi_addR (a b : List Int) : hiF (addR a b) ≤ hiF a + hiF b := by
  refine hiF_le (by have := (hiF_ge a).1; have := (hiF_ge b).1; omega) fun z hz => ?_
  obtain ⟨x, hx, y, hy, rfl⟩ := mem_addR hz
  have := (hiF_ge a).2 x hx
  have := (hiF_ge b).2 y hy
  omega
theorem saved_nn (l : List (List Int)) (i : Nat) : 0 ≤ savedF l i := by
  unfold savedF
  have := hi_addR (rowAt l i) (rowAt l (i + 1))
  omega
theorem split_two {l : List (List Int)} {i : Nat} (h : i + 1 < l.length) : l = l.take i ++ rowAt l i :: rowAt l (i + 1) :: l.drop (i + 2) := by
  have e1 : rowAt l i = l[i] := by rw [rowAt, List.getD_eq_getElem?_getD, List.getElem?_eq_getElem (by omega)]; rfl
  have e2 : rowAt l (i + 1) = l[i + 1] := by rw [rowAt, List.getD_eq_getElem?_getD, List.getElem?_eq_getElem h]; rfl
  rw [e1, e2, ← List.drop_eq_getElem_cons h, ← List.drop_eq_getElem_cons (by omega : i < l.length), List.take_append_drop]
theorem total_join {l : List (List Int)} {i : Nat} (h : i + 1 < l.length) : totalF (joinF l i) = totalF l - savedF l i := by
  have e : totalF l = totalF (l.take i ++ rowAt l i :: rowAt l (i + 1) :: l.drop (i + 2)) := by rw [← split_two h]
  rw [e]
  unfold joinF totalF heightsF savedF
  simp only [List.map_append, List.map_cons, List.sum_append, List.sum_cons]
  omega
/-! ### Blanks -/
theorem blankR_len {r zs : List Int} (h : zs.length = r.length) : (blankR r zs).length = r.length := by
  unfold blankR; simp [h]
theorem blankR_sum : ∀ (zs r : List Int) (H : Int), zs.length = r.length → (List.zipWith (fun z n => z + (H - n)) zs r).sum = zs.sum + (H * r.length - r.sum)
  | [], [], H, _ => by simp
  | [], _ :: _, H, h => by simp at h
  | _ :: _, [], H, h => by simp at h
  | z :: zs, n :: r, H, h => by
    simp only [List.zipWith_cons_cons, List.sum_cons, List.length_cons]
    rw [blankR_sum zs r H (by simpa using h), Int.natCast_add, Int.mul_add]
    simp only [Int.natCast_one, Int.mul_one]
    omega
theorem blanks_sum (n : Nat) : ∀ (l : List (List Int)) (zs : List Int), zs.length = n → (∀ r ∈ l, r.length = n) →
    (l.foldl (fun zs r => blankR r zs) zs).sum = zs.sum + (totalF l * n - (l.map List.sum).sum) ∧ (l.foldl (fun zs r => blankR r zs) zs).length = n
  | [], zs, h, _ => ⟨by simp [totalF, heightsF], h⟩
  | r :: t, zs, h, hl => by
    have hr := hl r (by simp)
    obtain ⟨i1, i2⟩ := blanks_sum n t (blankR r zs) (by rw [blankR_len (by omega), hr]) fun x hx => hl x (by simp [hx])
    rw [List.foldl_cons]
    refine ⟨?_, i2⟩
    rw [i1]
    unfold blankR
    rw [blankR_sum zs r _ (by omega), hr]
    unfold totalF heightsF
    simp only [List.map_cons, List.sum_cons, Int.add_mul]
    omega
/-! ### Swapped columns -/
theorem swapR_len (i k : Nat) (r : List Int) : (swapR i k r).length = r.length := by simp [swapR]
theorem swap_back {i k : Nat} {r : List Int} (hi : i < r.length) (hk : k < r.length) : swapR k i (swapR i k r) = r := by
  apply List.ext_getElem?
  intro j
  have e1 : nth r i = r[i] := by rw [nth, List.getElem?_eq_getElem hi]; rfl
  have e2 : nth r k = r[k] := by rw [nth, List.getElem?_eq_getElem hk]; rfl
  have f1 : nth (swapR i k r) k = r[i] := by
    rw [nth, swapR, List.getElem?_set_self (by simpa using hk), e1]; rfl
  have f2 : nth (swapR i k r) i = r[k] := by
    rw [nth, swapR]
    by_cases e : k = i
    · subst e
      rw [List.getElem?_set_self (by simpa using hk), e1]; rfl
    · rw [List.getElem?_set_ne e, List.getElem?_set_self hi, e2]; rfl
  rw [show swapR k i (swapR i k r) = ((swapR i k r).set k (nth (swapR i k r) i)).set i (nth (swapR i k r) k) from rfl, f1, f2]
  by_cases h1 : i = j
  · subst h1
    rw [List.getElem?_set_self (by simp [swapR_len]; exact hi), List.getElem?_eq_getElem hi]
  · rw [List.getElem?_set_ne h1]
    by_cases h2 : k = j
    · subst h2
      rw [List.getElem?_set_self (by simp [swapR_len]; exact hk), List.getElem?_eq_getElem hk]
    · rw [List.getElem?_set_ne h2, swapR, List.getElem?_set_ne h2, List.getElem?_set_ne h1]
theorem swapR_mem {i k : Nat} {r : List Int} (hi : i < r.length) (hk : k < r.length) {z : Int} (h : z ∈ swapR i k r) : z ∈ r := by
  unfold swapR at h
  rcases List.mem_or_eq_of_mem_set h with h | rfl
  · rcases List.mem_or_eq_of_mem_set h with h | rfl
    · exact h
    · rw [nth, List.getElem?_eq_getElem hk]; exact List.getElem_mem hk
  · rw [nth, List.getElem?_eq_getElem hi]; exact List.getElem_mem hi
theorem allB_of {ws : List Int} {a b : Int} (h : ∀ n ∈ ws, a ≤ n ∧ n ≤ b) : allB ws a b = true := List.all_eq_true.2 fun n hn => by
  have := h n hn
  simp [inB, this.1, this.2]
theorem inBp_of {n a b : Int} (h1 : a ≤ n) (h2 : n ≤ b) : inB n a b = true := by simp [inB, h1, h2]
theorem swap_ok {l : List (List Int)} {i k : Int} (h : swapB l i k = true) : (∀ r ∈ l, i.toNat < r.length ∧ k.toNat < r.length) ∧ headP (l.map (swapR i.toNat k.toNat)) = headP l ∧ parB (l.map (swapR i.toNat k.toNat)) = true := by
  simp only [swapB, Bool.and_eq_true] at h
  obtain ⟨⟨hp, hn⟩, hi, hk⟩ := h
  have hi' := inB_spec hi
  have hk' := inB_spec hk
  obtain ⟨p1, p2⟩ := parB_spec hp
  have hb : ∀ r ∈ l, i.toNat < r.length ∧ k.toNat < r.length := fun r hr => by
    have := (p1 r hr).1
    exact ⟨by omega, by omega⟩
  have hh : headP (l.map (swapR i.toNat k.toNat)) = headP l := by
    unfold headP
    cases l with
    | nil => rfl
    | cons a t => simp [swapR_len]
  refine ⟨hb, hh, ?_⟩
  unfold parB
  rw [hh, List.length_map, Bool.and_eq_true]
  refine ⟨List.all_eq_true.2 fun r hr => ?_, decide_eq_true (by omega)⟩
  obtain ⟨r', hr', rfl⟩ := List.mem_map.1 hr
  obtain ⟨q1, q2, q3, q4⟩ := p1 r' hr'
  unfold rowB
  rw [swapR_len, decide_eq_true q1, inBp_of (by omega) (by omega), allB_of fun z hz => q4 z (swapR_mem (hb r' hr').1 (hb r' hr').2 hz)]
  rfl
theorem swap_law {u w : List (List Int)} {x y : Int} (h : (w, true) = swapAns u x y) : (u, true) = swapAns w y x := by
  unfold swapAns at h
  split at h
  · rename_i hc
    obtain ⟨h1, h2, h3⟩ := swap_ok hc
    have hw : w = u.map (swapR x.toNat y.toNat) := (Prod.mk.inj h).1
    have hc2 := hc
    simp only [swapB, Bool.and_eq_true] at hc
    have hb : swapB w y x = true := by
      unfold swapB
      rw [hw, h3, h2, List.length_map, hc.1.2, hc.2.1, hc.2.2]; rfl
    unfold swapAns
    rw [if_pos hb, hw, List.map_map]
    refine congrArg (fun z => (z, true)) ?_
    refine ((List.map_congr_left fun r hr => ?_).trans (List.map_id u)).symm
    exact swap_back (h1 r hr).1 (h1 r hr).2
  · cases (Prod.mk.inj h).2
/-! ### The law's facts -/
theorem par_sum {l : List (List Int)} (h : parB l = true) : (l.map List.sum).sum + (blanksF l).sum = totalF l * headP l := by
  obtain ⟨p1, p2⟩ := parB_spec h
  obtain ⟨b1, b2⟩ := blanks_sum (headP l).toNat l (List.replicate (headP l).toNat 0) (by simp) fun r hr => by have := (p1 r hr).1; omega
  have e : (((headP l).toNat : Nat) : Int) = headP l := by
    have : 0 ≤ headP l := by unfold headP; omega
    omega
  rw [e] at b1
  have z : (List.replicate (headP l).toNat (0 : Int)).sum = 0 := by simp
  unfold blanksF
  rw [b1, z]
  omega
theorem total_in {l : List (List Int)} (h : parB l = true) : 0 ≤ totalF l ∧ totalF l ≤ 200 * 24 := by
  have h1 := hiF_in h
  have h2 := (parB_spec h).2
  have := sum_bound (ws := heightsF l) (B := 200) (by omega) fun n hn => by
    obtain ⟨r, hr, rfl⟩ := List.mem_map.1 hn
    exact h1 r hr
  have e : (heightsF l).length = l.length := by simp [heightsF]
  rw [e] at this
  unfold totalF
  omega
theorem join_law {l j : List (List Int)} {i s : Int} (hs : (s, true) = savedAns l i) (hj : (j, true) = joinAns l i) : ∀ t b, (t, b) = totalAns j → b = true ∧ t = totalF l - s := by
  intro t b ht
  unfold savedAns at hs
  unfold joinAns at hj
  split at hj
  · rename_i hc
    rw [Bool.and_eq_true] at hc
    rw [if_pos hc.1] at hs
    obtain ⟨rfl, _⟩ := Prod.mk.inj hj
    have hsv : s = savedF l i.toNat := (Prod.mk.inj hs).1
    unfold totalAns at ht
    rw [if_pos hc.2] at ht
    obtain ⟨rfl, rfl⟩ := Prod.mk.inj ht
    have hm := hc.1
    simp only [markB, Bool.and_eq_true] at hm
    have := inB_spec hm.2
    exact ⟨rfl, by rw [hsv, total_join (by omega)]⟩
  · cases (Prod.mk.inj hj).2
theorem best_law {l : List (List Int)} {i s : Int} (hs : (s, true) = savedAns l i) : 0 ≤ s ∧ ∀ k g b, (k, g, b) = bestPAns l → b = true ∧ s ≤ g := by
  unfold savedAns at hs
  split at hs
  · rename_i hc
    obtain ⟨rfl, _⟩ := Prod.mk.inj hs
    refine ⟨saved_nn _ _, fun k g b hb => ?_⟩
    simp only [markB, Bool.and_eq_true] at hc
    have hi := inB_spec hc.2
    unfold bestPAns at hb
    have hm : markB l 0 = true := by unfold markB; rw [hc.1, inBp_of (by omega) (by omega)]; rfl
    rw [if_pos hm] at hb
    simp only [Prod.mk.injEq] at hb
    exact ⟨hb.2.2, by rw [hb.2.1]; exact bestI_ge (savedF l) (l.length - 2) i.toNat (by omega)⟩
  · cases (Prod.mk.inj hs).2
end Go.Proofs.Ytalookmhhkojeaa.Ai
