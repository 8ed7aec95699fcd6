/- Facts on tables for laws. -/
import Derived.Test.YtpjmpgbgglhoeaaTableLaw2
namespace Go.Proofs.Ytpjmpgbgglhoeaa.Ai
open Go Go.Proofs
set_option linter.unusedVariables false

theorem least_ok {n g : Int} {l : List Entry} {s : List Int} {b : Bool} (h : (s, b) = leastF n l g) : okG n l g = b := by
  unfold leastF at h
  split at h <;> simp_all
theorem least_val {n g : Int} {l : List Entry} {s : List Int} (h : (s, true) = leastF n l g) : s = (startsF l g n.toNat).take n.toNat := by
  have e := least_ok h
  rw [leastF, if_pos e] at h
  exact (Prod.mk.inj h).1
theorem tot_ok {n g : Int} {l : List Entry} {s : Int} {b : Bool} (h : (s, b) = totF n l g) : okG n l g = b := by
  unfold totF at h
  split at h <;> simp_all
theorem tot_val {n g : Int} {l : List Entry} {s : Int} (h : (s, true) = totF n l g) : s = sAt l g n.toNat - g := by
  have e := tot_ok h
  rw [totF, if_pos e] at h
  exact (Prod.mk.inj h).1
theorem without_ok {n g i : Int} {l : List Entry} {s : Int} {b : Bool} (h : (s, b) = withoutF n l g i) : (okG n l g && inB i 0 (l.length - 1)) = b := by
  unfold withoutF at h
  split at h <;> simp_all
theorem without_val {n g i : Int} {l : List Entry} {s : Int} (h : (s, true) = withoutF n l g i) : okG n l g = true ∧ s = sAt (l.eraseIdx i.toNat) g n.toNat - g := by
  have e := without_ok h
  rw [withoutF, if_pos e] at h
  rw [Bool.and_eq_true] at e
  exact ⟨e.1, (Prod.mk.inj h).1⟩
theorem tight_ok {n g : Int} {l : List Entry} {s : List Int} {b : Bool} (h : (s, b) = tightAns n l g) : okG n l g = b := by
  unfold tightAns at h
  split at h <;> simp_all
theorem tight_val {n g : Int} {l : List Entry} {s : List Int} (h : (s, true) = tightAns n l g) : s = tightL n l g 0 l := by
  have e := tight_ok h
  rw [tightAns, if_pos e] at h
  exact (Prod.mk.inj h).1
theorem tight_iff {n g i : Int} {l : List Entry} {y : Entry} (hy : l[i.toNat]? = some y) (h0 : 0 ≤ i) : i ∈ tightL n l g 0 l ↔ roomF n l g y = 0 := by
  rw [tight_mem, Int.sub_zero]
  constructor
  · rintro ⟨-, x, hx, e⟩
    rw [hy] at hx
    obtain rfl := Option.some.inj hx
    exact e
  · exact fun e => ⟨h0, y, hy, e⟩
theorem tight_ne {n g : Int} {l : List Entry} (h : TabIn n l g) (hw : (n - 1) * g < sAt l g n.toNat - g) : tightL n l g 0 l ≠ [] := by
  obtain ⟨x, hx, e⟩ := tight_some h hw
  obtain ⟨i, hi⟩ := List.mem_iff_getElem?.1 hx
  have := (tight_iff (n := n) (g := g) (i := (i : Int)) (l := l) (y := x) (by simpa using hi) (by omega)).2 e
  intro e; rw [e] at this; cases this
theorem room_ok {n g i : Int} {l : List Entry} {s : Int} {b : Bool} (h : (s, b) = roomAns n l g i) : (okG n l g && inB i 0 (l.length - 1)) = b := by
  unfold roomAns at h
  split at h <;> simp_all
theorem room_val {n g i : Int} {l : List Entry} {s : Int} (h : (s, true) = roomAns n l g i) : s = roomAt n l g i := by
  have e := room_ok h
  rw [roomAns, if_pos e] at h
  exact (Prod.mk.inj h).1
theorem lat_ok {n g t : Int} {l : List Entry} {s : List Int} {b : Bool} (h : (s, b) = latAns n l g t) : isTot n l g t = b := by
  unfold latAns at h
  split at h <;> simp_all
theorem lat_val {n g t : Int} {l : List Entry} {s : List Int} (h : (s, true) = latAns n l g t) : s = 0 :: (latF n l g t (n - 1).toNat).take (n - 1).toNat := by
  have e := lat_ok h
  rw [latAns, if_pos e] at h
  exact (Prod.mk.inj h).1
theorem spread_ok {n g t : Int} {l : List Entry} {s : List Int} {b : Bool} (h : (s, b) = spreadAns n l g t) : isTot n l g t = b := by
  unfold spreadAns at h
  split at h <;> simp_all
theorem spread_val {n g t : Int} {l : List Entry} {s : List Int} (h : (s, true) = spreadAns n l g t) : s = spread (t - (sAt l g n.toNat - g)) n (widthsF l g n.toNat) := by
  have e := spread_ok h
  rw [spreadAns, if_pos e] at h
  exact (Prod.mk.inj h).1

/-- Latest columns are not before the least starts. -/
theorem lat_ge {n g t : Int} {l : List Entry} (h : isTot n l g t = true) {i : Nat} (hi : i < n.toNat) : nth ((startsF l g n.toNat).take n.toNat) i ≤ nth (0 :: (latF n l g t (n - 1).toNat).take (n - 1).toNat) i := by
  obtain ⟨-, ht, hb, hw⟩ := isTot_spec h
  rw [nth_take hi, starts_at _ _ _ _ (by omega)]
  cases i with
  | zero => rw [sAt_zero, nth_zero]; exact Int.le_refl _
  | succ i =>
    rw [nth_cons, nth_take (by omega), lAt_of (by omega) (by omega), show n.toNat - (n - 1).toNat + i = i + 1 by omega]
    exact lAt_ge ht hw _ (i + 1) rfl (by omega)

theorem spread_mem {m n : Int} {ws : List Int} (hm : 0 ≤ m ∧ m ≤ 10000) (hn : 0 < n) (hw : ∀ x ∈ ws, 0 ≤ x ∧ x ≤ 6360) : ∀ x ∈ spread m n ws, 0 ≤ x ∧ x ≤ 20000 := fun x hx => by
  obtain ⟨i, hi, rfl⟩ := List.mem_map.1 hx
  have hi := List.mem_range.1 hi
  have h1 := hw _ (show nth ws i ∈ ws by rw [nth, List.getElem?_eq_getElem hi]; exact List.getElem_mem hi)
  have h2 := Int.ediv_nonneg hm.1 (Int.le_of_lt hn)
  have h3 := Int.ediv_le_self n hm.1
  split <;> omega
end Go.Proofs.Ytpjmpgbgglhoeaa.Ai
