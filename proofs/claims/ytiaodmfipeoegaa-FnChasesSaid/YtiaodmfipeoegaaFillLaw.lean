/- Filling a chase: the search, in plain words. -/
import Derived.Test.YtiaodmfipeoegaaChaseLaw2
namespace Go.Proofs.Ytiaodmfipeoegaa.Ai
open Go Go.Proofs
set_option linter.unusedVariables false
/-- The first place that is free. -/
def firstF : List Int → Int
  | [] => 0
  | x :: r => if 0 ≤ x then 1 + firstF r else 0
theorem firstF_drop {l : List Int} {a k : Int} (hk : 0 ≤ k) (h : a = k + firstF (l.drop k.toNat)) {x : Int} (hx : l[k.toNat]? = some x) (h0 : 0 ≤ x) {k2 : Int} (h2 : k2 = k + 1) : a = k2 + firstF (l.drop k2.toNat) := by
  have hl := (List.getElem?_eq_some_iff.1 hx).1
  rw [List.drop_eq_getElem_cons hl, (List.getElem?_eq_some_iff.1 hx).2, firstF, if_pos h0] at h
  rw [show k2.toNat = k.toNat + 1 by omega]; omega
theorem firstF_stop {l : List Int} {a k : Int} (h : a = k + firstF (l.drop k.toNat)) {x : Int} (hx : l[k.toNat]? = some x) (h0 : x < 0) : a = k := by
  have hl := (List.getElem?_eq_some_iff.1 hx).1
  rw [List.drop_eq_getElem_cons hl, (List.getElem?_eq_some_iff.1 hx).2, firstF, if_neg (by omega)] at h
  omega
theorem firstF_end {l : List Int} {a k : Int} (h : a = k + firstF (l.drop k.toNat)) (hk : (l.length : Int) ≤ k) : a = k := by
  rw [List.drop_of_length_le (by omega), firstF] at h; omega
/-- Numbers of pieces, each once. -/
def Diff (n : Nat) (o : List Int) : Prop := o.Nodup ∧ ∀ x ∈ o, 0 ≤ x ∧ x < n
theorem diff_len : ∀ (n : Nat) (o : List Int), Diff n o → o.length ≤ n
  | 0, o, h => by
    cases o with
    | nil => simp
    | cons x r => have := h.2 x (by simp); omega
  | n + 1, o, h => by
    have h2 := diff_len n (o.erase (n : Int)) ⟨h.1.erase _, fun x hx => by
      have h3 := h.2 x (List.mem_of_mem_erase hx)
      have h4 : x ≠ (n : Int) := fun e => by subst e; exact (List.Nodup.not_mem_erase h.1) hx
      omega⟩
    have h3 := List.length_erase (a := (n : Int)) (l := o)
    split at h3 <;> omega
theorem diff_next {n : Nat} {o : List Int} (h : Diff n o) {i : Int} (h0 : 0 ≤ i) (h1 : i < n) (hn : i ∉ o) : Diff n (o ++ [i]) := by
  refine ⟨?_, fun x hx => ?_⟩
  · rw [List.nodup_append]
    exact ⟨h.1, by simp, fun a ha b hb e => by simp at hb; subst hb; exact hn (e ▸ ha)⟩
  · rcases List.mem_append.1 hx with hx | hx
    · exact h.2 x hx
    · simp at hx; subst hx; omega
/-- One piece is tried at the first free place. -/
def tryG (F : Grid → List Int → List Plc × Bool) (ps : List Piece) (w h : Int) (G : Grid) (used : List Int) (k i : Int) (t : Bool) : Option (List Plc) :=
  if t = true ∧ (nthP ps i).1 = (nthP ps i).2 then none
  else if roomP ps w.toNat h.toNat G (i, k % w, k / w, t) = true then
    (if (F (putP ps G (i, k % w, k / w, t) i) (used ++ [i])).2 = true then some ((i, k % w, k / w, t) :: (F (putP ps G (i, k % w, k / w, t) i) (used ++ [i])).1) else none)
  else none
def oneG (F : Grid → List Int → List Plc × Bool) (ps : List Piece) (w h : Int) (G : Grid) (used : List Int) (k : Int) (i : Nat) : Option (List Plc) :=
  if (i : Int) ∈ used then none else [false, true].findSome? (tryG F ps w h G used k i)
def fillB (F : Grid → List Int → List Plc × Bool) (ps : List Piece) (w h : Int) (G : Grid) (used : List Int) : List Plc × Bool :=
  if firstF (flaG w.toNat h.toNat G) = (flaG w.toNat h.toNat G).length then ([], decide (used.length = ps.length))
  else match (List.range ps.length).findSome? (oneG F ps w h G used (firstF (flaG w.toNat h.toNat G))) with
    | some l => (l, true)
    | none => ([], false)
def fillG (ps : List Piece) (w h : Int) : Nat → Grid → List Int → List Plc × Bool
  | 0, _, _ => ([], false)
  | n + 1, G, used => fillB (fillG ps w h n) ps w h G used
theorem fillB_end {F : Grid → List Int → List Plc × Bool} {ps : List Piece} {w h : Int} {G : Grid} {used : List Int} (e : firstF (flaG w.toNat h.toNat G) = (flaG w.toNat h.toNat G).length) : fillB F ps w h G used = ([], decide (used.length = ps.length)) := by
  unfold fillB; rw [if_pos e]
theorem fillB_some {F : Grid → List Int → List Plc × Bool} {ps : List Piece} {w h k : Int} {G : Grid} {used : List Int} {l : List Plc} (hk : firstF (flaG w.toNat h.toNat G) = k) (hn : k ≠ (flaG w.toNat h.toNat G).length) (e : (List.range ps.length).findSome? (oneG F ps w h G used k) = some l) : fillB F ps w h G used = (l, true) := by
  unfold fillB; rw [hk, if_neg hn, e]
theorem fillB_none {F : Grid → List Int → List Plc × Bool} {ps : List Piece} {w h k : Int} {G : Grid} {used : List Int} (hk : firstF (flaG w.toNat h.toNat G) = k) (hn : k ≠ (flaG w.toNat h.toNat G).length) (e : (List.range ps.length).findSome? (oneG F ps w h G used k) = none) : fillB F ps w h G used = ([], false) := by
  unfold fillB; rw [hk, if_neg hn, e]
theorem range_drop {n i : Nat} (h : i < n) : (List.range n).drop i = i :: (List.range n).drop (i + 1) := by
  rw [List.drop_eq_getElem_cons (by simpa using h)]; simp
theorem find_next {f : Nat → Option (List Plc)} {n i : Nat} (h : i < n) (e : f i = none) : ((List.range n).drop i).findSome? f = ((List.range n).drop (i + 1)).findSome? f := by
  rw [range_drop h, List.findSome?_cons, e]
theorem find_hit {f : Nat → Option (List Plc)} {n i : Nat} {l : List Plc} (h : i < n) (e : f i = some l) : ((List.range n).drop i).findSome? f = some l := by
  rw [range_drop h, List.findSome?_cons, e]
theorem find_end {f : Nat → Option (List Plc)} {n i : Nat} (h : n ≤ i) : ((List.range n).drop i).findSome? f = none := by
  rw [List.drop_of_length_le (by simpa using h)]; rfl
theorem fill_len {ps : List Piece} {w h : Int} : ∀ (n : Nat) (G : Grid) (used : List Int), (fillG ps w h n G used).1.length ≤ n
  | 0, _, _ => by simp [fillG]
  | n + 1, G, used => by
    unfold fillG fillB
    split
    · simp
    · split
      · rename_i l e
        obtain ⟨i, -, e1⟩ := List.exists_of_findSome?_eq_some e
        unfold oneG at e1
        split at e1
        · cases e1
        · obtain ⟨t, -, e2⟩ := List.exists_of_findSome?_eq_some e1
          unfold tryG at e2
          split at e2
          · cases e2
          · split at e2
            · split at e2
              · rw [← Option.some.inj e2]
                have := fill_len (ps := ps) (w := w) (h := h) n (putP ps G (↑i, firstF (flaG w.toNat h.toNat G) % w, firstF (flaG w.toNat h.toNat G) / w, t) ↑i) (used ++ [(i : Int)])
                simp only [List.length_cons]; omega
              · cases e2
            · cases e2
      · simp
theorem findL_next {α β : Type} {f : α → Option β} {l : List α} {k : Nat} {x : α} (h : l[k]? = some x) (e : f x = none) : (l.drop k).findSome? f = (l.drop (k + 1)).findSome? f := by
  have hl := (List.getElem?_eq_some_iff.1 h).1
  rw [List.drop_eq_getElem_cons hl, (List.getElem?_eq_some_iff.1 h).2, List.findSome?_cons, e]
theorem findL_hit {α β : Type} {f : α → Option β} {l : List α} {k : Nat} {x : α} {y : β} (h : l[k]? = some x) (e : f x = some y) : (l.drop k).findSome? f = some y := by
  have hl := (List.getElem?_eq_some_iff.1 h).1
  rw [List.drop_eq_getElem_cons hl, (List.getElem?_eq_some_iff.1 h).2, List.findSome?_cons, e]
theorem try_square {F : Grid → List Int → List Plc × Bool} {ps : List Piece} {w h : Int} {G : Grid} {used : List Int} {k i : Int} {a b : Int} (hp : nthP ps i = (a, b)) (e : a = b) : tryG F ps w h G used k i true = none := by
  unfold tryG; rw [if_pos ⟨rfl, by rw [hp]; exact e⟩]
theorem try_room {F : Grid → List Int → List Plc × Bool} {ps : List Piece} {w h : Int} {G : Grid} {used : List Int} {k i : Int} {t : Bool} (e : roomP ps w.toNat h.toNat G (i, k % w, k / w, t) = false) : tryG F ps w h G used k i t = none := by
  unfold tryG
  split
  · rfl
  · rw [e]; rfl
theorem try_fine {F : Grid → List Int → List Plc × Bool} {ps : List Piece} {w h : Int} {G : Grid} {used : List Int} {k i : Int} {t : Bool} {G2 : Grid} {u2 : List Int} (hG : G2 = putP ps G (i, k % w, k / w, t) i) (hu : u2 = used ++ [i]) {l : List Plc} (e : (l, false) = F G2 u2) : tryG F ps w h G used k i t = none := by
  subst hG hu
  unfold tryG
  split
  · rfl
  · split
    · rw [← e]; rfl
    · rfl
theorem try_hit {F : Grid → List Int → List Plc × Bool} {ps : List Piece} {w h : Int} {G : Grid} {used : List Int} {k i : Int} {t : Bool} {G2 : Grid} {u2 : List Int} (hG : G2 = putP ps G (i, k % w, k / w, t) i) (hu : u2 = used ++ [i]) {l : List Plc} (e : (l, true) = F G2 u2) (hn : ¬ (t = true ∧ (nthP ps i).1 = (nthP ps i).2)) (hr : roomP ps w.toNat h.toNat G (i, k % w, k / w, t) = true) :
    tryG F ps w h G used k i t = some ((i, k % w, k / w, t) :: l) := by
  subst hG hu
  unfold tryG
  rw [if_neg hn, if_pos hr, ← e]; rfl
theorem one_start {F : Grid → List Int → List Plc × Bool} {ps : List Piece} {w h : Int} {G : Grid} {used : List Int} {k i : Int} (hi : 0 ≤ i) (hn : i ∉ used) : oneG F ps w h G used k i.toNat = ([false, true].drop 0).findSome? (tryG F ps w h G used k i) := by
  have e : ((i.toNat : Nat) : Int) = i := by omega
  unfold oneG
  rw [e, if_neg hn]; rfl
theorem one_used {F : Grid → List Int → List Plc × Bool} {ps : List Piece} {w h : Int} {G : Grid} {used : List Int} {k i : Int} (hi : 0 ≤ i) (hn : i ∈ used) : oneG F ps w h G used k i.toNat = none := by
  have e : ((i.toNat : Nat) : Int) = i := by omega
  unfold oneG
  rw [e, if_pos hn]
theorem one_end {F : Grid → List Int → List Plc × Bool} {ps : List Piece} {w h : Int} {G : Grid} {used : List Int} {k i j : Int} (hj : 2 ≤ j) {o : Option (List Plc)} (e : o = ([false, true].drop j.toNat).findSome? (tryG F ps w h G used k i)) : o = none := by
  rw [e, List.drop_of_length_le (by simp; omega)]; rfl
theorem fill_mem {ps : List Piece} {w h : Int} (hw : 1 ≤ w ∧ w ≤ 8) (hh : 1 ≤ h ∧ h ≤ 8) : ∀ (n : Nat) (G : Grid) (used : List Int), ∀ p ∈ (fillG ps w h n G used).1, (0 ≤ p.2.1 ∧ p.2.1 ≤ 8) ∧ 0 ≤ p.2.2.1 ∧ p.2.2.1 ≤ 64
  | 0, _, _, p, hp => by simp [fillG] at hp
  | n + 1, G, used, p, hp => by
    have hk : 0 ≤ firstF (flaG w.toNat h.toNat G) ∧ firstF (flaG w.toNat h.toNat G) ≤ 64 := by
      have bl : ∀ l : List Int, 0 ≤ firstF l ∧ firstF l ≤ l.length := fun l => by
        induction l with
        | nil => simp [firstF]
        | cons x r ih =>
          rw [firstF]
          split
          · simp only [List.length_cons]; omega
          · simp only [List.length_cons]; omega
      have h1 := bl (flaG w.toNat h.toNat G)
      rw [flaG_length] at h1
      have := Nat.mul_le_mul (show w.toNat ≤ 8 by omega) (show h.toNat ≤ 8 by omega)
      omega
    unfold fillG fillB at hp
    generalize firstF (flaG w.toNat h.toNat G) = k at hp hk
    split at hp
    · simp at hp
    · split at hp
      · rename_i l e
        obtain ⟨i, -, e1⟩ := List.exists_of_findSome?_eq_some e
        unfold oneG at e1
        split at e1
        · cases e1
        · obtain ⟨t, -, e2⟩ := List.exists_of_findSome?_eq_some e1
          unfold tryG at e2
          split at e2
          · cases e2
          · split at e2
            · split at e2
              · rw [← Option.some.inj e2] at hp
                rcases List.mem_cons.1 hp with rfl | hp
                · have h1 := Int.emod_nonneg k (show w ≠ 0 by omega)
                  have h2 := Int.emod_lt_of_pos k (show 0 < w by omega)
                  have h3 : 0 ≤ k / w := Int.ediv_nonneg hk.1 (by omega)
                  have h4 : k / w ≤ k := Int.ediv_le_self _ hk.1
                  dsimp only; omega
                · exact fill_mem hw hh n _ _ p hp
              · cases e2
            · cases e2
      · simp at hp
/-- Placings by the numbers of their pieces. -/
def sortP (n : Nat) (l : List Plc) : List Plc := (List.range n).flatMap fun (j : Nat) => l.filter fun p => decide (p.1 = (j : Int))
theorem sortP_succ (n : Nat) (l : List Plc) : sortP (n + 1) l = sortP n l ++ l.filter fun p => decide (p.1 = (n : Int)) := by simp [sortP, List.range_succ]
theorem sortP_len (l : List Plc) : ∀ n, (sortP n l).length ≤ n * l.length
  | 0 => by simp [sortP]
  | n + 1 => by
    have h1 := sortP_len l n
    have h2 := List.length_filter_le (fun p : Plc => decide (p.1 = (n : Int))) l
    rw [sortP_succ, List.length_append, Nat.add_mul]; omega
theorem sortP_mem {n : Nat} {l : List Plc} {p : Plc} (h : p ∈ sortP n l) : p ∈ l := by
  unfold sortP at h
  rw [List.mem_flatMap] at h
  obtain ⟨j, -, h⟩ := h
  exact (List.mem_filter.1 h).1
theorem filter_yes {l : List Plc} {k : Nat} {p : Plc} {f : Plc → Bool} (h : l[k]? = some p) (e : f p = true) : (l.take (k + 1)).filter f = (l.take k).filter f ++ [p] := by
  rw [List.take_add_one, h, List.filter_append]; simp [e]
theorem filter_no {l : List Plc} {k : Nat} {p : Plc} {f : Plc → Bool} (h : l[k]? = some p) (e : f p = false) : (l.take (k + 1)).filter f = (l.take k).filter f := by
  rw [List.take_add_one, h, List.filter_append]; simp [e]
def firstA (w h : Int) (ps : List Piece) : List Plc × Bool :=
  if areaF ps = w * h then (if (fillG ps w h 9 noG []).2 = true then (sortP ps.length (fillG ps w h 9 noG []).1, true) else ([], false)) else ([], false)
theorem firstA_area {w h : Int} {ps : List Piece} (e : areaF ps ≠ w * h) : firstA w h ps = ([], false) := if_neg e
theorem firstA_no {w h : Int} {ps : List Piece} (e : areaF ps = w * h) {l : List Plc} (hf : (l, false) = fillG ps w h 9 noG []) : firstA w h ps = ([], false) := by
  unfold firstA; rw [if_pos e, ← hf]; rfl
theorem firstA_yes {w h : Int} {ps : List Piece} (e : areaF ps = w * h) {l : List Plc} (hf : (l, true) = fillG ps w h 9 noG []) : firstA w h ps = (sortP ps.length l, true) := by
  unfold firstA; rw [if_pos e, ← hf]; rfl
theorem firstA_mem {w h : Int} {ps : List Piece} (hc : okCh w h ps = true) : ∀ p ∈ (firstA w h ps).1, (0 ≤ p.2.1 ∧ p.2.1 ≤ 8) ∧ 0 ≤ p.2.2.1 ∧ p.2.2.1 ≤ 64 := fun p hp => by
  obtain ⟨bw, bh, -⟩ := okCh_spec hc
  unfold firstA at hp
  split at hp
  · split at hp
    · exact fill_mem bw bh 9 noG [] p (sortP_mem hp)
    · simp at hp
  · simp at hp
theorem firstA_len {w h : Int} {ps : List Piece} (hc : okCh w h ps = true) : (firstA w h ps).1.length ≤ 72 := by
  obtain ⟨-, -, ops⟩ := okCh_spec hc
  have ol := (okPs_spec ops).2
  unfold firstA
  split
  · split
    · have h1 := sortP_len (fillG ps w h 9 noG []).1 ps.length
      have h2 := fill_len (ps := ps) (w := w) (h := h) 9 noG []
      exact Nat.le_trans h1 (Nat.mul_le_mul ol h2)
    · simp
  · simp
theorem diff_nil (n : Nat) : Diff n [] := ⟨List.nodup_nil, fun x hx => by cases hx⟩
end Go.Proofs.Ytiaodmfipeoegaa.Ai
