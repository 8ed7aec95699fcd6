/- Plain laws on forms and sorts that are held, wanted and given. -/
import Derived.Test.YtbamclepgabciaaCommon
namespace Go.Proofs.Ytbamclepgabciaa.Ai
open Go Go.Proofs
set_option linter.unusedSimpArgs false
set_option linter.unusedVariables false
abbrev PForm := List Int × List Int
noncomputable def cForm (x : PForm) : List PV := [.isl 1 (rows cInt x.1), .isl 1 (rows cInt x.2)]
def heldB (l : List Int) (n : Nat) : Bool := allB l 0 1000 && decide (l.length = n)
def formB (n : Nat) (x : PForm) : Bool := heldB x.1 n && heldB x.2 n
def formsB (free : List Int) (l : List PForm) : Bool := l.all (formB free.length) && (inB free.length 1 6 && (allB free 0 1000 && decide (l.length ≤ 8)))
theorem heldB_spec {l : List Int} {n : Nat} (h : heldB l n = true) : allB l 0 1000 = true ∧ l.length = n := by
  simpa [heldB] using h
theorem formB_spec {n : Nat} {x : PForm} (h : formB n x = true) : x.1.length = n ∧ x.2.length = n ∧ allB x.1 0 1000 = true ∧ allB x.2 0 1000 = true := by
  simp only [formB, Bool.and_eq_true] at h
  have a := heldB_spec h.1
  have b := heldB_spec h.2
  exact ⟨a.2, b.2, a.1, b.1⟩
theorem formsB_spec {free : List Int} {l : List PForm} (h : formsB free l = true) : (∀ x ∈ l, formB free.length x = true) ∧ (1 ≤ free.length ∧ free.length ≤ 6) ∧ allB free 0 1000 = true ∧ l.length ≤ 8 := by
  simp only [formsB, Bool.and_eq_true, List.all_eq_true, decide_eq_true_eq] at h
  have := inB_spec h.2.1
  exact ⟨h.1, by omega, h.2.2.1, h.2.2.2⟩
theorem allB_nth {l : List Int} {a b : Int} (h : allB l a b = true) {k : Nat} (hk : k < l.length) : a ≤ nth l k ∧ nth l k ≤ b := by
  have := inB_spec (List.all_eq_true.1 h (nth l k) (by unfold nth; rw [List.getElem?_eq_getElem hk]; exact List.getElem_mem hk))
  exact this
theorem allB_drop {l : List Int} {a b : Int} {i : Nat} {x : Int} (h : l[i]? = some x) : allB (l.drop i) a b = (inB x a b && allB (l.drop (i + 1)) a b) := by
  have hi := (List.getElem?_eq_some_iff.1 h).1
  rw [List.drop_eq_getElem_cons hi, allB_cons, (List.getElem?_eq_some_iff.1 h).2]
theorem all_drop {p : PForm → Bool} {l : List PForm} {i : Nat} {x : PForm} (h : l[i]? = some x) : (l.drop i).all p = (p x && (l.drop (i + 1)).all p) := by
  have hi := (List.getElem?_eq_some_iff.1 h).1
  rw [List.drop_eq_getElem_cons hi, List.all_cons, (List.getElem?_eq_some_iff.1 h).2]
theorem allB_iff {l : List Int} {a b : Int} : allB l a b = true ↔ ∀ k, k < l.length → a ≤ nth l k ∧ nth l k ≤ b := by
  refine ⟨fun h k hk => allB_nth h hk, fun h => ?_⟩
  simp only [allB, List.all_eq_true]
  intro x hx
  obtain ⟨k, hk, rfl⟩ := List.mem_iff_getElem.1 hx
  have := h k hk
  unfold nth at this
  rw [List.getElem?_eq_getElem hk] at this
  simp only [Option.getD_some] at this
  simp [inB, this]
/-! ### Sums -/
def plusT (a b : List Int) (f : Int) (n : Nat) : List Int := (List.range n).map fun k => nth a k + f * nth b k
def plusL (a b : List Int) (f : Int) : List Int := plusT a b f a.length
theorem plusT_len (a b : List Int) (f : Int) (n : Nat) : (plusT a b f n).length = n := by simp [plusT]
theorem plusL_len (a b : List Int) (f : Int) : (plusL a b f).length = a.length := plusT_len _ _ _ _
theorem plusT_step (a b : List Int) (f : Int) (n : Nat) : plusT a b f (n + 1) = plusT a b f n ++ [nth a n + f * nth b n] := by
  rw [plusT, List.range_succ, List.map_append]; rfl
theorem nth_plus {a b : List Int} {f : Int} {k : Nat} (hk : k < a.length) : nth (plusL a b f) k = nth a k + f * nth b k := by
  unfold nth plusL plusT
  rw [List.getElem?_map, List.getElem?_range hk]; rfl
/-- The first n are summed, the others are as they were. -/
def mixT (a b : List Int) (f : Int) (n : Nat) : List Int := plusT a b f n ++ a.drop n
theorem mixT_zero (a b : List Int) (f : Int) : mixT a b f 0 = a := by simp [mixT, plusT]
theorem mixT_len {a b : List Int} {f : Int} {n : Nat} (h : n ≤ a.length) : (mixT a b f n).length = a.length := by
  rw [mixT, List.length_append, plusT_len, List.length_drop]; omega
theorem mixT_at {a b : List Int} {f : Int} {n : Nat} (h : n < a.length) : (mixT a b f n)[n]? = some (nth a n) := by
  unfold mixT nth
  rw [List.getElem?_append_right (by rw [plusT_len]; exact Nat.le_refl _), plusT_len, Nat.sub_self, List.getElem?_drop, Nat.add_zero, List.getElem?_eq_getElem h]; rfl
theorem mixT_step {a b : List Int} {f : Int} {n : Nat} (h : n < a.length) : (mixT a b f n).set n (nth a n + f * nth b n) = mixT a b f (n + 1) := by
  unfold mixT
  rw [List.set_append_right _ _ (by rw [plusT_len]; exact Nat.le_refl _), plusT_len, Nat.sub_self, plusT_step, List.drop_eq_getElem_cons h, List.set_cons_zero, List.append_assoc]; rfl
theorem mixT_end {a b : List Int} {f : Int} {n : Nat} (h : n = a.length) : mixT a b f n = plusL a b f := by
  subst h
  rw [mixT, List.drop_of_length_le (Nat.le_refl _), List.append_nil]; rfl
/-! ### Gifts -/
def setF (l : List PForm) (i : Nat) (c : List Int) : List PForm := match l[i]? with
  | some x => l.set i (plusL x.1 c 1, plusL x.2 c (-1))
  | none => l
def askB (free : List Int) (l : List PForm) (i : Int) : Bool := formsB free l && inB i 0 ((l.length : Int) - 1)
def giveOk (free : List Int) (l : List PForm) (i : Int) (c : List Int) : Bool := (askB free l i && decide (c.length = free.length)) && (allB c 0 1000 && formsB (plusL free c (-1)) (setF l i.toNat c))
def giveA (free : List Int) (l : List PForm) (i : Int) (c : List Int) : List Int × List PForm × Bool := if giveOk free l i c then (plusL free c (-1), setF l i.toNat c, true) else ([], [], false)
/-! ### Orders -/
def hasB (l : List Int) (n : Int) : Bool := decide (n ∈ l)
def canF (free : List Int) (x : PForm) : Bool := (List.range x.2.length).all fun k => decide (nth x.2 k ≤ nth free k)
def firstG (free o : List Int) : List PForm → Int → Int
  | [], _ => -1
  | x :: r, i => if !hasB o i && canF free x then i else firstG free o r (i + 1)
def heldAt (l : List PForm) (i : Int) : List Int := ((l[i.toNat]?).map fun x => x.1).getD []
def wantAt (l : List PForm) (i : Int) : List Int := ((l[i.toNat]?).map fun x => x.2).getD []
def ordG (l : List PForm) : Nat → List Int → List Int → List Int
  | 0, _, o => o
  | n + 1, free, o => if firstG free o l 0 < 0 then o else ordG l n (plusL free (heldAt l (firstG free o l 0)) 1) (o ++ [firstG free o l 0])
def orderA (free : List Int) (l : List PForm) : List Int := ordG l l.length free []
theorem nodup_sub : ∀ {a b : List Int}, a.Nodup → (∀ x ∈ a, x ∈ b) → a.length ≤ b.length
  | [], _, _, _ => Nat.zero_le _
  | x :: r, b, hd, h => by
    have hx := h x (by simp)
    have hn := List.nodup_cons.1 hd
    have := nodup_sub (a := r) (b := b.erase x) hn.2 fun y hy => (List.mem_erase_of_ne (fun e : y = x => hn.1 (e ▸ hy))).2 (h y (by simp [hy]))
    rw [List.length_erase_of_mem hx] at this
    have : 0 < b.length := List.length_pos_of_mem hx
    simp only [List.length_cons]
    omega
def idxL (n : Nat) : List Int := (List.range n).map fun k : Nat => (k : Int)
theorem idxL_len (n : Nat) : (idxL n).length = n := by simp [idxL]
theorem mem_idxL {n : Nat} {x : Int} : x ∈ idxL n ↔ 0 ≤ x ∧ x < n := by
  simp only [idxL, List.mem_map, List.mem_range]
  exact ⟨fun ⟨k, hk, e⟩ => by omega, fun ⟨h1, h2⟩ => ⟨x.toNat, by omega, by omega⟩⟩
theorem idxL_nodup (n : Nat) : (idxL n).Nodup := by
  unfold idxL
  induction n with
  | zero => simp
  | succ n ih =>
    rw [List.range_succ, List.map_append, List.nodup_append]
    refine ⟨ih, by simp, fun a ha b hb => ?_⟩
    have := mem_idxL.1 ha
    simp only [List.map_cons, List.map_nil, List.mem_singleton] at hb
    omega
/-- An order's numbers are in range and distinct. -/
structure OrdI (n : Nat) (o : List Int) : Prop where
  nd : o.Nodup
  lt : ∀ x ∈ o, 0 ≤ x ∧ x < n
theorem OrdI.len {n : Nat} {o : List Int} (h : OrdI n o) : o.length ≤ n := by
  have := nodup_sub h.nd (b := idxL n) fun x hx => mem_idxL.2 (h.lt x hx)
  rwa [idxL_len] at this
theorem OrdI.nil (n : Nat) : OrdI n [] := ⟨List.nodup_nil, fun x hx => by cases hx⟩
theorem hasB_iff {l : List Int} {n : Int} : hasB l n = true ↔ n ∈ l := by
  simp [hasB]
theorem hasB_false {l : List Int} {n : Int} : hasB l n = false ↔ n ∉ l := by
  rw [← hasB_iff]; cases hasB l n <;> simp
theorem OrdI.snoc {n : Nat} {o : List Int} (h : OrdI n o) {i : Int} (hi : 0 ≤ i ∧ i < n) (hn : hasB o i = false) : OrdI n (o ++ [i]) := by
  have := hasB_false.1 hn
  refine ⟨List.nodup_append.2 ⟨h.nd, by simp, fun a ha b hb => ?_⟩, fun x hx => ?_⟩
  · obtain rfl := List.mem_singleton.1 hb
    exact fun e => this (e ▸ ha)
  · rcases List.mem_append.1 hx with hx | hx
    · exact h.lt x hx
    · rw [List.mem_singleton.1 hx]; exact hi
theorem OrdI.room {n : Nat} {o : List Int} (h : OrdI n o) {i : Int} (hi : 0 ≤ i ∧ i < n) (hn : hasB o i = false) : o.length < n := by
  have := (h.snoc hi hn).len
  rw [List.length_append] at this
  simp only [List.length_cons, List.length_nil] at this
  omega
/-- An order has all numbers just if none is missing. -/
theorem OrdI.full {n : Nat} {o : List Int} (h : OrdI n o) : o.length = n ↔ ∀ i : Int, 0 ≤ i → i < n → hasB o i = true := by
  refine ⟨fun e i h0 h1 => ?_, fun ha => ?_⟩
  · cases hb : hasB o i with
    | true => rfl
    | false => have := h.room ⟨h0, h1⟩ hb; omega
  · have := nodup_sub (idxL_nodup n) (b := o) fun x hx => hasB_iff.1 (ha x (mem_idxL.1 hx).1 (mem_idxL.1 hx).2)
    rw [idxL_len] at this
    have := h.len
    omega
theorem firstG_spec (free o : List Int) : ∀ (l : List PForm) (i : Int), 0 ≤ i → (firstG free o l i = -1 ∧ ∀ (j : Nat) x, l[j]? = some x → (!hasB o (i + j) && canF free x) = false) ∨
    (i ≤ firstG free o l i ∧ firstG free o l i < i + l.length ∧ hasB o (firstG free o l i) = false ∧ ∃ x, l[(firstG free o l i - i).toNat]? = some x ∧ canF free x = true ∧ ∀ (j : Nat) y, (i + j) < firstG free o l i → l[j]? = some y → (!hasB o (i + j) && canF free y) = false)
  | [], i, _ => .inl ⟨rfl, fun j x h => by simp at h⟩
  | x :: r, i, hi => by
    rw [firstG]
    split
    · rename_i hc
      simp only [Bool.and_eq_true, Bool.not_eq_true'] at hc
      refine .inr ⟨Int.le_refl _, by simp; omega, hc.1, x, by simp, hc.2, fun j y hj => by omega⟩
    · rename_i hc
      have hc : (!hasB o i && canF free x) = false := by simpa using hc
      rcases firstG_spec free o r (i + 1) (by omega) with ⟨h1, h2⟩ | ⟨h1, h2, h3, y, h4, h5, h6⟩
      · refine .inl ⟨h1, fun j z hz => ?_⟩
        cases j with
        | zero => obtain rfl : x = z := by simpa using hz
                  simpa using hc
        | succ j => have := h2 j z (by simpa using hz)
                    rwa [show i + 1 + (j : Int) = i + ((j + 1 : Nat) : Int) by omega] at this
      · refine .inr ⟨by omega, by simp only [List.length_cons]; omega, h3, y, ?_, h5, fun j z hj hz => ?_⟩
        · rw [show (firstG free o r (i + 1) - i).toNat = (firstG free o r (i + 1) - (i + 1)).toNat + 1 by omega, List.getElem?_cons_succ]
          exact h4
        · cases j with
          | zero => obtain rfl : x = z := by simpa using hz
                    simpa using hc
          | succ j => have := h6 j z (by omega) (by simpa using hz)
                      rwa [show i + 1 + (j : Int) = i + ((j + 1 : Nat) : Int) by omega] at this
theorem firstG_drop {free o : List Int} {l : List PForm} {i : Nat} {x : PForm} (k : Int) (h : l[i]? = some x) : firstG free o (l.drop i) k = if !hasB o k && canF free x then k else firstG free o (l.drop (i + 1)) (k + 1) := by
  have hi := (List.getElem?_eq_some_iff.1 h).1
  rw [List.drop_eq_getElem_cons hi, firstG, (List.getElem?_eq_some_iff.1 h).2]
theorem ordG_ordI {l : List PForm} : ∀ (n : Nat) (free o : List Int), OrdI l.length o → OrdI l.length (ordG l n free o)
  | 0, _, _, h => h
  | n + 1, free, o, h => by
    rw [ordG]
    split
    · exact h
    · rename_i hf
      rcases firstG_spec free o l 0 (by omega) with ⟨h1, _⟩ | ⟨h1, h2, h3, _⟩
      · omega
      · exact ordG_ordI n _ _ (h.snoc ⟨by omega, by omega⟩ h3)
theorem order_ordI (free : List Int) (l : List PForm) : OrdI l.length (orderA free l) := ordG_ordI _ _ _ (.nil _)
/-- More steps than there are forms change nothing. -/
theorem ordG_more {l : List PForm} : ∀ (n m : Nat) (free o : List Int), OrdI l.length o → l.length ≤ o.length + n → l.length ≤ o.length + m → ordG l n free o = ordG l m free o
  | 0, 0, _, _, _, _, _ => rfl
  | 0, m + 1, free, o, h, hn, hm => by
    rw [ordG, ordG]
    rcases firstG_spec free o l 0 (by omega) with ⟨h1, _⟩ | ⟨h1, h2, h3, _⟩
    · rw [if_pos (by omega)]
    · have := h.room (i := firstG free o l 0) ⟨by omega, by omega⟩ h3
      omega
  | n + 1, 0, free, o, h, hn, hm => by
    rw [ordG, ordG]
    rcases firstG_spec free o l 0 (by omega) with ⟨h1, _⟩ | ⟨h1, h2, h3, _⟩
    · rw [if_pos (by omega)]
    · have := h.room (i := firstG free o l 0) ⟨by omega, by omega⟩ h3
      omega
  | n + 1, m + 1, free, o, h, hn, hm => by
    rw [ordG, ordG]
    split
    · rfl
    · rcases firstG_spec free o l 0 (by omega) with ⟨h1, _⟩ | ⟨h1, h2, h3, _⟩
      · omega
      · exact ordG_more n m _ _ (h.snoc ⟨by omega, by omega⟩ h3) (by rw [List.length_append]; simp only [List.length_cons, List.length_nil]; omega) (by rw [List.length_append]; simp only [List.length_cons, List.length_nil]; omega)
def ordR (l : List PForm) (free o : List Int) : List Int := ordG l l.length free o
theorem ordR_end {l : List PForm} {free o : List Int} (h : firstG free o l 0 < 0) : ordR l free o = o := by
  unfold ordR
  cases l.length with
  | zero => rfl
  | succ n => rw [ordG, if_pos h]
theorem ordR_step {l : List PForm} {free o : List Int} (hI : OrdI l.length o) (h : 0 ≤ firstG free o l 0) : ordR l free o = ordR l (plusL free (heldAt l (firstG free o l 0)) 1) (o ++ [firstG free o l 0]) := by
  rcases firstG_spec free o l 0 (by omega) with ⟨h1, _⟩ | ⟨h1, h2, h3, _⟩
  · omega
  · obtain ⟨n, hn⟩ : ∃ n, l.length = n + 1 := ⟨l.length - 1, by omega⟩
    have e : ordR l free o = ordG l n (plusL free (heldAt l (firstG free o l 0)) 1) (o ++ [firstG free o l 0]) := by
      unfold ordR
      rw [hn, ordG, if_neg (by omega)]
    rw [e]
    exact ordG_more _ _ _ _ (hI.snoc ⟨by omega, by omega⟩ h3) (by rw [List.length_append]; simp only [List.length_cons, List.length_nil]; omega) (by omega)
def isSafeB (free : List Int) (l : List PForm) : Bool := decide ((orderA free l).length = l.length)
def safeGA (free : List Int) (l : List PForm) (i : Int) (c : List Int) : Bool × Bool := if giveOk free l i c then (isSafeB (plusL free c (-1)) (setF l i.toNat c), true) else (false, false)
def stuckG (o : List Int) (n : Nat) : List Int := (idxL n).filter fun i => !hasB o i
def stuckA (free : List Int) (l : List PForm) : List Int × Bool := if formsB free l then (stuckG (orderA free l) l.length, true) else ([], false)
theorem stuckG_step (o : List Int) (n : Nat) : stuckG o (n + 1) = if hasB o n = true then stuckG o n else stuckG o n ++ [(n : Int)] := by
  unfold stuckG idxL
  rw [List.range_succ, List.map_append, List.filter_append]
  cases h : hasB o n <;> simp [h]
theorem stuck_safe (free : List Int) (l : List PForm) : isSafeB free l = decide ((stuckG (orderA free l) l.length).length = 0) := by
  unfold isSafeB
  rw [Bool.eq_iff_iff, decide_eq_true_eq, decide_eq_true_eq, (order_ordI free l).full]
  unfold stuckG
  rw [List.length_eq_zero_iff, List.filter_eq_nil_iff]
  exact ⟨fun h a ha => by rw [h a (mem_idxL.1 ha).1 (mem_idxL.1 ha).2]; simp, fun h i h0 h1 => by simpa using h i (mem_idxL.2 ⟨h0, h1⟩)⟩
/-! ### All of a sort -/
def sumH (l : List PForm) (k : Nat) : Int := (l.map fun x => nth x.1 k).sum
def allA (free : List Int) (l : List PForm) (k : Int) : Int × Bool := if formsB free l && inB k 0 ((free.length : Int) - 1) then (nth free k.toNat + sumH l k.toNat, true) else (0, false)
theorem sumH_set {l : List PForm} {i : Nat} {x : PForm} (k : Nat) (h : l[i]? = some x) (y : PForm) : sumH (l.set i y) k = sumH l k - nth x.1 k + nth y.1 k := by
  induction l generalizing i with
  | nil => simp at h
  | cons z r ih =>
    cases i with
    | zero => obtain rfl : z = x := by simpa using h
              simp [sumH]; omega
    | succ i =>
      have := ih (i := i) (by simpa using h)
      unfold sumH at this ⊢
      simp only [List.set_cons_succ, List.map_cons, List.sum_cons, this]
      omega
theorem askB_spec {free : List Int} {l : List PForm} {i : Int} (h : askB free l i = true) : formsB free l = true ∧ 0 ≤ i ∧ i ≤ (l.length : Int) - 1 ∧ ∃ x, l[i.toNat]? = some x ∧ formB free.length x = true := by
  simp only [askB, Bool.and_eq_true] at h
  have hi := inB_spec h.2
  have hlt : i.toNat < l.length := by omega
  exact ⟨h.1, hi.1, hi.2, _, List.getElem?_eq_getElem hlt, (formsB_spec h.1).1 _ (List.getElem_mem hlt)⟩
theorem setF_len (l : List PForm) (i : Nat) (c : List Int) : (setF l i c).length = l.length := by
  unfold setF; split <;> simp
theorem setF_some {l : List PForm} {i : Nat} {x : PForm} (c : List Int) (h : l[i]? = some x) : setF l i c = l.set i (plusL x.1 c 1, plusL x.2 c (-1)) := by rw [setF, h]
structure GiveF (free : List Int) (l : List PForm) (i : Int) (c : List Int) (f : List Int) (g : List PForm) : Prop where
  ask : askB free l i = true
  forms : formsB free l = true
  forms' : formsB f g = true
  flen : f.length = free.length
  glen : g.length = l.length
  all : ∀ k : Int, 0 ≤ k → k < free.length → nth f k.toNat + sumH g k.toNat = nth free k.toNat + sumH l k.toNat
theorem give_facts {free : List Int} {l : List PForm} {i : Int} {c : List Int} {f : List Int} {g : List PForm} (h : (f, g, true) = giveA free l i c) : GiveF free l i c f g ∧ safeGA free l i c = (isSafeB f g, true) := by
  unfold giveA at h
  split at h
  case isFalse => cases (Prod.mk.inj (Prod.mk.inj h).2).2
  rename_i hg
  have hg0 := hg
  simp only [giveOk, Bool.and_eq_true, decide_eq_true_eq] at hg
  obtain ⟨⟨h1, h2⟩, h3, h4⟩ := hg
  obtain ⟨rfl, h5⟩ := Prod.mk.inj h
  obtain ⟨rfl, -⟩ := Prod.mk.inj h5
  obtain ⟨a1, a2, a3, x, a4, a5⟩ := askB_spec h1
  obtain ⟨b1, b2, -, -⟩ := formB_spec a5
  refine ⟨⟨h1, a1, h4, plusL_len _ _ _, setF_len _ _ _, fun k h0 h1 => ?_⟩, by rw [safeGA, if_pos hg0]⟩
  rw [nth_plus (by omega), setF_some c a4, sumH_set k.toNat a4, nth_plus (by rw [b1]; omega)]
  omega
/-! ### What is lacking -/
def lackT (free w : List Int) (n : Nat) : List Int := (List.range n).map fun k => max 0 (nth w k - nth free k)
def lackL (free w : List Int) : List Int := lackT free w w.length
theorem lackT_step (free w : List Int) (n : Nat) : lackT free w (n + 1) = lackT free w n ++ [max 0 (nth w n - nth free n)] := by
  rw [lackT, List.range_succ, List.map_append]; rfl
theorem lackT_len (free w : List Int) (n : Nat) : (lackT free w n).length = n := by simp [lackT]
theorem nth_lack {free w : List Int} {k : Nat} (hk : k < w.length) : nth (lackL free w) k = max 0 (nth w k - nth free k) := by
  unfold nth lackL lackT
  rw [List.getElem?_map, List.getElem?_range hk]; rfl
theorem lack_nn (free w : List Int) : ∀ z ∈ lackL free w, 0 ≤ z := fun z hz => by
  obtain ⟨k, _, rfl⟩ := List.mem_map.1 hz
  omega
theorem sum_zero : ∀ {l : List Int}, (∀ z ∈ l, 0 ≤ z) → (l.sum = 0 ↔ ∀ z ∈ l, z = 0)
  | [], _ => by simp
  | x :: r, h => by
    have h1 := h x (by simp)
    have h2 := sum_zero (l := r) fun z hz => h z (by simp [hz])
    have h3 : 0 ≤ r.sum := List.sum_nonneg' r fun z hz => h z (by simp [hz])
    rw [List.sum_cons]
    constructor
    · intro e z hz
      rcases List.mem_cons.1 hz with rfl | hz
      · omega
      · exact h2.1 (by omega) z hz
    · intro e
      have := e x (by simp)
      have := h2.2 fun z hz => e z (by simp [hz])
      omega
where List.sum_nonneg' : ∀ (l : List Int), (∀ z ∈ l, 0 ≤ z) → 0 ≤ l.sum
  | [], _ => by simp
  | x :: r, h => by
    have := List.sum_nonneg' r fun z hz => h z (by simp [hz])
    have := h x (by simp)
    rw [List.sum_cons]; omega
theorem can_lack (free : List Int) (x : PForm) : canF free x = decide ((lackL free x.2).sum = 0) := by
  rw [Bool.eq_iff_iff, decide_eq_true_eq, sum_zero (lack_nn free x.2)]
  unfold canF lackL lackT
  simp only [List.all_eq_true, List.mem_range, decide_eq_true_eq, List.mem_map]
  constructor
  · rintro h z ⟨k, hk, rfl⟩
    have := h k hk; omega
  · intro h k hk
    have := h _ ⟨k, hk, rfl⟩; omega
def lackA (free : List Int) (l : List PForm) (i : Int) : List Int × Bool := if askB free l i then (lackL free (wantAt l i), true) else ([], false)
def canA (free : List Int) (l : List PForm) (i : Int) : Bool × Bool := if askB free l i then (canF free ([], wantAt l i), true) else (false, false)
def waitG (free w held : List Int) (n : Nat) : Bool := (List.range n).any fun k => decide (nth w k > nth free k) && decide (nth held k > 0)
def waitsFA (free : List Int) (l : List PForm) (i k : Int) : Bool × Bool :=
  if (askB free l i && askB free l k) && decide (i ≠ k) then (waitG free (wantAt l i) (heldAt l k) (wantAt l i).length, true) else (false, false)
theorem waitG_step (free w held : List Int) (n : Nat) : waitG free w held (n + 1) = (waitG free w held n || (decide (nth w n > nth free n) && decide (nth held n > 0))) := by
  rw [waitG, List.range_succ, List.any_append]; simp [waitG]
theorem wait_can {free w held : List Int} (h : waitG free w held w.length = true) : canF free ([], w) = false := by
  cases hc : canF free ([], w) with
  | false => rfl
  | true =>
    simp only [waitG, List.any_eq_true, List.mem_range, Bool.and_eq_true, decide_eq_true_eq] at h
    obtain ⟨k, hk, h1, _⟩ := h
    simp only [canF, List.all_eq_true, List.mem_range, decide_eq_true_eq] at hc
    have := hc k hk
    omega
/-! ### For the walks -/
theorem formB_pair (n : Nat) (a b : List Int) : formB n (a, b) = ((allB a 0 1000 && decide ((a.length : Int) = n)) && (allB b 0 1000 && decide ((b.length : Int) = n))) := by
  have e : ∀ l : List Int, decide ((l.length : Int) = (n : Int)) = decide (l.length = n) := fun l => by
    rw [Bool.eq_iff_iff, decide_eq_true_eq, decide_eq_true_eq]; omega
  rw [e, e]; rfl
theorem mul_small {f x : Int} (hf : -1 ≤ f ∧ f ≤ 1) (hx : 0 ≤ x ∧ x ≤ 1000000) : -1000000 ≤ f * x ∧ f * x ≤ 1000000 := by
  obtain rfl | rfl | rfl : f = -1 ∨ f = 0 ∨ f = 1 := by omega
  all_goals omega
theorem canF_no {free : List Int} (x : PForm) {k : Nat} (hk : k < x.2.length) (h : nth free k < nth x.2 k) : canF free x = false := by
  cases hc : canF free x with
  | false => rfl
  | true =>
    simp only [canF, List.all_eq_true, List.mem_range, decide_eq_true_eq] at hc
    have := hc k hk; omega
theorem canF_yes {free : List Int} (x : PForm) (h : ∀ k, k < x.2.length → nth x.2 k ≤ nth free k) : canF free x = true := by
  simp only [canF, List.all_eq_true, List.mem_range, decide_eq_true_eq]
  exact h
theorem allB_up {l : List Int} {a b c : Int} (h : allB l a b = true) (hc : b ≤ c) : allB l a c = true := by
  rw [allB_iff] at h ⊢
  intro k hk
  have := h k hk; omega
theorem inB_lt {n a b : Int} (h : n < a) : inB n a b = false := by simp [inB]; omega
theorem inB_gt {n a b : Int} (h : b < n) : inB n a b = false := by simp [inB]; omega
theorem inB_yes {n a b : Int} (h : a ≤ n) (h' : n ≤ b) : inB n a b = true := by simp [inB, h, h']
theorem allB_plus {a b : List Int} {B : Int} (ha : allB a 0 B = true) (hb : allB b 0 1000 = true) (hl : a.length ≤ b.length) : allB (plusL a b 1) 0 (B + 1000) = true := by
  rw [allB_iff]
  intro k hk
  rw [plusL_len] at hk
  rw [nth_plus hk]
  have := allB_nth ha hk
  have := allB_nth hb (k := k) (by omega)
  omega
theorem heldAt_some {l : List PForm} {i : Int} {x : PForm} (h : l[i.toNat]? = some x) : heldAt l i = x.1 := by rw [heldAt, h]; rfl
theorem wantAt_some {l : List PForm} {i : Int} {x : PForm} (h : l[i.toNat]? = some x) : wantAt l i = x.2 := by rw [wantAt, h]; rfl
theorem giveA_no {free : List Int} {l : List PForm} {i : Int} {c : List Int} (h : giveOk free l i c = false) : ([], [], false) = giveA free l i c := by
  rw [giveA, if_neg (by rw [h]; simp)]
theorem giveA_yes {free : List Int} {l : List PForm} {i : Int} {c f : List Int} {g : List PForm} (h1 : askB free l i = true) (h2 : c.length = free.length) (h3 : allB c 0 1000 = true) (hf : f = plusL free c (-1)) (hg : g = setF l i.toNat c) (h4 : formsB f g = true) :
    (f, g, true) = giveA free l i c := by
  subst hf hg
  rw [giveA, if_pos (by rw [giveOk, h1, h3, h4, decide_eq_true h2]; rfl)]
theorem safeGA_no {free : List Int} {l : List PForm} {i : Int} {c f : List Int} {g : List PForm} (h : (f, g, false) = giveA free l i c) : (false, false) = safeGA free l i c := by
  unfold giveA at h
  split at h
  · cases (Prod.mk.inj (Prod.mk.inj h).2).2
  · rename_i hc
    rw [safeGA, if_neg hc]
theorem sumH_take {l : List PForm} {i : Nat} {x : PForm} (k : Nat) (h : l[i]? = some x) : sumH (l.take (i + 1)) k = sumH (l.take i) k + nth x.1 k := by
  unfold sumH
  rw [List.take_add_one, h, List.map_append, List.sum_append]; simp
theorem waitG_mono {free w held : List Int} {n m : Nat} (h : waitG free w held n = true) (hn : n ≤ m) : waitG free w held m = true := by
  simp only [waitG, List.any_eq_true, List.mem_range] at h ⊢
  obtain ⟨k, hk, h⟩ := h
  exact ⟨k, by omega, h⟩
end Go.Proofs.Ytbamclepgabciaa.Ai
