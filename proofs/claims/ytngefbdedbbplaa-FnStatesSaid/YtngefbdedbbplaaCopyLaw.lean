/- Plain laws on states of a proof and copies of it. -/
import Derived.Test.YtngefbdedbbplaaInkLaw
namespace Go.Proofs.Ytngefbdedbbplaa.Ai
open Go Go.Proofs
set_option linter.unusedSimpArgs false
set_option linter.unusedVariables false

abbrev Tx := List UInt8
def lineB (s : Tx) : Bool := plainB s && inB s.length 0 40
def proofB (p : List Tx) : Bool := p.all lineB && inB p.length 1 12
def wideB (n : Int) (l : List (List Tx)) : Bool := l.all fun p => proofB p && decide ((p.length : Int) = n)
def headLen (l : List (List Tx)) : Int := (l.headD []).length
def statesB (l : List (List Tx)) : Bool := wideB (headLen l) l && inB l.length 1 6
def copyB (l : List (List Tx)) (p : List Tx) : Bool := statesB l && proofB p
/-- The first index from k on whose element satisfies f; -1 if there is none. -/
def firstAt {α : Type} (f : α → Bool) : List α → Int → Int
  | [], _ => -1
  | x :: r, k => if f x = true then k else firstAt f r (k + 1)
theorem firstAt_spec {α : Type} {f : α → Bool} : ∀ (l : List α) (k : Int), 0 ≤ k → (firstAt f l k = -1 ∧ ∀ x ∈ l, f x = false) ∨ (k ≤ firstAt f l k ∧ firstAt f l k < k + l.length ∧ (∃ x, l[(firstAt f l k - k).toNat]? = some x ∧ f x = true) ∧ ∀ x ∈ l.take (firstAt f l k - k).toNat, f x = false)
  | [], k, _ => .inl ⟨rfl, fun x hx => by cases hx⟩
  | y :: r, k, h => by
    rw [firstAt]
    split
    · rename_i hy
      refine .inr ⟨Int.le_refl _, by simp; omega, ⟨y, by simp, hy⟩, fun x hx => by simp at hx⟩
    · rename_i hy
      rcases firstAt_spec r (k + 1) (by omega) with ⟨e, h2⟩ | ⟨h1, h2, ⟨x, h3, h4⟩, h5⟩
      · refine .inl ⟨e, fun x hx => ?_⟩
        rcases List.mem_cons.1 hx with rfl | hx
        · simpa using hy
        · exact h2 x hx
      · have e : (firstAt f r (k + 1) - k).toNat = (firstAt f r (k + 1) - (k + 1)).toNat + 1 := by omega
        refine .inr ⟨by omega, by simp only [List.length_cons]; omega, ⟨x, by rw [e, List.getElem?_cons_succ]; exact h3, h4⟩, fun z hz => ?_⟩
        rw [e, List.take_succ_cons] at hz
        rcases List.mem_cons.1 hz with rfl | hz
        · simpa using hy
        · exact h5 z hz
theorem firstAt_drop {α : Type} {f : α → Bool} {l : List α} {i : Nat} {x : α} (k : Int) (h : l[i]? = some x) : firstAt f (l.drop i) k = if f x = true then k else firstAt f (l.drop (i + 1)) (k + 1) := by
  have hi := (List.getElem?_eq_some_iff.1 h).1
  rw [List.drop_eq_getElem_cons hi, firstAt, (List.getElem?_eq_some_iff.1 h).2]
theorem firstAt_end {α : Type} {f : α → Bool} {l : List α} {i : Nat} (k : Int) (h : l.length ≤ i) : firstAt f (l.drop i) k = -1 := by
  rw [List.drop_of_length_le h]; rfl
theorem firstAt_in {α : Type} {f : α → Bool} (l : List α) : -1 ≤ firstAt f l 0 ∧ firstAt f l 0 < l.length ∨ firstAt f l 0 = -1 := by
  rcases firstAt_spec (f := f) l 0 (by omega) with ⟨e, _⟩ | ⟨h1, h2, _⟩
  · exact .inr e
  · exact .inl ⟨by omega, by omega⟩
def stateF (l : List (List Tx)) (p : List Tx) : Int := firstAt (fun q => decide (q = p)) l 0
theorem stateF_in (l : List (List Tx)) (p : List Tx) : -1 ≤ stateF l p ∧ (stateF l p < l.length ∨ stateF l p = -1) := by
  have := firstAt_in (f := fun q => decide (q = p)) l
  unfold stateF
  omega
def stateAns (l : List (List Tx)) (p : List Tx) : Int × Bool := if copyB l p then (max 0 (stateF l p), decide (0 ≤ stateF l p)) else (0, false)
def lineAt (l : List (List Tx)) (k : Nat) (s : Tx) : Int := firstAt (fun q => decide (q[k]? = some s)) l 0
theorem lineAt_in (l : List (List Tx)) (k : Nat) (s : Tx) : -1 ≤ lineAt l k s ∧ (lineAt l k s < l.length ∨ lineAt l k s = -1) := by
  have := firstAt_in (f := fun q => decide (q[k]? = some s)) l
  unfold lineAt
  omega
def linesT (l : List (List Tx)) (p : List Tx) (n : Nat) : List Int := (List.range n).map fun k => lineAt l k (p.getD k [])
def linesF (l : List (List Tx)) (p : List Tx) : List Int := linesT l p p.length
theorem linesT_step {l : List (List Tx)} {p : List Tx} {n : Nat} {s : Tx} (h : p[n]? = some s) : linesT l p (n + 1) = linesT l p n ++ [lineAt l n s] := by
  unfold linesT
  rw [List.range_succ, List.map_append]
  simp [h]
theorem linesF_len (l : List (List Tx)) (p : List Tx) : (linesF l p).length = p.length := by simp [linesF, linesT]
theorem linesF_in (l : List (List Tx)) (p : List Tx) : ∀ z ∈ linesF l p, -1 ≤ z ∧ (z < l.length ∨ z = -1) := fun z hz => by
  obtain ⟨k, _, rfl⟩ := List.mem_map.1 hz
  exact lineAt_in _ _ _
def bothB (l : List (List Tx)) (p : List Tx) : Bool := copyB l p && decide ((p.length : Int) = headLen l)
def linesAns (l : List (List Tx)) (p : List Tx) : List Int × Bool := if bothB l p then (linesF l p, true) else ([], false)
def maxL (zs : List Int) : Int := zs.foldl max 0
theorem maxL_snoc (zs : List Int) (z : Int) : maxL (zs ++ [z]) = max (maxL zs) z := by simp [maxL, List.foldl_append]
theorem maxL_take {zs : List Int} {k : Nat} {z : Int} (h : zs[k]? = some z) : maxL (zs.take (k + 1)) = max (maxL (zs.take k)) z := by
  rw [List.take_add_one, h, Option.toList_some, maxL_snoc]
theorem foldl_max_ge : ∀ (zs : List Int) (a : Int), a ≤ zs.foldl max a ∧ ∀ z ∈ zs, z ≤ zs.foldl max a
  | [], a => ⟨Int.le_refl _, fun z hz => by cases hz⟩
  | y :: r, a => by
    rw [List.foldl_cons]
    have := foldl_max_ge r (max a y)
    refine ⟨by omega, fun z hz => ?_⟩
    rcases List.mem_cons.1 hz with rfl | hz
    · omega
    · exact this.2 z hz
theorem foldl_max_le : ∀ (zs : List Int) (a B : Int), a ≤ B → (∀ z ∈ zs, z ≤ B) → zs.foldl max a ≤ B
  | [], a, B, h, _ => h
  | y :: r, a, B, h, hz => by
    rw [List.foldl_cons]
    have := hz y (by simp)
    exact foldl_max_le r _ B (by omega) fun z hm => hz z (by simp [hm])
def earlAns (l : List (List Tx)) (p : List Tx) : Int × Bool := if bothB l p && !decide (-1 ∈ linesF l p) then (maxL (linesF l p), true) else (0, false)
def mixAns (l : List (List Tx)) (p : List Tx) : Bool × Bool := if copyB l p then ((bothB l p && !decide (-1 ∈ linesF l p)) && decide (stateF l p < 0), true) else (false, false)
def copiesB (cs : List (List Tx)) : Bool := cs.all proofB && decide ((cs.length : Int) ≤ 10)
def countS (l : List (List Tx)) (zs : List Int) (c : List Tx) : List Int := if 0 ≤ stateF l c then zs.set (stateF l c).toNat (zs.getD (stateF l c).toNat 0 + 1) else zs
def countF (l cs : List (List Tx)) : List Int := cs.foldl (countS l) (List.replicate l.length 0)
def countAns (l cs : List (List Tx)) : List Int × Bool := if statesB l && copiesB cs then (countF l cs, true) else ([], false)
theorem countS_len (l : List (List Tx)) (zs : List Int) (c : List Tx) : (countS l zs c).length = zs.length := by unfold countS; split <;> simp
theorem sum_set : ∀ (zs : List Int) (k : Nat) (v : Int), k < zs.length → (zs.set k v).sum = zs.sum - zs.getD k 0 + v
  | [], k, v, h => by simp at h
  | z :: r, 0, v, _ => by simp; omega
  | z :: r, k + 1, v, h => by
    have := sum_set r k v (by simpa using h)
    simp only [List.set_cons_succ, List.sum_cons, this, List.getD_cons_succ]
    omega
theorem countF_sum (l : List (List Tx)) : ∀ (cs : List (List Tx)) (zs : List Int), zs.length = l.length → (cs.foldl (countS l) zs).sum ≤ zs.sum + cs.length
  | [], zs, _ => by simp
  | c :: r, zs, h => by
    rw [List.foldl_cons]
    have h1 := countF_sum l r (countS l zs c) (by rw [countS_len, h])
    have h2 : (countS l zs c).sum ≤ zs.sum + 1 := by
      unfold countS
      split
      · have := stateF_in l c
        rw [sum_set _ _ _ (by omega)]
        omega
      · omega
    simp only [List.length_cons]
    omega
/-- Classes of equal copies: i is put behind the class that begins with the first one equal to it. -/
def classStep (cs : List (List Tx)) (acc : List (List Int)) (i : Int) (first : Int) : List (List Int) := if first = i then acc ++ [[i]] else acc.map fun k => if k.head? = some first then k ++ [i] else k
def classT (cs : List (List Tx)) : Nat → List (List Int)
  | 0 => []
  | n + 1 => classStep cs (classT cs n) n (stateF cs (cs.getD n []))
def classF (cs : List (List Tx)) : List (List Int) := classT cs cs.length
def classAns (cs : List (List Tx)) : List (List Int) × Bool := if copiesB cs then (classF cs, true) else ([], false)
/-- What holds of the first n copies' classes. -/
structure ClassI (cs : List (List Tx)) (n : Nat) (acc : List (List Int)) : Prop where
  len : acc.length ≤ n
  head : ∀ k ∈ acc, ∃ h t, k = h :: t ∧ 0 ≤ h ∧ h < n ∧ stateF cs (cs.getD h.toNat []) = h
  mem : ∀ k ∈ acc, ∀ i ∈ k, 0 ≤ i ∧ i < n ∧ cs.getD i.toNat [] = cs.getD (k.headD 0).toNat []
  dist : acc.Pairwise fun a b => a.head? ≠ b.head?
  cov : ∀ j : Nat, j < n → stateF cs (cs.getD j []) = j → ∃ k ∈ acc, k.head? = some (j : Int)
  total : (acc.map List.length).sum = n
  lens : ∀ k ∈ acc, k.length ≤ n
theorem stateF_self {cs : List (List Tx)} {n : Nat} {c : List Tx} (h : cs[n]? = some c) : 0 ≤ stateF cs c ∧ stateF cs c ≤ n ∧ cs[(stateF cs c).toNat]? = some c ∧ stateF cs (cs.getD (stateF cs c).toNat []) = stateF cs c := by
  have hl := (List.getElem?_eq_some_iff.1 h).1
  rcases firstAt_spec (f := fun q => decide (q = c)) cs 0 (by omega) with ⟨_, h2⟩ | ⟨h1, h2, ⟨x, h3, h4⟩, h5⟩
  · have := h2 c (List.mem_of_getElem? h)
    simp at this
  · have e : stateF cs c = firstAt (fun q => decide (q = c)) cs 0 := rfl
    rw [← e] at h1 h2 h3 h5
    rw [Int.sub_zero] at h3 h5
    obtain rfl : x = c := by simpa using h4
    refine ⟨h1, ?_, h3, ?_⟩
    · refine Classical.byContradiction fun hn => ?_
      have hm : x ∈ cs.take (stateF cs x).toNat := List.mem_of_getElem? (i := n) (by rw [List.getElem?_take, if_pos (by omega)]; exact h)
      have := h5 x hm
      simp at this
    · rw [List.getD_eq_getElem?_getD, h3]; rfl
theorem class_step {cs : List (List Tx)} {n : Nat} {c : List Tx} {acc : List (List Int)} (h : cs[n]? = some c) (I : ClassI cs n acc) : ClassI cs (n + 1) (classStep cs acc n (stateF cs c)) := by
  obtain ⟨f0, f1, f2, f3⟩ := stateF_self h
  have hg : cs.getD n [] = c := by rw [List.getD_eq_getElem?_getD, h]; rfl
  unfold classStep
  split
  · rename_i e
    refine ⟨by simp; exact I.len, fun k hk => ?_, fun k hk i hi => ?_, ?_, fun j hj he => ?_, ?_, fun k hk => ?_⟩
    · rcases List.mem_append.1 hk with hk | hk
      · obtain ⟨a, t, e1, e2, e3, e4⟩ := I.head k hk
        exact ⟨a, t, e1, e2, by omega, e4⟩
      · rw [List.mem_singleton.1 hk]
        refine ⟨n, [], rfl, by omega, by omega, ?_⟩
        rw [show ((n : Int)).toNat = n by omega, hg, e]
    · rcases List.mem_append.1 hk with hk | hk
      · obtain ⟨a1, a2, a3⟩ := I.mem k hk i hi
        exact ⟨a1, by omega, a3⟩
      · rw [List.mem_singleton.1 hk] at hi ⊢
        rw [List.mem_singleton.1 hi]
        exact ⟨by omega, by omega, rfl⟩
    · refine List.pairwise_append.2 ⟨I.dist, by simp, fun a ha b hb => ?_⟩
      rw [List.mem_singleton.1 hb]
      obtain ⟨x, t, e1, e2, e3, e4⟩ := I.head a ha
      rw [e1]
      intro he
      have : x = (n : Int) := by simpa using he
      omega
    · by_cases hjn : j = n
      · subst hjn
        exact ⟨[(j : Int)], by simp, rfl⟩
      · obtain ⟨k, hk, e1⟩ := I.cov j (by omega) he
        exact ⟨k, by simp [hk], e1⟩
    · rw [List.map_append, List.sum_append, I.total]; simp
    · rcases List.mem_append.1 hk with hk | hk
      · have := I.lens k hk; omega
      · rw [List.mem_singleton.1 hk]; simp
  · rename_i e
    have hlt : (stateF cs c).toNat < n := by omega
    obtain ⟨k0, hk0, ek0⟩ := I.cov (stateF cs c).toNat hlt (by rw [f3]; omega)
    have ek0' : k0.head? = some (stateF cs c) := by rw [ek0]; congr 1; omega
    have hd : ∀ k : List Int, (∃ a t, k = a :: t) → (if k.head? = some (stateF cs c) then k ++ [(n : Int)] else k).head? = k.head? := fun k ⟨a, t, e1⟩ => by
      rw [e1]; split <;> rfl
    refine ⟨by simp; exact Nat.le_succ_of_le I.len, fun k hk => ?_, fun k hk i hi => ?_, ?_, fun j hj he => ?_, ?_, fun k hk => ?_⟩
    · obtain ⟨k', hk', rfl⟩ := List.mem_map.1 hk
      obtain ⟨a, t, e1, e2, e3, e4⟩ := I.head k' hk'
      rw [e1]
      split
      · exact ⟨a, t ++ [(n : Int)], rfl, e2, by omega, e4⟩
      · exact ⟨a, t, rfl, e2, by omega, e4⟩
    · obtain ⟨k', hk', rfl⟩ := List.mem_map.1 hk
      obtain ⟨a, t, e1, e2, e3, e4⟩ := I.head k' hk'
      have hm := I.mem k' hk'
      by_cases hc : k'.head? = some (stateF cs c)
      · rw [if_pos hc] at hi ⊢
        have hh : (k' ++ [(n : Int)]).headD 0 = k'.headD 0 := by rw [e1]; rfl
        rw [hh]
        rcases List.mem_append.1 hi with hi | hi
        · obtain ⟨a1, a2, a3⟩ := hm i hi
          exact ⟨a1, by omega, a3⟩
        · rw [List.mem_singleton.1 hi]
          refine ⟨by omega, by omega, ?_⟩
          have hq : k'.headD 0 = stateF cs c := by
            rw [e1] at hc ⊢
            simpa using hc
          rw [show ((n : Int)).toNat = n by omega, hg, hq, List.getD_eq_getElem?_getD, f2]; rfl
      · rw [if_neg hc] at hi ⊢
        obtain ⟨a1, a2, a3⟩ := hm i hi
        exact ⟨a1, by omega, a3⟩
    · refine List.pairwise_map.2 ((List.Pairwise.and_mem.1 I.dist).imp fun {a b} ⟨ha, hb, hne⟩ => ?_)
      obtain ⟨x, t, e1, _⟩ := I.head a ha
      obtain ⟨y, u, e2, _⟩ := I.head b hb
      rw [hd a ⟨x, t, e1⟩, hd b ⟨y, u, e2⟩]
      exact hne
    · have hjn : j ≠ n := fun e2 => by
        subst e2
        rw [hg] at he
        exact e he
      obtain ⟨k, hk, e1⟩ := I.cov j (by omega) he
      refine ⟨_, List.mem_map.2 ⟨k, hk, rfl⟩, ?_⟩
      obtain ⟨x, t, e2, _⟩ := I.head k hk
      rw [hd k ⟨x, t, e2⟩, e1]
    · have key : ∀ (acc : List (List Int)), acc.Pairwise (fun a b => a.head? ≠ b.head?) → (∃ k ∈ acc, k.head? = some (stateF cs c)) →
          ((acc.map fun k => if k.head? = some (stateF cs c) then k ++ [(n : Int)] else k).map List.length).sum = (acc.map List.length).sum + 1 := by
        intro acc
        induction acc with
        | nil => rintro _ ⟨k, hk, _⟩; cases hk
        | cons a r ih =>
          intro hp ⟨k, hk, hkk⟩
          obtain ⟨p1, p2⟩ := List.pairwise_cons.1 hp
          simp only [List.map_cons, List.sum_cons]
          by_cases ha : a.head? = some (stateF cs c)
          · have hr : r.map (fun k => if k.head? = some (stateF cs c) then k ++ [(n : Int)] else k) = r := by
              refine (List.map_congr_left fun b hb => ?_).trans (List.map_id r)
              rw [if_neg (fun hb' => p1 b hb (ha.trans hb'.symm))]; rfl
            rw [if_pos ha, hr]
            simp only [List.length_append, List.length_cons, List.length_nil]
            omega
          · rw [if_neg ha, ih p2 ?_]
            · omega
            · rcases List.mem_cons.1 hk with rfl | hk
              · exact absurd hkk ha
              · exact ⟨k, hk, hkk⟩
      rw [key acc I.dist ⟨k0, hk0, ek0'⟩, I.total]
    · obtain ⟨k', hk', rfl⟩ := List.mem_map.1 hk
      have := I.lens k' hk'
      split
      · simp; omega
      · omega
theorem classI (cs : List (List Tx)) : ∀ n : Nat, n ≤ cs.length → ClassI cs n (classT cs n)
  | 0, _ => ⟨Nat.le_refl _, fun k hk => (by cases hk), fun k hk => (by cases hk), .nil, fun j hj => (by omega), rfl, fun k hk => (by cases hk)⟩
  | n + 1, h => by
    have hl : n < cs.length := h
    have e : cs[n]? = some cs[n] := List.getElem?_eq_getElem hl
    have := class_step e (classI cs n (by omega))
    rw [classT, List.getD_eq_getElem?_getD, e]
    exact this
/-! ### Classes, turned one by one -/
def mapT {α : Type} (f : α → α) (l : List α) (k : Nat) : List α := (l.take k).map f ++ l.drop k
theorem mapT_zero {α : Type} (f : α → α) (l : List α) : mapT f l 0 = l := by simp [mapT]
theorem mapT_all {α : Type} {f : α → α} {l : List α} {k : Nat} (h : l.length ≤ k) : mapT f l k = l.map f := by
  rw [mapT, List.take_of_length_le h, List.drop_of_length_le h, List.append_nil]
theorem mapT_len {α : Type} (f : α → α) (l : List α) (k : Nat) : (mapT f l k).length = l.length := by
  simp only [mapT, List.length_append, List.length_map, List.length_take, List.length_drop]; omega
theorem mapT_at {α : Type} {f : α → α} {l : List α} {k : Nat} {x : α} (h : l[k]? = some x) : (mapT f l k)[k]? = some x := by
  have hk := (List.getElem?_eq_some_iff.1 h).1
  rw [mapT, List.getElem?_append_right (by rw [List.length_map, List.length_take]; omega), List.length_map, List.length_take, Nat.min_eq_left (by omega), Nat.sub_self, List.getElem?_drop]
  exact h
theorem mapT_step {α : Type} {f : α → α} {l : List α} {k : Nat} {x : α} (h : l[k]? = some x) : mapT f l (k + 1) = (mapT f l k).set k (f x) := by
  have hk := (List.getElem?_eq_some_iff.1 h).1
  have hx := (List.getElem?_eq_some_iff.1 h).2
  have e : ((l.take k).map f).length = k := by rw [List.length_map, List.length_take]; omega
  rw [mapT, mapT, List.take_add_one, h, List.set_append_right _ _ (by omega), e, Nat.sub_self, List.drop_eq_getElem_cons hk, List.set_cons_zero]
  simp
theorem mapT_same {α : Type} {f : α → α} {l : List α} {k : Nat} {x : α} (h : l[k]? = some x) (hf : f x = x) : mapT f l (k + 1) = mapT f l k := by
  rw [mapT_step h, hf]
  apply List.ext_getElem?
  intro j
  by_cases e : k = j
  · subst e
    have hk := (List.getElem?_eq_some_iff.1 h).1
    rw [List.getElem?_set_self (by rw [mapT_len]; exact hk), mapT_at h]
  · rw [List.getElem?_set_ne e]
def putC (first i : Int) (k : List Int) : List Int := if k.head? = some first then k ++ [i] else k
theorem classStep_eq (cs : List (List Tx)) (acc : List (List Int)) (i first : Int) : classStep cs acc i first = if first = i then acc ++ [[i]] else acc.map (putC first i) := rfl
theorem class_head {cs : List (List Tx)} {n : Nat} {c : List Tx} {acc : List (List Int)} (h : cs[n]? = some c) (I : ClassI cs n acc) {k : List Int} (hk : k ∈ acc) : ∃ x t, k = x :: t ∧ 0 ≤ x ∧ x < n ∧ (cs.getD x.toNat [] = c ↔ x = stateF cs c) := by
  obtain ⟨x, t, e1, e2, e3, e4⟩ := I.head k hk
  refine ⟨x, t, e1, e2, e3, fun e => ?_, fun e => ?_⟩
  · rw [← e4, e]
  · obtain ⟨_, _, f2, _⟩ := stateF_self h
    rw [List.getD_eq_getElem?_getD, e, f2]; rfl
theorem class_found {cs : List (List Tx)} {n : Nat} {c : List Tx} {acc : List (List Int)} (h : cs[n]? = some c) (I : ClassI cs n acc) : (∃ k ∈ acc, k.head? = some (stateF cs c)) ↔ stateF cs c ≠ n := by
  obtain ⟨f0, f1, f2, f3⟩ := stateF_self h
  constructor
  · rintro ⟨k, hk, e⟩ e2
    obtain ⟨x, t, e1, _, e3, _⟩ := I.head k hk
    rw [e1] at e
    have : x = stateF cs c := by simpa using e
    omega
  · intro hn
    obtain ⟨k, hk, e⟩ := I.cov (stateF cs c).toNat (by omega) (by rw [f3]; omega)
    exact ⟨k, hk, by rw [e]; congr 1; omega⟩
/-- The places at which two proofs are not alike. -/
def chgF (a b : List Tx) (n : Nat) : List Int := ((List.range n).filter fun (i : Nat) => decide (b[i]? ≠ a[i]?)).map fun (i : Nat) => (i : Int)
theorem chgF_step {a b : List Tx} {n : Nat} : chgF a b (n + 1) = chgF a b n ++ (if b[n]? = a[n]? then [] else [(n : Int)]) := by
  unfold chgF
  rw [List.range_succ, List.filter_append, List.map_append]
  congr 1
  by_cases h : b[n]? = a[n]?
  · simp [h]
  · simp [h]
theorem chgF_len (a b : List Tx) (n : Nat) : (chgF a b n).length ≤ n := by
  unfold chgF
  rw [List.length_map]
  exact Nat.le_trans (List.length_filter_le _ _) (by simp)
theorem chgF_nil {a b : List Tx} (hl : a.length = b.length) : (chgF a b a.length).length = 0 ↔ a = b := by
  constructor
  · intro h
    have h0 := List.length_eq_zero_iff.1 h
    unfold chgF at h0
    have h1 := List.filter_eq_nil_iff.1 (List.map_eq_nil_iff.1 h0)
    apply List.ext_getElem?
    intro i
    by_cases hi : i < a.length
    · have := h1 i (List.mem_range.2 hi)
      simp only [decide_eq_true_eq] at this
      exact (Classical.not_not.1 this).symm
    · rw [List.getElem?_eq_none (by omega), List.getElem?_eq_none (by omega)]
  · intro e
    subst e
    simp [chgF]
/-! ### The law's facts -/
theorem allT_drop {p : Tx → Bool} {l : List Tx} {i : Nat} {x : Tx} (h : l[i]? = some x) : (l.drop i).all p = (p x && (l.drop (i + 1)).all p) := by
  have hi := (List.getElem?_eq_some_iff.1 h).1
  rw [List.drop_eq_getElem_cons hi, List.all_cons, (List.getElem?_eq_some_iff.1 h).2]
theorem allP_drop {p : List Tx → Bool} {l : List (List Tx)} {i : Nat} {x : List Tx} (h : l[i]? = some x) : (l.drop i).all p = (p x && (l.drop (i + 1)).all p) := by
  have hi := (List.getElem?_eq_some_iff.1 h).1
  rw [List.drop_eq_getElem_cons hi, List.all_cons, (List.getElem?_eq_some_iff.1 h).2]
theorem wideB_drop {n : Int} {l : List (List Tx)} {i : Nat} {x : List Tx} (h : l[i]? = some x) : wideB n (l.drop i) = ((proofB x && decide ((x.length : Int) = n)) && wideB n (l.drop (i + 1))) := allP_drop h
theorem headLen_some {l : List (List Tx)} {x : List Tx} (h : l[(0 : Int).toNat]? = some x) : headLen l = x.length := by
  unfold headLen
  cases l with
  | nil => simp at h
  | cons a r => obtain rfl : a = x := by simpa using h
                rfl
theorem statesB_spec {l : List (List Tx)} (h : statesB l = true) : (∀ p ∈ l, proofB p = true ∧ (p.length : Int) = headLen l) ∧ 1 ≤ l.length ∧ l.length ≤ 6 := by
  simp only [statesB, Bool.and_eq_true] at h
  have hl := inB_spec h.2
  refine ⟨fun p hp => ?_, by omega, by omega⟩
  have := List.all_eq_true.1 h.1 p hp
  simp only [Bool.and_eq_true, decide_eq_true_eq] at this
  exact this
theorem copyB_spec {l : List (List Tx)} {p : List Tx} (h : copyB l p = true) : (∀ q ∈ l, (q.length : Int) = headLen l) ∧ (1 ≤ l.length ∧ l.length ≤ 6) ∧ proofB p = true := by
  simp only [copyB, Bool.and_eq_true] at h
  obtain ⟨h1, h2⟩ := statesB_spec h.1
  exact ⟨fun q hq => (h1 q hq).2, h2, h.2⟩
theorem proofB_len {p : List Tx} (h : proofB p = true) : 1 ≤ p.length ∧ p.length ≤ 12 := by
  simp only [proofB, Bool.and_eq_true] at h
  have hl := inB_spec h.2
  omega
/-- The lines of a state are found in it or ahead of it. -/
theorem lines_of_state {l : List (List Tx)} {p : List Tx} (h : 0 ≤ stateF l p) : ∀ z ∈ linesF l p, 0 ≤ z ∧ z ≤ stateF l p := by
  intro z hz
  obtain ⟨k, hk, rfl⟩ := List.mem_map.1 hz
  have hk' := List.mem_range.1 hk
  rcases firstAt_spec (f := fun q => decide (q = p)) l 0 (by omega) with ⟨e, _⟩ | ⟨h1, h2, ⟨x, h3, h4⟩, _⟩
  · unfold stateF at h; omega
  · obtain rfl : x = p := by simpa using h4
    rw [Int.sub_zero] at h3
    have hs : decide (x[k]? = some (x.getD k [])) = true := by
      simp only [decide_eq_true_eq]
      rw [List.getElem?_eq_getElem hk', List.getD_eq_getElem?_getD, List.getElem?_eq_getElem hk']; rfl
    show 0 ≤ lineAt l k (x.getD k []) ∧ lineAt l k (x.getD k []) ≤ stateF l x
    unfold lineAt
    rcases firstAt_spec (f := fun q : List Tx => decide (q[k]? = some (x.getD k []))) l 0 (by omega) with ⟨_, g2⟩ | ⟨g1, g2, _, g5⟩
    · have := g2 x (List.mem_of_getElem? h3)
      rw [hs] at this; cases this
    · refine ⟨g1, Classical.byContradiction fun hn => ?_⟩
      rw [Int.sub_zero] at g5
      have hm : x ∈ l.take (firstAt (fun q : List Tx => decide (q[k]? = some (x.getD k []))) l 0).toNat := by
        refine List.mem_of_getElem? (i := (stateF l x).toNat) ?_
        rw [List.getElem?_take, if_pos (by omega)]
        exact h3
      have := g5 x hm
      rw [hs] at this; cases this
theorem copyB_small {l : List (List Tx)} {p : List Tx} (h : copyB l p = true) : ∀ q ∈ l, q.length ≤ 1000000 := fun q hq => by
  simp only [copyB, Bool.and_eq_true] at h
  have := proofB_len ((statesB_spec h.1).1 q hq).1
  omega
theorem bothB_spec {l : List (List Tx)} {p : List Tx} (h : bothB l p = true) : (∀ q ∈ l, q.length = p.length) ∧ l.length ≤ 6 ∧ p.length ≤ 12 := by
  simp only [bothB, Bool.and_eq_true, decide_eq_true_eq] at h
  obtain ⟨c1, c2, c3⟩ := copyB_spec h.1
  have := proofB_len c3
  exact ⟨fun q hq => by have := c1 q hq; omega, by omega, by omega⟩
structure CopyLaw (l : List (List Tx)) (p : List Tx) (s e : Int) (ok one three five mixed : Bool) (of : List Int) : Prop where
  a : ok = true → one = true ∧ five = true ∧ e ≤ s ∧ mixed = false
  b : one = true → three = true
  c : five = true → mixed = (one && !ok)
  d : three = true → one = !decide (-1 ∈ of)
  f : one = true → ∀ z ∈ of, 0 ≤ z ∧ z ≤ e
theorem copy_law {l : List (List Tx)} {p : List Tx} {s e : Int} {ok one three five mixed : Bool} {of : List Int} (hs : (s, ok) = stateAns l p) (he : (e, one) = earlAns l p) (hf : (of, three) = linesAns l p) (hm : (mixed, five) = mixAns l p) :
    CopyLaw l p s e ok one three five mixed of := by
  unfold stateAns at hs
  unfold earlAns at he
  unfold linesAns at hf
  unfold mixAns at hm
  have hb : bothB l p = (copyB l p && decide ((p.length : Int) = headLen l)) := rfl
  cases hc : copyB l p with
  | false =>
    rw [hc] at hs hm hb
    rw [Bool.false_and] at hb
    rw [hb] at he hf
    simp only [Bool.false_and, Bool.false_eq_true, if_false, Prod.mk.injEq] at hs hm he hf
    obtain ⟨rfl, rfl⟩ := hs
    obtain ⟨rfl, rfl⟩ := hm
    obtain ⟨rfl, rfl⟩ := he
    obtain ⟨rfl, rfl⟩ := hf
    exact ⟨fun h => (by cases h), fun h => (by cases h), fun h => (by cases h), fun h => (by cases h), fun h => (by cases h)⟩
  | true =>
    rw [hc] at hs hm hb
    simp only [if_true, Prod.mk.injEq] at hs hm
    rw [Bool.true_and] at hb
    have hst : statesB l = true ∧ proofB p = true := by simpa [copyB] using hc
    have hin := stateF_in l p
    have hok : ok = true → decide ((p.length : Int) = headLen l) = true := fun h => by
      rw [hs.2, decide_eq_true_eq] at h
      rcases firstAt_spec (f := fun q => decide (q = p)) l 0 (by omega) with ⟨e1, _⟩ | ⟨h1, h2, ⟨x, h3, h4⟩, _⟩
      · unfold stateF at h; omega
      · obtain rfl : x = p := by simpa using h4
        exact decide_eq_true ((statesB_spec hst.1).1 x (List.mem_of_getElem? h3)).2
    cases hd : decide ((p.length : Int) = headLen l) with
    | false =>
      rw [hd] at hb
      rw [hb] at he hf hm
      simp only [Bool.false_and, Bool.false_eq_true, if_false, Prod.mk.injEq] at he hf hm
      have hok' : ok = false := by
        cases e1 : ok with
        | false => rfl
        | true => have := hok e1; rw [hd] at this; cases this
      obtain ⟨rfl, rfl⟩ := he
      obtain ⟨rfl, rfl⟩ := hf
      exact ⟨fun h => by (rw [hok'] at h; cases h), fun h => (by cases h), fun _ => (by rw [hm.1]; rfl), fun h => (by cases h), fun h => (by cases h)⟩
    | true =>
      rw [hd] at hb
      rw [hb] at he hf hm
      simp only [Bool.true_and, if_true, Prod.mk.injEq] at hf hm
      rw [Bool.true_and] at he
      obtain ⟨rfl, rfl⟩ := hf
      have hlin : ok = true → ∀ z ∈ linesF l p, 0 ≤ z ∧ z ≤ stateF l p := fun h => by
        rw [hs.2, decide_eq_true_eq] at h
        exact lines_of_state h
      have hno : ok = true → decide (-1 ∈ linesF l p) = false := fun h => decide_eq_false fun hm => by
        have := hlin h (-1) hm; omega
      cases hn : decide (-1 ∈ linesF l p) with
      | true =>
        rw [hn] at he hm
        simp only [Bool.not_true, Bool.false_eq_true, if_false, Prod.mk.injEq, Bool.false_and] at he hm
        have hok' : ok = false := by
          cases e1 : ok with
          | false => rfl
          | true => have := hno e1; rw [hn] at this; cases this
        obtain ⟨rfl, rfl⟩ := he
        exact ⟨fun h => by (rw [hok'] at h; cases h), fun h => (by cases h), fun _ => (by rw [hm.1]; rfl), fun _ => (by rw [hn]; rfl), fun h => (by cases h)⟩
      | false =>
        rw [hn] at he hm
        simp only [Bool.not_false, if_true, Prod.mk.injEq, Bool.true_and] at he hm
        obtain ⟨rfl, rfl⟩ := he
        refine ⟨fun h => ⟨rfl, hm.2, ?_, ?_⟩, fun _ => rfl, fun _ => ?_, fun _ => (by rw [hn]; rfl), fun _ z hz => ⟨?_, (foldl_max_ge (linesF l p) 0).2 z hz⟩⟩
        · have h0 := hlin h
          rw [hs.2, decide_eq_true_eq] at h
          rw [hs.1]
          exact foldl_max_le _ _ _ (by omega) fun z hz => by have := h0 z hz; omega
        · rw [hs.2, decide_eq_true_eq] at h
          rw [hm.1]; exact decide_eq_false (by omega)
        · rw [hm.1, hs.2]
          by_cases h : 0 ≤ stateF l p
          · rw [decide_eq_true h, decide_eq_false (by omega)]; rfl
          · rw [decide_eq_false h, decide_eq_true (by omega)]; rfl
        · have h1 := linesF_in l p z hz
          have h2 : z ≠ -1 := fun e => by
            have := of_decide_eq_false hn
            exact this (e ▸ hz)
          omega
end Go.Proofs.Ytngefbdedbbplaa.Ai
