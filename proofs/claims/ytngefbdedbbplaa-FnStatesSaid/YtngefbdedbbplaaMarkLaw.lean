/- Plain laws on the marks of a proof. -/
import Derived.Test.YtngefbdedbbplaaCopyLaw
namespace Go.Proofs.Ytngefbdedbbplaa.Ai
open Go Go.Proofs
set_option linter.unusedSimpArgs false
set_option linter.unusedVariables false

/-- Line, At, Kind, Text. -/
abbrev Mark := Int × Int × Int × List UInt8
def cMark (x : Mark) : List PV := [.int .i64 x.1, .int .i64 x.2.1, .int .i64 x.2.2.1, .str x.2.2.2]
def aloneB (m : Mark) : Bool := (inB m.1 0 11 && inB m.2.1 0 40) && (if m.2.2.1 = 1 ∨ m.2.2.1 = 4 then decide (m.2.2.2 = []) else if m.2.2.1 = 2 ∨ m.2.2.1 = 3 then plainB m.2.2.2 && inB m.2.2.2.length 1 10 else false)
def lenAt (lines : List Tx) (n : Int) : Int := ((lines[n.toNat]?).getD []).length
def markB (lines : List Tx) (m : Mark) : Bool := aloneB m && (decide (m.1 < lines.length) && (decide (m.2.1 ≤ lenAt lines m.1) && !(decide (m.2.1 = lenAt lines m.1) && decide (m.2.2.1 = 1 ∨ m.2.2.1 = 3))))
def marksB (lines : List Tx) (ms : List Mark) : Bool := ms.all (markB lines) && (proofB lines && decide ((ms.length : Int) ≤ 20))
theorem allM_drop {p : Mark → Bool} {l : List Mark} {i : Nat} {x : Mark} (h : l[i]? = some x) : (l.drop i).all p = (p x && (l.drop (i + 1)).all p) := by
  have hi := (List.getElem?_eq_some_iff.1 h).1
  rw [List.drop_eq_getElem_cons hi, List.all_cons, (List.getElem?_eq_some_iff.1 h).2]

/-! ### Between two lines -/
def pre : List UInt8 → List UInt8 → Nat
  | [], _ => 0
  | _ :: _, [] => 0
  | x :: a, y :: b => if x = y then pre a b + 1 else 0
theorem pre_le : ∀ (a b : List UInt8), pre a b ≤ a.length ∧ pre a b ≤ b.length
  | [], b => by simp [pre]
  | _ :: _, [] => by simp [pre]
  | x :: a, y :: b => by
    have := pre_le a b
    rw [pre]; split
    · simp; exact this
    · simp
theorem pre_take : ∀ (a b : List UInt8), a.take (pre a b) = b.take (pre a b)
  | [], b => by simp [pre]
  | _ :: _, [] => by simp [pre]
  | x :: a, y :: b => by
    have := pre_take a b
    rw [pre]; split
    · rename_i h; rw [List.take_succ_cons, List.take_succ_cons, this, h]
    · simp
theorem pre_self : ∀ (a : List UInt8), pre a a = a.length
  | [] => rfl
  | x :: a => by rw [pre, if_pos rfl, pre_self a, List.length_cons]
theorem pre_step {a b : List UInt8} {i : Nat} {x : UInt8} (ha : a[i]? = some x) (hb : b[i]? = some x) : pre (a.drop i) (b.drop i) = pre (a.drop (i + 1)) (b.drop (i + 1)) + 1 := by
  have hi := (List.getElem?_eq_some_iff.1 ha).1
  have hj := (List.getElem?_eq_some_iff.1 hb).1
  rw [List.drop_eq_getElem_cons hi, List.drop_eq_getElem_cons hj, (List.getElem?_eq_some_iff.1 ha).2, (List.getElem?_eq_some_iff.1 hb).2, pre, if_pos rfl]
theorem pre_stop {a b : List UInt8} {i : Nat} {x y : UInt8} (ha : a[i]? = some x) (hb : b[i]? = some y) (h : x ≠ y) : pre (a.drop i) (b.drop i) = 0 := by
  have hi := (List.getElem?_eq_some_iff.1 ha).1
  have hj := (List.getElem?_eq_some_iff.1 hb).1
  rw [List.drop_eq_getElem_cons hi, List.drop_eq_getElem_cons hj, (List.getElem?_eq_some_iff.1 ha).2, (List.getElem?_eq_some_iff.1 hb).2, pre, if_neg h]
theorem pre_endA {a b : List UInt8} {i : Nat} (h : a.length ≤ i) : pre (a.drop i) (b.drop i) = 0 := by rw [List.drop_of_length_le h]; rfl
theorem pre_endB {a b : List UInt8} {i : Nat} (h : b.length ≤ i) : pre (a.drop i) (b.drop i) = 0 := by
  rw [List.drop_of_length_le h]; cases a.drop i <;> rfl
/-- What is cut off from behind: read backwards. -/
def revD (a : List UInt8) (f : Nat) : List UInt8 := (a.drop f).reverse
theorem revD_len (a : List UInt8) (f : Nat) : (revD a f).length = a.length - f := by simp [revD]
theorem revD_get {a : List UInt8} {f k j : Nat} {x : UInt8} (h : a[j]? = some x) (hj : j = a.length - 1 - k) (hk : k < a.length - f) : (revD a f)[k]? = some x := by
  unfold revD
  rw [List.getElem?_reverse (by simp; omega), List.length_drop, List.getElem?_drop, show f + (a.length - f - 1 - k) = j by omega]
  exact h
def diffF : Int → List UInt8 → List UInt8 → List Mark
  | _, [], [] => []
  | f, [], n :: b => [(0, f, 2, n :: b)]
  | f, _ :: a, [] => (0, f, 1, []) :: diffF (f + 1) a []
  | f, o :: a, n :: b => if o = n then diffF (f + 1) a b else (0, f, 3, [n]) :: diffF (f + 1) a b
def firstF (a b : List UInt8) : Nat := pre a b
def lastF (a b : List UInt8) : Nat := pre (revD a (pre a b)) (revD b (pre a b))
def midF (a : List UInt8) (f e : Nat) : List UInt8 := (a.take (a.length - e)).drop f
def betF (a b : List UInt8) : List Mark := diffF (firstF a b) (midF a (firstF a b) (lastF a b)) (midF b (firstF a b) (lastF a b))
theorem last_le (a b : List UInt8) : firstF a b + lastF a b ≤ a.length ∧ firstF a b + lastF a b ≤ b.length := by
  have h1 := pre_le a b
  have h2 := pre_le (revD a (pre a b)) (revD b (pre a b))
  rw [revD_len, revD_len] at h2
  unfold firstF lastF
  omega
theorem mid_len (a : List UInt8) (f e : Nat) (h : f + e ≤ a.length) : (midF a f e).length = a.length - e - f := by simp [midF]
theorem diff_del {f : Int} {o n : List UInt8} {i : Nat} {x : UInt8} (ho : o[i]? = some x) (hn : n.length ≤ i) : diffF f (o.drop i) (n.drop i) = (0, f, 1, []) :: diffF (f + 1) (o.drop (i + 1)) (n.drop (i + 1)) := by
  have hi := (List.getElem?_eq_some_iff.1 ho).1
  rw [List.drop_eq_getElem_cons hi, List.drop_of_length_le hn, List.drop_of_length_le (by omega : n.length ≤ i + 1), diffF]
theorem diff_rep {f : Int} {o n : List UInt8} {i : Nat} {x y : UInt8} (ho : o[i]? = some x) (hn : n[i]? = some y) (h : x ≠ y) : diffF f (o.drop i) (n.drop i) = (0, f, 3, [y]) :: diffF (f + 1) (o.drop (i + 1)) (n.drop (i + 1)) := by
  have hi := (List.getElem?_eq_some_iff.1 ho).1
  have hj := (List.getElem?_eq_some_iff.1 hn).1
  rw [List.drop_eq_getElem_cons hi, List.drop_eq_getElem_cons hj, (List.getElem?_eq_some_iff.1 ho).2, (List.getElem?_eq_some_iff.1 hn).2, diffF, if_neg h]
theorem diff_same {f : Int} {o n : List UInt8} {i : Nat} {x : UInt8} (ho : o[i]? = some x) (hn : n[i]? = some x) : diffF f (o.drop i) (n.drop i) = diffF (f + 1) (o.drop (i + 1)) (n.drop (i + 1)) := by
  have hi := (List.getElem?_eq_some_iff.1 ho).1
  have hj := (List.getElem?_eq_some_iff.1 hn).1
  rw [List.drop_eq_getElem_cons hi, List.drop_eq_getElem_cons hj, (List.getElem?_eq_some_iff.1 ho).2, (List.getElem?_eq_some_iff.1 hn).2, diffF, if_pos rfl]
theorem diff_end {f : Int} {o n : List UInt8} {i : Nat} (ho : o.length ≤ i) : diffF f (o.drop i) (n.drop i) = if i < n.length then [(0, f, 2, n.drop i)] else [] := by
  rw [List.drop_of_length_le ho]
  split
  · rename_i h; rw [List.drop_eq_getElem_cons h, diffF]
  · rename_i h; rw [List.drop_of_length_le (by omega), diffF]

/-! ### Setting a line right -/
def stepC (line k : Int) (st : List UInt8 × List UInt8) (m : Mark) : List UInt8 × List UInt8 := if m.1 = line ∧ m.2.1 = k then (if m.2.2.1 = 2 then (m.2.2.2, st.2) else (st.1, m.2.2.2)) else st
def pieceS (M : List Mark) (line k : Int) (own : List UInt8) : List UInt8 × List UInt8 := M.foldl (stepC line k) ([], own)
def pieceF (M : List Mark) (line k : Int) (own : List UInt8) : List UInt8 := (pieceS M line k own).1 ++ (pieceS M line k own).2
def corR (M : List Mark) (line : Int) : Int → List UInt8 → List UInt8
  | k, [] => pieceF M line k []
  | k, c :: s => pieceF M line k [c] ++ corR M line (k + 1) s
def corF (s : List UInt8) (line : Int) (M : List Mark) : List UInt8 := corR M line 0 s
def atM (line k : Int) (m : Mark) : Bool := decide (m.1 = line) && decide (m.2.1 = k)
theorem fold_at (line k : Int) : ∀ (M : List Mark) (st : List UInt8 × List UInt8), M.foldl (stepC line k) st = (M.filter (atM line k)).foldl (stepC line k) st
  | [], st => rfl
  | m :: r, st => by
    rw [List.foldl_cons, List.filter_cons]
    split
    · rw [List.foldl_cons]; exact fold_at line k r _
    · rename_i h
      rw [show stepC line k st m = st from if_neg (fun e => h (by rw [atM, decide_eq_true e.1, decide_eq_true e.2]; rfl))]
      exact fold_at line k r _
theorem piece_at (M : List Mark) (line k : Int) (own : List UInt8) : pieceF M line k own = pieceF (M.filter (atM line k)) line k own := by
  unfold pieceF pieceS
  rw [fold_at]
theorem piece_none {M : List Mark} {line k : Int} {own : List UInt8} (h : M.filter (atM line k) = []) : pieceF M line k own = own := by
  rw [piece_at, h]; rfl
theorem piece_one {M : List Mark} {line k : Int} {own : List UInt8} {m : Mark} (h : M.filter (atM line k) = [m]) (h1 : m.1 = line) (h2 : m.2.1 = k) : pieceF M line k own = if m.2.2.1 = 2 then m.2.2.2 ++ own else m.2.2.2 := by
  rw [piece_at, h]
  unfold pieceF pieceS
  rw [List.foldl_cons, List.foldl_nil, stepC, if_pos ⟨h1, h2⟩]
  split <;> rfl
theorem cor_none {M : List Mark} {line : Int} : ∀ (s : List UInt8) (k : Int), (∀ j, k ≤ j → M.filter (atM line j) = []) → corR M line k s = s
  | [], k, h => by rw [corR, piece_none (h k (Int.le_refl _))]
  | c :: s, k, h => by
    rw [corR, piece_none (h k (Int.le_refl _)), cor_none s (k + 1) (fun j hj => h j (by omega))]; rfl
theorem cor_pre {M : List Mark} {line : Int} : ∀ (p s : List UInt8) (k : Int), (∀ j, k ≤ j → j < k + p.length → M.filter (atM line j) = []) → corR M line k (p ++ s) = p ++ corR M line (k + p.length) s
  | [], s, k, h => by simp
  | c :: p, s, k, h => by
    rw [List.cons_append, corR, piece_none (h k (Int.le_refl _) (by simp; omega)), cor_pre p s (k + 1) (fun j h1 h2 => h j (by omega) (by simp; omega))]
    rw [List.length_cons, show k + 1 + (p.length : Int) = k + ((p.length + 1 : Nat) : Int) by omega]; rfl
def setL (n : Int) (m : Mark) : Mark := (n, m.2)
theorem diff_ge : ∀ (a b : List UInt8) (f : Int), ∀ m ∈ diffF f a b, f ≤ m.2.1 ∧ m.1 = 0 ∧ (m.2.2.1 = 1 ∨ m.2.2.1 = 2 ∨ m.2.2.1 = 3)
  | [], [], f, m, h => by cases h
  | [], n :: b, f, m, h => by
    rw [diffF, List.mem_singleton] at h; subst h; exact ⟨Int.le_refl _, rfl, .inr (.inl rfl)⟩
  | o :: a, [], f, m, h => by
    rw [diffF] at h
    rcases List.mem_cons.1 h with rfl | h
    · exact ⟨Int.le_refl _, rfl, .inl rfl⟩
    · have := diff_ge a [] (f + 1) m h
      exact ⟨by omega, this.2⟩
  | o :: a, n :: b, f, m, h => by
    rw [diffF] at h
    split at h
    · have := diff_ge a b (f + 1) m h
      exact ⟨by omega, this.2⟩
    · rcases List.mem_cons.1 h with rfl | h
      · exact ⟨Int.le_refl _, rfl, .inr (.inr rfl)⟩
      · have := diff_ge a b (f + 1) m h
        exact ⟨by omega, this.2⟩
theorem diff_inc : ∀ (a b : List UInt8) (f : Int), (diffF f a b).Pairwise fun x y => x.2.1 < y.2.1
  | [], [], f => List.Pairwise.nil
  | [], n :: b, f => by rw [diffF]; exact List.pairwise_singleton _ _
  | o :: a, [], f => by
    rw [diffF]
    exact List.Pairwise.cons (fun m hm => by have := diff_ge a [] (f + 1) m hm; show f < _; omega) (diff_inc a [] (f + 1))
  | o :: a, n :: b, f => by
    rw [diffF]; split
    · exact diff_inc a b (f + 1)
    · exact List.Pairwise.cons (fun m hm => by have := diff_ge a b (f + 1) m hm; show f < _; omega) (diff_inc a b (f + 1))
theorem diff_none {a b : List UInt8} {f j : Int} (n : Int) (h : j < f) : ((diffF f a b).map (setL n)).filter (atM n j) = [] := by
  rw [List.filter_eq_nil_iff]
  intro m hm
  obtain ⟨m0, hm0, rfl⟩ := List.mem_map.1 hm
  have := diff_ge a b f m0 hm0
  rw [atM, decide_eq_false (show ¬ (setL n m0).2.1 = j by show ¬ m0.2.1 = j; omega), Bool.and_false]
  exact Bool.false_ne_true
theorem cor_diff {n : Int} {post : List UInt8} : ∀ (a b : List UInt8) (f : Int) (M : List Mark), (∀ j, f ≤ j → M.filter (atM n j) = ((diffF f a b).map (setL n)).filter (atM n j)) → corR M n f (a ++ post) = b ++ post
  | [], [], f, M, h => cor_none post f fun j hj => by rw [h j hj]; rfl
  | [], c :: b, f, M, h => by
    have h0 : M.filter (atM n f) = [(n, f, 2, c :: b)] := by rw [h f (Int.le_refl _)]; simp [diffF, setL, atM]
    have h1 : ∀ j, f + 1 ≤ j → M.filter (atM n j) = [] := fun j hj => by
      rw [h j (by omega)]; simp [diffF, setL, atM]; omega
    cases post with
    | nil => rw [List.nil_append, corR, piece_one h0 rfl rfl, if_pos rfl]
    | cons d p => rw [List.nil_append, corR, piece_one h0 rfl rfl, if_pos rfl, cor_none p (f + 1) h1]; simp
  | o :: a, [], f, M, h => by
    have h0 : M.filter (atM n f) = [(n, f, 1, [])] := by
      rw [h f (Int.le_refl _), diffF, List.map_cons, List.filter_cons, diff_none n (by omega : f < f + 1)]; simp [setL, atM]
    have h1 := cor_diff (n := n) (post := post) a [] (f + 1) M (fun j hj => by
      rw [h j (by omega), diffF, List.map_cons, List.filter_cons, if_neg (by rw [atM, decide_eq_false (show ¬ (setL n (0, f, 1, [])).2.1 = j by show ¬ f = j; omega), Bool.and_false]; exact Bool.false_ne_true)])
    rw [List.cons_append, corR, piece_one h0 rfl rfl, h1]; rfl
  | o :: a, c :: b, f, M, h => by
    by_cases e : o = c
    · have h0 : M.filter (atM n f) = [] := by rw [h f (Int.le_refl _), diffF, if_pos e, diff_none n (by omega : f < f + 1)]
      have h1 := cor_diff (n := n) (post := post) a b (f + 1) M (fun j hj => by rw [h j (by omega), diffF, if_pos e])
      rw [List.cons_append, corR, piece_none h0, h1, e]; rfl
    · have h0 : M.filter (atM n f) = [(n, f, 3, [c])] := by
        rw [h f (Int.le_refl _), diffF, if_neg e, List.map_cons, List.filter_cons, diff_none n (by omega : f < f + 1)]; simp [setL, atM]
      have h1 := cor_diff (n := n) (post := post) a b (f + 1) M (fun j hj => by
        rw [h j (by omega), diffF, if_neg e, List.map_cons, List.filter_cons, if_neg (by rw [atM, decide_eq_false (show ¬ (setL n (0, f, 3, [c])).2.1 = j by show ¬ f = j; omega), Bool.and_false]; exact Bool.false_ne_true)])
      rw [List.cons_append, corR, piece_one h0 rfl rfl, h1]; rfl
theorem bet_parts (a b : List UInt8) : ∃ p q, p.length = firstF a b ∧ a = p ++ (midF a (firstF a b) (lastF a b) ++ q) ∧ b = p ++ (midF b (firstF a b) (lastF a b) ++ q) := by
  obtain ⟨l1, l2⟩ := last_le a b
  have e1 : a.take (firstF a b) = b.take (firstF a b) := pre_take a b
  have e2 : a.drop (a.length - lastF a b) = b.drop (b.length - lastF a b) := by
    have := pre_take (revD a (pre a b)) (revD b (pre a b))
    have h := congrArg List.reverse this
    unfold revD at h
    rw [List.take_reverse, List.take_reverse, List.reverse_reverse, List.reverse_reverse, List.length_drop, List.length_drop, List.drop_drop, List.drop_drop] at h
    have e : pre (a.drop (pre a b)).reverse (b.drop (pre a b)).reverse = lastF a b := rfl
    rw [e] at h
    unfold firstF at l1 l2
    rw [show pre a b + (a.length - pre a b - lastF a b) = a.length - lastF a b by omega, show pre a b + (b.length - pre a b - lastF a b) = b.length - lastF a b by omega] at h
    exact h
  have cut : ∀ (x : List UInt8) (f e : Nat), f + e ≤ x.length → x = x.take f ++ (midF x f e ++ x.drop (x.length - e)) := fun x f e h => by
    have h1 : (x.take (x.length - e)).take f = x.take f := by rw [List.take_take, Nat.min_eq_left (by omega)]
    have h2 : x.take f ++ midF x f e = x.take (x.length - e) := by rw [midF, ← h1, List.take_append_drop]
    rw [← List.append_assoc, h2, List.take_append_drop]
  refine ⟨a.take (firstF a b), a.drop (a.length - lastF a b), by rw [List.length_take]; omega, cut a _ _ l1, ?_⟩
  rw [e1, e2]
  exact cut b _ _ l2
/-- The marks between two lines turn the one into the other. -/
theorem cor_bet {a b : List UInt8} {n : Int} {M : List Mark} (h : ∀ j, 0 ≤ j → M.filter (atM n j) = ((betF a b).map (setL n)).filter (atM n j)) : corF a n M = b := by
  obtain ⟨p, q, hp, ha, hb⟩ := bet_parts a b
  have hd : ∀ j, (firstF a b : Int) ≤ j → M.filter (atM n j) = ((diffF (firstF a b) (midF a (firstF a b) (lastF a b)) (midF b (firstF a b) (lastF a b))).map (setL n)).filter (atM n j) := fun j hj => h j (by omega)
  have hc := cor_diff (post := q) _ _ _ M hd
  have e : corF a n M = corR M n 0 (p ++ (midF a (firstF a b) (lastF a b) ++ q)) := by unfold corF; rw [← ha]
  rw [e, cor_pre p _ 0 (fun j h1 h2 => by rw [h j h1, betF, diff_none n (by omega)]), hp, Int.zero_add, hc, ← hb]
theorem bet_same (a : List UInt8) : betF a a = [] := by
  have e : midF a (firstF a a) (lastF a a) = [] := List.eq_nil_of_length_eq_zero (by
    have := last_le a a
    rw [mid_len _ _ _ this.1]
    have : firstF a a = a.length := pre_self a
    omega)
  rw [betF, e]; rfl
theorem bet_nil {a b : List UInt8} (h : betF a b = []) : a = b := by
  have h1 := cor_bet (a := a) (b := b) (n := 0) (M := []) (fun j _ => by rw [h]; rfl)
  have h2 : corF a 0 [] = a := cor_none a 0 fun j _ => rfl
  rw [← h1, h2]

/-! ### Live marks, sorted -/
def stetB (m x : Mark) : Bool := decide (x.2.2.1 = 4) && (decide (x.1 = m.1) && decide (x.2.1 = m.2.1))
def isLiveF : List Mark → Bool
  | [] => false
  | m :: r => !(r.any (stetB m)) && decide (m.2.2.1 ≠ 4)
def liveL : List Mark → List Mark
  | [] => []
  | m :: r => if isLiveF (m :: r) = true then m :: liveL r else liveL r
def befM (a b : Mark) : Bool := if a.1 ≠ b.1 then decide (a.1 < b.1) else if a.2.1 ≠ b.2.1 then decide (a.2.1 < b.2.1) else decide (a.2.2.1 < b.2.2.1)
theorem bef_iff {a b : Mark} : befM a b = true ↔ a.1 < b.1 ∨ (a.1 = b.1 ∧ (a.2.1 < b.2.1 ∨ (a.2.1 = b.2.1 ∧ a.2.2.1 < b.2.2.1))) := by
  unfold befM
  split
  · rw [decide_eq_true_iff]; omega
  · split
    · rw [decide_eq_true_iff]; omega
    · rw [decide_eq_true_iff]; omega
theorem bef_not {a b : Mark} : befM a b = false ↔ ¬ (a.1 < b.1 ∨ (a.1 = b.1 ∧ (a.2.1 < b.2.1 ∨ (a.2.1 = b.2.1 ∧ a.2.2.1 < b.2.2.1)))) := by
  rw [← bef_iff]; simp
def insR (m : Mark) : List Mark → List Mark
  | [] => [m]
  | x :: r => if befM m x = true then x :: insR m r else m :: x :: r
def insF (m : Mark) (o : List Mark) : List Mark := (insR m o.reverse).reverse
def sortF (l : List Mark) : List Mark := l.foldl (fun o m => insF m o) []
theorem ins_back {m x : Mark} {o : List Mark} (h : befM m x = true) : insF m (o ++ [x]) = insF m o ++ [x] := by
  unfold insF
  rw [List.reverse_append, List.reverse_singleton, List.singleton_append, insR, if_pos h, List.reverse_cons]
theorem ins_stay {m x : Mark} {o : List Mark} (h : befM m x = false) : insF m (o ++ [x]) = o ++ [x] ++ [m] := by
  unfold insF
  rw [List.reverse_append, List.reverse_singleton, List.singleton_append, insR, if_neg (by rw [h]; exact Bool.false_ne_true)]
  simp
theorem ins_nil (m : Mark) : insF m [] = [m] := rfl
theorem insR_perm (m : Mark) : ∀ (o : List Mark), (insR m o).Perm (m :: o)
  | [] => .refl _
  | x :: r => by
    rw [insR]; split
    · exact ((insR_perm m r).cons x).trans (.swap m x r)
    · exact .refl _
theorem ins_perm (m : Mark) (o : List Mark) : (insF m o).Perm (m :: o) :=
  (List.reverse_perm _).trans ((insR_perm m _).trans ((List.reverse_perm o).cons m))
theorem insR_sorted (m : Mark) : ∀ (o : List Mark), o.Pairwise (fun a b => befM a b = false) → (insR m o).Pairwise (fun a b => befM a b = false)
  | [], _ => List.pairwise_singleton _ _
  | x :: r, h => by
    obtain ⟨h1, h2⟩ := List.pairwise_cons.1 h
    rw [insR]; split
    · rename_i hb
      refine List.Pairwise.cons (fun y hy => ?_) (insR_sorted m r h2)
      rcases List.mem_cons.1 ((insR_perm m r).mem_iff.1 hy) with rfl | hy
      · rw [bef_not]; rw [bef_iff] at hb; omega
      · exact h1 y hy
    · rename_i hb
      have hb : befM m x = false := by simpa using hb
      refine List.Pairwise.cons (fun y hy => ?_) h
      rcases List.mem_cons.1 hy with rfl | hy
      · exact hb
      · have := h1 y hy
        rw [bef_not] at this hb ⊢; omega
def srtd (l : List Mark) : Prop := l.Pairwise fun a b => befM b a = false
theorem ins_sorted {m : Mark} {o : List Mark} (h : srtd o) : srtd (insF m o) := by
  unfold srtd insF at *
  rw [List.pairwise_reverse]
  exact insR_sorted m _ (List.pairwise_reverse.2 h)
theorem sort_go : ∀ (l o : List Mark), srtd o → srtd (l.foldl (fun o m => insF m o) o) ∧ (l.foldl (fun o m => insF m o) o).Perm (o ++ l)
  | [], o, h => ⟨h, by simp⟩
  | m :: r, o, h => by
    rw [List.foldl_cons]
    obtain ⟨h1, h2⟩ := sort_go r (insF m o) (ins_sorted h)
    exact ⟨h1, h2.trans (((ins_perm m o).append_right r).trans (by rw [List.cons_append]; exact List.perm_middle.symm))⟩
theorem sort_spec (l : List Mark) : srtd (sortF l) ∧ (sortF l).Perm l := by
  have := sort_go l [] List.Pairwise.nil
  exact ⟨this.1, this.2.trans (by rw [List.nil_append])⟩
theorem sort_len (l : List Mark) : (sortF l).length = l.length := (sort_spec l).2.length_eq
theorem sort_same_go : ∀ (l o : List Mark), srtd (o ++ l) → l.foldl (fun o m => insF m o) o = o ++ l
  | [], o, _ => by simp
  | m :: r, o, h => by
    rw [List.foldl_cons]
    have e : insF m o = o ++ [m] := by
      rcases List.eq_nil_or_concat o with rfl | ⟨o', x, rfl⟩
      · rfl
      · rw [List.concat_eq_append] at *
        refine ins_stay ?_
        unfold srtd at h
        rw [List.pairwise_append] at h
        exact h.2.2 x (by simp) m (by simp)
    rw [e, sort_same_go r (o ++ [m]) (by rw [List.append_assoc]; exact h), List.append_assoc]; rfl
theorem sort_same {l : List Mark} (h : srtd l) : sortF l = l := by
  exact sort_same_go l [] h
theorem live_sub : ∀ (l : List Mark), ∀ m ∈ liveL l, m ∈ l ∧ m.2.2.1 ≠ 4
  | [], m, h => by cases h
  | x :: r, m, h => by
    rw [liveL] at h
    split at h
    · rename_i hl
      rcases List.mem_cons.1 h with rfl | h
      · rw [isLiveF, Bool.and_eq_true] at hl
        exact ⟨by simp, of_decide_eq_true hl.2⟩
      · have := live_sub r m h
        exact ⟨List.mem_cons_of_mem _ this.1, this.2⟩
    · have := live_sub r m h
      exact ⟨List.mem_cons_of_mem _ this.1, this.2⟩
theorem live_len : ∀ (l : List Mark), (liveL l).length ≤ l.length
  | [] => Nat.le_refl _
  | x :: r => by
    have := live_len r
    rw [liveL]; split <;> simp <;> omega
theorem liveL_all : ∀ {l : List Mark}, (∀ m ∈ l, m.2.2.1 ≠ 4) → liveL l = l
  | [], _ => rfl
  | x :: r, h => by
    have hr := liveL_all (l := r) fun m hm => h m (by simp [hm])
    have hn : r.any (stetB x) = false := by
      rw [List.any_eq_false]
      intro y hy
      rw [stetB, decide_eq_false (h y (by simp [hy])), Bool.false_and]
      exact Bool.false_ne_true
    rw [liveL, if_pos (by rw [isLiveF, hn, decide_eq_true (h x (by simp))]; rfl), hr]
theorem live_drop {l : List Mark} {i : Nat} {m : Mark} (h : l[i]? = some m) : liveL (l.drop i) = if isLiveF (l.drop i) = true then m :: liveL (l.drop (i + 1)) else liveL (l.drop (i + 1)) := by
  have hi := (List.getElem?_eq_some_iff.1 h).1
  rw [List.drop_eq_getElem_cons hi, liveL, (List.getElem?_eq_some_iff.1 h).2]
theorem isLive_at {l : List Mark} {i : Nat} {m : Mark} (h : l[i]? = some m) : isLiveF (l.drop i) = (!((l.drop (i + 1)).any (stetB m)) && decide (m.2.2.1 ≠ 4)) := by
  have hi := (List.getElem?_eq_some_iff.1 h).1
  rw [List.drop_eq_getElem_cons hi, isLiveF, (List.getElem?_eq_some_iff.1 h).2]
/-- Nothing is live at a place that is let stand. -/
theorem live_stet : ∀ (l : List Mark) (x : Mark), x.2.2.1 = 4 → ∀ y ∈ liveL (l ++ [x]), ¬ (y.1 = x.1 ∧ y.2.1 = x.2.1)
  | [], x, h, y, hy => by
    rw [List.nil_append, liveL, if_neg (by simp [isLiveF, h])] at hy; cases hy
  | m :: r, x, h, y, hy => by
    rw [List.cons_append, liveL] at hy
    split at hy
    · rename_i hl
      rcases List.mem_cons.1 hy with rfl | hy
      · rw [isLiveF, Bool.and_eq_true] at hl
        have h1 := hl.1
        rw [Bool.not_eq_true', List.any_eq_false] at h1
        have h2 := h1 x (by simp)
        rintro ⟨e1, e2⟩
        exact h2 (by rw [stetB, decide_eq_true h, decide_eq_true e1.symm, decide_eq_true e2.symm]; rfl)
      · exact live_stet r x h y hy
    · exact live_stet r x h y hy

/-! ### Clashes -/
def clashB (m n : Mark) : Bool := (decide (m.1 = n.1) && decide (m.2.1 = n.2.1)) && (decide (m.2.2.1 = 2) == decide (n.2.2.1 = 2))
theorem clash_symm (m n : Mark) : clashB m n = clashB n m := by
  unfold clashB
  rw [decide_eq_decide.2 (show m.1 = n.1 ↔ n.1 = m.1 from eq_comm), decide_eq_decide.2 (show m.2.1 = n.2.1 ↔ n.2.1 = m.2.1 from eq_comm), Bool.beq_comm]
def nthM (M : List Mark) (i : Nat) : Mark := (M[i]?).getD (0, 0, 0, [])
theorem nthM_some {M : List Mark} {i : Nat} {m : Mark} (h : M[i]? = some m) : nthM M i = m := by rw [nthM, h]; rfl
def pairB (M : List Mark) (i k : Nat) : Bool := decide (i < k) && (isLiveF (M.drop i) && (isLiveF (M.drop k) && clashB (nthM M i) (nthM M k)))
def confI (M : List Mark) (i n : Nat) : List (List Int) := ((List.range n).filter (pairB M i)).map fun (k : Nat) => [(i : Int), (k : Int)]
def confF (M : List Mark) (n : Nat) : List (List Int) := (List.range n).flatMap fun i => confI M i M.length
theorem confI_first (M : List Mark) (i : Nat) : confI M i (i + 1) = [] := by
  unfold confI
  rw [List.filter_eq_nil_iff.2, List.map_nil]
  intro k hk
  have := List.mem_range.1 hk
  rw [pairB, decide_eq_false (by omega), Bool.false_and]
  exact Bool.false_ne_true
theorem confI_yes {M : List Mark} {i k : Nat} (h : pairB M i k = true) : confI M i (k + 1) = confI M i k ++ [[(i : Int), (k : Int)]] := by
  unfold confI
  rw [List.range_succ, List.filter_append, List.map_append]; simp [h]
theorem confI_no {M : List Mark} {i k : Nat} (h : pairB M i k = false) : confI M i (k + 1) = confI M i k := by
  unfold confI
  rw [List.range_succ, List.filter_append, List.map_append]; simp [h]
theorem confF_next (M : List Mark) (i : Nat) : confF M (i + 1) = confF M i ++ confI M i M.length := by
  unfold confF
  rw [List.range_succ, List.flatMap_append, List.flatMap_singleton]
theorem confI_len (M : List Mark) (i n : Nat) : (confI M i n).length ≤ n := by
  unfold confI
  rw [List.length_map]
  have h := List.length_filter_le (pairB M i) (List.range n)
  rw [List.length_range] at h
  exact h
theorem conf_nil (M : List Mark) : confF M M.length = [] ↔ ∀ i k, i < k → k < M.length → pairB M i k = false := by
  unfold confF confI
  rw [List.flatMap_eq_nil_iff]
  constructor
  · intro h i k hik hk
    have h1 := h i (List.mem_range.2 (by omega))
    rw [List.map_eq_nil_iff, List.filter_eq_nil_iff] at h1
    simpa using h1 k (List.mem_range.2 hk)
  · intro h i hi
    rw [List.map_eq_nil_iff, List.filter_eq_nil_iff]
    intro k hk
    by_cases hik : i < k
    · rw [h i k hik (List.mem_range.1 hk)]; exact Bool.false_ne_true
    · rw [pairB, decide_eq_false hik, Bool.false_and]; exact Bool.false_ne_true
theorem pair_shift (m : Mark) (r : List Mark) (i k : Nat) : pairB (m :: r) (i + 1) (k + 1) = pairB r i k := by
  unfold pairB nthM
  simp only [List.drop_succ_cons, List.getElem?_cons_succ, Nat.add_lt_add_iff_right]
theorem live_mem_ix : ∀ {l : List Mark} {m : Mark}, m ∈ liveL l → ∃ k, k < l.length ∧ isLiveF (l.drop k) = true ∧ nthM l k = m
  | [], m, h => by cases h
  | x :: r, m, h => by
    rw [liveL] at h
    split at h
    · rename_i hl
      rcases List.mem_cons.1 h with rfl | h
      · exact ⟨0, by simp, hl, rfl⟩
      · obtain ⟨k, h1, h2, h3⟩ := live_mem_ix h
        exact ⟨k + 1, by simp; omega, h2, by rw [nthM, List.getElem?_cons_succ]; exact h3⟩
    · obtain ⟨k, h1, h2, h3⟩ := live_mem_ix h
      exact ⟨k + 1, by simp; omega, h2, by rw [nthM, List.getElem?_cons_succ]; exact h3⟩
theorem live_ix_mem : ∀ {l : List Mark} {k : Nat}, k < l.length → isLiveF (l.drop k) = true → nthM l k ∈ liveL l
  | [], k, h, _ => by simp at h
  | x :: r, 0, _, hl => by rw [List.drop_zero] at hl; rw [liveL, if_pos hl]; exact List.mem_cons_self
  | x :: r, k + 1, h, hl => by
    have := live_ix_mem (l := r) (k := k) (by simpa using h) hl
    rw [nthM, List.getElem?_cons_succ, liveL]
    split
    · exact List.mem_cons_of_mem _ this
    · exact this
theorem conf_pair : ∀ (M : List Mark), (∀ i k, i < k → k < M.length → pairB M i k = false) ↔ (liveL M).Pairwise fun a b => clashB a b = false
  | [] => ⟨fun _ => List.Pairwise.nil, fun _ i k _ hk => by simp at hk⟩
  | m :: r => by
    have ih := conf_pair r
    constructor
    · intro h
      have hr := ih.1 fun i k hik hk => by rw [← pair_shift m r]; exact h (i + 1) (k + 1) (by omega) (by simp; omega)
      rw [liveL]
      split
      · rename_i hl
        refine List.Pairwise.cons (fun y hy => ?_) hr
        obtain ⟨k, h1, h2, h3⟩ := live_mem_ix hy
        have h4 := h 0 (k + 1) (by omega) (by simp; omega)
        rw [pairB, decide_eq_true (by omega), Bool.true_and, List.drop_zero, hl, Bool.true_and, List.drop_succ_cons, h2, Bool.true_and, nthM, nthM, List.getElem?_cons_succ] at h4
        rw [nthM] at h3
        rw [h3] at h4
        exact h4
      · exact hr
    · intro h i k hik hk
      obtain ⟨k, rfl⟩ : ∃ j, k = j + 1 := ⟨k - 1, by omega⟩
      have hr : (liveL r).Pairwise fun a b => clashB a b = false := by
        rw [liveL] at h
        split at h
        · exact (List.pairwise_cons.1 h).2
        · exact h
      cases i with
      | succ i => rw [pair_shift]; exact ih.2 hr i k (by omega) (by simpa using hk)
      | zero =>
        cases hl : isLiveF (m :: r) with
        | false => rw [pairB, List.drop_zero, hl, Bool.false_and, Bool.and_false]
        | true =>
          cases h2 : isLiveF (r.drop k) with
          | false => rw [pairB, List.drop_succ_cons, h2, Bool.false_and, Bool.and_false, Bool.and_false]
          | true =>
            rw [liveL, if_pos hl] at h
            have := (List.pairwise_cons.1 h).1 _ (live_ix_mem (by simpa using hk) h2)
            rw [pairB, List.drop_succ_cons, h2, List.drop_zero, hl, decide_eq_true hik]
            exact this
theorem conf_iff (M : List Mark) : confF M M.length = [] ↔ (liveL M).Pairwise fun a b => clashB a b = false := (conf_nil M).trans (conf_pair M)
/-! ### Correcting -/
def nextF (lines : List Tx) (M : List Mark) (n : Nat) : List Tx := (List.range n).map fun (i : Nat) => corF ((lines[i]?).getD []) i M
theorem nextF_step {lines : List Tx} {M : List Mark} {n : Nat} {s : Tx} (h : lines[n]? = some s) : nextF lines M (n + 1) = nextF lines M n ++ [corF s n M] := by
  unfold nextF
  rw [List.range_succ, List.map_append]; simp [h]
def corA (lines : List Tx) (ms : List Mark) : List Tx × Bool := if marksB lines ms = true ∧ confF ms ms.length = [] then (if proofB (nextF lines (sortF (liveL ms)) lines.length) = true then (nextF lines (sortF (liveL ms)) lines.length, true) else ([], false)) else ([], false)
def liveA (lines : List Tx) (ms : List Mark) : List Mark × Bool := if marksB lines ms = true then (sortF (liveL ms), true) else ([], false)
def cntF (M : List Mark) (n : Nat) : List Int := (List.range n).map fun (i : Nat) => (((M.filter fun m => decide (m.1 = (i : Int))).length : Nat) : Int)
def cntA (lines : List Tx) (ms : List Mark) : List Int × Bool := if marksB lines ms = true then (cntF (liveL ms) lines.length, true) else ([], false)
def addA (lines : List Tx) (ms : List Mark) (m : Mark) : List Mark × Bool := if marksB lines ms = true ∧ marksB lines (ms ++ [m]) = true then (ms ++ [m], true) else ([], false)
def betA (a b : List UInt8) : List Mark × Bool := if lineB a = true ∧ lineB b = true then (if marksB [a] (betF a b) = true then (betF a b, true) else ([], false)) else ([], false)
theorem cnt_perm {L M : List Mark} (h : L.Perm M) (n : Nat) : cntF L n = cntF M n := by
  unfold cntF
  refine List.map_congr_left fun i _ => ?_
  rw [(h.filter _).length_eq]
theorem cnt_len (M : List Mark) (n : Nat) : (cntF M n).length = n := by simp [cntF]
theorem cnt_at {M : List Mark} {n i : Nat} (h : i < n) : (cntF M n)[i]? = some (((M.filter fun m => decide (m.1 = (i : Int))).length : Nat) : Int) := by
  simp [cntF, h]
theorem cnt_snoc {M : List Mark} {n : Nat} {m : Mark} {v : Int} (h0 : 0 ≤ m.1) (hv : (cntF M n)[m.1.toNat]? = some v) : cntF (M ++ [m]) n = (cntF M n).set m.1.toNat (v + 1) := by
  have hn : m.1.toNat < n := by have := (List.getElem?_eq_some_iff.1 hv).1; rwa [cnt_len] at this
  rw [cnt_at hn] at hv
  refine List.ext_getElem? fun i => ?_
  by_cases hi : i < n
  · rw [cnt_at hi, List.getElem?_set, List.filter_append, List.length_append]
    split
    · rename_i e
      subst e
      have e1 : decide (m.1 = ((m.1.toNat : Nat) : Int)) = true := decide_eq_true (by omega)
      rw [if_pos (by rw [cnt_len]; exact hn), ← Option.some.inj hv, List.filter_cons, if_pos e1, List.filter_nil]
      rw [List.length_singleton]; rfl
    · rename_i e
      have e1 : ¬ decide (m.1 = (i : Int)) = true := fun h => by have := of_decide_eq_true h; omega
      rw [cnt_at hi, List.filter_cons, if_neg e1, List.filter_nil]; rfl
  · rw [List.getElem?_eq_none (by rw [cnt_len]; omega), List.getElem?_eq_none (by rw [List.length_set, cnt_len]; omega)]
theorem cnt_sum : ∀ (M : List Mark) (n : Nat), (∀ m ∈ M, 0 ≤ m.1 ∧ m.1 < n) → (cntF M n).sum = M.length
  | [], n, _ => by
    unfold cntF
    have : ∀ n : Nat, ((List.range n).map fun (i : Nat) => ((0 : Nat) : Int)).sum = 0 := fun n => by
      induction n with
      | zero => rfl
      | succ n ih => rw [List.range_succ, List.map_append, List.sum_append, ih]; rfl
    exact this n
  | m :: r, n, h => by
    have h1 := h m (by simp)
    have hp : (m :: r).Perm (r ++ [m]) := (List.perm_append_singleton m r).symm
    have hl : m.1.toNat < (cntF r n).length := by rw [cnt_len]; omega
    obtain ⟨v, hv⟩ : ∃ v, (cntF r n)[m.1.toNat]? = some v := ⟨_, List.getElem?_eq_getElem hl⟩
    rw [cnt_perm hp, cnt_snoc h1.1 hv, sum_set _ _ _ hl, cnt_sum r n (fun x hx => h x (by simp [hx]))]
    rw [List.getD_eq_getElem?_getD, hv, Option.getD_some, List.length_cons]; omega
end Go.Proofs.Ytngefbdedbbplaa.Ai
