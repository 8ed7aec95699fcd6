/- Plain laws on ways from place to place: least costs, their breaks, the numbers of ways (paragraphs). -/
import Derived.Test.YtiaodmfipeoegaaCommon
namespace Go.Proofs.Ytiaodmfipeoegaa.Ai
open Go Go.Proofs
set_option linter.unusedSimpArgs false
set_option linter.unusedVariables false

/-- The lesser of two costs; a number below 0 stands for none. -/
def omin (a b : Int) : Int := if b < 0 then a else if a < 0 then b else if b < a then b else a
theorem omin_comm (a x y : Int) : omin (omin a x) y = omin (omin a y) x := by
  unfold omin
  (repeat' split) <;> omega
def oF (f : Nat → Int) (b : Int) (l : List Nat) : Int := l.foldl (fun a j => omin a (f j)) b
theorem oF_cons (f : Nat → Int) : ∀ (l : List Nat) (b : Int) (j : Nat), oF f b (j :: l) = omin (oF f b l) (f j)
  | [], _, _ => rfl
  | k :: r, b, j => by
    show oF f (omin (omin b (f j)) (f k)) r = omin (oF f (omin b (f k)) r) (f j)
    rw [omin_comm, ← oF_cons f r (omin b (f k)) j]
    rfl
theorem oF_congr {f g : Nat → Int} {b : Int} : ∀ {l : List Nat}, (∀ j ∈ l, f j = g j) → oF f b l = oF g b l
  | [], _ => rfl
  | j :: r, h => by rw [oF_cons, oF_cons, h j (by simp), oF_congr fun k hk => h k (by simp [hk])]
theorem oF_spec {f : Nat → Int} {b : Int} (hb : -1 ≤ b) : ∀ (l : List Nat), (∀ j ∈ l, -1 ≤ f j) → -1 ≤ oF f b l ∧ (0 ≤ b → 0 ≤ oF f b l ∧ oF f b l ≤ b) ∧ (∀ j ∈ l, 0 ≤ f j → 0 ≤ oF f b l ∧ oF f b l ≤ f j) ∧ (0 ≤ oF f b l → oF f b l = b ∨ ∃ j ∈ l, f j = oF f b l)
  | [], _ => ⟨hb, fun h => ⟨h, Int.le_refl _⟩, fun j hj => (by cases hj), fun _ => .inl rfl⟩
  | k :: r, hf => by
    obtain ⟨h1, h2, h3, h4⟩ := oF_spec hb r fun j hj => hf j (by simp [hj])
    have hk := hf k (by simp)
    rw [oF_cons]
    generalize hv : oF f b r = v at h1 h2 h3 h4
    have hm : omin v (f k) = v ∨ omin v (f k) = f k := by unfold omin; (repeat' split) <;> simp
    have ha : -1 ≤ omin v (f k) := by unfold omin; (repeat' split) <;> omega
    have hl : (0 ≤ v → 0 ≤ omin v (f k) ∧ omin v (f k) ≤ v) ∧ (0 ≤ f k → 0 ≤ omin v (f k) ∧ omin v (f k) ≤ f k) := by unfold omin; (repeat' split) <;> omega
    refine ⟨ha, fun h => ?_, fun j hj h => ?_, fun h => ?_⟩
    · have := h2 h; have := hl.1 this.1; omega
    · rcases List.mem_cons.1 hj with rfl | hj
      · exact hl.2 h
      · have := h3 j hj h; have := hl.1 this.1; omega
    · rcases hm with e | e
      · rw [e] at h ⊢
        rcases h4 h with e2 | ⟨j, hj, e2⟩
        · exact .inl e2
        · exact .inr ⟨j, by simp [hj], e2⟩
      · exact .inr ⟨k, by simp, e.symm⟩

section
variable (E : Nat → Bool) (L : Nat → Nat → Option Int) (n : Nat)
/-- Whether one may stop at i: with any number of lines (-1), or when one line is left (1). -/
def isEnd (m : Int) (i : Nat) : Bool := (decide (m = 1) || decide (m < 0)) && E i
def nxM (m : Int) : Int := if m > 1 then m - 1 else m
/-- No line but the last one, when one line is left. -/
def lM (m : Int) (i j : Nat) : Option Int := if m = 1 then none else L i j
def cnd (m : Int) (g : Nat → Int) (i j : Nat) : Int := match lM L m i j with
  | some c => if 0 ≤ g j then c + g j else -1
  | none => -1
def onB (m : Int) (i : Nat) : Int := if isEnd E m i then 0 else -1
def jsL (i : Nat) : List Nat := List.range' (i + 1) (n - 1 - i)
def bC : Nat → Int → Nat → Int
  | 0, _, _ => -1
  | d + 1, m, i => oF (cnd L m (bC d (nxM m)) i) (onB E m i) (jsL n i)
/-- The least cost from i on, with m lines; below 0: there is no way. -/
def wC (m : Int) (i : Nat) : Int := bC E L n (n - i) m i
def wcnd (m : Int) (i j : Nat) : Int := cnd L m (wC E L n (nxM m)) i j
def goodW (m : Int) (i j : Nat) : Bool := decide (0 ≤ wcnd E L n m i j ∧ wcnd E L n m i j = wC E L n m i)
def bB : Nat → Int → Nat → List Int
  | 0, _, _ => []
  | d + 1, m, i => if isEnd E m i then [] else match (jsL n i).find? (goodW E L n m i) with
    | some j => (j : Int) :: bB d (nxM m) j
    | none => []
/-- The first breaks of the least cost. -/
def wB (m : Int) (i : Nat) : List Int := bB E L n (n - i) m i
def bW : Nat → Int → Nat → Int
  | 0, _, _ => 0
  | d + 1, m, i => (if isEnd E m i then 1 else 0) + ((jsL n i).map fun j => if (lM L m i j).isSome then bW d (nxM m) j else 0).sum
/-- The number of ways. -/
def wW (m : Int) (i : Nat) : Int := bW E L n (n - i) m i
/-- The cost of breaks that are given. -/
def pathC (i : Nat) : List Int → Option Int
  | [] => if E i then some 0 else none
  | t :: r => match L i t.toNat with
    | some c => match pathC t.toNat r with
      | some s => some (c + s)
      | none => none
    | none => none
end
section
variable {E : Nat → Bool} {L : Nat → Nat → Option Int} {n : Nat}
theorem mem_js {i j : Nat} : j ∈ jsL n i ↔ i < j ∧ j < n := by
  unfold jsL
  rw [List.mem_range'_1]
  omega
theorem bC_fuel : ∀ (d d' : Nat) (m : Int) (i : Nat), i < n → n - i ≤ d → n - i ≤ d' → bC E L n d m i = bC E L n d' m i
  | 0, _, _, _, h, h1, _ => by omega
  | _ + 1, 0, _, _, h, _, h2 => by omega
  | d + 1, d' + 1, m, i, h, h1, h2 => by
    rw [bC, bC]
    refine oF_congr ?_
    intro j hj
    have := mem_js.1 hj
    unfold cnd
    rw [bC_fuel d d' (nxM m) j this.2 (by omega) (by omega)]
theorem wC_eq {i : Nat} (m : Int) (h : i < n) : wC E L n m i = oF (wcnd E L n m i) (onB E m i) (jsL n i) := by
  obtain ⟨d, hd⟩ : ∃ d, n - i = d + 1 := ⟨n - i - 1, by omega⟩
  unfold wC
  rw [hd, bC]
  refine oF_congr ?_
  intro j hj
  have := mem_js.1 hj
  unfold wcnd cnd wC
  rw [bC_fuel d (n - j) (nxM m) j this.2 (by omega) (Nat.le_refl _)]
theorem bB_fuel : ∀ (d d' : Nat) (m : Int) (i : Nat), i < n → n - i ≤ d → n - i ≤ d' → bB E L n d m i = bB E L n d' m i
  | 0, _, _, _, h, h1, _ => by omega
  | _ + 1, 0, _, _, h, _, h2 => by omega
  | d + 1, d' + 1, m, i, h, h1, h2 => by
    rw [bB, bB]
    cases e : (jsL n i).find? (goodW E L n m i) with
    | none => rfl
    | some j =>
      have := mem_js.1 (List.mem_of_find?_eq_some e)
      simp only
      rw [bB_fuel d d' (nxM m) j this.2 (by omega) (by omega)]
theorem wB_eq {i : Nat} (m : Int) (h : i < n) : wB E L n m i = if isEnd E m i then [] else match (jsL n i).find? (goodW E L n m i) with
    | some j => (j : Int) :: wB E L n (nxM m) j
    | none => [] := by
  obtain ⟨d, hd⟩ : ∃ d, n - i = d + 1 := ⟨n - i - 1, by omega⟩
  unfold wB
  rw [hd, bB]
  cases e : (jsL n i).find? (goodW E L n m i) with
  | none => rfl
  | some j =>
    have := mem_js.1 (List.mem_of_find?_eq_some e)
    simp only
    rw [bB_fuel d (n - j) (nxM m) j this.2 (by omega) (Nat.le_refl _)]
theorem bW_fuel : ∀ (d d' : Nat) (m : Int) (i : Nat), i < n → n - i ≤ d → n - i ≤ d' → bW E L n d m i = bW E L n d' m i
  | 0, _, _, _, h, h1, _ => by omega
  | _ + 1, 0, _, _, h, _, h2 => by omega
  | d + 1, d' + 1, m, i, h, h1, h2 => by
    rw [bW, bW]
    congr 2
    refine List.map_congr_left ?_
    intro j hj
    have := mem_js.1 hj
    rw [bW_fuel d d' (nxM m) j this.2 (by omega) (by omega)]
theorem wW_eq {i : Nat} (m : Int) (h : i < n) : wW E L n m i = (if isEnd E m i then 1 else 0) + ((jsL n i).map fun j => if (lM L m i j).isSome then wW E L n (nxM m) j else 0).sum := by
  obtain ⟨d, hd⟩ : ∃ d, n - i = d + 1 := ⟨n - i - 1, by omega⟩
  unfold wW
  rw [hd, bW]
  congr 2
  refine List.map_congr_left ?_
  intro j hj
  have := mem_js.1 hj
  rw [bW_fuel d (n - j) (nxM m) j this.2 (by omega) (Nat.le_refl _)]

theorem cnd_ge (hL : ∀ i j c, L i j = some c → 0 ≤ c) (m : Int) (g : Nat → Int) (i j : Nat) : -1 ≤ cnd L m g i j := by
  unfold cnd lM
  split
  · rename_i c hc
    have : 0 ≤ c := by
      split at hc
      · cases hc
      · exact hL _ _ _ hc
    split <;> omega
  · omega
theorem cnd_some {m : Int} {g : Nat → Int} {i j : Nat} (h : 0 ≤ cnd L m g i j) : ∃ c, m ≠ 1 ∧ L i j = some c ∧ 0 ≤ g j ∧ cnd L m g i j = c + g j := by
  unfold cnd lM at *
  by_cases e : m = 1
  · rw [if_pos e] at h; simp at h
  · rw [if_neg e] at h ⊢
    cases hc : L i j with
    | none => rw [hc] at h; simp at h
    | some c =>
      rw [hc] at h
      simp only at h ⊢
      by_cases hg : 0 ≤ g j
      · exact ⟨c, e, rfl, hg, by rw [if_pos hg]⟩
      · rw [if_neg hg] at h; omega
theorem cnd_of {m : Int} {g : Nat → Int} {i j : Nat} {c : Int} (h1 : m ≠ 1) (h2 : L i j = some c) (h3 : 0 ≤ g j) : cnd L m g i j = c + g j := by
  unfold cnd lM
  rw [if_neg h1, h2]
  simp only
  rw [if_pos h3]
theorem onB_ge (m : Int) (i : Nat) : -1 ≤ onB E m i ∧ (0 ≤ onB E m i → onB E m i = 0 ∧ isEnd E m i = true) ∧ (isEnd E m i = true → onB E m i = 0) := by
  unfold onB
  split
  · rename_i h; exact ⟨by omega, fun _ => ⟨rfl, h⟩, fun _ => rfl⟩
  · rename_i h; exact ⟨by omega, fun h2 => by omega, fun h2 => absurd h2 h⟩
theorem wC_ge (hL : ∀ i j c, L i j = some c → 0 ≤ c) {m : Int} {i : Nat} (h : i < n) : -1 ≤ wC E L n m i := by
  rw [wC_eq m h]
  exact (oF_spec (onB_ge m i).1 _ fun j _ => cnd_ge hL _ _ _ _).1
theorem wC_end (hL : ∀ i j c, L i j = some c → 0 ≤ c) {m : Int} {i : Nat} (h : i < n) (he : isEnd E m i = true) : wC E L n m i = 0 := by
  rw [wC_eq m h]
  have := (oF_spec (f := wcnd E L n m i) (onB_ge m i).1 (jsL n i) fun j _ => cnd_ge hL _ _ _ _).2.1 (by rw [(onB_ge m i).2.2 he]; omega)
  rw [(onB_ge m i).2.2 he] at this ⊢
  omega
theorem wC_le (hL : ∀ i j c, L i j = some c → 0 ≤ c) {m : Int} {i j : Nat} (h : i < n) (hj : i < j ∧ j < n) (hc : 0 ≤ wcnd E L n m i j) : 0 ≤ wC E L n m i ∧ wC E L n m i ≤ wcnd E L n m i j := by
  rw [wC_eq m h]
  exact (oF_spec (f := wcnd E L n m i) (onB_ge m i).1 (jsL n i) fun j _ => cnd_ge hL _ _ _ _).2.2.1 j (mem_js.2 hj) hc
theorem wC_some (hL : ∀ i j c, L i j = some c → 0 ≤ c) {m : Int} {i : Nat} (h : i < n) (hc : 0 ≤ wC E L n m i) : isEnd E m i = true ∨ ∃ j, i < j ∧ j < n ∧ wcnd E L n m i j = wC E L n m i := by
  rw [wC_eq m h] at hc ⊢
  rcases (oF_spec (f := wcnd E L n m i) (onB_ge m i).1 (jsL n i) fun j _ => cnd_ge hL _ _ _ _).2.2.2 hc with e | ⟨j, hj, e⟩
  · rw [e] at hc
    exact .inl ((onB_ge m i).2.1 hc).2
  · exact .inr ⟨j, (mem_js.1 hj).1, (mem_js.1 hj).2, e⟩
/-- The breaks of the least cost have it. -/
def Up (i n : Nat) : List Int → Prop
  | [] => True
  | t :: r => ((i : Int) < t ∧ t < n) ∧ Up t.toNat n r
theorem wB_path (hL : ∀ i j c, L i j = some c → 0 ≤ c) : ∀ (d : Nat) (m : Int) (i : Nat), n - i ≤ d → i < n → (m < 0 ∨ 1 ≤ m) → 0 ≤ wC E L n m i →
    pathC E L i (wB E L n m i) = some (wC E L n m i) ∧ Up i n (wB E L n m i) ∧ (0 < m → ((wB E L n m i).length : Int) = m - 1)
  | 0, _, _, h, h1, _, _ => by omega
  | d + 1, m, i, h, h1, hm, hc => by
    rw [wB_eq m h1]
    by_cases he : isEnd E m i = true
    · rw [if_pos he, wC_end hL h1 he]
      simp only [isEnd, Bool.and_eq_true, Bool.or_eq_true, decide_eq_true_eq] at he
      exact ⟨by rw [pathC, if_pos he.2], trivial, fun h0 => by have := he.1; simp; omega⟩
    · rw [if_neg he]
      rcases wC_some hL h1 hc with e | ⟨j, a1, a2, a3⟩
      · exact absurd e he
      · have hf : ((jsL n i).find? (goodW E L n m i)).isSome := by
          rw [List.find?_isSome]
          exact ⟨j, mem_js.2 ⟨a1, a2⟩, by unfold goodW; rw [a3]; simp [hc]⟩
        cases e : (jsL n i).find? (goodW E L n m i) with
        | none => rw [e] at hf; cases hf
        | some k =>
          have hk := mem_js.1 (List.mem_of_find?_eq_some e)
          have hg := List.find?_some e
          simp only [goodW, decide_eq_true_eq] at hg
          obtain ⟨c, b1, b2, b3, b4⟩ := cnd_some hg.1
          have hmn : nxM m < 0 ∨ 1 ≤ nxM m := by unfold nxM; split <;> omega
          obtain ⟨p1, p2, p3⟩ := wB_path hL d (nxM m) k (by omega) hk.2 hmn b3
          simp only
          refine ⟨?_, ⟨⟨by omega, by omega⟩, by simpa using p2⟩, fun h0 => ?_⟩
          · rw [pathC, Int.toNat_natCast, b2]
            simp only
            rw [p1]
            simp only
            rw [← hg.2]
            exact congrArg some b4.symm
          · have : nxM m = m - 1 := by unfold nxM; rw [if_pos (by omega)]
            have := p3 (by omega)
            rw [List.length_cons]; omega
/-- No breaks cost less. -/
theorem path_le (hL : ∀ i j c, L i j = some c → 0 ≤ c) : ∀ (bs : List Int) (m : Int) (i : Nat) (c : Int), i < n → Up i n bs → (m < 0 ∨ m = bs.length + 1) → pathC E L i bs = some c → 0 ≤ wC E L n m i ∧ wC E L n m i ≤ c
  | [], m, i, c, h1, _, hm, hp => by
    rw [pathC] at hp
    split at hp
    · rename_i he
      have : isEnd E m i = true := by
        unfold isEnd
        rw [he, Bool.and_true]
        simp at hm
        rcases hm with h | h
        · simp [h]
        · simp [h]
      rw [wC_end hL h1 this]
      cases hp; omega
    · cases hp
  | t :: r, m, i, c, h1, hu, hm, hp => by
    rw [pathC] at hp
    split at hp
    · rename_i a ha
      split at hp
      · rename_i s hs
        cases hp
        have m1 : m ≠ 1 := by simp at hm; omega
        have ih := path_le hL r (nxM m) t.toNat s (by have := hu.1; omega) hu.2 (by
          simp at hm
          unfold nxM
          split <;> omega) hs
        have e := cnd_of (g := wC E L n (nxM m)) m1 ha ih.1
        have ca := hL _ _ _ ha
        have := wC_le hL (E := E) (m := m) h1 (j := t.toNat) (by have := hu.1; omega) (by unfold wcnd; rw [e]; omega)
        have e2 : wcnd E L n m i t.toNat = a + wC E L n (nxM m) t.toNat := e
        omega
      · cases hp
    · cases hp
/-! ### Numbers of ways -/
theorem sum_nonneg : ∀ {l : List Int}, (∀ x ∈ l, 0 ≤ x) → 0 ≤ l.sum ∧ ∀ x ∈ l, x ≤ l.sum
  | [], _ => ⟨by simp, fun x hx => (by cases hx)⟩
  | y :: r, h => by
    obtain ⟨a, b⟩ := sum_nonneg (l := r) fun x hx => h x (by simp [hx])
    have := h y (by simp)
    rw [List.sum_cons]
    refine ⟨by omega, fun x hx => ?_⟩
    rcases List.mem_cons.1 hx with rfl | hx
    · omega
    · have := b x hx; omega
theorem pow_sum : ∀ (k a : Nat), ((List.range' a k).map fun j => (2 : Nat) ^ (a + k - 1 - j)).sum + 1 = 2 ^ k
  | 0, _ => rfl
  | k + 1, a => by
    rw [List.range'_succ, List.map_cons, List.sum_cons]
    have ih := pow_sum k (a + 1)
    have e : ((List.range' (a + 1) k).map fun j => (2 : Nat) ^ (a + (k + 1) - 1 - j)) = (List.range' (a + 1) k).map fun j => (2 : Nat) ^ (a + 1 + k - 1 - j) := by
      refine List.map_congr_left fun j _ => ?_
      rw [show a + (k + 1) - 1 - j = a + 1 + k - 1 - j by omega]
    rw [e, show a + (k + 1) - 1 - a = k by omega]
    rw [Nat.pow_succ]
    omega
theorem sum_le {l : List Nat} {f : Nat → Int} {g : Nat → Nat} (h : ∀ j ∈ l, f j ≤ g j) : (l.map f).sum ≤ ((l.map g).sum : Nat) := by
  induction l with
  | nil => simp
  | cons x r ih =>
    have := ih fun j hj => h j (by simp [hj])
    have := h x (by simp)
    simp only [List.map_cons, List.sum_cons]
    omega
theorem wW_bounds : ∀ (d : Nat) (m : Int) (i : Nat), n - i ≤ d → i < n → 0 ≤ wW E L n m i ∧ wW E L n m i ≤ ((2 ^ (n - 1 - i) : Nat) : Int)
  | 0, _, _, h, h1 => by omega
  | d + 1, m, i, h, h1 => by
    have ih : ∀ j ∈ jsL n i, 0 ≤ (if (lM L m i j).isSome then wW E L n (nxM m) j else 0) ∧ (if (lM L m i j).isSome then wW E L n (nxM m) j else 0) ≤ ((2 ^ (n - 1 - j) : Nat) : Int) := fun j hj => by
      have hj := mem_js.1 hj
      have := wW_bounds d (nxM m) j (by omega) hj.2
      split
      · exact this
      · exact ⟨Int.le_refl _, by omega⟩
    rw [wW_eq m h1]
    have a := (sum_nonneg (l := (jsL n i).map fun j => if (lM L m i j).isSome then wW E L n (nxM m) j else 0) fun x hx => by
      obtain ⟨j, hj, rfl⟩ := List.mem_map.1 hx
      exact (ih j hj).1).1
    have b := sum_le (g := fun j => 2 ^ (n - 1 - j)) fun j hj => (ih j hj).2
    have c := pow_sum (n - 1 - i) (i + 1)
    have e : ((List.range' (i + 1) (n - 1 - i)).map fun j => (2 : Nat) ^ (i + 1 + (n - 1 - i) - 1 - j)) = (jsL n i).map fun j => 2 ^ (n - 1 - j) := by
      refine List.map_congr_left fun j _ => ?_
      rw [show i + 1 + (n - 1 - i) - 1 - j = n - 1 - j by omega]
    rw [e] at c
    split <;> omega
theorem wW_pos (hL : ∀ i j c, L i j = some c → 0 ≤ c) : ∀ (d : Nat) (m : Int) (i : Nat), n - i ≤ d → i < n → (0 < wW E L n m i ↔ 0 ≤ wC E L n m i)
  | 0, _, _, h, h1 => by omega
  | d + 1, m, i, h, h1 => by
    have nn : ∀ x ∈ (jsL n i).map fun j => if (lM L m i j).isSome then wW E L n (nxM m) j else 0, 0 ≤ x := fun x hx => by
      obtain ⟨j, hj, rfl⟩ := List.mem_map.1 hx
      split
      · exact (wW_bounds _ _ j (Nat.le_refl _) (mem_js.1 hj).2).1
      · exact Int.le_refl _
    have s := sum_nonneg nn
    constructor
    · intro hw
      rw [wW_eq m h1] at hw
      by_cases he : isEnd E m i = true
      · rw [wC_end hL h1 he]; exact Int.le_refl _
      · rw [if_neg he] at hw
        have : ∃ x ∈ (jsL n i).map fun j => if (lM L m i j).isSome then wW E L n (nxM m) j else 0, 0 < x := by
          apply Classical.byContradiction
          intro hx
          have z : ∀ l : List Int, (∀ x ∈ l, ¬ 0 < x) → l.sum ≤ 0 := by
            intro l
            induction l with
            | nil => simp
            | cons y r ih =>
              intro h
              have := ih fun x hx => h x (by simp [hx])
              have := h y (by simp)
              rw [List.sum_cons]; omega
          have := z _ fun x hx' hp => hx ⟨x, hx', hp⟩
          omega
        obtain ⟨x, hx, hp⟩ := this
        obtain ⟨j, hj, rfl⟩ := List.mem_map.1 hx
        have hj := mem_js.1 hj
        split at hp
        · rename_i hl
          obtain ⟨c, hc⟩ := Option.isSome_iff_exists.1 hl
          have m1 : m ≠ 1 := fun e => by rw [lM, if_pos e] at hc; cases hc
          rw [lM, if_neg m1] at hc
          have g := (wW_pos hL d (nxM m) j (by omega) hj.2).1 hp
          have e := cnd_of (g := wC E L n (nxM m)) m1 hc g
          have := hL _ _ _ hc
          exact (wC_le hL h1 hj (by unfold wcnd; rw [e]; omega)).1
        · omega
    · intro hc
      rw [wW_eq m h1]
      rcases wC_some hL h1 hc with he | ⟨j, a1, a2, a3⟩
      · rw [if_pos he]; omega
      · obtain ⟨c, b1, b2, b3, -⟩ := cnd_some (show 0 ≤ wcnd E L n m i j by rw [a3]; exact hc)
        have hp := (wW_pos hL d (nxM m) j (by omega) a2).2 b3
        have := s.2 _ (List.mem_map_of_mem (mem_js.2 ⟨a1, a2⟩))
        rw [lM, if_neg b1, b2] at this
        simp only [Option.isSome_some, if_true] at this
        split <;> omega
theorem wW_zero (hL : ∀ i j c, L i j = some c → 0 ≤ c) {m : Int} {i : Nat} (h : i < n) (hc : ¬ 0 ≤ wC E L n m i) : wW E L n m i = 0 := by
  have a := (wW_bounds (E := E) (L := L) (n := n) _ m i (Nat.le_refl _) h).1
  have b := mt (wW_pos hL _ m i (Nat.le_refl _) h).1 hc
  omega
end
/-! ### The fold from behind: spec.paFrom -/
/-- Whether it goes, its cost, breaks, and the number of ways. -/
abbrev PW := Bool × Int × List Int × Int
def lessL : List Int → List Int → Bool
  | [], [] => false
  | [], _ :: _ => true
  | _ :: _, [] => false
  | x :: a, y :: b => if x = y then lessL a b else decide (x < y)
theorem lessL_drop {a b : List Int} {i : Nat} {x y : Int} (hx : a[i]? = some x) (hy : b[i]? = some y) : lessL (a.drop i) (b.drop i) = if x = y then lessL (a.drop (i + 1)) (b.drop (i + 1)) else decide (x < y) := by
  have h1 := (List.getElem?_eq_some_iff.1 hx).1
  have h2 := (List.getElem?_eq_some_iff.1 hy).1
  rw [List.drop_eq_getElem_cons h1, List.drop_eq_getElem_cons h2, lessL, (List.getElem?_eq_some_iff.1 hx).2, (List.getElem?_eq_some_iff.1 hy).2]
theorem lessL_end {a b : List Int} {i : Nat} (h : a.length ≤ i ∨ b.length ≤ i) (h1 : i ≤ a.length) (h2 : i ≤ b.length) : lessL (a.drop i) (b.drop i) = decide (a.length < b.length) := by
  by_cases e1 : i < a.length
  · have e2 : b.length = i := by omega
    rw [List.drop_eq_getElem_cons e1, List.drop_of_length_le (l := b) (by omega), lessL, decide_eq_false (by omega)]
  · rw [List.drop_of_length_le (l := a) (by omega)]
    by_cases e2 : i < b.length
    · rw [List.drop_eq_getElem_cons e2, lessL, decide_eq_true (by omega)]
    · rw [List.drop_of_length_le (l := b) (by omega), lessL, decide_eq_false (by omega)]
section
variable (E : Nat → Bool) (L : Nat → Nat → Option Int) (n : Nat)
def wV (m : Int) (i : Nat) : PW := (decide (0 ≤ wC E L n m i), if 0 ≤ wC E L n m i then wC E L n m i else 0, wB E L n m i, wW E L n m i)
def stV (m : Int) (i j : Nat) (out : PW) : PW := match lM L m i j with
  | none => out
  | some c => if 0 ≤ wC E L n (nxM m) j then
      (if out.1 = false ∨ c + wC E L n (nxM m) j < out.2.1 ∨ (c + wC E L n (nxM m) j = out.2.1 ∧ lessL ((j : Int) :: wB E L n (nxM m) j) out.2.2.1 = true)
        then (true, c + wC E L n (nxM m) j, (j : Int) :: wB E L n (nxM m) j, out.2.2.2 + wW E L n (nxM m) j)
        else (true, out.2.1, out.2.2.1, out.2.2.2 + wW E L n (nxM m) j)) else out
def outV (m : Int) (i : Nat) (l : List Nat) : PW := l.foldr (stV E L n m i) (isEnd E m i, 0, [], if isEnd E m i then 1 else 0)
end
section
variable {E : Nat → Bool} {L : Nat → Nat → Option Int} {n : Nat}
def goodV (E : Nat → Bool) (L : Nat → Nat → Option Int) (n : Nat) (m : Int) (i : Nat) (v : Int) (j : Nat) : Bool := decide (0 ≤ wcnd E L n m i j ∧ wcnd E L n m i j = v)
theorem wB_none (hL : ∀ i j c, L i j = some c → 0 ≤ c) {m : Int} {i : Nat} (h : i < n) (hc : ¬ 0 ≤ wC E L n m i) : wB E L n m i = [] := by
  rw [wB_eq m h]
  split
  · rfl
  · have : (jsL n i).find? (goodW E L n m i) = none := by
      rw [List.find?_eq_none]
      intro j hj hg
      simp only [goodW, decide_eq_true_eq] at hg
      exact hc (by rw [← hg.2]; exact hg.1)
    rw [this]
def restV (E : Nat → Bool) (L : Nat → Nat → Option Int) (n : Nat) (m : Int) (i : Nat) (v : Int) (l : List Nat) : List Int := if isEnd E m i then [] else match l.find? (goodV E L n m i v) with
  | some j => (j : Int) :: wB E L n (nxM m) j
  | none => []
def sumV (E : Nat → Bool) (L : Nat → Nat → Option Int) (n : Nat) (m : Int) (i : Nat) (l : List Nat) : Int := (if isEnd E m i then 1 else 0) + (l.map fun j => if (lM L m i j).isSome then wW E L n (nxM m) j else 0).sum
theorem outV_eq (hL : ∀ i j c, L i j = some c → 0 ≤ c) {m : Int} {i : Nat} (hi : i < n) : ∀ (l : List Nat), l.Pairwise (· < ·) → (∀ j ∈ l, i < j ∧ j < n) →
    outV E L n m i l = (decide (0 ≤ oF (wcnd E L n m i) (onB E m i) l), if 0 ≤ oF (wcnd E L n m i) (onB E m i) l then oF (wcnd E L n m i) (onB E m i) l else 0, restV E L n m i (oF (wcnd E L n m i) (onB E m i) l) l, sumV E L n m i l)
  | [], _, _ => by
    show ((isEnd E m i, 0, [], if isEnd E m i then 1 else 0) : PW) = (decide (0 ≤ onB E m i), if 0 ≤ onB E m i then onB E m i else 0, _, _)
    unfold onB restV sumV
    cases isEnd E m i <;> simp
  | j :: r, hp, hm => by
    have hp' := List.pairwise_cons.1 hp
    have ih := outV_eq hL (m := m) hi r hp'.2 fun k hk => hm k (by simp [hk])
    have hj := hm j (by simp)
    have sp := oF_spec (f := wcnd E L n m i) (onB_ge (E := E) m i).1 r fun k _ => cnd_ge hL _ _ _ _
    show stV E L n m i j (outV E L n m i r) = _
    rw [ih, oF_cons]
    generalize hv : oF (wcnd E L n m i) (onB E m i) r = v at sp ⊢
    have sumE : sumV E L n m i (j :: r) = sumV E L n m i r + if (lM L m i j).isSome then wW E L n (nxM m) j else 0 := by
      unfold sumV; rw [List.map_cons, List.sum_cons]; omega
    rw [sumE]
    by_cases hx : 0 ≤ wcnd E L n m i j
    · obtain ⟨c, b1, b2, b3, b4⟩ := cnd_some hx
      have el : lM L m i j = some c := by rw [lM, if_neg b1]; exact b2
      have b4 : wcnd E L n m i j = c + wC E L n (nxM m) j := b4
      unfold stV
      rw [el]
      simp only [Option.isSome_some, if_true]
      rw [if_pos b3]
      rw [← b4]
      by_cases he : isEnd E m i = true
      · have v0 : v = 0 := by
          have := sp.2.1 (by rw [(onB_ge m i).2.2 he]; omega)
          rw [(onB_ge m i).2.2 he] at this
          omega
        subst v0
        have eo : omin 0 (wcnd E L n m i j) = 0 := by unfold omin; (repeat' split) <;> omega
        rw [eo]
        have er : ∀ l, restV E L n m i 0 l = [] := fun l => by unfold restV; rw [if_pos he]
        rw [er, er]
        have hc : ¬ (decide (0 ≤ (0 : Int)) = false ∨ wcnd E L n m i j < (if 0 ≤ (0 : Int) then 0 else 0) ∨ (wcnd E L n m i j = (if 0 ≤ (0 : Int) then 0 else 0) ∧ lessL ((j : Int) :: wB E L n (nxM m) j) [] = true)) := by
          simp [lessL]; omega
        rw [if_neg hc]
        simp
      · by_cases h0 : 0 ≤ v
        · have hf : ∃ k ∈ r, wcnd E L n m i k = v := by
            rcases sp.2.2.2 h0 with e | e
            · rw [e] at h0
              exact absurd ((onB_ge m i).2.1 h0).2 he
            · exact e
          obtain ⟨k0, hk0, ek0⟩ := hf
          have hs : (r.find? (goodV E L n m i v)).isSome := by
            rw [List.find?_isSome]
            exact ⟨k0, hk0, by unfold goodV; rw [ek0]; simp [h0]⟩
          obtain ⟨k, ek⟩ := Option.isSome_iff_exists.1 hs
          have hk := List.mem_of_find?_eq_some ek
          have er : restV E L n m i v r = (k : Int) :: wB E L n (nxM m) k := by unfold restV; rw [if_neg he, ek]
          have jk : j < k := hp'.1 k hk
          rw [er]
          simp only [h0, if_true, decide_true]
          by_cases hle : wcnd E L n m i j ≤ v
          · have eo : omin v (wcnd E L n m i j) = wcnd E L n m i j := by unfold omin; (repeat' split) <;> omega
            rw [eo, if_pos (by
              by_cases e : wcnd E L n m i j = v
              · exact .inr (.inr ⟨e, by rw [lessL, if_neg (by omega)]; simp; omega⟩)
              · exact .inr (.inl (by omega)))]
            have er2 : restV E L n m i (wcnd E L n m i j) (j :: r) = (j : Int) :: wB E L n (nxM m) j := by
              unfold restV
              rw [if_neg he, List.find?_cons_of_pos (by unfold goodV; simp [hx])]
            rw [er2]
            simp [hx]
          · have eo : omin v (wcnd E L n m i j) = v := by unfold omin; (repeat' split) <;> omega
            rw [eo, if_neg (by
              rintro (h | h | h)
              · cases h
              · omega
              · omega)]
            have er2 : restV E L n m i v (j :: r) = (k : Int) :: wB E L n (nxM m) k := by
              unfold restV
              rw [if_neg he, List.find?_cons_of_neg (by unfold goodV; simp; omega), ek]
            rw [er2]
            simp [h0]
        · have eo : omin v (wcnd E L n m i j) = wcnd E L n m i j := by unfold omin; (repeat' split) <;> omega
          rw [eo, if_pos (.inl (by simp [h0]))]
          have er2 : restV E L n m i (wcnd E L n m i j) (j :: r) = (j : Int) :: wB E L n (nxM m) j := by
            unfold restV
            rw [if_neg he, List.find?_cons_of_pos (by unfold goodV; simp [hx])]
          rw [er2]
          simp [hx]
    · have eo : omin v (wcnd E L n m i j) = v := by unfold omin; rw [if_pos (by omega)]
      have er2 : restV E L n m i v (j :: r) = restV E L n m i v r := by
        unfold restV
        rw [List.find?_cons_of_neg (by unfold goodV; simp [hx])]
      rw [eo, er2]
      unfold stV
      cases el : lM L m i j with
      | none => simp
      | some c =>
        simp only [Option.isSome_some, if_true]
        have m1 : m ≠ 1 := fun e => by rw [lM, if_pos e] at el; cases el
        rw [lM, if_neg m1] at el
        have hg : ¬ 0 ≤ wC E L n (nxM m) j := fun g => hx (by
          have := cnd_of (g := wC E L n (nxM m)) m1 el g
          have := hL _ _ _ el
          unfold wcnd; omega)
        rw [if_neg hg, wW_zero hL hj.2 hg, Int.add_zero]
theorem js_pair (n i : Nat) : (jsL n i).Pairwise (· < ·) := List.pairwise_lt_range'
theorem outV_all (hL : ∀ i j c, L i j = some c → 0 ≤ c) {m : Int} {i : Nat} (hi : i < n) : outV E L n m i (jsL n i) = wV E L n m i := by
  rw [outV_eq hL hi _ (js_pair n i) fun j hj => mem_js.1 hj]
  unfold wV
  rw [wC_eq m hi, wB_eq m hi, wW_eq m hi]
  unfold restV sumV
  have : goodV E L n m i (oF (wcnd E L n m i) (onB E m i) (jsL n i)) = goodW E L n m i := by
    funext j; unfold goodV goodW; rw [wC_eq m hi]
  rw [this]
end
end Go.Proofs.Ytiaodmfipeoegaa.Ai
