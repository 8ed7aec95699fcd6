/- Plain laws on what is missing. -/
import Derived.Test.YtnamefdhmlbcpaaWithin
import Derived.Test.YtnamefdhmlbcpaaTrialLaw
namespace Go.Proofs.Ytnamefdhmlbcpaa.Ai
open Go Go.Proofs
set_option linter.unusedVariables false

theorem mem_put (l : List Int) (n i : Int) : i ∈ putF l n ↔ i ∈ l ∨ i = n := by
  have h := has_put l n i
  have e : ∀ xs : List Int, has xs i = true ↔ i ∈ xs := fun xs => by simp [has]
  rw [← e, ← e, h]
  simp only [Bool.or_eq_true, decide_eq_true_eq]
  constructor
  · rintro (h | h)
    · exact .inl h
    · exact .inr h.symm
  · rintro (h | h)
    · exact .inl h
    · exact .inr h.symm
theorem has_mem (xs : List Int) (i : Int) : has xs i = true ↔ i ∈ xs := by simp [has]
theorem put_sorted {l : List Int} {n : Int} (h : l.Pairwise (fun x y => x < y)) : (putF l n).Pairwise (fun x y => x < y) := by
  have e := List.takeWhile_append_dropWhile (p := fun x => decide (x < n)) (l := l)
  unfold putF
  split
  · exact h
  · rename_i hh
    have h' : (l.takeWhile (fun x => decide (x < n)) ++ l.dropWhile fun x => decide (x < n)).Pairwise (fun x y => x < y) := by rw [e]; exact h
    obtain ⟨h1, h2, h3⟩ := List.pairwise_append.1 h'
    have ht : ∀ a ∈ l.takeWhile (fun x => decide (x < n)), a < n := fun a ha => by
      have := List.all_takeWhile (p := fun x => decide (x < n)) (l := l)
      have := List.all_eq_true.1 this a ha
      simpa using this
    have hd : ∀ b ∈ l.dropWhile (fun x => decide (x < n)), n < b := by
      cases hq : l.dropWhile (fun x => decide (x < n)) with
      | nil => intro b hb; cases hb
      | cons y r =>
        rw [hq] at h2 hh
        have hy : ¬ (y < n) := by
          have := List.head?_dropWhile_not (p := fun x => decide (x < n)) l
          rw [hq] at this
          simpa using this
        have hne : y ≠ n := fun e => hh (by simp [e])
        intro b hb
        rcases List.mem_cons.1 hb with rfl | hb
        · omega
        · have := (List.pairwise_cons.1 h2).1 b hb
          omega
    refine List.pairwise_append.2 ⟨h1, List.pairwise_cons.2 ⟨hd, h2⟩, fun a ha b hb => ?_⟩
    rcases List.mem_cons.1 hb with rfl | hb
    · exact ht a ha
    · exact h3 a ha b hb

def putMs (ks : List Int) (n : Int) : List Int := if n ∈ ks then ks else ks ++ [n]
theorem mem_putMs (ks : List Int) (n i : Int) : i ∈ putMs ks n ↔ i ∈ ks ∨ i = n := by
  unfold putMs
  split
  · constructor
    · exact .inl
    · rintro (h | h)
      · exact h
      · rw [h]; assumption
  · simp
def putsM : List Int → List Int → List Int
  | W, [] => W
  | W, k :: r => putsM (putMs W k) r
theorem mem_putsM : ∀ (ks W : List Int) (i : Int), i ∈ putsM W ks ↔ i ∈ W ∨ i ∈ ks
  | [], W, i => by simp [putsM]
  | k :: r, W, i => by
    rw [putsM, mem_putsM r, mem_putMs, List.mem_cons]
    constructor
    · rintro ((h | h) | h)
      · exact .inl h
      · exact .inr (.inl h)
      · exact .inr (.inr h)
    · rintro (h | h | h)
      · exact .inl (.inl h)
      · exact .inl (.inr h)
      · exact .inr h
def putsS (set : List Int) : List Int → List Int → List Int
  | out, [] => out
  | out, k :: r => putsS set (if has set k = true then out else putF out k) r
theorem mem_putsS (set : List Int) : ∀ (ks out : List Int) (i : Int), i ∈ putsS set out ks ↔ i ∈ out ∨ (i ∈ ks ∧ has set i = false)
  | [], out, i => by simp [putsS]
  | k :: r, out, i => by
    rw [putsS, mem_putsS set r, List.mem_cons]
    by_cases hk : has set k = true
    · rw [if_pos hk]
      constructor
      · rintro (h | h)
        · exact .inl h
        · exact .inr ⟨.inr h.1, h.2⟩
      · rintro (h | ⟨h | h, h'⟩)
        · exact .inl h
        · rw [h, hk] at h'; cases h'
        · exact .inr ⟨h, h'⟩
    · rw [if_neg hk, mem_put]
      constructor
      · rintro ((h | h) | h)
        · exact .inl h
        · exact .inr ⟨.inl h, by rw [h]; simpa using hk⟩
        · exact .inr ⟨.inr h.1, h.2⟩
      · rintro (h | ⟨h | h, h'⟩)
        · exact .inl (.inl h)
        · exact .inl (.inr h)
        · exact .inr ⟨h, h'⟩
theorem putsS_sorted (set : List Int) : ∀ (ks : List Int) {out : List Int}, out.Pairwise (fun x y => x < y) → (putsS set out ks).Pairwise (fun x y => x < y)
  | [], _, h => h
  | k :: r, out, h => by
    rw [putsS]
    refine putsS_sorted set r ?_
    split
    · exact h
    · exact put_sorted h
theorem putsS_len (set : List Int) : ∀ (ks out : List Int), (putsS set out ks).length ≤ out.length + ks.length
  | [], out => by simp [putsS]
  | k :: r, out => by
    rw [putsS]
    refine Nat.le_trans (putsS_len set r _) ?_
    have := put_len out k
    simp only [List.length_cons]
    split <;> omega

def needsAt (l : List Craft) (n : Nat) : List Int := match l[n]? with
  | some c => c.1
  | none => []
theorem needsAt_some {l : List Craft} {n : Nat} {c : Craft} (h : l[n]? = some c) : needsAt l n = c.1 := by rw [needsAt, h]
def missI (l : List Craft) (set : List Int) : Nat → List Int → List Int → List Int
  | 0, _, L => L
  | n + 1, W, L => if (n : Int) ∈ W ∧ has set n = false then missI l set n (putsM W (needsAt l n)) (L ++ [(n : Int)]) else missI l set n W L
def missS (l : List Craft) (set : List Int) : Nat → List Int → List Int
  | 0, out => out
  | n + 1, out => if has out n = true then missS l set n (putsS set out (needsAt l n)) else missS l set n out
def missF (l : List Craft) (set : List Int) (craft : Int) : List Int := sortI (missI l set (craft + 1).toNat [craft] [])

theorem goodFrom_needs : ∀ {i : Int} {cs : List Craft} {k : Nat} {c : Craft}, goodFrom i cs = true → cs[k]? = some c → ∀ z ∈ c.1, 0 ≤ z ∧ z ≤ i + k - 1
  | _, [], _, _, _, hc => by simp at hc
  | i, (a, b) :: r, 0, c, h, hc => by
    simp only [goodFrom, Bool.and_eq_true] at h
    obtain rfl := Option.some.inj hc
    intro z hz
    have := rising_mem h.1.1 z hz
    constructor
    · exact this.1
    · have := this.2; omega
  | i, (a, b) :: r, k + 1, c, h, hc => by
    simp only [goodFrom, Bool.and_eq_true] at h
    intro z hz
    have := goodFrom_needs h.2 (by simpa using hc : r[k]? = some c) z hz
    constructor
    · exact this.1
    · have := this.2
      have e : ((k + 1 : Nat) : Int) = k + 1 := by omega
      rw [e]; omega
theorem needs_in {l : List Craft} {set : List Int} (h : asked l set = true) (n : Nat) : ∀ z ∈ needsAt l n, 0 ≤ z ∧ z < n := by
  intro z hz
  unfold needsAt at hz
  split at hz
  · rename_i c hc
    simp only [asked, good, Bool.and_eq_true] at h
    have := goodFrom_needs h.1.1 hc z hz
    omega
  · cases hz

structure MInv (set : List Int) (n : Nat) (W L out : List Int) : Prop where
  sorted : out.Pairwise (fun x y => x < y)
  low : ∀ j ∈ W, 0 ≤ j
  mem : ∀ j : Int, j ∈ out ↔ (j ∈ L ∨ (j ∈ W ∧ has set j = false ∧ j < n))
  big : ∀ j ∈ L, (n : Int) ≤ j
  dec : L.Pairwise (fun a b => b < a)

theorem miss_main {l : List Craft} {set : List Int} (h : asked l set = true) : ∀ (n : Nat) {W L out : List Int}, MInv set n W L out → sortI (missI l set n W L) = missS l set n out
  | 0, W, L, out, I => by
    rw [missI, missS]
    have hm : ∀ j, j ∈ out ↔ j ∈ L := fun j => by
      rw [I.mem]
      constructor
      · rintro (h | ⟨h, _, h'⟩)
        · exact h
        · have := I.low j h; omega
      · exact .inl
    refine (sortI_eq ?_ (I.sorted.imp fun h => by omega)).symm
    refine (List.perm_ext_iff_of_nodup ?_ ?_).2 hm
    · exact I.sorted.imp fun h => by omega
    · exact I.dec.imp fun h => by omega
  | n + 1, W, L, out, I => by
    rw [missI, missS]
    have hn : (n : Int) ∈ out ↔ ((n : Int) ∈ W ∧ has set n = false) := by
      rw [I.mem]
      constructor
      · rintro (h | h)
        · have := I.big _ h; omega
        · exact ⟨h.1, h.2.1⟩
      · exact fun h => .inr ⟨h.1, h.2, by omega⟩
    by_cases hc : (n : Int) ∈ W ∧ has set n = false
    · rw [if_pos hc, if_pos ((has_mem _ _).2 (hn.2 hc))]
      refine miss_main h n ⟨putsS_sorted set _ I.sorted, fun j hj => ?_, fun j => ?_, fun j hj => ?_, ?_⟩
      · rcases (mem_putsM _ _ _).1 hj with hj | hj
        · exact I.low j hj
        · exact (needs_in h n j hj).1
      · rw [mem_putsS, mem_putsM, I.mem, List.mem_append, List.mem_singleton]
        constructor
        · rintro ((h1 | ⟨h1, h2, h3⟩) | ⟨h1, h2⟩)
          · exact .inl (.inl h1)
          · by_cases e : j = n
            · exact .inl (.inr e)
            · exact .inr ⟨.inl h1, h2, by omega⟩
          · exact .inr ⟨.inr h1, h2, (needs_in h n j h1).2⟩
        · rintro ((h1 | h1) | ⟨h1 | h1, h2, h3⟩)
          · exact .inl (.inl h1)
          · exact .inl (.inr ⟨by rw [h1]; exact hc.1, by rw [h1]; exact hc.2, by omega⟩)
          · exact .inl (.inr ⟨h1, h2, by omega⟩)
          · exact .inr ⟨h1, h2⟩
      · rcases List.mem_append.1 hj with hj | hj
        · have := I.big j hj; omega
        · rw [List.mem_singleton.1 hj]; omega
      · refine List.pairwise_append.2 ⟨I.dec, by simp, fun a ha b hb => ?_⟩
        rw [List.mem_singleton.1 hb]
        have := I.big a ha
        omega
    · rw [if_neg hc, if_neg (fun hh => hc (hn.1 ((has_mem _ _).1 hh)))]
      refine miss_main h n ⟨I.sorted, I.low, fun j => ?_, fun j hj => by have := I.big j hj; omega, I.dec⟩
      rw [I.mem]
      constructor
      · rintro (h1 | ⟨h1, h2, h3⟩)
        · exact .inl h1
        · refine .inr ⟨h1, h2, ?_⟩
          have : j ≠ n := fun e => hc ⟨e ▸ h1, e ▸ h2⟩
          omega
      · rintro (h1 | ⟨h1, h2, h3⟩)
        · exact .inl h1
        · exact .inr ⟨h1, h2, by omega⟩

theorem miss_eq {l : List Craft} {set : List Int} {craft : Int} (h : asked l set = true) (h0 : 0 ≤ craft) (hs : has set craft = false) : missS l set (craft + 1).toNat [craft] = missF l set craft := by
  refine (miss_main h _ ⟨by simp, fun j hj => by rw [List.mem_singleton.1 hj]; exact h0, fun j => ?_, fun j hj => by (cases hj), .nil⟩).symm
  simp only [List.mem_singleton, List.not_mem_nil, false_or]
  constructor
  · rintro rfl; exact ⟨rfl, hs, by omega⟩
  · exact fun h => h.1
theorem missI_none {l : List Craft} {set : List Int} {craft : Int} : ∀ (n : Nat), (n : Int) ≤ craft → missI l set n [craft] [] = []
  | 0, _ => rfl
  | n + 1, h => by
    rw [missI, if_neg, missI_none n (by omega)]
    rintro ⟨h1, _⟩
    have := List.mem_singleton.1 h1
    omega
theorem miss_set {l : List Craft} {set : List Int} {craft : Int} (h0 : 0 ≤ craft) (hs : has set craft = true) : missF l set craft = [] := by
  unfold missF
  rw [show (craft + 1).toNat = craft.toNat + 1 by omega, missI, if_neg, missI_none _ (by omega)]
  · simp [sortI]
  · rintro ⟨_, h⟩
    rw [show ((craft.toNat : Nat) : Int) = craft by omega, hs] at h
    cases h
theorem missI_in {l : List Craft} {set : List Int} : ∀ (n : Nat) (W L : List Int), ∀ z ∈ missI l set n W L, z ∈ L ∨ (0 ≤ z ∧ z < n)
  | 0, _, _, z, hz => .inl hz
  | n + 1, W, L, z, hz => by
    rw [missI] at hz
    split at hz
    · rcases missI_in n _ _ z hz with h | h
      · rcases List.mem_append.1 h with h | h
        · exact .inl h
        · rw [List.mem_singleton.1 h]; exact .inr ⟨by omega, by omega⟩
      · exact .inr ⟨h.1, by omega⟩
    · rcases missI_in n _ _ z hz with h | h
      · exact .inl h
      · exact .inr ⟨h.1, by omega⟩
theorem missI_len {l : List Craft} {set : List Int} : ∀ (n : Nat) (W L : List Int), (missI l set n W L).length ≤ L.length + n
  | 0, _, _ => Nat.le_refl _
  | n + 1, W, L => by
    rw [missI]
    split
    · have := missI_len (l := l) (set := set) n (putsM W (needsAt l n)) (L ++ [(n : Int)])
      simp only [List.length_append, List.length_cons, List.length_nil] at this
      omega
    · have := missI_len (l := l) (set := set) n W L
      omega
theorem missF_in {l : List Craft} {set : List Int} {craft : Int} (h0 : 0 ≤ craft) (h1 : craft < l.length) : ∀ z ∈ missF l set craft, 0 ≤ z ∧ z < l.length := by
  intro z hz
  rcases missI_in _ _ _ z ((sortI_perm _).subset hz) with h | h
  · cases h
  · omega
theorem missF_len {l : List Craft} {set : List Int} {craft : Int} : (missF l set craft).length ≤ (craft + 1).toNat := by
  unfold missF
  rw [sortI_len]
  have := missI_len (l := l) (set := set) (craft + 1).toNat [craft] []
  simpa using this
def missAns (l : List Craft) (set : List Int) (craft : Int) : List Int × Bool := if asked l set && inB craft 0 (l.length - 1) then (missF l set craft, true) else ([], false)
theorem missAns_len (l : List Craft) (set : List Int) (craft : Int) : (missAns l set craft).1.length ≤ 10 := by
  unfold missAns
  split
  · rename_i h
    simp only [Bool.and_eq_true] at h
    have h1 := asked_le h.1
    have h2 := inB_spec h.2
    have := missF_len (l := l) (set := set) (craft := craft)
    show (missF l set craft).length ≤ 10
    omega
  · simp
def sumMo (l : List Craft) (zs : List Int) : Int := (zs.map (monthsAt l)).sum
def monthAns (l : List Craft) (set : List Int) (craft : Int) : Int × Bool := if asked l set && inB craft 0 (l.length - 1) then (sumMo l (missF l set craft), true) else (0, false)
end Go.Proofs.Ytnamefdhmlbcpaa.Ai
