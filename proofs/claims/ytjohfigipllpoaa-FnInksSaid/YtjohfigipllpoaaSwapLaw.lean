/- Plain laws on lines with inks: exchanged inks, told texts, formes. -/
import Derived.Test.YtjohfigipllpoaaInkLaw
namespace Go.Proofs.Ytjohfigipllpoaa.Ai
open Go Go.Proofs
set_option linter.unusedSimpArgs false
set_option linter.unusedVariables false

/-- Two texts, sign by sign. -/
def zipU (f : UInt8 → UInt8 → UInt8) : List UInt8 → List UInt8 → List UInt8
  | a :: x, b :: y => f a b :: zipU f x y
  | _, _ => []
theorem zipU_length (f : UInt8 → UInt8 → UInt8) : ∀ {x y : List UInt8}, y.length = x.length → (zipU f x y).length = x.length
  | [], [], _ => rfl
  | _ :: x, _ :: y, h => by rw [zipU, List.length_cons, zipU_length f (by simpa using h), List.length_cons]
theorem zipU_take (f : UInt8 → UInt8 → UInt8) : ∀ {x y : List UInt8} {i : Nat} {a b : UInt8}, x[i]? = some a → y[i]? = some b → zipU f (x.take (i + 1)) (y.take (i + 1)) = zipU f (x.take i) (y.take i) ++ [f a b]
  | a :: x, b :: y, 0, a', b', h1, h2 => by
    simp at h1 h2; subst h1; subst h2; simp [zipU]
  | a :: x, b :: y, i + 1, a', b', h1, h2 => by
    have := zipU_take f (x := x) (y := y) (i := i) (a := a') (b := b') (by simpa using h1) (by simpa using h2)
    simp only [List.take_succ_cons, zipU, List.cons_append, this]
theorem zipU_all (f : UInt8 → UInt8 → UInt8) {x y : List UInt8} {i : Nat} (h1 : x.length ≤ i) (h2 : y.length ≤ i) : zipU f (x.take i) (y.take i) = zipU f x y := by
  rw [List.take_of_length_le h1, List.take_of_length_le h2]
theorem zipU_at (f : UInt8 → UInt8 → UInt8) : ∀ {x y : List UInt8} {i : Nat} {a b : UInt8}, x[i]? = some a → y[i]? = some b → (zipU f x y)[i]? = some (f a b)
  | a :: x, b :: y, 0, a', b', h1, h2 => by simp at h1 h2; subst h1; subst h2; rfl
  | a :: x, b :: y, i + 1, a', b', h1, h2 => by
    rw [zipU, List.getElem?_cons_succ]; exact zipU_at f (by simpa using h1) (by simpa using h2)
/-- What a row that is written over looks like on the way. -/
def ovU (z x : List UInt8) (i : Nat) : List UInt8 := z.take i ++ x.drop i
theorem ovU_zero (z x : List UInt8) : ovU z x 0 = x := rfl
theorem ovU_end {z x : List UInt8} {i : Nat} (h1 : z.length ≤ i) (h2 : x.length ≤ i) : ovU z x i = z := by
  rw [ovU, List.take_of_length_le h1, List.drop_of_length_le h2, List.append_nil]
theorem ovU_at {z x : List UInt8} {i j : Nat} (h : z.length = x.length) (hj : i ≤ j) : (ovU z x i)[j]? = x[j]? := by
  by_cases hx : i ≤ x.length
  · rw [ovU, List.getElem?_append_right (by rw [List.length_take]; omega), List.getElem?_drop, List.length_take]
    congr 1; omega
  · rw [ovU, List.take_of_length_le (by omega), List.drop_of_length_le (by omega), List.append_nil, List.getElem?_eq_none (by omega), List.getElem?_eq_none (by omega)]
theorem ovU_set {z x : List UInt8} {i : Nat} {a : UInt8} (h : z[i]? = some a) (hl : z.length = x.length) : (ovU z x i).set i a = ovU z x (i + 1) := by
  have hi := (List.getElem?_eq_some_iff.1 h).1
  unfold ovU
  rw [List.set_append_right _ _ (by rw [List.length_take]; omega), List.length_take, Nat.min_eq_left (by omega), Nat.sub_self, List.take_add_one, h, List.drop_eq_getElem_cons (show i < x.length by omega)]
  simp only [Option.toList_some, List.set_cons_zero, List.append_assoc, List.singleton_append]
theorem ovU_keep {z x : List UInt8} {i : Nat} {a : UInt8} (h : z[i]? = some a) (hx : x[i]? = some a) (hl : z.length = x.length) : ovU z x i = ovU z x (i + 1) := by
  rw [← ovU_set h hl]
  apply List.ext_getElem?
  intro j
  rw [List.getElem?_set]
  split
  · rename_i e
    subst e
    rw [ovU_at hl (Nat.le_refl _), hx]
    rw [if_pos]
    have hi := (List.getElem?_eq_some_iff.1 h).1
    simp only [ovU, List.length_append, List.length_take, List.length_drop]; omega
  · rfl
theorem ovU_length {z x : List UInt8} (i : Nat) (hl : z.length = x.length) : (ovU z x i).length = x.length := by
  simp only [ovU, List.length_append, List.length_take, List.length_drop]; omega

def swC (t c : UInt8) : UInt8 := if (c.toNat : Int) = 98 ∧ (t.toNat : Int) ≠ 32 then 114 else 98
def swF (x : Inked) : Inked := (x.1, zipU swC x.1 x.2)
def swapA (x : Inked) : Inked × Bool := if okInked x then (swF x, true) else (([], []), false)
def upC (t c : UInt8) : UInt8 := if (c.toNat : Int) = 114 then t - 32 else t
def textA (x : Inked) : List UInt8 × Bool := if okInked x then (zipU upC x.1 x.2, true) else ([], false)
def foC (k : UInt8) (t c : UInt8) : UInt8 := if (c.toNat : Int) = k.toNat then t else 32
def foF (k : UInt8) (x : Inked) : List UInt8 := zipU (foC k) x.1 x.2
def formeA (x : Inked) (k : List UInt8) : List UInt8 × Bool := if okInked x && isInkB k then (foF (k.headD 0) x, true) else ([], false)
def laT (b r : UInt8) : UInt8 := if (r.toNat : Int) = 32 then b else r
def laK (b r : UInt8) : UInt8 := if (r.toNat : Int) = 32 then 98 else 114
/-- Whether no place of both formes is taken twice. -/
def apartB : List UInt8 → List UInt8 → Bool
  | b :: x, r :: y => (decide ((r.toNat : Int) = 32) || decide ((b.toNat : Int) = 32)) && apartB x y
  | _, _ => true
theorem apart_drop {t c : List UInt8} {i : Nat} {x y : UInt8} (hx : t[i]? = some x) (hy : c[i]? = some y) : apartB (t.drop i) (c.drop i) = ((decide ((y.toNat : Int) = 32) || decide ((x.toNat : Int) = 32)) && apartB (t.drop (i + 1)) (c.drop (i + 1))) := by
  have h1 := (List.getElem?_eq_some_iff.1 hx).1
  have h2 := (List.getElem?_eq_some_iff.1 hy).1
  rw [List.drop_eq_getElem_cons h1, List.drop_eq_getElem_cons h2, apartB, (List.getElem?_eq_some_iff.1 hx).2, (List.getElem?_eq_some_iff.1 hy).2]
theorem apart_end {t c : List UInt8} {i : Nat} (h : t.length ≤ i) : apartB (t.drop i) (c.drop i) = true := by
  rw [List.drop_of_length_le h]; rfl
def formeB (s : List UInt8) : Bool := plainB s && inB s.length 0 30
def layA (b r : List UInt8) : Inked × Bool := if (formeB b && formeB r) && (decide (b.length = r.length) && apartB b r) then ((zipU laT b r, zipU laK b r), true) else (([], []), false)
def upB (c : UInt8) : Bool := decide (65 ≤ (c.toNat : Int)) && decide ((c.toNat : Int) ≤ 90)
def loC (c : UInt8) : UInt8 := if upB c then c + 32 else c
def kiC (c : UInt8) : UInt8 := if upB c then 114 else 98
def readF (s : List UInt8) : Inked := (s.map loC, s.map kiC)
def readA (s : List UInt8) : Inked × Bool := if okInked (readF s) then (readF s, true) else (([], []), false)
/-- The letters of an ink. -/
def cntU (k : UInt8) : List UInt8 → List UInt8 → Int
  | t :: x, c :: y => (if (t.toNat : Int) ≠ 32 ∧ (c.toNat : Int) = k.toNat then 1 else 0) + cntU k x y
  | _, _ => 0
theorem cntU_take (k : UInt8) : ∀ {x y : List UInt8} {i : Nat} {a b : UInt8}, x[i]? = some a → y[i]? = some b → cntU k (x.take (i + 1)) (y.take (i + 1)) = cntU k (x.take i) (y.take i) + (if (a.toNat : Int) ≠ 32 ∧ (b.toNat : Int) = k.toNat then 1 else 0)
  | a :: x, b :: y, 0, a', b', h1, h2 => by
    simp only [List.getElem?_cons_zero, Option.some.injEq] at h1 h2; subst h1; subst h2; simp [cntU]
  | a :: x, b :: y, i + 1, a', b', h1, h2 => by
    have := cntU_take k (x := x) (y := y) (i := i) (a := a') (b := b') (by simpa using h1) (by simpa using h2)
    simp only [List.take_succ_cons, cntU, this]; omega
theorem cntU_all (k : UInt8) {x y : List UInt8} {i : Nat} (h1 : x.length ≤ i) (h2 : y.length ≤ i) : cntU k (x.take i) (y.take i) = cntU k x y := by
  rw [List.take_of_length_le h1, List.take_of_length_le h2]
def countA (x : Inked) (k : List UInt8) : Int × Bool := if okInked x && isInkB k then (cntU (k.headD 0) x.1 x.2, true) else (0, false)
/-- How many spaces a text has. -/
def spcU : List UInt8 → Int
  | [] => 0
  | t :: x => (if (t.toNat : Int) = 32 then 1 else 0) + spcU x
def letU : List UInt8 → Int
  | [] => 0
  | t :: x => (if (t.toNat : Int) ≠ 32 then 1 else 0) + letU x
theorem letU_take : ∀ {x : List UInt8} {i : Nat} {a : UInt8}, x[i]? = some a → letU (x.take (i + 1)) = letU (x.take i) + (if (a.toNat : Int) ≠ 32 then 1 else 0)
  | a :: x, 0, a', h1 => by simp only [List.getElem?_cons_zero, Option.some.injEq] at h1; subst h1; simp [letU]
  | a :: x, i + 1, a', h1 => by
    have := letU_take (x := x) (i := i) (a := a') (by simpa using h1)
    simp only [List.take_succ_cons, letU, this]; omega
theorem letU_bound : ∀ x : List UInt8, 0 ≤ letU x ∧ letU x ≤ x.length
  | [] => by simp [letU]
  | a :: x => by have := letU_bound x; simp only [letU, List.length_cons]; split <;> omega
theorem cntU_bound (k : UInt8) : ∀ x y : List UInt8, 0 ≤ cntU k x y ∧ cntU k x y ≤ x.length
  | [], _ => by simp [cntU]
  | _ :: _, [] => by simp [cntU]; omega
  | a :: x, b :: y => by have := cntU_bound k x y; simp only [cntU, List.length_cons]; split <;> omega
theorem inkB_cons {t c : UInt8} {ts cs : List UInt8} (h : inkB (t :: ts) (c :: cs) = true) : inkC t c = true ∧ inkB ts cs = true := by rw [inkB, Bool.and_eq_true] at h; exact h
theorem inkC_two {t c : UInt8} (h : inkC t c = true) : (c = 98 ∨ c = 114 ∧ t ≠ 32) := by
  simp only [inkC, Bool.or_eq_true, Bool.and_eq_true, decide_eq_true_eq, Bool.not_eq_true', decide_eq_false_iff_not] at h
  rcases h with h | ⟨h1, h2⟩
  · exact .inl (u8_eq (by rw [h]; rfl))
  · refine .inr ⟨u8_eq (by rw [h1]; rfl), fun e => h2 (by rw [e]; rfl)⟩
theorem spc_forme (k : UInt8) : ∀ {t c : List UInt8}, c.length = t.length → ((zipU (foC k) t c).length : Int) - spcU (zipU (foC k) t c) = cntU k t c
  | [], [], _ => by simp [zipU, spcU, cntU]
  | a :: x, b :: y, h => by
    have := spc_forme k (t := x) (c := y) (by simpa using h)
    simp only [zipU, spcU, cntU, List.length_cons]
    by_cases h1 : (b.toNat : Int) = k.toNat
    · have e : foC k a b = a := if_pos h1
      rw [e]
      by_cases h2 : (a.toNat : Int) = 32
      · rw [if_pos h2, if_neg (fun e => e.1 h2)]; omega
      · rw [if_neg h2, if_pos ⟨h2, h1⟩]; omega
    · have e : foC k a b = 32 := if_neg h1
      rw [e, if_pos (by decide), if_neg (fun e => h1 e.2)]; omega
theorem cnt_two : ∀ {t c : List UInt8}, c.length = t.length → inkB t c = true → cntU 98 t c + cntU 114 t c = letU t
  | [], [], _, _ => rfl
  | a :: x, b :: y, h, hb => by
    obtain ⟨h1, h2⟩ := inkB_cons hb
    have := cnt_two (t := x) (c := y) (by simpa using h) h2
    simp only [cntU, letU]
    rcases inkC_two h1 with rfl | ⟨rfl, h3⟩
    · have e1 : ((98 : UInt8).toNat : Int) = (98 : UInt8).toNat := rfl
      by_cases h4 : (a.toNat : Int) = 32
      · rw [if_neg (fun e => e.1 h4), if_neg (fun e => e.1 h4), if_neg (fun e => e h4)]; omega
      · rw [if_pos ⟨h4, rfl⟩, if_neg (fun e => absurd e.2 (by decide)), if_pos h4]; omega
    · have h4 : (a.toNat : Int) ≠ 32 := fun e => h3 (u8_eq (by rw [e]; rfl))
      rw [if_neg (fun e => absurd e.2 (by decide)), if_pos ⟨h4, rfl⟩, if_pos h4]; omega
theorem sw_ink : ∀ {t c : List UInt8}, c.length = t.length → inkB t c = true → inkB t (zipU swC t c) = true ∧ zipU swC t (zipU swC t c) = c
  | [], [], _, _ => ⟨rfl, rfl⟩
  | a :: x, b :: y, h, hb => by
    obtain ⟨h1, h2⟩ := inkB_cons hb
    obtain ⟨i1, i2⟩ := sw_ink (t := x) (c := y) (by simpa using h) h2
    rcases inkC_two h1 with rfl | ⟨rfl, h3⟩
    · by_cases h4 : (a.toNat : Int) = 32
      · have e : swC a 98 = 98 := by rw [swC, if_neg (fun e => e.2 h4)]
        simp only [zipU, e, i2, inkB, h1, i1]; simp
      · have e : swC a 98 = 114 := by rw [swC, if_pos ⟨rfl, h4⟩]
        have e2 : swC a 114 = 98 := by rw [swC, if_neg (fun e => absurd e.1 (by decide))]
        have e3 : inkC a 114 = true := by rw [inkC, decide_eq_true (show ((114 : UInt8).toNat : Int) = 114 from rfl), decide_eq_false h4]; simp
        simp only [zipU, e, e2, i2, inkB, e3, i1]; simp
    · have h4 : (a.toNat : Int) ≠ 32 := fun e => h3 (u8_eq (by rw [e]; rfl))
      have e : swC a 114 = 98 := by rw [swC, if_neg (fun e => absurd e.1 (by decide))]
      have e2 : swC a 98 = 114 := by rw [swC, if_pos ⟨rfl, h4⟩]
      have e3 : inkC a 98 = true := by rw [inkC, decide_eq_true (show ((98 : UInt8).toNat : Int) = 98 from rfl)]; rfl
      simp only [zipU, e, e2, i2, inkB, e3, i1]; simp
theorem okInked_of {t c : List UInt8} (h1 : plainB t = true) (h2 : t.length ≤ 30) (h3 : c.length = t.length) (h4 : inkB t c = true) : okInked (t, c) = true := by
  rw [okInked_def, h1, h4, inB, decide_eq_true (show (0 : Int) ≤ (t.length : Int) by omega), decide_eq_true (show (t.length : Int) ≤ 30 by omega), decide_eq_true h3]; rfl
theorem swap_back {x : Inked} (h : okInked x = true) : swapA (swF x) = (x, true) := by
  have ho := okInked_spec h
  obtain ⟨i1, i2⟩ := sw_ink ho.len ho.ink
  have h2 : okInked (swF x) = true := okInked_of ho.plain ho.few (zipU_length _ ho.len) i1
  rw [swapA, if_pos h2, swF, swF, i2]
theorem plain_two {t : UInt8} (h : plainC t = true) : t = 32 ∨ (97 ≤ (t.toNat : Int) ∧ (t.toNat : Int) ≤ 122) := by
  simp only [plainC, letB, Bool.or_eq_true, Bool.and_eq_true, decide_eq_true_eq] at h
  rcases h with h | h
  · exact .inl (u8_eq (by rw [h]; rfl))
  · exact .inr h
theorem sub32 {t : UInt8} (h : 97 ≤ (t.toNat : Int) ∧ (t.toNat : Int) ≤ 122) : ((t - 32).toNat : Int) = t.toNat - 32 := by
  have : (t - 32).toNat = (t.toNat + (256 - 32)) % 256 := by rw [UInt8.toNat_sub]; simp; omega
  omega
theorem read_up : ∀ {t c : List UInt8}, c.length = t.length → plainB t = true → inkB t c = true → (zipU upC t c).map loC = t ∧ (zipU upC t c).map kiC = c
  | [], [], _, _, _ => ⟨rfl, rfl⟩
  | a :: x, b :: y, h, hp, hb => by
    obtain ⟨h1, h2⟩ := inkB_cons hb
    have hp2 : plainC a = true ∧ plainB x = true := by simpa [plainB] using hp
    obtain ⟨i1, i2⟩ := read_up (t := x) (c := y) (by simpa using h) hp2.2 h2
    simp only [zipU, List.map_cons, i1, i2]
    rcases inkC_two h1 with rfl | ⟨rfl, h3⟩
    · have e : upC a 98 = a := by rw [upC, if_neg (by decide)]
      have e2 : upB a = false := by
        rcases plain_two hp2.1 with rfl | h4
        · decide
        · rw [upB, decide_eq_false (show ¬ (a.toNat : Int) ≤ 90 by omega)]; simp
      rw [e, loC, kiC, e2]; exact ⟨rfl, rfl⟩
    · have h4 : 97 ≤ (a.toNat : Int) ∧ (a.toNat : Int) ≤ 122 := by
        rcases plain_two hp2.1 with h4 | h4
        · exact absurd h4 h3
        · exact h4
      have h5 := sub32 h4
      have e : upC a 114 = a - 32 := by rw [upC, if_pos (by decide)]
      have e2 : upB (a - 32) = true := by rw [upB, decide_eq_true (by omega), decide_eq_true (by omega)]; rfl
      rw [e, loC, kiC, e2]
      refine ⟨?_, rfl⟩
      rw [if_pos rfl, UInt8.sub_add_cancel]
theorem read_back {x : Inked} (h : okInked x = true) : readA (zipU upC x.1 x.2) = (x, true) := by
  have ho := okInked_spec h
  obtain ⟨i1, i2⟩ := read_up ho.len ho.plain ho.ink
  have e : readF (zipU upC x.1 x.2) = x := by rw [readF, i1, i2]
  rw [readA, e, if_pos h]
theorem forme_plain (k : UInt8) : ∀ {t c : List UInt8}, c.length = t.length → plainB t = true → plainB (zipU (foC k) t c) = true
  | [], [], _, _ => rfl
  | a :: x, b :: y, h, hp => by
    have hp2 : plainC a = true ∧ plainB x = true := by simpa [plainB] using hp
    have ih := forme_plain k (t := x) (c := y) (by simpa using h) hp2.2
    have : plainC (foC k a b) = true := by
      unfold foC; split
      · exact hp2.1
      · rfl
    show (plainC (foC k a b) && plainB (zipU (foC k) x y)) = true
    rw [this, ih]; rfl
theorem lay_two : ∀ {t c : List UInt8}, c.length = t.length → inkB t c = true → apartB (zipU (foC 98) t c) (zipU (foC 114) t c) = true ∧
    zipU laT (zipU (foC 98) t c) (zipU (foC 114) t c) = t ∧ zipU laK (zipU (foC 98) t c) (zipU (foC 114) t c) = c
  | [], [], _, _ => ⟨rfl, rfl, rfl⟩
  | a :: x, b :: y, h, hb => by
    obtain ⟨h1, h2⟩ := inkB_cons hb
    obtain ⟨i1, i2, i3⟩ := lay_two (t := x) (c := y) (by simpa using h) h2
    rcases inkC_two h1 with rfl | ⟨rfl, h3⟩
    · have e1 : foC 98 a 98 = a := by rw [foC, if_pos rfl]
      have e2 : foC 114 a 98 = 32 := by rw [foC, if_neg (by decide)]
      simp only [zipU, e1, e2, apartB, i1, i2, i3]
      exact ⟨rfl, by rw [laT, if_pos (by decide)], by rw [laK, if_pos (by decide)]⟩
    · have h4 : (a.toNat : Int) ≠ 32 := fun e => h3 (u8_eq (by rw [e]; rfl))
      have e1 : foC 98 a 114 = 32 := by rw [foC, if_neg (by decide)]
      have e2 : foC 114 a 114 = a := by rw [foC, if_pos rfl]
      simp only [zipU, e1, e2, apartB, i1, i2, i3]
      exact ⟨by simp, by rw [laT, if_neg h4], by rw [laK, if_neg h4]⟩
theorem lay_back {x : Inked} (h : okInked x = true) : layA (foF 98 x) (foF 114 x) = (x, true) := by
  have ho := okInked_spec h
  obtain ⟨i1, i2, i3⟩ := lay_two ho.len ho.ink
  have l1 := zipU_length (foC 98) ho.len
  have l2 := zipU_length (foC 114) ho.len
  have g : ∀ k, formeB (zipU (foC k) x.1 x.2) = true := fun k => by
    rw [formeB, forme_plain k ho.len ho.plain, zipU_length (foC k) ho.len, inB, decide_eq_true (by omega), decide_eq_true (by have := ho.few; omega)]; rfl
  unfold layA foF
  rw [g, g, l1, l2, decide_eq_true rfl, i1, i2, i3]; rfl
/-- What the law asks of a line with inks. -/
theorem inks_law {x : Inked} (h : okInked x = true) : formeA x [98] = (foF 98 x, true) ∧ formeA x [114] = (foF 114 x, true) ∧ layA (foF 98 x) (foF 114 x) = (x, true) ∧ swapA (swF x) = (x, true) ∧
    readA (zipU upC x.1 x.2) = (x, true) ∧ countA x [98] = (cntU 98 x.1 x.2, true) ∧ countA x [114] = (cntU 114 x.1 x.2, true) ∧ cntU 98 x.1 x.2 + cntU 114 x.1 x.2 = letU x.1 :=
  ⟨by rw [formeA, h]; rfl, by rw [formeA, h]; rfl, lay_back h, swap_back h, read_back h, by rw [countA, h]; rfl, by rw [countA, h]; rfl, cnt_two (okInked_spec h).len (okInked_spec h).ink⟩
end Go.Proofs.Ytjohfigipllpoaa.Ai
