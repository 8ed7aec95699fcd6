/- Plain laws on fonts and inked lines. -/
import Derived.Test.YtngefbdedbbplaaRegLaw
namespace Go.Proofs.Ytngefbdedbbplaa.Ai
open Go Go.Proofs
set_option linter.unusedSimpArgs false
set_option linter.unusedVariables false

/-- Code, Set. -/
abbrev FSort := List UInt8 × Int
/-- Text, Inks. -/
abbrev Inked := List UInt8 × List UInt8
def cSort (x : FSort) : List PV := [.str x.1, .int .i64 x.2]
def cInked (x : Inked) : List PV := [.str x.1, .str x.2]

def letB (x : UInt8) : Bool := decide (97 ≤ (x.toNat : Int)) && decide ((x.toNat : Int) ≤ 122)
def lettersB (s : List UInt8) : Bool := s.all letB
def plainC (x : UInt8) : Bool := decide ((x.toNat : Int) = 32) || letB x
def plainB (s : List UInt8) : Bool := s.all plainC
theorem all_drop {p : UInt8 → Bool} {s : List UInt8} {i : Nat} {x : UInt8} (h : s[i]? = some x) : (s.drop i).all p = (p x && (s.drop (i + 1)).all p) := by
  have hi := (List.getElem?_eq_some_iff.1 h).1
  rw [List.drop_eq_getElem_cons hi, List.all_cons, (List.getElem?_eq_some_iff.1 h).2]
theorem all_end {p : UInt8 → Bool} {s : List UInt8} {i : Nat} (h : s.length ≤ i) : (s.drop i).all p = true := by
  rw [List.drop_of_length_le h]; rfl
def okSort (x : FSort) : Bool := (lettersB x.1 && inB x.1.length 1 3) && inB x.2 1 54
def lessB (p : Option (List UInt8)) (s : List UInt8) : Bool := match p with
  | none => true
  | some q => Op.bytesLess q s
def okFontG : Option (List UInt8) → List FSort → Bool
  | _, [] => true
  | p, x :: r => okSort x && (lessB p x.1 && okFontG (some x.1) r)
def okFont (f : List FSort) : Bool := okFontG none f && inB f.length 1 32
def prevF (f : List FSort) (i : Int) : Option (List UInt8) := if i = 0 then none else (f[(i - 1).toNat]?).map Prod.fst
theorem prevF_zero {f : List FSort} {i : Int} (h : i ≤ 0) (h0 : 0 ≤ i) : prevF f i = none := by rw [prevF, if_pos (by omega)]
theorem prevF_some {f : List FSort} {i : Int} {x : FSort} (h : 0 < i) (hx : f[(i - 1).toNat]? = some x) : prevF f i = some x.1 := by rw [prevF, if_neg (by omega), hx]; rfl
theorem okFontG_step {p : Option (List UInt8)} {x : FSort} {r : List FSort} (h1 : okSort x = true) (h2 : lessB p x.1 = true) : okFontG p (x :: r) = okFontG (some x.1) r := by rw [okFontG, h1, h2]; rfl
theorem okFontG_bad {p : Option (List UInt8)} {x : FSort} {r : List FSort} (h : okSort x = false ∨ lessB p x.1 = false) : okFontG p (x :: r) = false := by
  rw [okFontG]
  rcases h with h | h
  · rw [h]; rfl
  · rw [h]; simp
theorem okFont_sets {f : List FSort} (h : okFont f = true) : (∀ x ∈ f, 1 ≤ x.2 ∧ x.2 ≤ 54) ∧ (1 ≤ f.length ∧ f.length ≤ 32) := by
  rw [okFont, Bool.and_eq_true] at h
  have hl := inB_spec h.2
  refine ⟨?_, by omega⟩
  have go : ∀ (f : List FSort) (p : Option (List UInt8)), okFontG p f = true → ∀ x ∈ f, 1 ≤ x.2 ∧ x.2 ≤ 54 := by
    intro f
    induction f with
    | nil => intro p _ x hx; cases hx
    | cons y r ih =>
      intro p h x hx
      simp only [okFontG, okSort, Bool.and_eq_true] at h
      rcases List.mem_cons.1 hx with rfl | hx
      · exact inB_spec h.1.2
      · exact ih _ h.2.2 x hx
  exact go f none h.1

def idxF (c : List UInt8) : List FSort → Int → Int
  | [], _ => -1
  | x :: r, i => if x.1 = c then i else idxF c r (i + 1)
theorem idxF_drop {c : List UInt8} {f : List FSort} {i : Nat} {x : FSort} (k : Int) (h : f[i]? = some x) : idxF c (f.drop i) k = if x.1 = c then k else idxF c (f.drop (i + 1)) (k + 1) := by
  have hi := (List.getElem?_eq_some_iff.1 h).1
  rw [List.drop_eq_getElem_cons hi, idxF, (List.getElem?_eq_some_iff.1 h).2]
theorem idxF_bound {c : List UInt8} : ∀ (f : List FSort) (i : Int), idxF c f i = -1 ∨ (i ≤ idxF c f i ∧ idxF c f i < i + f.length)
  | [], i => .inl rfl
  | x :: r, i => by
    unfold idxF
    split
    · right; simp only [List.length_cons]; omega
    · rcases idxF_bound (c := c) r (i + 1) with h | h
      · exact .inl h
      · right; simp only [List.length_cons]; omega
theorem idxF_in (c : List UInt8) (f : List FSort) : idxF c f 0 = -1 ∨ (0 ≤ idxF c f 0 ∧ idxF c f 0 < f.length) := by
  have := idxF_bound (c := c) f 0
  omega
def setAt (f : List FSort) (k : Int) : Int := ((f[k.toNat]?).map Prod.snd).getD 0
theorem setAt_some {f : List FSort} {k : Int} {x : FSort} (h : f[k.toNat]? = some x) : setAt f k = x.2 := by rw [setAt, h]; rfl
def setA (f : List FSort) (c : List UInt8) : Int × Bool := if okFont f && decide (0 ≤ idxF c f 0) then (setAt f (idxF c f 0), true) else (0, false)

/-- The inks of a line fit its text. -/
def inkC (t c : UInt8) : Bool := decide ((c.toNat : Int) = 98) || (decide ((c.toNat : Int) = 114) && !decide ((t.toNat : Int) = 32))
def inkB : List UInt8 → List UInt8 → Bool
  | t :: ts, c :: cs => inkC t c && inkB ts cs
  | _, _ => true
theorem inkB_drop {t c : List UInt8} {i : Nat} {x y : UInt8} (hx : t[i]? = some x) (hy : c[i]? = some y) : inkB (t.drop i) (c.drop i) = (inkC x y && inkB (t.drop (i + 1)) (c.drop (i + 1))) := by
  have h1 := (List.getElem?_eq_some_iff.1 hx).1
  have h2 := (List.getElem?_eq_some_iff.1 hy).1
  rw [List.drop_eq_getElem_cons h1, List.drop_eq_getElem_cons h2, inkB, (List.getElem?_eq_some_iff.1 hx).2, (List.getElem?_eq_some_iff.1 hy).2]
theorem inkB_end {t c : List UInt8} {i : Nat} (h : t.length ≤ i ∨ c.length ≤ i) : inkB (t.drop i) (c.drop i) = true := by
  rcases h with h | h
  · rw [List.drop_of_length_le h]; simp [inkB]
  · rw [List.drop_of_length_le h]; cases t.drop i <;> simp [inkB]
theorem inkB_at {t c : List UInt8} (h : inkB t c = true) {i : Nat} {x y : UInt8} (hx : t[i]? = some x) (hy : c[i]? = some y) : inkC x y = true := by
  induction t generalizing c i with
  | nil => simp at hx
  | cons a r ih =>
    cases c with
    | nil => simp at hy
    | cons b q =>
      rw [inkB, Bool.and_eq_true] at h
      cases i with
      | zero => simp at hx hy; rw [← hx, ← hy]; exact h.1
      | succ i => exact ih h.2 (by simpa using hx) (by simpa using hy)
def okInked (x : Inked) : Bool := (plainB x.1 && inB x.1.length 0 30) && (decide (x.2.length = x.1.length) && inkB x.1 x.2)
structure InkedOk (x : Inked) : Prop where
  plain : plainB x.1 = true
  few : x.1.length ≤ 30
  len : x.2.length = x.1.length
  ink : inkB x.1 x.2 = true
theorem okInked_spec {x : Inked} (h : okInked x = true) : InkedOk x := by
  simp only [okInked, Bool.and_eq_true, decide_eq_true_eq] at h
  have := inB_spec h.1.2
  exact ⟨h.1.1, by omega, h.2.1, h.2.2⟩
theorem plain_low {s : List UInt8} (h : plainB s = true) {i : Nat} {x : UInt8} (hx : s[i]? = some x) : x.toNat < 128 := by
  have := List.all_eq_true.1 h x (List.mem_of_getElem? hx)
  simp only [plainC, letB, Bool.or_eq_true, Bool.and_eq_true, decide_eq_true_eq] at this
  omega
theorem u8_eq {x y : UInt8} (h : (x.toNat : Int) = y.toNat) : x = y := UInt8.toNat_inj.1 (Int.ofNat_inj.1 h)

/-- The two inks. -/
def isInkB (k : List UInt8) : Bool := decide (k = [98]) || decide (k = [114])
def blG (f : List FSort) (k : UInt8) : List UInt8 → List UInt8 → Int → Int × Bool
  | t :: ts, c :: cs, a => if (t.toNat : Int) = 32 then blG f k ts cs a else if idxF [t] f 0 < 0 then (0, false) else blG f k ts cs (if c = k then a else a + setAt f (idxF [t] f 0))
  | _, _, a => (a, true)
theorem blG_drop (f : List FSort) (k : UInt8) {t c : List UInt8} {i : Nat} {x y : UInt8} (a : Int) (hx : t[i]? = some x) (hy : c[i]? = some y) :
    blG f k (t.drop i) (c.drop i) a = if (x.toNat : Int) = 32 then blG f k (t.drop (i + 1)) (c.drop (i + 1)) a else if idxF [x] f 0 < 0 then (0, false) else blG f k (t.drop (i + 1)) (c.drop (i + 1)) (if y = k then a else a + setAt f (idxF [x] f 0)) := by
  have h1 := (List.getElem?_eq_some_iff.1 hx).1
  have h2 := (List.getElem?_eq_some_iff.1 hy).1
  rw [List.drop_eq_getElem_cons h1, List.drop_eq_getElem_cons h2, blG, (List.getElem?_eq_some_iff.1 hx).2, (List.getElem?_eq_some_iff.1 hy).2]
theorem blG_end (f : List FSort) (k : UInt8) {t c : List UInt8} {i : Nat} (a : Int) (h : t.length ≤ i ∨ c.length ≤ i) : blG f k (t.drop i) (c.drop i) a = (a, true) := by
  rcases h with h | h
  · rw [List.drop_of_length_le h]; simp [blG]
  · rw [List.drop_of_length_le h]; cases t.drop i <;> simp [blG]
def blankA (f : List FSort) (x : Inked) (k : List UInt8) : Int × Bool := if okFont f && (okInked x && isInkB k) then blG f (k.headD 0) x.1 x.2 0 else (0, false)
theorem isInk_two {k : List UInt8} (h : isInkB k = true) : k = [98] ∨ k = [114] := by simpa [isInkB] using h
theorem isInk_head {k : List UInt8} (h : isInkB k = true) : k = [k.headD 0] ∧ (k.headD 0 = 98 ∨ k.headD 0 = 114) := by
  rcases isInk_two h with rfl | rfl <;> simp
/-- The letters' widths. -/
def sumS (f : List FSort) : List UInt8 → Int
  | [] => 0
  | t :: ts => (if (t.toNat : Int) = 32 then 0 else setAt f (idxF [t] f 0)) + sumS f ts
def allIn (f : List FSort) (ts : List UInt8) : Prop := ∀ t ∈ ts, (t.toNat : Int) ≠ 32 → 0 ≤ idxF [t] f 0
theorem blG_all (f : List FSort) (k : UInt8) : ∀ (t c : List UInt8) (a n : Int), t.length = c.length → (n, true) = blG f k t c a → allIn f t
  | [], _, _, _, _, _ => fun t ht => by cases ht
  | t :: ts, [], _, _, hl, _ => by simp at hl
  | t :: ts, c :: cs, a, n, hl, h => by
    rw [blG] at h
    have hl' : ts.length = cs.length := by simpa using hl
    intro x hx hne
    split at h
    · rename_i e
      rcases List.mem_cons.1 hx with rfl | hx
      · exact absurd e hne
      · exact blG_all f k ts cs _ n hl' h x hx hne
    · split at h
      · simp at h
      · rename_i e
        rcases List.mem_cons.1 hx with rfl | hx
        · omega
        · exact blG_all f k ts cs _ n hl' h x hx hne
theorem blG_two (f : List FSort) : ∀ (t c : List UInt8) (a b : Int), t.length = c.length → allIn f t → inkB t c = true → ∃ n m, blG f 98 t c a = (n, true) ∧ blG f 114 t c b = (m, true) ∧ n + m = a + b + sumS f t
  | [], c, a, b, _, _, _ => ⟨a, b, by simp [blG], by simp [blG], by simp [sumS]⟩
  | t :: ts, [], _, _, hl, _, _ => by simp at hl
  | t :: ts, c :: cs, a, b, hl, ha, hi => by
    have hl' : ts.length = cs.length := by simpa using hl
    rw [inkB, Bool.and_eq_true] at hi
    have ih := fun a b => blG_two f ts cs a b hl' (fun x hx => ha x (by simp [hx])) hi.2
    by_cases e : (t.toNat : Int) = 32
    · obtain ⟨n, m, h1, h2, h3⟩ := ih a b
      exact ⟨n, m, by rw [blG, if_pos e]; exact h1, by rw [blG, if_pos e]; exact h2, by rw [sumS, if_pos e]; omega⟩
    · have hin := ha t (by simp) e
      have hc : c = 98 ∨ c = 114 := by
        have := hi.1
        simp only [inkC, Bool.or_eq_true, Bool.and_eq_true, decide_eq_true_eq] at this
        rcases this with h | h
        · exact .inl (u8_eq (by rw [h]; rfl))
        · exact .inr (u8_eq (by rw [h.1]; rfl))
      rcases hc with rfl | rfl
      · obtain ⟨n, m, h1, h2, h3⟩ := ih a (b + setAt f (idxF [t] f 0))
        refine ⟨n, m, ?_, ?_, by rw [sumS, if_neg e]; omega⟩
        · rw [blG, if_neg e, if_neg (by omega), if_pos rfl]; exact h1
        · rw [blG, if_neg e, if_neg (by omega), if_neg (by decide)]; exact h2
      · obtain ⟨n, m, h1, h2, h3⟩ := ih (a + setAt f (idxF [t] f 0)) b
        refine ⟨n, m, ?_, ?_, by rw [sumS, if_neg e]; omega⟩
        · rw [blG, if_neg e, if_neg (by omega), if_neg (by decide)]; exact h1
        · rw [blG, if_neg e, if_neg (by omega), if_pos rfl]; exact h2
theorem blank_ok {f : List FSort} {x : Inked} {k : List UInt8} {n : Int} (h : (n, true) = blankA f x k) : okFont f = true ∧ okInked x = true ∧ isInkB k = true ∧ allIn f x.1 := by
  unfold blankA at h
  split at h
  · rename_i hc
    simp only [Bool.and_eq_true] at hc
    refine ⟨hc.1, hc.2.1, hc.2.2, blG_all f _ x.1 x.2 0 n (okInked_spec hc.2.1).len.symm h⟩
  · simp at h
theorem blank_two {f : List FSort} {x : Inked} (h1 : okFont f = true) (h2 : okInked x = true) (h3 : allIn f x.1) : ∃ n m, blankA f x [98] = (n, true) ∧ blankA f x [114] = (m, true) ∧ n + m = sumS f x.1 := by
  have hx := okInked_spec h2
  obtain ⟨n, m, e1, e2, e3⟩ := blG_two f x.1 x.2 0 0 hx.len.symm h3 hx.ink
  refine ⟨n, m, ?_, ?_, by omega⟩
  · rw [blankA, h1, h2, show isInkB [98] = true by decide]; exact e1
  · rw [blankA, h1, h2, show isInkB [114] = true by decide]; exact e2
theorem sumS_take {f : List FSort} : ∀ {t : List UInt8} {i : Nat} {x : UInt8}, t[i]? = some x → sumS f (t.take (i + 1)) = sumS f (t.take i) + (if (x.toNat : Int) = 32 then 0 else setAt f (idxF [x] f 0))
  | [], i, x, h => by simp at h
  | a :: r, 0, x, h => by simp at h; subst h; simp [sumS]
  | a :: r, i + 1, x, h => by
    have := sumS_take (f := f) (t := r) (i := i) (x := x) (by simpa using h)
    rw [List.take_succ_cons, List.take_succ_cons, sumS, sumS, this]; omega

/-! ### Runs of inks -/
def runG : List UInt8 → List UInt8 → List Int → Int → Int → List Int
  | t :: ts, c :: cs, rs, bl, la => if (t.toNat : Int) = 32 ∧ la = 0 then runG ts cs rs (bl + 1) la
    else if (t.toNat : Int) = 32 ∨ (c.toNat : Int) = la then runG ts cs (rs.set (rs.length - 1) (nth rs (rs.length - 1) + 1)) bl la else runG ts cs (rs ++ [bl + 1]) 0 c.toNat
  | _, _, rs, _, _ => rs
theorem runG_drop {t c : List UInt8} {i : Nat} {x y : UInt8} (rs : List Int) (bl : Int) (la : Int) (hx : t[i]? = some x) (hy : c[i]? = some y) :
    runG (t.drop i) (c.drop i) rs bl la = if (x.toNat : Int) = 32 ∧ la = 0 then runG (t.drop (i + 1)) (c.drop (i + 1)) rs (bl + 1) la
    else if (x.toNat : Int) = 32 ∨ (y.toNat : Int) = la then runG (t.drop (i + 1)) (c.drop (i + 1)) (rs.set (rs.length - 1) (nth rs (rs.length - 1) + 1)) bl la else runG (t.drop (i + 1)) (c.drop (i + 1)) (rs ++ [bl + 1]) 0 y.toNat := by
  have h1 := (List.getElem?_eq_some_iff.1 hx).1
  have h2 := (List.getElem?_eq_some_iff.1 hy).1
  rw [List.drop_eq_getElem_cons h1, List.drop_eq_getElem_cons h2, runG, (List.getElem?_eq_some_iff.1 hx).2, (List.getElem?_eq_some_iff.1 hy).2]
theorem runG_end {t c : List UInt8} {i : Nat} (rs : List Int) (bl : Int) (la : Int) (h : t.length ≤ i ∨ c.length ≤ i) : runG (t.drop i) (c.drop i) rs bl la = rs := by
  rcases h with h | h
  · rw [List.drop_of_length_le h]; simp [runG]
  · rw [List.drop_of_length_le h]; cases t.drop i <;> simp [runG]
def runsA (x : Inked) : List Int × Bool := if okInked x then (runG x.1 x.2 [] 0 0, true) else ([], false)
theorem sum_set_last {l : List Int} (h : l ≠ []) : (l.set (l.length - 1) (nth l (l.length - 1) + 1)).sum = l.sum + 1 := by
  obtain ⟨q, x, rfl⟩ : ∃ q x, l = q ++ [x] := ⟨l.dropLast, l.getLast h, (List.dropLast_concat_getLast h).symm⟩
  have e : (q ++ [x]).length - 1 = q.length := by simp
  rw [e, set_mid rfl, nth_mid rfl]
  simp [List.sum_append]; omega
/-- What the runs make up. -/
def RunI (rs : List Int) (bl : Int) (la : Int) (n : Int) : Prop := (la = 0 → rs = [] ∧ bl = n) ∧ (la ≠ 0 → rs ≠ [] ∧ bl = 0 ∧ rs.sum = n) ∧ (∀ x ∈ rs, 1 ≤ x) ∧ 0 ≤ bl
theorem runG_sum : ∀ (t c : List UInt8) (rs : List Int) (bl : Int) (la : Int) (n : Int), t.length = c.length → inkB t c = true → RunI rs bl la n → runG t c rs bl la = [] ∨ ((runG t c rs bl la).sum = n + t.length ∧ ∀ x ∈ runG t c rs bl la, 1 ≤ x)
  | [], c, rs, bl, la, n, _, _, h => by
    simp only [runG, List.length_nil]
    by_cases e : la = 0
    · exact .inl (h.1 e).1
    · right; exact ⟨by have := (h.2.1 e).2.2; omega, h.2.2.1⟩
  | t :: ts, [], _, _, _, _, hl, _, _ => by simp at hl
  | t :: ts, c :: cs, rs, bl, la, n, hl, hi, h => by
    have hl' : ts.length = cs.length := by simpa using hl
    rw [inkB, Bool.and_eq_true] at hi
    have hc : (c.toNat : Int) ≠ 0 := by
      intro e0
      have := hi.1
      simp only [inkC, Bool.or_eq_true, Bool.and_eq_true, decide_eq_true_eq] at this
      omega
    have ih := fun rs bl la n => runG_sum ts cs rs bl la n hl' hi.2
    have hn : ∀ m : Int, m + 1 + ts.length = m + (t :: ts).length := fun m => by simp only [List.length_cons]; omega
    rw [runG, ← hn]
    split
    · rename_i e
      refine ih rs (bl + 1) la (n + 1) ⟨fun e' => ?_, fun e' => absurd e.2 e', h.2.2.1, by have := h.2.2.2; omega⟩
      have := h.1 e'
      exact ⟨this.1, by omega⟩
    · rename_i e
      split
      · rename_i e2
        have hla : la ≠ 0 := by
          rintro rfl
          rcases e2 with e2 | e2
          · exact e ⟨e2, rfl⟩
          · exact hc e2
        obtain ⟨h1, h2, h3⟩ := h.2.1 hla
        refine ih _ bl la (n + 1) ⟨fun e' => absurd e' hla, fun _ => ⟨?_, h2, by rw [sum_set_last h1]; omega⟩, fun x hx => ?_, h.2.2.2⟩
        · intro e'
          have := congrArg List.length e'
          simp at this
          exact h1 this
        · rcases List.mem_or_eq_of_mem_set hx with hx | rfl
          · exact h.2.2.1 x hx
          · have hp : rs.length - 1 < rs.length := by have := List.length_pos_iff.2 h1; omega
            have hm : rs[rs.length - 1]? = some rs[rs.length - 1] := List.getElem?_eq_getElem hp
            rw [nth_some hm]
            have := h.2.2.1 _ (List.mem_of_getElem? hm)
            omega
      · rename_i e2
        refine ih _ 0 c.toNat (n + 1) ⟨fun e' => absurd e' hc, fun _ => ⟨by simp, rfl, ?_⟩, fun x hx => ?_, Int.le_refl _⟩
        · rw [List.sum_append]
          by_cases e' : la = 0
          · obtain ⟨rfl, e3⟩ := h.1 e'
            simp; omega
          · have := h.2.1 e'
            simp; omega
        · rcases List.mem_append.1 hx with hx | hx
          · exact h.2.2.1 x hx
          · rw [List.mem_singleton.1 hx]; have := h.2.2.2; omega
theorem runs_val {x : Inked} {rs : List Int} (h : (rs, true) = runsA x) : okInked x = true ∧ (rs = [] ∨ (rs.sum = x.1.length ∧ ∀ y ∈ rs, 1 ≤ y)) := by
  unfold runsA at h
  split at h
  · rename_i hc
    have hx := okInked_spec hc
    refine ⟨hc, ?_⟩
    obtain rfl := (Prod.mk.inj h).1
    have := runG_sum x.1 x.2 [] 0 0 0 hx.len.symm hx.ink ⟨fun _ => ⟨rfl, rfl⟩, fun e => absurd rfl e, (fun y hy => by cases hy), Int.le_refl _⟩
    simpa using this
  · simp at h
theorem runs_ok {x : Inked} {rs : List Int} {ok : Bool} (h : (rs, ok) = runsA x) : okInked x = ok := by
  unfold runsA at h
  split at h <;> simp_all
theorem letB_lo {x : UInt8} {c : Int} (h : c = x.toNat) (h2 : c < 97) : letB x = false := by rw [letB, ← h, decide_eq_false (by omega)]; rfl
theorem letB_hi {x : UInt8} {c : Int} (h : c = x.toNat) (h2 : 122 < c) : letB x = false := by rw [letB, ← h, decide_eq_false (show ¬ c ≤ 122 by omega)]; simp
theorem letB_in {x : UInt8} {c : Int} (h : c = x.toNat) (h2 : 97 ≤ c ∧ c ≤ 122) : letB x = true := by rw [letB, ← h, decide_eq_true h2.1, decide_eq_true h2.2]; rfl
theorem plainC_sp {x : UInt8} {c : Int} (h : c = x.toNat) (h2 : c = 32) : plainC x = true := by rw [plainC, ← h, decide_eq_true h2]; rfl
theorem plainC_yes {x : UInt8} {c : Int} (h : c = x.toNat) (h2 : 97 ≤ c ∧ c ≤ 122) : plainC x = true := by rw [plainC, letB_in h h2]; simp
theorem plainC_no {x : UInt8} {c : Int} (h : c = x.toNat) (h1 : c ≠ 32) (h2 : c < 97 ∨ 122 < c) : plainC x = false := by
  rw [plainC, ← h, decide_eq_false h1]
  rcases h2 with h2 | h2
  · rw [letB_lo h h2]; rfl
  · rw [letB_hi h h2]; rfl
theorem inkC_b {y : UInt8} {c : Int} (t : UInt8) (h : c = y.toNat) (h2 : c = 98) : inkC t y = true := by rw [inkC, ← h, decide_eq_true h2]; rfl
theorem inkC_r {t y : UInt8} {c d : Int} (h : c = y.toNat) (h2 : c = 114) (ht : d = t.toNat) (h3 : d ≠ 32) : inkC t y = true := by rw [inkC, ← h, ← ht, decide_eq_true h2, decide_eq_false h3]; simp
theorem inkC_n1 {y : UInt8} {c : Int} (t : UInt8) (h : c = y.toNat) (h1 : c ≠ 98) (h2 : c ≠ 114) : inkC t y = false := by rw [inkC, ← h, decide_eq_false h1, decide_eq_false h2]; rfl
theorem inkC_n2 {t y : UInt8} {c d : Int} (h : c = y.toNat) (h1 : c ≠ 98) (ht : d = t.toNat) (h3 : d = 32) : inkC t y = false := by rw [inkC, ← h, ← ht, decide_eq_false h1, decide_eq_true h3]; simp
theorem okInked_alt (x : Inked) : okInked x = (decide (x.1.length = x.2.length) && ((plainB x.1 && decide (x.1.length ≤ 30)) && inkB x.1 x.2)) := by
  have e1 : inB x.1.length 0 30 = decide (x.1.length ≤ 30) := by
    rw [inB, decide_eq_true (by omega), Bool.true_and, decide_eq_decide]; omega
  have e2 : decide (x.2.length = x.1.length) = decide (x.1.length = x.2.length) := by rw [decide_eq_decide]; exact eq_comm
  rw [okInked, e1, e2]
  cases decide (x.1.length = x.2.length) <;> cases plainB x.1 <;> cases decide (x.1.length ≤ 30) <;> cases inkB x.1 x.2 <;> rfl
theorem okInked_def (a b : List UInt8) : okInked (a, b) = ((plainB a && inB a.length 0 30) && (decide (b.length = a.length) && inkB a b)) := rfl
theorem okInked_pair (a b : List UInt8) : okInked (a, b) = (decide (a.length = b.length) && ((plainB a && decide (a.length ≤ 30)) && inkB a b)) := okInked_alt (a, b)
theorem ink_two {t c : List UInt8} (h : inkB t c = true) {i : Nat} {x y : UInt8} (hx : t[i]? = some x) (hy : c[i]? = some y) : (y.toNat : Int) = 98 ∨ (y.toNat : Int) = 114 := by
  have := inkB_at h hx hy
  simp only [inkC, Bool.or_eq_true, Bool.and_eq_true, decide_eq_true_eq] at this
  omega
theorem head_at {u : List UInt8} {x : UInt8} (h : u[Int.toNat 0]? = some x) : u.headD 0 = x := by
  cases u with
  | nil => simp at h
  | cons a r => simpa using h
theorem isInk_len {k : List UInt8} (h : isInkB k = true) : (k.length : Int) = 1 := by rcases isInk_two h with rfl | rfl <;> rfl
theorem bump_eq {rs : List Int} {k : Nat} {x r : Int} (h : k = rs.length - 1) (hx : rs[k]? = some x) (h2 : r = x + 1) : rs.set k r = rs.set (rs.length - 1) (nth rs (rs.length - 1) + 1) := by
  rw [← h, nth_some hx, h2]
def inkN : List UInt8 → Int
  | [] => 0
  | c :: _ => c.toNat
def inkK (k : List UInt8) : Prop := k = [] ∨ ∃ c : UInt8, k = [c] ∧ (c.toNat : Int) ≠ 0
theorem inkN_ne {k : List UInt8} (h : inkK k) (hn : k ≠ []) : inkN k ≠ 0 := by
  rcases h with rfl | ⟨c, rfl, hc⟩
  · exact absurd rfl hn
  · exact hc
theorem inkN_same {k z : List UInt8} {c : UInt8} (hz : z = [c]) (e : z = k) : (c.toNat : Int) = inkN k := by rw [← e, hz]; rfl
theorem inkN_other {k z : List UInt8} {c : UInt8} (h : inkK k) (hz : z = [c]) (hc : (c.toNat : Int) ≠ 0) (e : z ≠ k) : (c.toNat : Int) ≠ inkN k := by
  rcases h with rfl | ⟨d, rfl, hd⟩
  · exact hc
  · intro e2
    exact e (by rw [hz, u8_eq e2])
def codesL : List (List UInt8) := [[97], [97, 98], [97, 98, 99], [98], [98, 98], [99], [100], [101], [102], [102, 102], [102, 105], [105]]
theorem codes_len : ∀ c ∈ codesL, (c.length : Int) ≤ 3 := by decide
theorem codes_many : codesL.length = 12 := rfl
def lettersL : List (List UInt8) := [[97], [98], [99], [100], [101], [102], [105], [32]]
theorem letters_len : ∀ c ∈ lettersL, (c.length : Int) = 1 := by decide
def wordL : List (List UInt8) := [[97], [98], [99], [97, 98], [98, 98], [97, 98, 99], [100], [101], [102], [102, 105]]
theorem wordL_len : ∀ c ∈ wordL, 1 ≤ (c.length : Int) ∧ (c.length : Int) ≤ 3 := by decide
def wordL2 : List (List UInt8) := [[], [65], [97, 32, 98], [97, 45, 98]]
theorem wordL2_len : ∀ c ∈ wordL2, (c.length : Int) ≤ 3 := by decide
def inksL : List (List UInt8) := [[98], [114], [98], [114], [98], [114], [103]]
theorem inks_len : ∀ c ∈ inksL, (c.length : Int) ≤ 1 := by decide
theorem setAt_bound {f : List FSort} (h : ∀ x ∈ f, 1 ≤ x.2 ∧ x.2 ≤ 54) (k : Int) : 0 ≤ setAt f k ∧ setAt f k ≤ 54 := by
  unfold setAt
  cases hx : f[k.toNat]? with
  | none => simp
  | some x => have := h x (List.mem_of_getElem? hx); simp; omega
theorem sumS_bound {f : List FSort} (h : ∀ x ∈ f, 1 ≤ x.2 ∧ x.2 ≤ 54) : ∀ t : List UInt8, 0 ≤ sumS f t ∧ sumS f t ≤ 54 * t.length
  | [] => by simp [sumS]
  | t :: ts => by
    have h1 := sumS_bound h ts
    have h2 := setAt_bound h (idxF [t] f 0)
    simp only [sumS, List.length_cons, Int.natCast_add]
    split <;> omega
theorem setA_at {f : List FSort} {c : List UInt8} {x : UInt8} {t : List UInt8} (hf : okFont f = true) (ha : allIn f t) (hx : x ∈ t) (hn : (x.toNat : Int) ≠ 32) (hc : c = [x]) : setA f c = (setAt f (idxF [x] f 0), true) := by
  rw [hc, setA, hf, decide_eq_true (ha x hx hn)]; rfl
theorem runs_fits {r : List Int} {n : Nat} (h : r = [] ∨ (r.sum = n ∧ ∀ y ∈ r, 1 ≤ y)) (hn : n ≤ 1000000) : SumFits r := by
  rcases h with rfl | ⟨h1, h2⟩
  · intro k; simp
  · have pos : ∀ l : List Int, (∀ y ∈ l, 1 ≤ y) → 0 ≤ l.sum := by
      intro l
      induction l with
      | nil => intro _; simp
      | cons a t ih =>
        intro hl
        have := ih fun y hy => hl y (by simp [hy])
        have := hl a (by simp)
        simp only [List.sum_cons]; omega
    intro k
    have e : (r.take k).sum + (r.drop k).sum = r.sum := by rw [← List.sum_append, List.take_append_drop]
    have := pos (r.take k) fun y hy => h2 y (List.mem_of_mem_take hy)
    have := pos (r.drop k) fun y hy => h2 y (List.mem_of_mem_drop hy)
    omega
end Go.Proofs.Ytngefbdedbbplaa.Ai
