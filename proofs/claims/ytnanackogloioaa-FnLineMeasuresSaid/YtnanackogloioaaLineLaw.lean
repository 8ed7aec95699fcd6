/- Plain laws on the measures of lines beside cut-ins. -/
import Derived.Test.YtnanackogloioaaCutLaw
import Derived.Test.YtnanackogloioaaCommon
namespace Go.Proofs.Ytnanackogloioaa.Ai
open Go Go.Proofs
set_option linter.unusedVariables false

theorem goodC_spec {me : Int} {l : List CutIn} (h : goodC me l = true) : okFrom l 0 l = true ∧ roomC me l = true ∧ (40 ≤ me ∧ me ≤ 600) ∧ l.length ≤ 10 := by
  simp only [goodC, Bool.and_eq_true, decide_eq_true_eq] at h
  exact ⟨h.1, h.2.1, inB_spec h.2.2.1, by omega⟩

theorem measF_le {line : Int} : ∀ {l : List CutIn} {m : Int}, (∀ x ∈ l, isCut x = true) → measF line m l ≤ m
  | [], m, _ => Int.le_refl _
  | x :: r, m, h => by
    rw [measF]
    have hx := isCut_spec (h x (by simp))
    have := measF_le (line := line) (l := r) (m := if beside x line then m - x.2.2.1 else m) fun y hy => h y (by simp [hy])
    split at this <;> rename_i hb <;> simp only [hb, if_true, Bool.false_eq_true, if_false] at * <;> omega
theorem measF_far {line : Int} (hl : 230 ≤ line) : ∀ {l : List CutIn} {m : Int}, (∀ x ∈ l, isCut x = true) → measF line m l = m
  | [], m, _ => rfl
  | x :: r, m, h => by
    have hx := isCut_spec (h x (by simp))
    have hb : beside x line = false := by
      simp only [beside, inB, Bool.and_eq_false_iff, decide_eq_false_iff_not]; omega
    rw [measF, hb]
    exact measF_far hl fun y hy => h y (by simp [hy])
theorem meas_bound {me k : Int} {l : List CutIn} (h : goodC me l = true) (hk : 0 ≤ k) : 40 ≤ measF k me l ∧ measF k me l ≤ me := by
  obtain ⟨h1, h2, h3, h4⟩ := goodC_spec h
  have hc := okFrom_mem h1
  refine ⟨?_, measF_le hc⟩
  rcases Int.lt_or_le k 230 with hlt | hge
  · have := List.all_eq_true.1 h2 k.toNat (by simp; omega)
    rw [decide_eq_true_eq, Int.toNat_of_nonneg hk] at this
    exact this
  · rw [measF_far hge hc]; exact h3.1

def measL (me : Int) (l : List CutIn) (n : Int) : List Int := (List.range n.toNat).map fun k : Nat => measF (k : Int) me l
theorem measL_len {me n : Int} {l : List CutIn} (h : 0 ≤ n) : ((measL me l n).length : Int) = n := by simp [measL]; omega
theorem measL_next {me n : Int} {l : List CutIn} (h : 0 ≤ n) : measL me l (n + 1) = measL me l n ++ [measF n me l] := by
  rw [measL, measL, show (n + 1).toNat = n.toNat + 1 by omega, List.range_succ, List.map_append, List.map_singleton, Int.toNat_of_nonneg h]
theorem measL_get {me n x : Int} {l : List CutIn} {i : Nat} (h : (measL me l n)[i]? = some x) : (i : Int) < n ∧ x = measF (i : Int) me l := by
  simp only [measL, List.getElem?_map, Option.map_eq_some_iff] at h
  obtain ⟨j, hj, e⟩ := h
  rw [List.getElem?_eq_some_iff] at hj
  obtain ⟨hl, e'⟩ := hj
  simp only [List.length_range] at hl
  simp only [List.getElem_range] at e'
  subst e'
  exact ⟨by omega, e.symm⟩
theorem measL_at {me n : Int} {l : List CutIn} {i : Nat} (h : (i : Int) < n) : (measL me l n)[i]? = some (measF (i : Int) me l) := by
  rw [measL, List.getElem?_map, List.getElem?_range (by omega)]; rfl
theorem measL_mem {me n x : Int} {l : List CutIn} (hg : goodC me l = true) (h : x ∈ measL me l n) : 40 ≤ x ∧ x ≤ me := by
  simp only [measL, List.mem_map, List.mem_range] at h
  obtain ⟨i, hi, e⟩ := h
  rw [← e]; exact meas_bound hg (by omega)
theorem measL_take {me n k : Int} {l : List CutIn} (h : k ≤ n) : (measL me l n).take k.toNat = measL me l k := by
  rw [measL, measL, ← List.map_take, List.take_range, Nat.min_eq_left (by omega)]
theorem measL_sum {me n : Int} {l : List CutIn} (h : 0 ≤ n) : (measL me l (n + 1)).sum = (measL me l n).sum + measF n me l := by rw [measL_next h]; simp
theorem measL_sums {me : Int} {l : List CutIn} (hg : goodC me l = true) : ∀ (n : Nat), 40 * (n : Int) ≤ (measL me l n).sum ∧ (measL me l n).sum ≤ 600 * (n : Int)
  | 0 => by simp [measL]
  | n + 1 => by
    have h1 := measL_sums hg n
    have h2 := meas_bound (k := (n : Int)) hg (by omega)
    have h3 := (goodC_spec hg).2.2.1
    have h4 := measL_sum (me := me) (l := l) (n := (n : Int)) (by omega)
    push_cast
    rw [h4]
    omega

def lineAns (me : Int) (l : List CutIn) (n : Int) : List Int × Bool := if goodC me l && inB n 0 300 then (measL me l n, true) else ([], false)

/-! ### Indents -/
def isLeft (x : CutIn) (line : Int) : Bool := decide (x.2.2.2 = 0) && beside x line
def indF (line : Int) : List CutIn → Int
  | [] => 0
  | x :: r => if isLeft x line then x.2.2.1 else indF line r
def indR (line : Int) : Int → List CutIn → Int
  | a, [] => a
  | a, x :: r => indR line (if isLeft x line then x.2.2.1 else a) r
theorem okFrom_pair {l : List CutIn} : ∀ {i : Nat} {r : List CutIn}, okFrom l i r = true → r = l.drop i → ∀ {j : Nat} {x y : CutIn} {a : Nat}, i ≤ j → a < j → l[j]? = some y → l[a]? = some x → clash y x = false
  | i, [], h, hr, j, x, y, a, hij, haj, hy, hx => by
    have : l.length ≤ i := by have := congrArg List.length hr; simp at this; omega
    have := (List.getElem?_eq_some_iff.1 hy).1
    omega
  | i, z :: r, h, hr, j, x, y, a, hij, haj, hy, hx => by
    simp only [okFrom, Bool.and_eq_true] at h
    have hz : l[i]? = some z := by
      have : (l.drop i)[0]? = some z := by rw [← hr]; rfl
      rw [List.getElem?_drop] at this
      simpa using this
    rcases Nat.lt_or_eq_of_le hij with hlt | rfl
    · exact okFrom_pair h.2.2 (by rw [show i + 1 = i + 1 from rfl, ← List.drop_drop, ← hr]; rfl) hlt haj hy hx
    · obtain rfl := Option.some.inj (hz.symm.trans hy)
      have := List.all_eq_true.1 h.2.1 x (by
        rw [List.mem_iff_getElem?]
        exact ⟨a, by rw [List.getElem?_take, if_pos haj]; exact hx⟩)
      simpa using this
theorem left_clash {x y : CutIn} {line : Int} (hx : isLeft x line = true) (hy : isLeft y line = true) : clash y x = true := by
  simp only [isLeft, beside, Bool.and_eq_true, decide_eq_true_eq] at hx hy
  have bx := inB_spec hx.2
  have by_ := inB_spec hy.2
  simp only [clash, Bool.and_eq_true, decide_eq_true_eq]
  exact ⟨by omega, by omega, by omega⟩
theorem indR_none {line a : Int} : ∀ {l : List CutIn}, (∀ x ∈ l, isLeft x line = false) → indR line a l = a
  | [], _ => rfl
  | x :: r, h => by
    rw [indR, h x (by simp)]
    exact indR_none fun y hy => h y (by simp [hy])
theorem ind_eq {line : Int} : ∀ {l : List CutIn}, (∀ (i j : Nat) (x y : CutIn), i < j → l[i]? = some x → l[j]? = some y → isLeft x line = true → isLeft y line = false) → indR line 0 l = indF line l
  | [], _ => rfl
  | x :: r, h => by
    rw [indR, indF]
    cases hb : isLeft x line with
    | true =>
      rw [if_pos rfl, if_pos rfl]
      exact indR_none fun y hy => by
        obtain ⟨j, hj⟩ := List.mem_iff_getElem?.1 hy
        exact h 0 (j + 1) x y (by omega) rfl (by simpa using hj) hb
    | false =>
      rw [if_neg (by simp), if_neg (by simp)]
      exact ind_eq fun i j x y hij hx hy => h (i + 1) (j + 1) x y (by omega) (by simpa using hx) (by simpa using hy)
theorem ind_good {me line : Int} {l : List CutIn} (h : goodC me l = true) : indR line 0 l = indF line l :=
  ind_eq fun i j x y hij hx hy hb => by
    have hc := okFrom_pair (goodC_spec h).1 (by simp) (Nat.zero_le j) hij hy hx
    cases hl : isLeft y line with
    | false => rfl
    | true => rw [left_clash hb hl] at hc; cases hc
theorem indR_snoc {line : Int} : ∀ {l : List CutIn} {a : Int} {x : CutIn}, indR line a (l ++ [x]) = if isLeft x line then x.2.2.1 else indR line a l
  | [], a, x => rfl
  | y :: r, a, x => by rw [List.cons_append, indR, indR_snoc, indR]
theorem indF_bound {line : Int} : ∀ {l : List CutIn} {m : Int}, (∀ x ∈ l, isCut x = true) → 0 ≤ indF line l ∧ indF line l ≤ 600 ∧ indF line l + measF line m l ≤ m
  | [], m, _ => by simp [indF, measF]
  | x :: r, m, h => by
    have hx := isCut_spec (h x (by simp))
    have hr : ∀ y ∈ r, isCut y = true := fun y hy => h y (by simp [hy])
    rw [indF, measF]
    cases hb : isLeft x line with
    | true =>
      have hbs : beside x line = true := by rw [isLeft, Bool.and_eq_true] at hb; exact hb.2
      rw [if_pos rfl, hbs, if_pos rfl]
      have := measF_le (line := line) (l := r) (m := m - x.2.2.1) hr
      omega
    | false =>
      rw [if_neg (by simp)]
      have h1 := indF_bound (line := line) (l := r) (m := if beside x line then m - x.2.2.1 else m) hr
      refine ⟨h1.1, h1.2.1, ?_⟩
      have h2 := h1.2.2
      cases hbs : beside x line <;> simp only [hbs, if_true, Bool.false_eq_true, if_false] at h2 ⊢ <;> omega
def indL (l : List CutIn) (n : Int) : List Int := (List.range n.toNat).map fun k : Nat => indF (k : Int) l
theorem indL_len {n : Int} {l : List CutIn} (h : 0 ≤ n) : ((indL l n).length : Int) = n := by simp [indL]; omega
theorem indL_next {n : Int} {l : List CutIn} (h : 0 ≤ n) : indL l (n + 1) = indL l n ++ [indF n l] := by
  rw [indL, indL, show (n + 1).toNat = n.toNat + 1 by omega, List.range_succ, List.map_append, List.map_singleton, Int.toNat_of_nonneg h]
theorem indL_get {n x : Int} {l : List CutIn} {i : Nat} (h : (indL l n)[i]? = some x) : (i : Int) < n ∧ x = indF (i : Int) l := by
  simp only [indL, List.getElem?_map, Option.map_eq_some_iff] at h
  obtain ⟨j, hj, e⟩ := h
  rw [List.getElem?_eq_some_iff] at hj
  obtain ⟨hl, e'⟩ := hj
  simp only [List.length_range] at hl
  simp only [List.getElem_range] at e'
  subst e'
  exact ⟨by omega, e.symm⟩
def indAns (me : Int) (l : List CutIn) (n : Int) : List Int × Bool := if goodC me l && inB n 0 300 then (indL l n, true) else ([], false)
theorem atFrom_ind {line : Int} : ∀ {l : List CutIn} {i : Int}, (atFrom line 0 i l = none → indF line l = 0) ∧ ∀ j x, atFrom line 0 i l = some j → l[(j - i).toNat]? = some x → indF line l = x.2.2.1
  | [], i => ⟨fun _ => rfl, (fun j x h => by cases h)⟩
  | y :: r, i => by
    have hr := atFrom_ind (line := line) (l := r) (i := i + 1)
    rw [indF, atFrom]
    cases hb : (decide (y.2.2.2 = 0) && beside y line) with
    | true =>
      rw [show isLeft y line = true from hb, if_pos rfl, if_pos rfl]
      refine ⟨(fun h => by cases h), fun j x h hx => ?_⟩
      obtain rfl := Option.some.inj h
      simp at hx
      rw [hx]
    | false =>
      rw [show isLeft y line = false from hb, if_neg (by simp), if_neg (by simp)]
      refine ⟨hr.1, fun j x h hx => hr.2 j x h ?_⟩
      have hj := (atFrom_spec h).1
      rw [show (j - i).toNat = (j - (i + 1)).toNat + 1 by omega] at hx
      simpa using hx

theorem at_some {line i : Int} {l : List CutIn} (h : i = (atFrom line 0 0 l).getD (-1)) (h0 : 0 ≤ i) : i < l.length ∧ ∀ x, l[i.toNat]? = some x → indF line l = x.2.2.1 := by
  cases hq : atFrom line 0 0 l with
  | none => rw [hq] at h; simp at h; omega
  | some j =>
    rw [hq] at h
    obtain rfl : i = j := h
    have h1 := atFrom_spec hq
    refine ⟨by omega, fun x hx => (atFrom_ind (line := line) (l := l) (i := 0)).2 i x hq (by rw [Int.sub_zero]; exact hx)⟩
theorem at_none {line i : Int} {l : List CutIn} (h : i = (atFrom line 0 0 l).getD (-1)) (h0 : i < 0) : indF line l = 0 := by
  cases hq : atFrom line 0 0 l with
  | none => exact (atFrom_ind (line := line) (l := l) (i := 0)).1 hq
  | some j =>
    rw [hq] at h
    obtain rfl : i = j := h
    have h1 := atFrom_spec hq
    omega

/-! ### The room beside cut-ins -/
def roomS (me : Int) (ms : List Int) : Int := (ms.map fun m => if m < me then m else 0).sum
theorem roomS_snoc {me m : Int} {ms : List Int} : roomS me (ms ++ [m]) = roomS me ms + (if m < me then m else 0) := by simp [roomS]
theorem roomS_bound {me : Int} {ms : List Int} (h : ∀ m ∈ ms, 0 ≤ m ∧ m ≤ 600) : 0 ≤ roomS me ms ∧ roomS me ms ≤ 600 * ms.length := by
  have := sum_bound (ws := ms.map fun m => if m < me then m else 0) (B := 600) (by omega) (fun n hn => by
    obtain ⟨m, hm, rfl⟩ := List.mem_map.1 hn
    have := h m hm
    split <;> omega)
  rw [List.length_map] at this
  exact this
def roomAns (me : Int) (l : List CutIn) (n : Int) : Int × Bool := if goodC me l && inB n 0 300 then (roomS me (measL me l n), true) else (0, false)

/-! ### Runs -/
def addRun (rs : List (List Int)) (m : Int) : List (List Int) :=
  match rs.getLast? with
  | some [c, k] => if k = m then rs.dropLast ++ [[c + 1, k]] else rs ++ [[1, m]]
  | _ => rs ++ [[1, m]]
def runsF (ms : List Int) : List (List Int) := ms.foldl addRun []
theorem runsF_snoc (ms : List Int) (m : Int) : runsF (ms ++ [m]) = addRun (runsF ms) m := by rw [runsF, List.foldl_append]; rfl
theorem addRun_new {m : Int} : addRun [] m = [[1, m]] := rfl
theorem addRun_last {rs : List (List Int)} {c k m : Int} : addRun (rs ++ [[c, k]]) m = if k = m then rs ++ [[c + 1, k]] else rs ++ [[c, k]] ++ [[1, m]] := by
  rw [addRun, List.getLast?_append]
  simp
/-- What the runs of a list of measures are: the last one has the last measure. -/
theorem runs_last : ∀ (n : Nat) (ms : List Int), ms.length = n → ms ≠ [] → ∃ rs c k, runsF ms = rs ++ [[c, k]] ∧ ms.getLast? = some k ∧ 1 ≤ c ∧ c ≤ n
  | 0, ms, h, hn => absurd (List.eq_nil_of_length_eq_zero h) hn
  | n + 1, ms, h, hn => by
    obtain ⟨ms0, m, rfl⟩ : ∃ ms0 m, ms = ms0 ++ [m] := ⟨ms.dropLast, ms.getLast hn, (List.dropLast_concat_getLast hn).symm⟩
    rw [List.length_append, List.length_singleton] at h
    rw [runsF_snoc]
    by_cases h0 : ms0 = []
    · subst h0
      exact ⟨[], 1, m, rfl, by simp, Int.le_refl _, by omega⟩
    · obtain ⟨rs, c, k, h1, h2, h3, h4⟩ := runs_last n ms0 (by omega) h0
      rw [h1, addRun_last]
      by_cases hk : k = m
      · rw [if_pos hk]
        exact ⟨rs, c + 1, k, rfl, by simp [hk], by omega, by omega⟩
      · rw [if_neg hk]
        exact ⟨rs ++ [[c, k]], 1, m, rfl, by simp, Int.le_refl _, by omega⟩
def cntS (rs : List (List Int)) : Int := (rs.map fun r => nth r 0).sum
def allS (rs : List (List Int)) : Int := (rs.map fun r => nth r 0 * nth r 1).sum
def rooS (me : Int) (rs : List (List Int)) : Int := (rs.map fun r => if nth r 1 < me then nth r 0 * nth r 1 else 0).sum
theorem cntS_app (a b : List (List Int)) : cntS (a ++ b) = cntS a + cntS b := by simp [cntS]
theorem allS_app (a b : List (List Int)) : allS (a ++ b) = allS a + allS b := by simp [allS]
theorem rooS_app (me : Int) (a b : List (List Int)) : rooS me (a ++ b) = rooS me a + rooS me b := by simp [rooS]
theorem run_sums {me c k : Int} : cntS [[c, k]] = c ∧ allS [[c, k]] = c * k ∧ rooS me [[c, k]] = if k < me then c * k else 0 := by simp [cntS, allS, rooS, nth]
theorem runs_sums {me : Int} : ∀ (n : Nat) (ms : List Int), ms.length = n → cntS (runsF ms) = ms.length ∧ allS (runsF ms) = ms.sum ∧ rooS me (runsF ms) = roomS me ms
  | 0, ms, h => by
    obtain rfl := List.eq_nil_of_length_eq_zero h
    exact ⟨rfl, rfl, rfl⟩
  | n + 1, ms, h => by
    have hn : ms ≠ [] := fun e => by subst e; cases h
    obtain ⟨ms0, m, rfl⟩ : ∃ ms0 m, ms = ms0 ++ [m] := ⟨ms.dropLast, ms.getLast hn, (List.dropLast_concat_getLast hn).symm⟩
    rw [List.length_append, List.length_singleton] at h
    obtain ⟨i1, i2, i3⟩ := runs_sums (me := me) n ms0 (by omega)
    rw [runsF_snoc, roomS_snoc, List.length_append, List.length_singleton, List.sum_append]
    have s1 := run_sums (me := me) (c := 1) (k := m)
    by_cases h0 : ms0 = []
    · subst h0
      rw [show runsF [] = [] from rfl, addRun_new, s1.1, s1.2.1, s1.2.2]
      simp [roomS]
    · obtain ⟨rs, c, k, h1, h2, h3, h4⟩ := runs_last n ms0 (by omega) h0
      rw [h1, cntS_app, (run_sums (me := me)).1] at i1
      rw [h1, allS_app, (run_sums (me := me)).2.1] at i2
      rw [h1, rooS_app, (run_sums (me := me)).2.2] at i3
      rw [h1, addRun_last]
      have hmul : (c + 1) * k = c * k + k := by rw [Int.add_mul, Int.one_mul]
      by_cases hk : k = m
      · rw [if_pos hk]
        subst hk
        rw [cntS_app, allS_app, rooS_app, (run_sums (me := me)).1, (run_sums (me := me)).2.1, (run_sums (me := me)).2.2, hmul]
        refine ⟨by push_cast; omega, by simp; omega, ?_⟩
        split <;> simp_all <;> omega
      · rw [if_neg hk, cntS_app, allS_app, rooS_app, s1.1, s1.2.1, s1.2.2, cntS_app, allS_app, rooS_app, (run_sums (me := me)).1, (run_sums (me := me)).2.1, (run_sums (me := me)).2.2]
        refine ⟨by push_cast; omega, by simp; omega, ?_⟩
        rw [Int.one_mul]; omega
def runOk (r : List Int) : Prop := ∃ c k, r = [c, k] ∧ 1 ≤ c ∧ c ≤ 300 ∧ 40 ≤ k ∧ k ≤ 600
theorem runs_ok : ∀ (n : Nat) (ms : List Int), ms.length = n → n ≤ 300 → (∀ m ∈ ms, 40 ≤ m ∧ m ≤ 600) → (∀ r ∈ runsF ms, runOk r) ∧ (runsF ms).length ≤ n
  | 0, ms, h, _, _ => by
    obtain rfl := List.eq_nil_of_length_eq_zero h
    exact ⟨(fun r hr => by cases hr), Nat.le_refl _⟩
  | n + 1, ms, h, hn3, hm => by
    have hn : ms ≠ [] := fun e => by subst e; cases h
    obtain ⟨ms0, m, rfl⟩ : ∃ ms0 m, ms = ms0 ++ [m] := ⟨ms.dropLast, ms.getLast hn, (List.dropLast_concat_getLast hn).symm⟩
    rw [List.length_append, List.length_singleton] at h
    obtain ⟨i1, i2⟩ := runs_ok n ms0 (by omega) (by omega) fun x hx => hm x (by simp [hx])
    have bm := hm m (by simp)
    rw [runsF_snoc]
    by_cases h0 : ms0 = []
    · subst h0
      rw [show runsF [] = [] from rfl, addRun_new]
      exact ⟨fun r hr => by rw [List.mem_singleton.1 hr]; exact ⟨1, m, rfl, by omega, by omega, bm.1, bm.2⟩, by simp⟩
    · obtain ⟨rs, c, k, h1, h2, h3, h4⟩ := runs_last n ms0 (by omega) h0
      have bk := hm k (by have := List.mem_of_getLast? h2; simp [this])
      rw [h1] at i1 i2
      rw [h1, addRun_last]
      by_cases hk : k = m
      · rw [if_pos hk]
        refine ⟨fun r hr => ?_, by simp at i2 ⊢; omega⟩
        rcases List.mem_append.1 hr with hr | hr
        · exact i1 r (by simp [hr])
        · rw [List.mem_singleton.1 hr]; exact ⟨c + 1, k, rfl, by omega, by omega, bk.1, bk.2⟩
      · rw [if_neg hk]
        refine ⟨fun r hr => ?_, by simp at i2 ⊢; omega⟩
        rcases List.mem_append.1 hr with hr | hr
        · exact i1 r hr
        · rw [List.mem_singleton.1 hr]; exact ⟨1, m, rfl, by omega, by omega, bm.1, bm.2⟩
def runsAns (me : Int) (l : List CutIn) (n : Int) : List (List Int) × Bool := if goodC me l && inB n 0 300 then (runsF (measL me l n), true) else ([], false)

/-! ### Lines for a sum -/
def firstN (me : Int) (l : List CutIn) (want : Int) : Nat → Int → Int
  | 0, n => n
  | k + 1, n => if want ≤ (measL me l n).sum then n else firstN me l want k (n + 1)
theorem firstN_eq {me want m : Int} {l : List CutIn} (hm : want ≤ (measL me l m).sum) : ∀ (k : Nat) (n : Int), n ≤ m → (∀ j, n ≤ j → j < m → (measL me l j).sum < want) → firstN me l want k n = if m ≤ n + k then m else n + k
  | 0, n, h, _ => by
    rw [firstN]
    split <;> omega
  | k + 1, n, h, hj => by
    rw [firstN]
    rcases Int.lt_or_eq_of_le h with hlt | rfl
    · rw [if_neg (by have := hj n (Int.le_refl _) hlt; omega), firstN_eq hm k (n + 1) (by omega) fun j h1 h2 => hj j (by omega) h2]
      split <;> split <;> omega
    · rw [if_pos hm, if_pos (by omega)]
def needAns (me : Int) (l : List CutIn) (want : Int) : Int × Bool :=
  if goodC me l && inB want 0 100000 then (if firstN me l want 301 0 ≤ 300 then (firstN me l want 301 0, true) else (0, false)) else (0, false)
theorem firstN_low {me want : Int} {l : List CutIn} : ∀ (k : Nat) (n : Int), n ≤ firstN me l want k n ∧ firstN me l want k n ≤ n + k ∧ (firstN me l want k n < n + k → want ≤ (measL me l (firstN me l want k n)).sum) ∧ ∀ j, n ≤ j → j < firstN me l want k n → (measL me l j).sum < want
  | 0, n => ⟨Int.le_refl _, by simp [firstN], fun h => by simp [firstN] at h, fun j h1 h2 => by simp only [firstN] at h2; omega⟩
  | k + 1, n => by
    rw [firstN]
    split
    · rename_i h
      exact ⟨Int.le_refl _, by omega, fun _ => h, fun j h1 h2 => by omega⟩
    · rename_i h
      obtain ⟨h1, h2, h3, h4⟩ := firstN_low (me := me) (want := want) (l := l) k (n + 1)
      refine ⟨by omega, by omega, fun h5 => h3 (by omega), fun j h5 h6 => ?_⟩
      rcases Int.lt_or_eq_of_le h5 with hlt | rfl
      · exact h4 j (by omega) h6
      · omega

/-! ### Lines of an initial -/
def iniAns (size body lead : Int) : Int × Int × Bool :=
  if inB size 1 1000 && (inB body 1 72 && inB lead 0 36) then ((size + lead + body + lead - 1) / (body + lead), (size + lead + body + lead - 1) / (body + lead) * (body + lead) - lead - size, true) else (0, 0, false)
theorem ini_eq {size body lead n high : Int} (hb : 1 ≤ body) (hl : 0 ≤ lead) (hn : 1 ≤ n) (hh : high = n * (body + lead) - lead) (h1 : size ≤ high) (h2 : n = 1 ∧ 1 ≤ size ∨ high - (body + lead) < size) : (size + lead + body + lead - 1) / (body + lead) = n := by
  have hD : 0 < body + lead := by omega
  have e1 : (n + 1) * (body + lead) = n * (body + lead) + (body + lead) := by rw [Int.add_mul, Int.one_mul]
  have l1 : n * (body + lead) ≤ size + lead + body + lead - 1 := by
    rcases h2 with ⟨rfl, h3⟩ | h2
    · rw [Int.one_mul]; omega
    · omega
  have l2 : size + lead + body + lead - 1 < (n + 1) * (body + lead) := by omega
  exact Int.le_antisymm (Int.lt_add_one_iff.1 (Int.ediv_lt_of_lt_mul hD l2)) (Int.le_ediv_of_mul_le hD l1)
theorem ini_val {size body lead n o : Int} (h : (n, o, true) = iniAns size body lead) : (1 ≤ size ∧ size ≤ 1000) ∧ (1 ≤ body ∧ body ≤ 72) ∧ (0 ≤ lead ∧ lead ≤ 36) ∧ 1 ≤ n ∧ n ≤ 2000 ∧ o = n * (body + lead) - lead - size ∧ 0 ≤ o ∧ o < body + lead := by
  unfold iniAns at h
  split at h
  case isFalse => simp at h
  rename_i ho
  simp only [Bool.and_eq_true] at ho
  have b1 := inB_spec ho.1
  have b2 := inB_spec ho.2.1
  have b3 := inB_spec ho.2.2
  simp only [Prod.mk.injEq, and_true] at h
  obtain ⟨h1, h2⟩ := h
  rw [← h1] at h2
  have hD : 0 < body + lead := by omega
  have l1 := Int.mul_ediv_self_le (x := size + lead + body + lead - 1) (k := body + lead) (by omega)
  have l2 := Int.lt_mul_ediv_self_add (x := size + lead + body + lead - 1) hD
  rw [← h1] at l1 l2
  rw [Int.mul_comm] at l1 l2
  have h3 : 1 ≤ n := by
    rcases Int.lt_or_le n 1 with hlt | hge
    · have : n * (body + lead) ≤ 0 := Int.mul_nonpos_of_nonpos_of_nonneg (by omega) (by omega)
      omega
    · exact hge
  have h4 : n ≤ n * (body + lead) := by
    have := Int.mul_le_mul_of_nonneg_left (show 1 ≤ body + lead by omega) (show 0 ≤ n by omega)
    omega
  exact ⟨b1, b2, b3, h3, by omega, h2, by omega, by omega⟩
end Go.Proofs.Ytnanackogloioaa.Ai
