/- Plain laws on paragraphs: lines, breaks and their costs. -/
import Derived.Test.YtiaodmfipeoegaaWayLaw
import Derived.Test.YtiaodmfipeoegaaJust
namespace Go.Proofs.Ytiaodmfipeoegaa.Ai
open Go Go.Proofs
set_option linter.unusedSimpArgs false
set_option linter.unusedVariables false

def okPara (ws : List Int) : Bool := allB ws 1 600 && inB ws.length 1 24
def askP (ws : List Int) (r : JRule) (m : Int) : Bool := okPara ws && (okRule r && inB m 1 2000)
theorem okPara_spec {ws : List Int} (h : okPara ws = true) : (∀ n ∈ ws, 1 ≤ n ∧ n ≤ 600) ∧ 1 ≤ (ws.length : Int) ∧ (ws.length : Int) ≤ 24 := by
  simp only [okPara, allB, Bool.and_eq_true, List.all_eq_true] at h
  exact ⟨fun n hn => inB_spec (h.1 n hn), inB_spec h.2⟩
theorem askP_spec {ws : List Int} {r : JRule} {m : Int} (h : askP ws r m = true) : okPara ws = true ∧ okRule r = true ∧ inB m 1 2000 = true := by
  simpa [askP] using h
/-- The words from one on to another. -/
def cutW (ws : List Int) (i j : Nat) : List Int := (ws.take j).drop i
theorem cutW_length {ws : List Int} {i j : Nat} (h : i ≤ j) (hj : j ≤ ws.length) : (cutW ws i j).length = j - i := by
  unfold cutW; rw [List.length_drop, List.length_take]; omega
theorem cutW_mem {ws : List Int} {i j : Nat} {x : Int} (h : x ∈ cutW ws i j) : x ∈ ws := List.mem_of_mem_take (List.mem_of_mem_drop h)
theorem cutW_end (ws : List Int) (i : Nat) : cutW ws i ws.length = ws.drop i := by unfold cutW; rw [List.take_length]
/-- The cost of a line that is not the last one. -/
def optL (r : JRule) (m : Int) (l : List Int) : Option Int := if (l.length : Int) ≤ 20 ∧ fitsJ l r m = true then some (costF r (spacesF (leftF l m) (gapsF l))) else none
/-- Whether a line may be the last one. -/
def endL (r : JRule) (m : Int) (l : List Int) : Bool := decide ((l.length : Int) ≤ 20) && decide (l.sum + gapsF l * r.2.1 ≤ m)
def paL (ws : List Int) (r : JRule) (m : Int) (i j : Nat) : Option Int := optL r m (cutW ws i j)
def paE (ws : List Int) (r : JRule) (m : Int) (i : Nat) : Bool := endL r m (ws.drop i)
theorem costF_nonneg (r : JRule) : ∀ l : List Int, 0 ≤ costF r l
  | [] => by simp [costF]
  | x :: t => by
    have ih := costF_nonneg r t
    have e : costF r (x :: t) = (x - r.2.1) * (x - r.2.1) + costF r t := by simp [costF]
    have : 0 ≤ (x - r.2.1) * (x - r.2.1) := by
      rcases Int.le_total 0 (x - r.2.1) with h | h
      · exact Int.mul_nonneg h h
      · exact Int.mul_nonneg_of_nonpos_of_nonpos h h
    rw [e]; omega
theorem paL_nn {ws : List Int} {r : JRule} {m : Int} : ∀ i j c, paL ws r m i j = some c → 0 ≤ c := fun i j c h => by
  unfold paL optL at h
  split at h
  · cases h; exact costF_nonneg _ _
  · cases h
/-- The answer of impl.lineCost; of spec.paLine. -/
def lineA (l : List Int) (r : JRule) (m : Int) : Int × Bool := match optL r m l with
  | some c => (c, true)
  | none => (0, false)
def lineS (l : List Int) (r : JRule) (m : Int) (last : Bool) : Int × Bool := if last then (0, endL r m l) else lineA l r m
theorem lineA_true {l : List Int} {r : JRule} {m c : Int} (h : (c, true) = lineA l r m) : optL r m l = some c := by
  unfold lineA at h
  cases e : optL r m l with
  | none => rw [e] at h; simp at h
  | some x => rw [e] at h; simp at h; rw [h]
theorem lineA_false {l : List Int} {r : JRule} {m c : Int} (h : (c, false) = lineA l r m) : optL r m l = none := by
  unfold lineA at h
  cases e : optL r m l with
  | none => rfl
  | some x => rw [e] at h; simp at h
theorem costF_bound {r : JRule} (hr : okRule r = true) : ∀ {l : List Int}, (∀ n ∈ l, 0 ≤ n ∧ n ≤ 54) → costF r l ≤ 2916 * l.length
  | [], _ => by simp [costF]
  | x :: t, h => by
    have ih := costF_bound hr (l := t) fun n hn => h n (by simp [hn])
    have e : costF r (x :: t) = (x - r.2.1) * (x - r.2.1) + costF r t := by simp [costF]
    have s2 := okRule_spec hr
    have hx := h x (by simp)
    have := (sq54 (x := x - r.2.1) (y := x - r.2.1) rfl (by omega) (by omega)).2
    rw [e, List.length_cons]; omega
/-- What a line asks. -/
theorem line_ok {l : List Int} (h1 : ∀ n ∈ l, 1 ≤ n ∧ n ≤ 600) (h2 : 1 ≤ (l.length : Int)) (h3 : (l.length : Int) ≤ 20) : okLine l = true := by
  rw [okLine, Bool.and_eq_true]
  refine ⟨List.all_eq_true.2 fun x hx => ?_, ?_⟩
  · have := h1 x hx
    rw [inB, decide_eq_true this.1, decide_eq_true this.2]; rfl
  · rw [inB, decide_eq_true h2, decide_eq_true h3]; rfl
theorem optL_bound {l : List Int} {r : JRule} {m c : Int} (h1 : ∀ n ∈ l, 1 ≤ n ∧ n ≤ 600) (h2 : 1 ≤ (l.length : Int)) (hr : okRule r = true) (hm : inB m 1 2000 = true) (h : optL r m l = some c) : 0 ≤ c ∧ c ≤ 58320 := by
  unfold optL at h
  split at h
  · rename_i hc
    cases h
    have hj : Jin l r m := ⟨line_ok h1 h2 hc.1, hr, hm⟩
    have sa := spaces_all hj hc.2
    have s2 := okRule_spec hr
    have := costF_bound hr (l := spacesF (leftF l m) (gapsF l)) fun n hn => by have := sa n hn; omega
    have e := spaces_length (leftF l m) (gapsF l)
    have g : gapsF l = (l.length : Int) - 1 := rfl
    have := costF_nonneg r (spacesF (leftF l m) (gapsF l))
    omega
  · cases h
section
variable {ws : List Int} {r : JRule} {m : Int}
/-- Costs are not too great to reckon with. -/
theorem paC_bound (hp : okPara ws = true) (hr : okRule r = true) (hm : inB m 1 2000 = true) : ∀ (d : Nat) (k : Int) (i : Nat), ws.length - i ≤ d → i < ws.length → wC (paE ws r m) (paL ws r m) ws.length k i ≤ 58320 * ((ws.length - i : Nat) : Int)
  | 0, _, _, h, h1 => by omega
  | d + 1, k, i, h, h1 => by
    have sp := okPara_spec hp
    by_cases hc : 0 ≤ wC (paE ws r m) (paL ws r m) ws.length k i
    · rcases wC_some paL_nn h1 hc with he | ⟨j, a1, a2, a3⟩
      · rw [wC_end paL_nn h1 he]; omega
      · rw [← a3] at hc ⊢
        obtain ⟨c, b1, b2, b3, b4⟩ := cnd_some hc
        have := paC_bound hp hr hm d (nxM k) j (by omega) a2
        have := optL_bound (fun n hn => sp.1 n (cutW_mem hn)) (by rw [cutW_length (by omega) (by omega)]; omega) hr hm b2
        have e : wcnd (paE ws r m) (paL ws r m) ws.length k i j = c + wC (paE ws r m) (paL ws r m) ws.length (nxM k) j := b4
        omega
    · omega
end
/-! ### The cost of breaks -/
section
variable (E : Nat → Bool) (L : Nat → Nat → Option Int)
variable {E L}
end
theorem rising_up {n : Nat} : ∀ (bs : List Int) (i : Nat) (p : Option Int), (p = none → i = 0) → (∀ x, p = some x → x = (i : Int)) → rising 1 ((n : Int) - 1) p bs = true → Up i n bs
  | [], _, _, _, _, _ => trivial
  | t :: r, i, p, h0, h1, h => by
    rw [rising_cons, Bool.and_eq_true, Bool.and_eq_true] at h
    have hb := inB_spec h.1.1
    refine ⟨⟨?_, by omega⟩, rising_up r t.toNat (some t) (fun e => by cases e) (fun x e => by cases e; omega) h.2⟩
    cases p with
    | none => have := h0 rfl; omega
    | some x =>
      have := h1 x rfl
      have hx : x < t := by simpa using h.1.2
      omega
theorem up_rising {n : Nat} : ∀ (bs : List Int) (i : Nat) (p : Option Int), (∀ x, p = some x → x ≤ (i : Int)) → Up i n bs → rising 1 ((n : Int) - 1) p bs = true
  | [], _, _, _, _ => rfl
  | t :: r, i, p, h1, h => by
    obtain ⟨⟨a, b⟩, c⟩ := h
    rw [rising_cons, Bool.and_eq_true, Bool.and_eq_true]
    refine ⟨⟨by rw [inB, decide_eq_true (by omega), decide_eq_true (by omega)]; rfl, ?_⟩, up_rising r t.toNat (some t) (fun x e => by cases e; omega) c⟩
    cases p with
    | none => rfl
    | some x => have := h1 x rfl; simp; omega
theorem up_length {n : Nat} : ∀ (bs : List Int) (i : Nat), i < n → Up i n bs → bs.length + i < n ∧ ∀ t ∈ bs, 0 ≤ t ∧ t < n
  | [], i, h, _ => ⟨by simpa using h, fun t ht => (by cases ht)⟩
  | t :: r, i, _, h => by
    obtain ⟨⟨a, b⟩, c⟩ := h
    have ih := up_length r t.toNat (by omega) c
    refine ⟨by rw [List.length_cons]; omega, fun x hx => ?_⟩
    rcases List.mem_cons.1 hx with rfl | hx
    · omega
    · exact ih.2 x hx
def bestPA (ws : List Int) (r : JRule) (m k : Int) : List Int × Int × Bool := if askP ws r m = true ∧ 0 ≤ wC (paE ws r m) (paL ws r m) ws.length k 0 then (wB (paE ws r m) (paL ws r m) ws.length k 0, wC (paE ws r m) (paL ws r m) ws.length k 0, true) else ([], 0, false)
def countPA (ws : List Int) (r : JRule) (m : Int) : Int × Bool := if askP ws r m then (wW (paE ws r m) (paL ws r m) ws.length (-1) 0, true) else (0, false)
def fewP (ws : List Int) (r : JRule) (m : Int) : Option Nat := (List.range' 1 ws.length).find? fun k => decide (0 ≤ wC (paE ws r m) (paL ws r m) ws.length (k : Int) 0)
/-- The lines between breaks. -/
def linesP (ws : List Int) : Nat → List Int → List (List Int)
  | i, [] => [ws.drop i]
  | i, t :: r => cutW ws i t.toNat :: linesP ws t.toNat r
def linesPA (ws : List Int) (bs : List Int) : List (List Int) × Bool := if okPara ws && rising 1 ((ws.length : Int) - 1) none bs then (linesP ws 0 bs, true) else ([], false)
/-- What the law asks of a paragraph. -/
structure ParaFacts (ws : List Int) (r : JRule) (m : Int) : Prop where
  best : ∀ k : Int, 0 < k ∨ k = -1 → 0 ≤ wC (paE ws r m) (paL ws r m) ws.length k 0 → Up 0 ws.length (wB (paE ws r m) (paL ws r m) ws.length k 0) ∧
    pathC (paE ws r m) (paL ws r m) 0 (wB (paE ws r m) (paL ws r m) ws.length k 0) = some (wC (paE ws r m) (paL ws r m) ws.length k 0) ∧ (0 < k → ((wB (paE ws r m) (paL ws r m) ws.length k 0).length : Int) = k - 1) ∧
    0 ≤ wC (paE ws r m) (paL ws r m) ws.length (-1) 0 ∧ wC (paE ws r m) (paL ws r m) ws.length (-1) 0 ≤ wC (paE ws r m) (paL ws r m) ws.length k 0
  least : ∀ bs c, rising 1 ((ws.length : Int) - 1) none bs = true → pathC (paE ws r m) (paL ws r m) 0 bs = some c → 0 ≤ wC (paE ws r m) (paL ws r m) ws.length (-1) 0 ∧ wC (paE ws r m) (paL ws r m) ws.length (-1) 0 ≤ c
  ways : 0 < wW (paE ws r m) (paL ws r m) ws.length (-1) 0 ↔ 0 ≤ wC (paE ws r m) (paL ws r m) ws.length (-1) 0
  few : (fewP ws r m).isSome = true ↔ 0 ≤ wC (paE ws r m) (paL ws r m) ws.length (-1) 0
  few1 : ∀ k, fewP ws r m = some k → k ≤ (wB (paE ws r m) (paL ws r m) ws.length (-1) 0).length + 1 ∧ 1 ≤ k
theorem para_facts {ws : List Int} {r : JRule} {m : Int} (h : okPara ws = true) : ParaFacts ws r m := by
  have sp := okPara_spec h
  have h0 : 0 < ws.length := by omega
  have best : ∀ k : Int, 0 < k ∨ k = -1 → 0 ≤ wC (paE ws r m) (paL ws r m) ws.length k 0 → Up 0 ws.length (wB (paE ws r m) (paL ws r m) ws.length k 0) ∧
    pathC (paE ws r m) (paL ws r m) 0 (wB (paE ws r m) (paL ws r m) ws.length k 0) = some (wC (paE ws r m) (paL ws r m) ws.length k 0) ∧ (0 < k → ((wB (paE ws r m) (paL ws r m) ws.length k 0).length : Int) = k - 1) ∧
    0 ≤ wC (paE ws r m) (paL ws r m) ws.length (-1) 0 ∧ wC (paE ws r m) (paL ws r m) ws.length (-1) 0 ≤ wC (paE ws r m) (paL ws r m) ws.length k 0 := fun k hk hc => by
    obtain ⟨a, b, c⟩ := wB_path paL_nn _ k 0 (Nat.le_refl _) h0 (by omega) hc
    have d := path_le paL_nn _ (-1) 0 _ h0 b (.inl (by omega)) a
    exact ⟨b, a, c, d.1, d.2⟩
  have fewI : 0 ≤ wC (paE ws r m) (paL ws r m) ws.length (-1) 0 → ∃ k, fewP ws r m = some k ∧ k ≤ (wB (paE ws r m) (paL ws r m) ws.length (-1) 0).length + 1 := fun hc => by
    obtain ⟨b, a, -, -, -⟩ := best (-1) (.inr rfl) hc
    have u := (up_length _ 0 h0 b).1
    have d := path_le paL_nn _ (((wB (paE ws r m) (paL ws r m) ws.length (-1) 0).length : Int) + 1) 0 _ h0 b (.inr rfl) a
    have hm : (wB (paE ws r m) (paL ws r m) ws.length (-1) 0).length + 1 ∈ List.range' 1 ws.length := List.mem_range'_1.2 ⟨by omega, by omega⟩
    have e : ((((wB (paE ws r m) (paL ws r m) ws.length (-1) 0).length + 1 : Nat)) : Int) = ((wB (paE ws r m) (paL ws r m) ws.length (-1) 0).length : Int) + 1 := by omega
    have hs : (fewP ws r m).isSome := by
      unfold fewP
      rw [List.find?_isSome]
      exact ⟨_, hm, by rw [e]; simpa using d.1⟩
    obtain ⟨k, hk⟩ := Option.isSome_iff_exists.1 hs
    refine ⟨k, hk, ?_⟩
    apply Classical.byContradiction
    intro hlt
    unfold fewP at hk
    obtain ⟨-, l1, l2, e3, e4⟩ := List.find?_eq_some_iff_append.1 hk
    have hin : (wB (paE ws r m) (paL ws r m) ws.length (-1) 0).length + 1 ∈ l1 := by
      have hp : (List.range' 1 ws.length).Pairwise (· < ·) := List.pairwise_lt_range'
      rw [e3] at hm hp
      rcases List.mem_append.1 hm with h | h
      · exact h
      · rcases List.mem_cons.1 h with h | h
        · omega
        · have := (List.pairwise_cons.1 (List.pairwise_append.1 hp).2.1).1 _ h
          omega
    have := e4 _ hin
    rw [e] at this
    simp at this
    omega
  refine ⟨best, fun bs c hb hp => path_le paL_nn bs (-1) 0 c h0 (rising_up bs 0 none (fun _ => rfl) (fun x e => by cases e) hb) (.inl (by omega)) hp, wW_pos paL_nn _ _ _ (Nat.le_refl _) h0, ⟨fun hs => ?_, fun hc => ?_⟩, fun k hk => ?_⟩
  · obtain ⟨k, hk⟩ := Option.isSome_iff_exists.1 hs
    have hm := List.mem_range'_1.1 (List.mem_of_find?_eq_some hk)
    have hg := List.find?_some hk
    simp only [decide_eq_true_eq] at hg
    exact (best k (.inl (by omega)) hg).2.2.2.1
  · obtain ⟨k, hk, -⟩ := fewI hc
    rw [hk]; rfl
  · have hm := List.mem_range'_1.1 (List.mem_of_find?_eq_some hk)
    have hg := List.find?_some hk
    simp only [decide_eq_true_eq] at hg
    obtain ⟨k2, hk2, hle⟩ := fewI (best k (.inl (by omega)) hg).2.2.2.1
    rw [hk] at hk2
    cases hk2
    exact ⟨hle, hm.1⟩
end Go.Proofs.Ytiaodmfipeoegaa.Ai
