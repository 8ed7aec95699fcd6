/- Plain laws on chases: pieces that are placed, free places, turned placings, pictures. -/
import Derived.Test.YtiaodmfipeoegaaCommon
namespace Go.Proofs.Ytiaodmfipeoegaa.Ai
open Go Go.Proofs
set_option linter.unusedSimpArgs false
set_option linter.unusedVariables false

abbrev Piece := Int × Int
abbrev Plc := Int × Int × Int × Bool
def cPiece (x : Piece) : List PV := [.int .i64 x.1, .int .i64 x.2]
def cPlaced (x : Plc) : List PV := [.int .i64 x.1, .int .i64 x.2.1, .int .i64 x.2.2.1, .bool x.2.2.2]
abbrev Grid := Nat → Nat → Int
/-- A chase as rows of places, and as one row. -/
def tabG (w h : Nat) (G : Grid) : List (List Int) := (List.range h).map fun y => (List.range w).map fun x => G y x
def flaG (w h : Nat) (G : Grid) : List Int := (List.range (w * h)).map fun k => G (k / w) (k % w)
def updG (G : Grid) (y x : Nat) (n : Int) : Grid := fun y' x' => if y' = y ∧ x' = x then n else G y' x'
theorem tabG_length (w h : Nat) (G : Grid) : (tabG w h G).length = h := by simp [tabG]
theorem flaG_length (w h : Nat) (G : Grid) : (flaG w h G).length = w * h := by simp [flaG]
theorem tabG_at {w h : Nat} {G : Grid} {y : Nat} (hy : y < h) : (tabG w h G)[y]? = some ((List.range w).map fun x => G y x) := by
  simp [tabG, hy]
theorem row_at {w : Nat} {G : Grid} {y x : Nat} (hx : x < w) : ((List.range w).map fun x => G y x)[x]? = some (G y x) := by simp [hx]
theorem row_length (w : Nat) (G : Grid) (y : Nat) : ((List.range w).map fun x => G y x).length = w := by simp
theorem tabG_congr {w h : Nat} {G H : Grid} (e : ∀ y x, y < h → x < w → G y x = H y x) : tabG w h G = tabG w h H := by
  unfold tabG
  apply List.map_congr_left
  intro y hy
  apply List.map_congr_left
  intro x hx
  exact e y x (by simpa using hy) (by simpa using hx)
theorem flat_lt {w h y x : Nat} (hy : y < h) (hx : x < w) : y * w + x < w * h := by
  have : (y + 1) * w ≤ h * w := Nat.mul_le_mul_right w hy
  rw [Nat.add_mul, Nat.one_mul] at this
  rw [Nat.mul_comm w h]; omega
theorem flat_div {w y x : Nat} (hx : x < w) : (y * w + x) / w = y ∧ (y * w + x) % w = x := by
  have hw : 0 < w := by omega
  constructor
  · rw [Nat.mul_comm, Nat.mul_add_div hw, Nat.div_eq_of_lt hx]; rfl
  · rw [Nat.mul_comm, Nat.mul_add_mod, Nat.mod_eq_of_lt hx]
theorem flaG_at {w h : Nat} {G : Grid} {y x : Nat} (hy : y < h) (hx : x < w) : (flaG w h G)[y * w + x]? = some (G y x) := by
  have := flat_lt hy hx
  obtain ⟨e1, e2⟩ := flat_div (y := y) hx
  simp [flaG, this, e1, e2]
theorem flaG_congr {w h : Nat} {G H : Grid} (e : ∀ y x, y < h → x < w → G y x = H y x) : flaG w h G = flaG w h H := by
  unfold flaG
  apply List.map_congr_left
  intro k hk
  have hk : k < w * h := by simpa using hk
  have hw : 0 < w := by
    rcases Nat.eq_zero_or_pos w with rfl | hw
    · omega
    · exact hw
  exact e _ _ (Nat.div_lt_of_lt_mul hk) (Nat.mod_lt _ hw)
theorem flaG_set {w h : Nat} {G : Grid} {y x : Nat} (hy : y < h) (hx : x < w) (n : Int) : (flaG w h G).set (y * w + x) n = flaG w h (updG G y x n) := by
  obtain ⟨e1, e2⟩ := flat_div (y := y) hx
  have hl := flat_lt hy hx
  apply List.ext_getElem?
  intro k
  rw [List.getElem?_set]
  by_cases hk : k < w * h
  · by_cases e : y * w + x = k
    · subst e
      rw [if_pos rfl, if_pos (by rw [flaG_length]; exact hl), flaG_at hy hx]
      unfold updG; rw [if_pos ⟨rfl, rfl⟩]
    · rw [if_neg e]
      have hd : ¬ (k / w = y ∧ k % w = x) := fun ⟨a, b⟩ => e (by rw [← a, ← b, Nat.mul_comm]; exact Nat.div_add_mod k w)
      simp [flaG, hk, updG, hd]
  · rw [List.getElem?_eq_none (by rw [flaG_length]; omega)]
    rw [if_neg (by omega), List.getElem?_eq_none (by rw [flaG_length]; omega)]
theorem tabG_set {w h : Nat} {G : Grid} {y x : Nat} (hy : y < h) (n : Int) : (tabG w h G).set y (((List.range w).map fun x => G y x).set x n) = tabG w h (updG G y x n) := by
  apply List.ext_getElem?
  intro k
  rw [List.getElem?_set]
  by_cases hk : k < h
  · by_cases e : y = k
    · subst e
      rw [if_pos rfl, if_pos (by rw [tabG_length]; exact hk), tabG_at hk]
      congr 1
      apply List.ext_getElem?
      intro j
      rw [List.getElem?_set]
      by_cases hj : j < w
      · by_cases e : x = j
        · subst e; rw [if_pos rfl, if_pos (by simpa using hj), row_at hj]; unfold updG; rw [if_pos ⟨rfl, rfl⟩]
        · rw [if_neg e, row_at hj, row_at hj]; unfold updG; rw [if_neg (fun h => e h.2.symm)]
      · rw [List.getElem?_eq_none (show ((List.range w).map fun z => updG G y x n y z).length ≤ j by simp; omega)]
        split
        · rw [if_neg (by simp; omega)]
        · exact List.getElem?_eq_none (by simp; omega)
    · rw [if_neg e, tabG_at hk, tabG_at hk]
      congr 1
      apply List.map_congr_left
      intro j hj
      unfold updG; rw [if_neg (fun h => e h.1.symm)]
  · rw [List.getElem?_eq_none (show (tabG w h (updG G y x n)).length ≤ k by rw [tabG_length]; omega)]
    split
    · rw [if_neg (by rw [tabG_length]; omega)]
    · exact List.getElem?_eq_none (by rw [tabG_length]; omega)
theorem flaG_flat (w : Nat) (G : Grid) : ∀ h, flaG w h G = (tabG w h G).flatten
  | 0 => by simp [flaG, tabG]
  | h + 1 => by
    have ih := flaG_flat w G h
    unfold flaG tabG at *
    rw [Nat.mul_add, Nat.mul_one, List.range_add, List.map_append, ih, List.range_succ, List.map_append, List.flatten_append]
    congr 1
    simp only [List.map_map, List.map_cons, List.map_nil, List.flatten_cons, List.flatten_nil, List.append_nil]
    apply List.map_congr_left
    intro x hx
    have hx : x < w := by simpa using hx
    have := flat_div (y := h) hx
    rw [Nat.mul_comm] at this
    show G ((w * h + x) / w) ((w * h + x) % w) = G h x
    rw [this.1, this.2]

/-! ### Pieces and placings -/
def okP (p : Piece) : Bool := inB p.1 1 8 && inB p.2 1 8
def okPs (ps : List Piece) : Bool := ps.all okP && decide (ps.length ≤ 8)
def okCh (w h : Int) (ps : List Piece) : Bool := inB w 1 8 && (inB h 1 8 && okPs ps)
theorem okP_spec {p : Piece} (h : okP p = true) : (1 ≤ p.1 ∧ p.1 ≤ 8) ∧ 1 ≤ p.2 ∧ p.2 ≤ 8 := by
  rw [okP, Bool.and_eq_true] at h; exact ⟨inB_spec h.1, inB_spec h.2⟩
theorem okPs_spec {ps : List Piece} (h : okPs ps = true) : (∀ p ∈ ps, (1 ≤ p.1 ∧ p.1 ≤ 8) ∧ 1 ≤ p.2 ∧ p.2 ≤ 8) ∧ ps.length ≤ 8 := by
  rw [okPs, Bool.and_eq_true] at h
  exact ⟨fun p hp => okP_spec (List.all_eq_true.1 h.1 p hp), of_decide_eq_true h.2⟩
theorem okCh_spec {w h : Int} {ps : List Piece} (e : okCh w h ps = true) : (1 ≤ w ∧ w ≤ 8) ∧ (1 ≤ h ∧ h ≤ 8) ∧ okPs ps = true := by
  rw [okCh, Bool.and_eq_true, Bool.and_eq_true] at e; exact ⟨inB_spec e.1, inB_spec e.2.1, e.2.2⟩
theorem okCh_swap (w h : Int) (ps : List Piece) : okCh h w ps = okCh w h ps := by unfold okCh; cases inB w 1 8 <;> cases inB h 1 8 <;> rfl
def nthP (ps : List Piece) (n : Int) : Piece := (ps[n.toNat]?).getD (0, 0)
theorem nthP_some {ps : List Piece} {n : Int} {p : Piece} (h : ps[n.toNat]? = some p) : nthP ps n = p := by rw [nthP, h]; rfl
def sideF (q : Piece) (t : Bool) : Int × Int := if t then (q.2, q.1) else (q.1, q.2)
def sideP (ps : List Piece) (p : Plc) : Int × Int := sideF (nthP ps p.1) p.2.2.2
theorem side_bound {ps : List Piece} (h : okPs ps = true) {p : Plc} (h0 : 0 ≤ p.1) (h1 : p.1 < ps.length) : (1 ≤ (sideP ps p).1 ∧ (sideP ps p).1 ≤ 8) ∧ 1 ≤ (sideP ps p).2 ∧ (sideP ps p).2 ≤ 8 := by
  have hp : ps[p.1.toNat]? = some (ps[p.1.toNat]'(by omega)) := List.getElem?_eq_getElem _
  have := (okPs_spec h).1 _ (List.mem_of_getElem? hp)
  unfold sideP sideF
  rw [nthP_some hp]
  split
  · exact ⟨this.2, this.1⟩
  · exact this
def inQ (s : Int × Int) (X Y : Int) (y x : Nat) : Bool := (decide (Y ≤ y) && decide ((y : Int) < Y + s.2)) && (decide (X ≤ x) && decide ((x : Int) < X + s.1))
theorem inQ_iff {s : Int × Int} {X Y : Int} {y x : Nat} : inQ s X Y y x = true ↔ (Y ≤ y ∧ (y : Int) < Y + s.2) ∧ X ≤ x ∧ (x : Int) < X + s.1 := by simp [inQ]
def inP (ps : List Piece) (p : Plc) (y x : Nat) : Bool := inQ (sideP ps p) p.2.1 p.2.2.1 y x
def fitP (ps : List Piece) (w h : Nat) (p : Plc) : Bool := (decide (0 ≤ p.2.1) && decide (0 ≤ p.2.2.1)) && (decide (p.2.1 + (sideP ps p).1 ≤ w) && decide (p.2.2.1 + (sideP ps p).2 ≤ h))
theorem fitP_iff {ps : List Piece} {w h : Nat} {p : Plc} : fitP ps w h p = true ↔ (0 ≤ p.2.1 ∧ 0 ≤ p.2.2.1) ∧ p.2.1 + (sideP ps p).1 ≤ w ∧ p.2.2.1 + (sideP ps p).2 ≤ h := by simp [fitP]
def freeP (ps : List Piece) (w h : Nat) (G : Grid) (p : Plc) : Bool := (List.range h).all fun y => (List.range w).all fun x => !inP ps p y x || decide (G y x = -1)
theorem freeP_iff {ps : List Piece} {w h : Nat} {G : Grid} {p : Plc} : freeP ps w h G p = true ↔ ∀ y x, y < h → x < w → inP ps p y x = true → G y x = -1 := by
  simp only [freeP, List.all_eq_true, List.mem_range, Bool.or_eq_true, Bool.not_eq_true', decide_eq_true_eq]
  constructor
  · intro e y x hy hx hi
    rcases e y hy x hx with e | e
    · rw [hi] at e; cases e
    · exact e
  · intro e y hy x hx
    cases hi : inP ps p y x with
    | false => exact .inl rfl
    | true => exact .inr (e y x hy hx hi)
def roomP (ps : List Piece) (w h : Nat) (G : Grid) (p : Plc) : Bool := fitP ps w h p && freeP ps w h G p
def putP (ps : List Piece) (G : Grid) (p : Plc) (n : Int) : Grid := fun y x => if inP ps p y x then n else G y x
def chaseG (ps : List Piece) (w h : Nat) : Int → List Plc → Grid → Option Grid
  | _, [], G => some G
  | l, p :: r, G => if (l < p.1 ∧ p.1 < ps.length) ∧ roomP ps w h G p = true then chaseG ps w h p.1 r (putP ps G p p.1) else none
def noG : Grid := fun _ _ => -1
def chaseF (w h : Int) (ps : List Piece) (pl : List Plc) : Option Grid := if okCh w h ps then chaseG ps w.toNat h.toNat (-1) pl noG else none
def smallG (w h : Nat) (G : Grid) : Prop := ∀ y x, -1 ≤ G y x ∧ G y x ≤ 7
theorem small_no (w h : Nat) : smallG w h noG := fun _ _ => by unfold noG; omega
theorem small_put {w h : Nat} {G : Grid} (hs : smallG w h G) (ps : List Piece) (p : Plc) {n : Int} (hn : -1 ≤ n ∧ n ≤ 7) : smallG w h (putP ps G p n) := fun y x => by
  unfold putP; split
  · exact hn
  · exact hs y x
theorem chaseG_nil {ps : List Piece} {w h : Nat} {l : Int} {G : Grid} {pl : List Plc} {i : Nat} (hi : pl.length ≤ i) : chaseG ps w h l (pl.drop i) G = some G := by
  rw [List.drop_of_length_le hi]; rfl
theorem chaseG_yes {ps : List Piece} {w h : Nat} {l : Int} {G : Grid} {pl : List Plc} {i : Nat} {p : Plc} (hp : pl[i]? = some p) (h1 : l < p.1) (h2 : p.1 < ps.length) (h3 : roomP ps w h G p = true) : chaseG ps w h l (pl.drop i) G = chaseG ps w h p.1 (pl.drop (i + 1)) (putP ps G p p.1) := by
  obtain ⟨hl, rfl⟩ := List.getElem?_eq_some_iff.1 hp
  rw [List.drop_eq_getElem_cons hl, chaseG, if_pos ⟨⟨h1, h2⟩, h3⟩]
theorem chaseG_no {ps : List Piece} {w h : Nat} {l : Int} {G : Grid} {pl : List Plc} {i : Nat} {p : Plc} (hp : pl[i]? = some p) (hn : ¬ ((l < p.1 ∧ p.1 < ps.length) ∧ roomP ps w h G p = true)) : chaseG ps w h l (pl.drop i) G = none := by
  obtain ⟨hl, rfl⟩ := List.getElem?_eq_some_iff.1 hp
  rw [List.drop_eq_getElem_cons hl, chaseG, if_neg hn]
theorem chase_small {ps : List Piece} (hps : ps.length ≤ 8) {w h : Nat} : ∀ (pl : List Plc) (l : Int) (G G' : Grid), -1 ≤ l → smallG w h G → chaseG ps w h l pl G = some G' → smallG w h G'
  | [], _, G, G', _, hs, e => by cases e; exact hs
  | p :: r, l, G, G', hl, hs, e => by
    rw [chaseG] at e
    split at e
    · rename_i hc
      exact chase_small hps r p.1 _ G' (by omega) (small_put hs ps p (by omega)) e
    · cases e
theorem chase_len {ps : List Piece} {w h : Nat} : ∀ (pl : List Plc) (l : Int) (G G' : Grid), -1 ≤ l → chaseG ps w h l pl G = some G' → (pl.length : Int) ≤ max 0 (ps.length - 1 - l)
  | [], l, G, G', _, e => by simp; omega
  | p :: r, l, G, G', hl, e => by
    rw [chaseG] at e
    split at e
    · rename_i hc
      have := chase_len r p.1 _ G' (by omega) e
      rw [List.length_cons]; omega
    · cases e

/-! ### Counting -/
def freeR (r : List Int) : Int := (r.map fun c => if c = -1 then (1 : Int) else 0).sum
def freeC (w h : Nat) (G : Grid) : Int := ((tabG w h G).map freeR).sum
def sumN (n : Nat) (f : Nat → Int) : Int := ((List.range n).map f).sum
theorem sumN_succ (n : Nat) (f : Nat → Int) : sumN (n + 1) f = sumN n f + f n := by simp [sumN, List.range_succ]
theorem sumN_zero (f : Nat → Int) : sumN 0 f = 0 := rfl
theorem sumN_add (n : Nat) (f g : Nat → Int) : sumN n (fun k => f k + g k) = sumN n f + sumN n g := by
  induction n with
  | zero => rfl
  | succ n ih => rw [sumN_succ, sumN_succ, sumN_succ, ih]; omega
theorem sumN_swap (a b : Nat) (f : Nat → Nat → Int) : sumN a (fun i => sumN b fun j => f i j) = sumN b (fun j => sumN a fun i => f i j) := by
  induction a with
  | zero =>
    rw [sumN_zero]
    induction b with
    | zero => rfl
    | succ b ih => rw [sumN_succ, ← ih]; rfl
  | succ a ih =>
    rw [sumN_succ, ih, ← sumN_add]
    unfold sumN
    congr 1
    apply List.map_congr_left
    intro j _
    exact (sumN_succ a fun i => f i j).symm
theorem freeC_sum (w h : Nat) (G : Grid) : freeC w h G = sumN h fun y => sumN w fun x => if G y x = -1 then (1 : Int) else 0 := by
  unfold freeC tabG sumN freeR
  rw [List.map_map]
  congr 1
  apply List.map_congr_left
  intro y _
  simp only [Function.comp, List.map_map]
  rfl
def trG (G : Grid) : Grid := fun y x => G x y
theorem freeC_tr (w h : Nat) (G : Grid) : freeC h w (trG G) = freeC w h G := by rw [freeC_sum, freeC_sum, sumN_swap]; rfl
theorem freeR_flat (l : List (List Int)) : freeR l.flatten = (l.map freeR).sum := by
  induction l with
  | nil => rfl
  | cons r t ih => simp only [List.flatten_cons, List.map_cons, List.sum_cons, ← ih]; simp [freeR]
theorem freeF (w h : Nat) (G : Grid) : freeR (flaG w h G) = freeC w h G := by rw [flaG_flat, freeR_flat]; rfl
theorem freeR_take {l : List Int} {i : Nat} {c : Int} (h : l[i]? = some c) : freeR (l.take (i + 1)) = freeR (l.take i) + if c = -1 then 1 else 0 := by
  rw [List.take_add_one, h]; simp [freeR]
theorem freeR_bound (l : List Int) : 0 ≤ freeR l ∧ freeR l ≤ l.length := by
  induction l with
  | nil => simp [freeR]
  | cons c t ih =>
    have e : freeR (c :: t) = (if c = -1 then (1 : Int) else 0) + freeR t := by simp [freeR]
    rw [e, List.length_cons]; split <;> omega
theorem freeR_has {l : List Int} (hl : ∀ c ∈ l, -1 ≤ c) : freeR l = 0 ↔ ¬ (-1 : Int) ∈ l := by
  induction l with
  | nil => simp [freeR]
  | cons c t ih =>
    have e : freeR (c :: t) = (if c = -1 then (1 : Int) else 0) + freeR t := by simp [freeR]
    have hb := freeR_bound t
    have ih := ih fun x hx => hl x (by simp [hx])
    rw [e]
    by_cases hc : c = -1
    · rw [if_pos hc]
      exact ⟨fun h => by omega, fun h => absurd (by rw [hc]; simp) h⟩
    · rw [if_neg hc, Int.zero_add, ih]
      simp only [List.mem_cons, not_or]
      exact ⟨fun h => ⟨fun e => hc e.symm, h⟩, fun h => h.2⟩

/-! ### Answers -/
def chaseL (w h : Int) (ps : List Piece) (pl : List Plc) : List (List Int) × Bool := match chaseF w h ps pl with
  | some G => (tabG w.toNat h.toNat G, true)
  | none => ([], false)
def gridL (w h : Int) (ps : List Piece) (pl : List Plc) : List Int × Bool := match chaseF w h ps pl with
  | some G => (flaG w.toNat h.toNat G, true)
  | none => ([], false)
def turnP (p : Plc) : Plc := (p.1, p.2.2.1, p.2.1, !p.2.2.2)
def turnA (w h : Int) (ps : List Piece) (pl : List Plc) : List Plc × Bool := match chaseF w h ps pl with
  | some _ => (pl.map turnP, true)
  | none => ([], false)
def frA (w h : Int) (ps : List Piece) (pl : List Plc) : Int × Bool := match chaseF w h ps pl with
  | some G => (freeC w.toNat h.toNat G, true)
  | none => (0, false)
def fillA (w h : Int) (ps : List Piece) (pl : List Plc) : Bool × Bool := match chaseF w h ps pl with
  | some G => (decide (freeC w.toNat h.toNat G = 0) && decide (pl.length = ps.length), true)
  | none => (false, false)
def sgnC (c : Int) : UInt8 := if c = -1 then 46 else UInt8.ofNat (48 + c).toNat
def picF (l : List (List Int)) : List UInt8 := l.flatMap fun r => r.map sgnC ++ [10]
def picA (w h : Int) (ps : List Piece) (pl : List Plc) : List UInt8 × Bool := match chaseF w h ps pl with
  | some G => (picF (tabG w.toNat h.toNat G), true)
  | none => ([], false)
def areaF (ps : List Piece) : Int := (ps.map fun p => p.1 * p.2).sum
def areaA (ps : List Piece) : Int × Bool := if okPs ps then (areaF ps, true) else (0, false)
theorem area_take {ps : List Piece} {i : Nat} {p : Piece} (h : ps[i]? = some p) : areaF (ps.take (i + 1)) = areaF (ps.take i) + p.1 * p.2 := by
  rw [List.take_add_one, h]; simp [areaF]

/-! ### Turned placings -/
theorem turn_turn (p : Plc) : turnP (turnP p) = p := by simp [turnP]
theorem turn_side (ps : List Piece) (p : Plc) : sideP ps (turnP p) = ((sideP ps p).2, (sideP ps p).1) := by
  unfold sideP sideF turnP
  cases p.2.2.2 <;> rfl
theorem turn_in (ps : List Piece) (p : Plc) (y x : Nat) : inP ps (turnP p) y x = inP ps p x y := by
  unfold inP inQ
  rw [turn_side]
  show ((decide (p.2.1 ≤ y) && decide ((y : Int) < p.2.1 + (sideP ps p).1)) && (decide (p.2.2.1 ≤ x) && decide ((x : Int) < p.2.2.1 + (sideP ps p).2))) = _
  rw [Bool.and_comm]
theorem turn_fit (ps : List Piece) (w h : Nat) (p : Plc) : fitP ps h w (turnP p) = fitP ps w h p := by
  unfold fitP
  rw [turn_side]
  show ((decide (0 ≤ p.2.2.1) && decide (0 ≤ p.2.1)) && (decide (p.2.2.1 + (sideP ps p).2 ≤ h) && decide (p.2.1 + (sideP ps p).1 ≤ w))) = _
  rw [Bool.and_comm (decide (0 ≤ p.2.2.1)), Bool.and_comm (decide (p.2.2.1 + (sideP ps p).2 ≤ h))]
theorem turn_free (ps : List Piece) (w h : Nat) (G : Grid) (p : Plc) : freeP ps h w (trG G) (turnP p) = freeP ps w h G p := by
  rw [Bool.eq_iff_iff, freeP_iff, freeP_iff]
  constructor
  · intro e y x hy hx hi; exact e x y hx hy (by rw [turn_in]; exact hi)
  · intro e y x hy hx hi; exact e x y hx hy (by rw [← turn_in]; exact hi)
theorem turn_put (ps : List Piece) (G : Grid) (p : Plc) (n : Int) : putP ps (trG G) (turnP p) n = trG (putP ps G p n) := by
  funext y x
  unfold putP trG
  rw [turn_in]
theorem turn_chase (ps : List Piece) (w h : Nat) : ∀ (pl : List Plc) (l : Int) (G : Grid), chaseG ps h w l (pl.map turnP) (trG G) = (chaseG ps w h l pl G).map trG
  | [], _, _ => rfl
  | p :: r, l, G => by
    rw [List.map_cons, chaseG, chaseG]
    have e1 : (turnP p).1 = p.1 := rfl
    have e2 : roomP ps h w (trG G) (turnP p) = roomP ps w h G p := by rw [roomP, roomP, turn_fit, turn_free]
    rw [e1, e2]
    split
    · rw [turn_put, turn_chase ps w h r p.1]
    · rfl
theorem turn_all {w h : Int} {ps : List Piece} {pl : List Plc} : chaseF h w ps (pl.map turnP) = (chaseF w h ps pl).map trG := by
  unfold chaseF
  rw [okCh_swap]
  split
  · exact turn_chase ps w.toNat h.toNat pl (-1) noG
  · rfl
theorem pic_length (w : Nat) (G : Grid) : ∀ h, (picF (tabG w h G)).length = h * (w + 1)
  | 0 => by simp [picF, tabG]
  | h + 1 => by
    have ih := pic_length w G h
    unfold picF tabG at *
    rw [List.range_succ, List.map_append, List.flatMap_append, List.length_append, ih, Nat.add_mul, Nat.one_mul]
    simp
def dotB (s : List UInt8) : Int := (s.map fun b => if (b.toNat : Int) = 46 then (1 : Int) else 0).sum
theorem dotB_take {s : List UInt8} {i : Nat} {b : UInt8} (h : s[i]? = some b) : dotB (s.take (i + 1)) = dotB (s.take i) + if (b.toNat : Int) = 46 then 1 else 0 := by
  rw [List.take_add_one, h]; simp [dotB]
theorem sgn_dot {c : Int} (h : -1 ≤ c ∧ c ≤ 7) : ((sgnC c).toNat : Int) = 46 ↔ c = -1 := by
  have : c = -1 ∨ c = 0 ∨ c = 1 ∨ c = 2 ∨ c = 3 ∨ c = 4 ∨ c = 5 ∨ c = 6 ∨ c = 7 := by omega
  rcases this with rfl | rfl | rfl | rfl | rfl | rfl | rfl | rfl | rfl <;> decide
theorem dot_row {r : List Int} (h : ∀ c ∈ r, -1 ≤ c ∧ c ≤ 7) : dotB (r.map sgnC ++ [10]) = freeR r := by
  induction r with
  | nil => rfl
  | cons c t ih =>
    have ih := ih fun x hx => h x (by simp [hx])
    have hc := sgn_dot (h c (by simp))
    have e1 : dotB ((c :: t).map sgnC ++ [10]) = (if ((sgnC c).toNat : Int) = 46 then (1 : Int) else 0) + dotB (t.map sgnC ++ [10]) := by simp [dotB]
    have e2 : freeR (c :: t) = (if c = -1 then (1 : Int) else 0) + freeR t := by simp [freeR]
    rw [e1, e2, ih]
    by_cases hd : c = -1
    · rw [if_pos (hc.2 hd), if_pos hd]
    · rw [if_neg (fun e => hd (hc.1 e)), if_neg hd]
theorem dot_rows {l : List (List Int)} (h : ∀ r ∈ l, ∀ c ∈ r, -1 ≤ c ∧ c ≤ 7) : dotB (picF l) = (l.map freeR).sum := by
  induction l with
  | nil => rfl
  | cons r t ih =>
    have ih := ih fun x hx => h x (by simp [hx])
    have e : picF (r :: t) = (r.map sgnC ++ [10]) ++ picF t := by simp [picF]
    have e2 : ∀ a b : List UInt8, dotB (a ++ b) = dotB a + dotB b := fun a b => by simp [dotB]
    rw [e, e2, dot_row (h r (by simp)), ih]; simp
theorem tabG_small {w h : Nat} {G : Grid} (hs : smallG w h G) : ∀ r ∈ tabG w h G, ∀ c ∈ r, -1 ≤ c ∧ c ≤ 7 := by
  intro r hr c hc
  obtain ⟨y, -, rfl⟩ := List.mem_map.1 hr
  obtain ⟨x, -, rfl⟩ := List.mem_map.1 hc
  exact hs y x
theorem pic_dots {w h : Nat} {G : Grid} (hs : smallG w h G) : dotB (picF (tabG w h G)) = freeC w h G := dot_rows (tabG_small hs)
theorem dotB_bound (s : List UInt8) : 0 ≤ dotB s ∧ dotB s ≤ s.length := by
  induction s with
  | nil => simp [dotB]
  | cons c t ih =>
    have e : dotB (c :: t) = (if (c.toNat : Int) = 46 then (1 : Int) else 0) + dotB t := by simp [dotB]
    rw [e, List.length_cons]; split <;> omega
theorem chaseF_some {w h : Int} {ps : List Piece} {pl : List Plc} {G : Grid} (e : chaseF w h ps pl = some G) : okCh w h ps = true ∧ smallG w.toNat h.toNat G ∧ pl.length ≤ 8 := by
  unfold chaseF at e
  split at e
  · rename_i hc
    have ho := okCh_spec hc
    have hp := okPs_spec ho.2.2
    refine ⟨hc, chase_small hp.2 pl (-1) noG G (by omega) (small_no _ _) e, ?_⟩
    have := chase_len pl (-1) noG G (by omega) e
    omega
  · cases e
/-- What the law asks of a chase. -/
theorem chase_law {w h : Int} {ps : List Piece} {pl : List Plc} (G : Grid) (e : chaseF w h ps pl = some G) :
    turnA w h ps pl = (pl.map turnP, true) ∧ frA w h ps pl = (freeC w.toNat h.toNat G, true) ∧ fillA w h ps pl = (decide (freeC w.toNat h.toNat G = 0) && decide (pl.length = ps.length), true) ∧ picA w h ps pl = (picF (tabG w.toNat h.toNat G), true) ∧
    frA h w ps (pl.map turnP) = (freeC w.toNat h.toNat G, true) ∧ turnA h w ps (pl.map turnP) = (pl, true) ∧ fillA h w ps (pl.map turnP) = (decide (freeC w.toNat h.toNat G = 0) && decide (pl.length = ps.length), true) ∧
    ((picF (tabG w.toNat h.toNat G)).length : Int) = h * (w + 1) ∧ dotB (picF (tabG w.toNat h.toNat G)) = freeC w.toNat h.toNat G := by
  have e2 : chaseF h w ps (pl.map turnP) = some (trG G) := by rw [turn_all, e]; rfl
  obtain ⟨hc, hs, -⟩ := chaseF_some e
  obtain ⟨hw, hh, -⟩ := okCh_spec hc
  refine ⟨by rw [turnA, e], by rw [frA, e], by rw [fillA, e], by rw [picA, e], by rw [frA, e2]; simp only [freeC_tr], ?_, ?_, ?_, pic_dots hs⟩
  · rw [turnA, e2]
    simp only [List.map_map]
    congr 1
    conv => rhs; rw [← List.map_id pl]
    apply List.map_congr_left
    intro p _
    exact turn_turn p
  · rw [fillA, e2]; simp only [freeC_tr, List.length_map]
  · rw [pic_length]
    have a : ((h.toNat : Nat) : Int) = h := by omega
    have b : ((w.toNat : Nat) : Int) = w := by omega
    rw [Int.natCast_mul, Int.natCast_add, a, b]; rfl
end Go.Proofs.Ytiaodmfipeoegaa.Ai
