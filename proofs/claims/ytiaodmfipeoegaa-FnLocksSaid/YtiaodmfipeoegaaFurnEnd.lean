/- Plain laws on chases: pieces that are placed, free places, turned placings, pictures. -/
import Derived.Test.YtiaodmfipeoegaaCommon
namespace Go.Proofs.Ytiaodmfipeoegaa.Ai
open Go Go.Proofs
set_option linter.unusedSimpArgs false
set_option linter.unusedVariables false

abbrev Piece := Int × Int
abbrev Plc := Int × Int × Int × Bool
def cPiece (x : Piece) : List PV := [.int .i64 x.1, .int .i64 x.2]
def cPlaced (x : Plc) : List PV := [.int .i64 x.1, .int .i64 x.2.1, .int .i64 x.2.2.1, .bool x.2.2.2]
abbrev Grid := Nat → Nat → Int
/-- A chase as rows of places, and as one row. -/
def tabG (w h : Nat) (G : Grid) : List (List Int) := (List.range h).map fun y => (List.range w).map fun x => G y x
def flaG (w h : Nat) (G : Grid) : List Int := (List.range (w * h)).map fun k => G (k / w) (k % w)
def updG (G : Grid) (y x : Nat) (n : Int) : Grid := fun y' x' => if y' = y ∧ x' = x then n else G y' x'
theorem tabG_length (w h : Nat) (G : Grid) : (tabG w h G).length = h := by simp [tabG]
theorem flaG_length (w h : Nat) (G : Grid) : (flaG w h G).length = w * h := by simp [flaG]
theorem tabG_at {w h : Nat} {G : Grid} {y : Nat} (hy : y < h) : (tabG w h G)[y]? = some ((List.range w).map fun x => G y x) := by
  simp [tabG, hy]
theorem row_at {w : Nat} {G : Grid} {y x : Nat} (hx : x < w) : ((List.range w).map fun x => G y x)[x]? = some (G y x) := by simp [hx]
theorem row_length (w : Nat) (G : Grid) (y : Nat) : ((List.range w).map fun x => G y x).length = w := by simp
theorem flat_lt {w h y x : Nat} (hy : y < h) (hx : x < w) : y * w + x < w * h := by
  have : (y + 1) * w ≤ h * w := Nat.mul_le_mul_right w hy
  rw [Nat.add_mul, Nat.one_mul] at this
  rw [Nat.mul_comm w h]; omega
theorem flat_div {w y x : Nat} (hx : x < w) : (y * w + x) / w = y ∧ (y * w + x) % w = x := by
  have hw : 0 < w := by omega
  constructor
  · rw [Nat.mul_comm, Nat.mul_add_div hw, Nat.div_eq_of_lt hx]; rfl
  · rw [Nat.mul_comm, Nat.mul_add_mod, Nat.mod_eq_of_lt hx]
theorem flaG_at {w h : Nat} {G : Grid} {y x : Nat} (hy : y < h) (hx : x < w) : (flaG w h G)[y * w + x]? = some (G y x) := by
  have := flat_lt hy hx
  obtain ⟨e1, e2⟩ := flat_div (y := y) hx
  simp [flaG, this, e1, e2]
theorem flaG_set {w h : Nat} {G : Grid} {y x : Nat} (hy : y < h) (hx : x < w) (n : Int) : (flaG w h G).set (y * w + x) n = flaG w h (updG G y x n) := by
  obtain ⟨e1, e2⟩ := flat_div (y := y) hx
  have hl := flat_lt hy hx
  apply List.ext_getElem?
  intro k
  rw [List.getElem?_set]
  by_cases hk : k < w * h
  · by_cases e : y * w + x = k
    · subst e
      rw [if_pos rfl, if_pos (by rw [flaG_length]; exact hl), flaG_at hy hx]
      unfold updG; rw [if_pos ⟨rfl, rfl⟩]
    · rw [if_neg e]
      have hd : ¬ (k / w = y ∧ k % w = x) := fun ⟨a, b⟩ => e (by rw [← a, ← b, Nat.mul_comm]; exact Nat.div_add_mod k w)
      simp [flaG, hk, updG, hd]
  · rw [List.getElem?_eq_none (by rw [flaG_length]; omega)]
    rw [if_neg (by omega), List.getElem?_eq_none (by rw [flaG_length]; omega)]
theorem tabG_set {w h : Nat} {G : Grid} {y x : Nat} (hy : y < h) (n : Int) : (tabG w h G).set y (((List.range w).map fun x => G y x).set x n) = tabG w h (updG G y x n) := by
  apply List.ext_getElem?
  intro k
  rw [List.getElem?_set]
  by_cases hk : k < h
  · by_cases e : y = k
    · subst e
      rw [if_pos rfl, if_pos (by rw [tabG_length]; exact hk), tabG_at hk]
      congr 1
      apply List.ext_getElem?
      intro j
      rw [List.getElem?_set]
      by_cases hj : j < w
      · by_cases e : x = j
        · subst e; rw [if_pos rfl, if_pos (by simpa using hj), row_at hj]; unfold updG; rw [if_pos ⟨rfl, rfl⟩]
        · rw [if_neg e, row_at hj, row_at hj]; unfold updG; rw [if_neg (fun h => e h.2.symm)]
      · rw [List.getElem?_eq_none (show ((List.range w).map fun z => updG G y x n y z).length ≤ j by simp; omega)]
        split
        · rw [if_neg (by simp; omega)]
        · exact List.getElem?_eq_none (by simp; omega)
    · rw [if_neg e, tabG_at hk, tabG_at hk]
      congr 1
      apply List.map_congr_left
      intro j hj
      unfold updG; rw [if_neg (fun h => e h.1.symm)]
  · rw [List.getElem?_eq_none (show (tabG w h (updG G y x n)).length ≤ k by rw [tabG_length]; omega)]
    split
    · rw [if_neg (by rw [tabG_length]; omega)]
    · exact List.getElem?_eq_none (by rw [tabG_length]; omega)
theorem flaG_flat (w : Nat) (G : Grid) : ∀ h, flaG w h G = (tabG w h G).flatten
  | 0 => by simp [flaG, tabG]
  | h + 1 => by
    have ih := flaG_flat w G h
    unfold flaG tabG at *
    rw [Nat.mul_add, Nat.mul_one, List.range_add, List.map_append, ih, List.range_succ, List.map_append, List.flatten_append]
    congr 1
    simp only [List.map_map, List.map_cons, List.map_nil, List.flatten_cons, List.flatten_nil, List.append_nil]
    apply List.map_congr_left
    intro x hx
    have hx : x < w := by simpa using hx
    have := flat_div (y := h) hx
    rw [Nat.mul_comm] at this
    show G ((w * h + x) / w) ((w * h + x) % w) = G h x
    rw [this.1, this.2]

/-! ### Pieces and placings -/
def okP (p : Piece) : Bool := inB p.1 1 8 && inB p.2 1 8
def okPs (ps : List Piece) : Bool := ps.all okP && decide (ps.length ≤ 8)
def okCh (w h : Int) (ps : List Piece) : Bool := inB w 1 8 && (inB h 1 8 && okPs ps)
theorem okP_spec {p : Piece} (h : okP p = true) : (1 ≤ p.1 ∧ p.1 ≤ 8) ∧ 1 ≤ p.2 ∧ p.2 ≤ 8 := by
  rw [okP, Bool.and_eq_true] at h; exact ⟨inB_spec h.1, inB_spec h.2⟩
theorem okPs_spec {ps : List Piece} (h : okPs ps = true) : (∀ p ∈ ps, (1 ≤ p.1 ∧ p.1 ≤ 8) ∧ 1 ≤ p.2 ∧ p.2 ≤ 8) ∧ ps.length ≤ 8 := by
  rw [okPs, Bool.and_eq_true] at h
  exact ⟨fun p hp => okP_spec (List.all_eq_true.1 h.1 p hp), of_decide_eq_true h.2⟩
theorem okCh_spec {w h : Int} {ps : List Piece} (e : okCh w h ps = true) : (1 ≤ w ∧ w ≤ 8) ∧ (1 ≤ h ∧ h ≤ 8) ∧ okPs ps = true := by
  rw [okCh, Bool.and_eq_true, Bool.and_eq_true] at e; exact ⟨inB_spec e.1, inB_spec e.2.1, e.2.2⟩
def nthP (ps : List Piece) (n : Int) : Piece := (ps[n.toNat]?).getD (0, 0)
theorem nthP_some {ps : List Piece} {n : Int} {p : Piece} (h : ps[n.toNat]? = some p) : nthP ps n = p := by rw [nthP, h]; rfl
def sideF (q : Piece) (t : Bool) : Int × Int := if t then (q.2, q.1) else (q.1, q.2)
def sideP (ps : List Piece) (p : Plc) : Int × Int := sideF (nthP ps p.1) p.2.2.2
theorem side_bound {ps : List Piece} (h : okPs ps = true) {p : Plc} (h0 : 0 ≤ p.1) (h1 : p.1 < ps.length) : (1 ≤ (sideP ps p).1 ∧ (sideP ps p).1 ≤ 8) ∧ 1 ≤ (sideP ps p).2 ∧ (sideP ps p).2 ≤ 8 := by
  have hp : ps[p.1.toNat]? = some (ps[p.1.toNat]'(by omega)) := List.getElem?_eq_getElem _
  have := (okPs_spec h).1 _ (List.mem_of_getElem? hp)
  unfold sideP sideF
  rw [nthP_some hp]
  split
  · exact ⟨this.2, this.1⟩
  · exact this
def inQ (s : Int × Int) (X Y : Int) (y x : Nat) : Bool := (decide (Y ≤ y) && decide ((y : Int) < Y + s.2)) && (decide (X ≤ x) && decide ((x : Int) < X + s.1))
theorem inQ_iff {s : Int × Int} {X Y : Int} {y x : Nat} : inQ s X Y y x = true ↔ (Y ≤ y ∧ (y : Int) < Y + s.2) ∧ X ≤ x ∧ (x : Int) < X + s.1 := by simp [inQ]
def inP (ps : List Piece) (p : Plc) (y x : Nat) : Bool := inQ (sideP ps p) p.2.1 p.2.2.1 y x
def fitP (ps : List Piece) (w h : Nat) (p : Plc) : Bool := (decide (0 ≤ p.2.1) && decide (0 ≤ p.2.2.1)) && (decide (p.2.1 + (sideP ps p).1 ≤ w) && decide (p.2.2.1 + (sideP ps p).2 ≤ h))
theorem fitP_iff {ps : List Piece} {w h : Nat} {p : Plc} : fitP ps w h p = true ↔ (0 ≤ p.2.1 ∧ 0 ≤ p.2.2.1) ∧ p.2.1 + (sideP ps p).1 ≤ w ∧ p.2.2.1 + (sideP ps p).2 ≤ h := by simp [fitP]
def freeP (ps : List Piece) (w h : Nat) (G : Grid) (p : Plc) : Bool := (List.range h).all fun y => (List.range w).all fun x => !inP ps p y x || decide (G y x = -1)
theorem freeP_iff {ps : List Piece} {w h : Nat} {G : Grid} {p : Plc} : freeP ps w h G p = true ↔ ∀ y x, y < h → x < w → inP ps p y x = true → G y x = -1 := by
  simp only [freeP, List.all_eq_true, List.mem_range, Bool.or_eq_true, Bool.not_eq_true', decide_eq_true_eq]
  constructor
  · intro e y x hy hx hi
    rcases e y hy x hx with e | e
    · rw [hi] at e; cases e
    · exact e
  · intro e y hy x hx
    cases hi : inP ps p y x with
    | false => exact .inl rfl
    | true => exact .inr (e y x hy hx hi)
def roomP (ps : List Piece) (w h : Nat) (G : Grid) (p : Plc) : Bool := fitP ps w h p && freeP ps w h G p
def putP (ps : List Piece) (G : Grid) (p : Plc) (n : Int) : Grid := fun y x => if inP ps p y x then n else G y x
def chaseG (ps : List Piece) (w h : Nat) : Int → List Plc → Grid → Option Grid
  | _, [], G => some G
  | l, p :: r, G => if (l < p.1 ∧ p.1 < ps.length) ∧ roomP ps w h G p = true then chaseG ps w h p.1 r (putP ps G p p.1) else none
def noG : Grid := fun _ _ => -1
def chaseF (w h : Int) (ps : List Piece) (pl : List Plc) : Option Grid := if okCh w h ps then chaseG ps w.toNat h.toNat (-1) pl noG else none
def smallG (w h : Nat) (G : Grid) : Prop := ∀ y x, -1 ≤ G y x ∧ G y x ≤ 7
theorem small_no (w h : Nat) : smallG w h noG := fun _ _ => by unfold noG; omega
theorem small_put {w h : Nat} {G : Grid} (hs : smallG w h G) (ps : List Piece) (p : Plc) {n : Int} (hn : -1 ≤ n ∧ n ≤ 7) : smallG w h (putP ps G p n) := fun y x => by
  unfold putP; split
  · exact hn
  · exact hs y x
theorem chaseG_nil {ps : List Piece} {w h : Nat} {l : Int} {G : Grid} {pl : List Plc} {i : Nat} (hi : pl.length ≤ i) : chaseG ps w h l (pl.drop i) G = some G := by
  rw [List.drop_of_length_le hi]; rfl
theorem chaseG_yes {ps : List Piece} {w h : Nat} {l : Int} {G : Grid} {pl : List Plc} {i : Nat} {p : Plc} (hp : pl[i]? = some p) (h1 : l < p.1) (h2 : p.1 < ps.length) (h3 : roomP ps w h G p = true) : chaseG ps w h l (pl.drop i) G = chaseG ps w h p.1 (pl.drop (i + 1)) (putP ps G p p.1) := by
  obtain ⟨hl, rfl⟩ := List.getElem?_eq_some_iff.1 hp
  rw [List.drop_eq_getElem_cons hl, chaseG, if_pos ⟨⟨h1, h2⟩, h3⟩]
theorem chaseG_no {ps : List Piece} {w h : Nat} {l : Int} {G : Grid} {pl : List Plc} {i : Nat} {p : Plc} (hp : pl[i]? = some p) (hn : ¬ ((l < p.1 ∧ p.1 < ps.length) ∧ roomP ps w h G p = true)) : chaseG ps w h l (pl.drop i) G = none := by
  obtain ⟨hl, rfl⟩ := List.getElem?_eq_some_iff.1 hp
  rw [List.drop_eq_getElem_cons hl, chaseG, if_neg hn]
theorem chase_small {ps : List Piece} (hps : ps.length ≤ 8) {w h : Nat} : ∀ (pl : List Plc) (l : Int) (G G' : Grid), -1 ≤ l → smallG w h G → chaseG ps w h l pl G = some G' → smallG w h G'
  | [], _, G, G', _, hs, e => by cases e; exact hs
  | p :: r, l, G, G', hl, hs, e => by
    rw [chaseG] at e
    split at e
    · rename_i hc
      exact chase_small hps r p.1 _ G' (by omega) (small_put hs ps p (by omega)) e
    · cases e
theorem chase_len {ps : List Piece} {w h : Nat} : ∀ (pl : List Plc) (l : Int) (G G' : Grid), -1 ≤ l → chaseG ps w h l pl G = some G' → (pl.length : Int) ≤ max 0 (ps.length - 1 - l)
  | [], l, G, G', _, e => by simp; omega
  | p :: r, l, G, G', hl, e => by
    rw [chaseG] at e
    split at e
    · rename_i hc
      have := chase_len r p.1 _ G' (by omega) e
      rw [List.length_cons]; omega
    · cases e

/-! ### Counting -/
def freeR (r : List Int) : Int := (r.map fun c => if c = -1 then (1 : Int) else 0).sum
def freeC (w h : Nat) (G : Grid) : Int := ((tabG w h G).map freeR).sum
theorem freeR_flat (l : List (List Int)) : freeR l.flatten = (l.map freeR).sum := by
  induction l with
  | nil => rfl
  | cons r t ih => simp only [List.flatten_cons, List.map_cons, List.sum_cons, ← ih]; simp [freeR]
theorem freeF (w h : Nat) (G : Grid) : freeR (flaG w h G) = freeC w h G := by rw [flaG_flat, freeR_flat]; rfl
theorem freeR_take {l : List Int} {i : Nat} {c : Int} (h : l[i]? = some c) : freeR (l.take (i + 1)) = freeR (l.take i) + if c = -1 then 1 else 0 := by
  rw [List.take_add_one, h]; simp [freeR]
theorem freeR_bound (l : List Int) : 0 ≤ freeR l ∧ freeR l ≤ l.length := by
  induction l with
  | nil => simp [freeR]
  | cons c t ih =>
    have e : freeR (c :: t) = (if c = -1 then (1 : Int) else 0) + freeR t := by simp [freeR]
    rw [e, List.length_cons]; split <;> omega
theorem freeR_has {l : List Int} (hl : ∀ c ∈ l, -1 ≤ c) : freeR l = 0 ↔ ¬ (-1 : Int) ∈ l := by
  induction l with
  | nil => simp [freeR]
  | cons c t ih =>
    have e : freeR (c :: t) = (if c = -1 then (1 : Int) else 0) + freeR t := by simp [freeR]
    have hb := freeR_bound t
    have ih := ih fun x hx => hl x (by simp [hx])
    rw [e]
    by_cases hc : c = -1
    · rw [if_pos hc]
      exact ⟨fun h => by omega, fun h => absurd (by rw [hc]; simp) h⟩
    · rw [if_neg hc, Int.zero_add, ih]
      simp only [List.mem_cons, not_or]
      exact ⟨fun h => ⟨fun e => hc e.symm, h⟩, fun h => h.2⟩

/-! ### Answers -/
def chaseL (w h : Int) (ps : List Piece) (pl : List Plc) : List (List Int) × Bool := match chaseF w h ps pl with
  | some G => (tabG w.toNat h.toNat G, true)
  | none => ([], false)
def gridL (w h : Int) (ps : List Piece) (pl : List Plc) : List Int × Bool := match chaseF w h ps pl with
  | some G => (flaG w.toNat h.toNat G, true)
  | none => ([], false)
def fillA (w h : Int) (ps : List Piece) (pl : List Plc) : Bool × Bool := match chaseF w h ps pl with
  | some G => (decide (freeC w.toNat h.toNat G = 0) && decide (pl.length = ps.length), true)
  | none => (false, false)
def areaF (ps : List Piece) : Int := (ps.map fun p => p.1 * p.2).sum
theorem area_take {ps : List Piece} {i : Nat} {p : Piece} (h : ps[i]? = some p) : areaF (ps.take (i + 1)) = areaF (ps.take i) + p.1 * p.2 := by
  rw [List.take_add_one, h]; simp [areaF]

/-! ### Turned placings -/
theorem tabG_small {w h : Nat} {G : Grid} (hs : smallG w h G) : ∀ r ∈ tabG w h G, ∀ c ∈ r, -1 ≤ c ∧ c ≤ 7 := by
  intro r hr c hc
  obtain ⟨y, -, rfl⟩ := List.mem_map.1 hr
  obtain ⟨x, -, rfl⟩ := List.mem_map.1 hc
  exact hs y x
theorem chaseF_some {w h : Int} {ps : List Piece} {pl : List Plc} {G : Grid} (e : chaseF w h ps pl = some G) : okCh w h ps = true ∧ smallG w.toNat h.toNat G ∧ pl.length ≤ 8 := by
  unfold chaseF at e
  split at e
  · rename_i hc
    have ho := okCh_spec hc
    have hp := okPs_spec ho.2.2
    refine ⟨hc, chase_small hp.2 pl (-1) noG G (by omega) (small_no _ _) e, ?_⟩
    have := chase_len pl (-1) noG G (by omega) e
    omega
  · cases e
/- Plain laws on chases, second part: placings that are laid place by place, as loops do it. -/

/-- A chase in which a piece is laid up to a place. -/
def partG (ps : List Piece) (G : Grid) (p : Plc) (n yy xx : Int) : Grid := fun y x => if inP ps p y x = true ∧ ((y : Int) < yy ∨ ((y : Int) = yy ∧ (x : Int) < xx)) then n else G y x
theorem inP_iff {ps : List Piece} {p : Plc} {y x : Nat} : inP ps p y x = true ↔ (p.2.2.1 ≤ y ∧ (y : Int) < p.2.2.1 + (sideP ps p).2) ∧ p.2.1 ≤ x ∧ (x : Int) < p.2.1 + (sideP ps p).1 := inQ_iff
theorem part_start (ps : List Piece) (G : Grid) (p : Plc) (n : Int) : partG ps G p n p.2.2.1 p.2.1 = G := by
  funext y x
  unfold partG
  rw [if_neg]
  rintro ⟨h1, h2⟩
  rw [inP_iff] at h1
  omega
theorem part_set {ps : List Piece} {G : Grid} {p : Plc} {n yy xx : Int} {y x : Nat} (hy : (y : Int) = yy) (hx : (x : Int) = xx) (hi : inP ps p y x = true) {x2 : Int} (h2 : x2 = xx + 1) : updG (partG ps G p n yy xx) y x n = partG ps G p n yy x2 := by
  subst h2
  funext y' x'
  unfold updG partG
  by_cases e : y' = y ∧ x' = x
  · obtain ⟨rfl, rfl⟩ := e
    rw [if_pos ⟨rfl, rfl⟩, if_pos ⟨hi, .inr ⟨hy, by omega⟩⟩]
  · rw [if_neg e]
    by_cases c : inP ps p y' x' = true ∧ ((y' : Int) < yy ∨ ((y' : Int) = yy ∧ (x' : Int) < xx))
    · rw [if_pos c, if_pos ⟨c.1, by omega⟩]
    · rw [if_neg c, if_neg (fun d => c ⟨d.1, by rcases d.2 with h | h; exact .inl h; exact .inr ⟨h.1, by by_cases q : (x' : Int) = xx; exact absurd ⟨by omega, by omega⟩ e; omega⟩⟩)]
theorem part_row {ps : List Piece} {G : Grid} {p : Plc} {n yy xx : Int} (hx : p.2.1 + (sideP ps p).1 ≤ xx) {y2 : Int} (h2 : y2 = yy + 1) : partG ps G p n yy xx = partG ps G p n y2 p.2.1 := by
  subst h2
  funext y x
  unfold partG
  by_cases c : inP ps p y x = true ∧ ((y : Int) < yy ∨ ((y : Int) = yy ∧ (x : Int) < xx))
  · rw [if_pos c, if_pos ⟨c.1, by omega⟩]
  · rw [if_neg c, if_neg (fun d => c ⟨d.1, by have h := inP_iff.1 d.1; omega⟩)]
theorem part_end {ps : List Piece} {G : Grid} {p : Plc} {n yy xx : Int} (hy : p.2.2.1 + (sideP ps p).2 ≤ yy) : partG ps G p n yy xx = putP ps G p n := by
  funext y x
  unfold partG putP
  by_cases c : inP ps p y x = true
  · rw [if_pos ⟨c, by have h := inP_iff.1 c; omega⟩, if_pos c]
  · rw [if_neg (fun d => c d.1), if_neg c]
/-- All places that were passed are free. -/
def PassF (ps : List Piece) (w h : Nat) (G : Grid) (p : Plc) (yy xx : Int) : Prop := ∀ y x : Nat, y < h → x < w → inP ps p y x = true → ((y : Int) < yy ∨ ((y : Int) = yy ∧ (x : Int) < xx)) → G y x = -1
theorem PassF.start (ps : List Piece) (w h : Nat) (G : Grid) (p : Plc) : PassF ps w h G p p.2.2.1 p.2.1 := fun y x hy hx hi hc => by
  have := inP_iff.1 hi; omega
theorem PassF.step {ps : List Piece} {w h : Nat} {G : Grid} {p : Plc} {yy xx : Int} (hp : PassF ps w h G p yy xx) {y x : Nat} (ey : (y : Int) = yy) (ex : (x : Int) = xx) (hg : G y x = -1) {x2 : Int} (h2 : x2 = xx + 1) : PassF ps w h G p yy x2 := fun y' x' hy hx hi hc => by
  by_cases e : y' = y ∧ x' = x
  · rw [e.1, e.2]; exact hg
  · refine hp y' x' hy hx hi ?_
    rcases hc with hc | hc
    · exact .inl hc
    · refine .inr ⟨hc.1, ?_⟩
      by_cases q : (x' : Int) = xx
      · exact absurd ⟨by omega, by omega⟩ e
      · omega
theorem PassF.row {ps : List Piece} {w h : Nat} {G : Grid} {p : Plc} {yy xx : Int} (hp : PassF ps w h G p yy xx) (hx : p.2.1 + (sideP ps p).1 ≤ xx) {y2 : Int} (h2 : y2 = yy + 1) : PassF ps w h G p y2 p.2.1 := fun y x hy hx' hi hc => by
  have := inP_iff.1 hi
  exact hp y x hy hx' hi (by omega)
theorem PassF.done {ps : List Piece} {w h : Nat} {G : Grid} {p : Plc} {yy xx : Int} (hp : PassF ps w h G p yy xx) (hy : p.2.2.1 + (sideP ps p).2 ≤ yy) : freeP ps w h G p = true := freeP_iff.2 fun y x hy' hx hi => by
  have := inP_iff.1 hi
  exact hp y x hy' hx hi (by omega)
theorem taken {ps : List Piece} {w h : Nat} {G : Grid} {p : Plc} {y x : Nat} (hy : y < h) (hx : x < w) (hi : inP ps p y x = true) (hg : G y x ≠ -1) : freeP ps w h G p = false := by
  cases e : freeP ps w h G p with
  | false => rfl
  | true => exact absurd (freeP_iff.1 e y x hy hx hi) hg
/-- Rows of one length. -/
def recG (gr : List (List Int)) : Prop := ∃ (w h : Nat) (G : Grid), gr = tabG w h G ∧ (1 ≤ w ∧ w ≤ 8) ∧ (1 ≤ h ∧ h ≤ 8)
def cellL (gr : List (List Int)) (y x : Nat) : Int := (((gr[y]?).getD [])[x]?).getD 0
def roomL (gr : List (List Int)) (ps : List Piece) (p : Plc) : Bool := roomP ps ((gr[0]?).getD []).length gr.length (cellL gr) p
theorem cellL_tab {w h : Nat} {G : Grid} {y x : Nat} (hy : y < h) (hx : x < w) : cellL (tabG w h G) y x = G y x := by
  unfold cellL; rw [tabG_at hy]; show (((List.range w).map fun x => G y x)[x]?).getD 0 = _; rw [row_at hx]; rfl
theorem freeP_congr {ps : List Piece} {w h : Nat} {G H : Grid} {p : Plc} (e : ∀ y x, y < h → x < w → G y x = H y x) : freeP ps w h G p = freeP ps w h H p := by
  rw [Bool.eq_iff_iff, freeP_iff, freeP_iff]
  constructor
  · intro q y x hy hx hi; rw [← e y x hy hx]; exact q y x hy hx hi
  · intro q y x hy hx hi; rw [e y x hy hx]; exact q y x hy hx hi
theorem roomL_tab {w h : Nat} {G : Grid} {ps : List Piece} {p : Plc} (h1 : 1 ≤ h) : roomL (tabG w h G) ps p = roomP ps w h G p := by
  unfold roomL roomP
  rw [tabG_at (by omega), tabG_length]
  show (fitP ps ((List.range w).map fun x => G 0 x).length h p && freeP ps ((List.range w).map fun x => G 0 x).length h (cellL (tabG w h G)) p) = _
  rw [row_length, freeP_congr fun y x hy hx => cellL_tab hy hx]
theorem room_no {ps : List Piece} {w h : Nat} {G : Grid} {p : Plc} (h0 : fitP ps w h p = false) : roomP ps w h G p = false := by rw [roomP, h0]; rfl
theorem room_taken {ps : List Piece} {w h : Nat} {G : Grid} {p : Plc} (h0 : freeP ps w h G p = false) : roomP ps w h G p = false := by rw [roomP, h0]; simp
theorem room_yes {ps : List Piece} {w h : Nat} {G : Grid} {p : Plc} (h0 : fitP ps w h p = true) (h1 : freeP ps w h G p = true) : roomP ps w h G p = true := by rw [roomP, h0, h1]; rfl

/-! ### The reference's grid -/
/-- How far the placings are laid. -/
def FG (ps : List Piece) (w h : Nat) (pl : List Plc) (i l : Int) (grid : List Int) : Prop :=
  ∃ G, grid = flaG w h G ∧ smallG w h G ∧ chaseG ps w h (-1) pl noG = chaseG ps w h l (pl.drop i.toNat) G ∧ -1 ≤ l ∧ l < max 0 ps.length
theorem FG.start {ps : List Piece} {w h : Nat} {pl : List Plc} {grid : List Int} (hg : grid = flaG w h noG) : FG ps w h pl 0 (-1) grid := ⟨noG, hg, small_no _ _, rfl, Int.le_refl _, by omega⟩
theorem FG.len {ps : List Piece} {w h : Nat} {pl : List Plc} {i l : Int} {grid : List Int} (hf : FG ps w h pl i l grid) : grid.length = w * h := by
  obtain ⟨G, hg, -⟩ := hf; rw [hg, flaG_length]
theorem no_flat (w h : Nat) : flaG w h noG = List.replicate (w * h) (-1) := by
  apply List.ext_getElem?
  intro k
  by_cases hk : k < w * h
  · simp [flaG, noG, hk]
  · rw [List.getElem?_eq_none (by rw [flaG_length]; omega), List.getElem?_eq_none (by simp; omega)]
/-- Filled with -1 up to a place. -/
theorem fillm_step {n k : Nat} {l : List Int} (hl : l = List.replicate k (-1) ++ List.replicate (n - k) 0) (hk : k < n) : l.set k (-1) = List.replicate (k + 1) (-1) ++ List.replicate (n - (k + 1)) 0 := by
  subst hl
  rw [List.set_append_right _ _ (by simp), List.length_replicate, Nat.sub_self, show n - k = (n - (k + 1)) + 1 by omega, List.replicate_succ, List.set_cons_zero, List.replicate_succ', List.append_assoc]; rfl
theorem inB_out {n lo hi : Int} (h : inB n lo hi = false) : n < lo ∨ hi < n := by simp [inB] at h; omega
theorem part_at {ps : List Piece} {G : Grid} {p : Plc} {n yy xx : Int} {y x : Nat} (hy : (y : Int) = yy) (hx : (x : Int) = xx) : partG ps G p n yy xx y x = G y x := by
  unfold partG; rw [if_neg (fun e => by have := e.2; omega)]
theorem fit_no {ps : List Piece} {w h : Nat} {p : Plc} {a b : Int} (hs : (a, b) = sideP ps p) (hn : p.2.1 < 0 ∨ p.2.2.1 < 0 ∨ (w : Int) < p.2.1 + a ∨ (h : Int) < p.2.2.1 + b) : fitP ps w h p = false := by
  cases e : fitP ps w h p with
  | false => rfl
  | true => rw [fitP_iff, ← hs] at e; dsimp only at e; omega
theorem fit_yes {ps : List Piece} {w h : Nat} {p : Plc} {a b : Int} (hs : (a, b) = sideP ps p) (hn : (0 ≤ p.2.1 ∧ 0 ≤ p.2.2.1) ∧ p.2.1 + a ≤ w ∧ p.2.2.1 + b ≤ h) : fitP ps w h p = true := by
  rw [fitP_iff, ← hs]; exact hn
theorem fit_out {ps : List Piece} {w h : Nat} {p : Plc} (hp : okPs ps = true) (h0 : 0 ≤ p.1) (h1 : p.1 < ps.length) (ho : p.2.1 < 0 ∨ (w : Int) - 1 < p.2.1 ∨ p.2.2.1 < 0 ∨ (h : Int) - 1 < p.2.2.1) : fitP ps w h p = false := by
  have sb := side_bound hp h0 h1
  obtain ⟨a, b, hs⟩ : ∃ a b, (a, b) = sideP ps p := ⟨_, _, rfl⟩
  rw [← hs] at sb
  exact fit_no hs (by dsimp only at sb; omega)
theorem in_at {ps : List Piece} {p : Plc} {a b yy xx : Int} {y x : Nat} (hs : (a, b) = sideP ps p) (hy : (y : Int) = yy) (hx : (x : Int) = xx) (h : (p.2.2.1 ≤ yy ∧ yy < p.2.2.1 + b) ∧ p.2.1 ≤ xx ∧ xx < p.2.1 + a) : inP ps p y x = true := by
  rw [inP_iff, ← hs, hy, hx]; exact h
theorem frees_take {gr : List (List Int)} {i : Nat} {r : List Int} (h : gr[i]? = some r) : ((gr.take (i + 1)).map freeR).sum = ((gr.take i).map freeR).sum + freeR r := by
  rw [List.take_add_one, h]; simp
theorem nat_mul {a b : Int} (ha : 0 ≤ a) (hb : 0 ≤ b) : (a * b).toNat = a.toNat * b.toNat := by
  have h1 : ((a.toNat : Nat) : Int) = a := Int.toNat_of_nonneg ha
  have h2 : ((b.toNat : Nat) : Int) = b := Int.toNat_of_nonneg hb
  have h3 : ((a.toNat * b.toNat : Nat) : Int) = a * b := by rw [Int.natCast_mul, h1, h2]
  omega
theorem flat_ix {a w b c : Int} (ha : 0 ≤ a) (hw : 0 ≤ w) (hb : 0 ≤ b) (hc : c = a * w + b) : c.toNat = a.toNat * w.toNat + b.toNat := by
  have h1 := nat_mul ha hw
  have h2 : 0 ≤ a * w := Int.mul_nonneg ha hw
  omega
theorem FG.next {ps : List Piece} {w h : Nat} {pl : List Plc} {i j l : Int} {p : Plc} {G : Grid} {grid2 : List Int} (hx : pl[i.toNat]? = some p) (h0 : 0 ≤ i) (hj : j = i + 1) (sg : smallG w h G) (cg : chaseG ps w h (-1) pl noG = chaseG ps w h l (pl.drop i.toNat) G) (hl : -1 ≤ l)
    (h1 : l < p.1) (h2 : p.1 < ps.length) (h8 : ps.length ≤ 8) (hr : roomP ps w h G p = true) (he : grid2 = flaG w h (putP ps G p p.1)) : FG ps w h pl j p.1 grid2 :=
  ⟨putP ps G p p.1, he, small_put sg ps p (by omega), by rw [cg, chaseG_yes hx h1 h2 hr, show j.toNat = i.toNat + 1 by omega], by omega, by omega⟩
theorem gridL_no {w h : Int} {ps : List Piece} {pl : List Plc} (hc : okCh w h ps = true) (e : chaseG ps w.toNat h.toNat (-1) pl noG = none) : gridL w h ps pl = ([], false) := by
  unfold gridL chaseF; rw [if_pos hc, e]
theorem gridL_yes {w h : Int} {ps : List Piece} {pl : List Plc} {G : Grid} (hc : okCh w h ps = true) (e : chaseG ps w.toNat h.toNat (-1) pl noG = some G) : gridL w h ps pl = (flaG w.toNat h.toNat G, true) := by
  unfold gridL chaseF; rw [if_pos hc, e]
theorem gridL_ok {w h : Int} {ps : List Piece} {pl : List Plc} {g : List Int} {ok : Bool} (e : (g, ok) = gridL w h ps pl) : (chaseF w h ps pl).isSome = ok := by
  unfold gridL at e
  cases hc : chaseF w h ps pl with
  | none => rw [hc] at e; rw [(Prod.mk.inj e).2]; rfl
  | some G => rw [hc] at e; rw [(Prod.mk.inj e).2]; rfl
theorem chaseF_bad {w h : Int} {ps : List Piece} {pl : List Plc} (hc : okCh w h ps = false) : chaseF w h ps pl = none := by unfold chaseF; rw [if_neg (by rw [hc]; simp)]

/- Filling a chase: the search, in plain words. -/
/-- The first place that is free. -/
def firstF : List Int → Int
  | [] => 0
  | x :: r => if 0 ≤ x then 1 + firstF r else 0
theorem firstF_drop {l : List Int} {a k : Int} (hk : 0 ≤ k) (h : a = k + firstF (l.drop k.toNat)) {x : Int} (hx : l[k.toNat]? = some x) (h0 : 0 ≤ x) {k2 : Int} (h2 : k2 = k + 1) : a = k2 + firstF (l.drop k2.toNat) := by
  have hl := (List.getElem?_eq_some_iff.1 hx).1
  rw [List.drop_eq_getElem_cons hl, (List.getElem?_eq_some_iff.1 hx).2, firstF, if_pos h0] at h
  rw [show k2.toNat = k.toNat + 1 by omega]; omega
theorem firstF_stop {l : List Int} {a k : Int} (h : a = k + firstF (l.drop k.toNat)) {x : Int} (hx : l[k.toNat]? = some x) (h0 : x < 0) : a = k := by
  have hl := (List.getElem?_eq_some_iff.1 hx).1
  rw [List.drop_eq_getElem_cons hl, (List.getElem?_eq_some_iff.1 hx).2, firstF, if_neg (by omega)] at h
  omega
theorem firstF_end {l : List Int} {a k : Int} (h : a = k + firstF (l.drop k.toNat)) (hk : (l.length : Int) ≤ k) : a = k := by
  rw [List.drop_of_length_le (by omega), firstF] at h; omega
/-- Numbers of pieces, each once. -/
def Diff (n : Nat) (o : List Int) : Prop := o.Nodup ∧ ∀ x ∈ o, 0 ≤ x ∧ x < n
theorem diff_len : ∀ (n : Nat) (o : List Int), Diff n o → o.length ≤ n
  | 0, o, h => by
    cases o with
    | nil => simp
    | cons x r => have := h.2 x (by simp); omega
  | n + 1, o, h => by
    have h2 := diff_len n (o.erase (n : Int)) ⟨h.1.erase _, fun x hx => by
      have h3 := h.2 x (List.mem_of_mem_erase hx)
      have h4 : x ≠ (n : Int) := fun e => by subst e; exact (List.Nodup.not_mem_erase h.1) hx
      omega⟩
    have h3 := List.length_erase (a := (n : Int)) (l := o)
    split at h3 <;> omega
theorem diff_next {n : Nat} {o : List Int} (h : Diff n o) {i : Int} (h0 : 0 ≤ i) (h1 : i < n) (hn : i ∉ o) : Diff n (o ++ [i]) := by
  refine ⟨?_, fun x hx => ?_⟩
  · rw [List.nodup_append]
    exact ⟨h.1, by simp, fun a ha b hb e => by simp at hb; subst hb; exact hn (e ▸ ha)⟩
  · rcases List.mem_append.1 hx with hx | hx
    · exact h.2 x hx
    · simp at hx; subst hx; omega
/-- One piece is tried at the first free place. -/
def tryG (F : Grid → List Int → List Plc × Bool) (ps : List Piece) (w h : Int) (G : Grid) (used : List Int) (k i : Int) (t : Bool) : Option (List Plc) :=
  if t = true ∧ (nthP ps i).1 = (nthP ps i).2 then none
  else if roomP ps w.toNat h.toNat G (i, k % w, k / w, t) = true then
    (if (F (putP ps G (i, k % w, k / w, t) i) (used ++ [i])).2 = true then some ((i, k % w, k / w, t) :: (F (putP ps G (i, k % w, k / w, t) i) (used ++ [i])).1) else none)
  else none
def oneG (F : Grid → List Int → List Plc × Bool) (ps : List Piece) (w h : Int) (G : Grid) (used : List Int) (k : Int) (i : Nat) : Option (List Plc) :=
  if (i : Int) ∈ used then none else [false, true].findSome? (tryG F ps w h G used k i)
def fillB (F : Grid → List Int → List Plc × Bool) (ps : List Piece) (w h : Int) (G : Grid) (used : List Int) : List Plc × Bool :=
  if firstF (flaG w.toNat h.toNat G) = (flaG w.toNat h.toNat G).length then ([], decide (used.length = ps.length))
  else match (List.range ps.length).findSome? (oneG F ps w h G used (firstF (flaG w.toNat h.toNat G))) with
    | some l => (l, true)
    | none => ([], false)
def fillG (ps : List Piece) (w h : Int) : Nat → Grid → List Int → List Plc × Bool
  | 0, _, _ => ([], false)
  | n + 1, G, used => fillB (fillG ps w h n) ps w h G used
theorem fillB_end {F : Grid → List Int → List Plc × Bool} {ps : List Piece} {w h : Int} {G : Grid} {used : List Int} (e : firstF (flaG w.toNat h.toNat G) = (flaG w.toNat h.toNat G).length) : fillB F ps w h G used = ([], decide (used.length = ps.length)) := by
  unfold fillB; rw [if_pos e]
theorem fillB_some {F : Grid → List Int → List Plc × Bool} {ps : List Piece} {w h k : Int} {G : Grid} {used : List Int} {l : List Plc} (hk : firstF (flaG w.toNat h.toNat G) = k) (hn : k ≠ (flaG w.toNat h.toNat G).length) (e : (List.range ps.length).findSome? (oneG F ps w h G used k) = some l) : fillB F ps w h G used = (l, true) := by
  unfold fillB; rw [hk, if_neg hn, e]
theorem fillB_none {F : Grid → List Int → List Plc × Bool} {ps : List Piece} {w h k : Int} {G : Grid} {used : List Int} (hk : firstF (flaG w.toNat h.toNat G) = k) (hn : k ≠ (flaG w.toNat h.toNat G).length) (e : (List.range ps.length).findSome? (oneG F ps w h G used k) = none) : fillB F ps w h G used = ([], false) := by
  unfold fillB; rw [hk, if_neg hn, e]
theorem range_drop {n i : Nat} (h : i < n) : (List.range n).drop i = i :: (List.range n).drop (i + 1) := by
  rw [List.drop_eq_getElem_cons (by simpa using h)]; simp
theorem find_next {f : Nat → Option (List Plc)} {n i : Nat} (h : i < n) (e : f i = none) : ((List.range n).drop i).findSome? f = ((List.range n).drop (i + 1)).findSome? f := by
  rw [range_drop h, List.findSome?_cons, e]
theorem find_hit {f : Nat → Option (List Plc)} {n i : Nat} {l : List Plc} (h : i < n) (e : f i = some l) : ((List.range n).drop i).findSome? f = some l := by
  rw [range_drop h, List.findSome?_cons, e]
theorem find_end {f : Nat → Option (List Plc)} {n i : Nat} (h : n ≤ i) : ((List.range n).drop i).findSome? f = none := by
  rw [List.drop_of_length_le (by simpa using h)]; rfl
theorem fill_len {ps : List Piece} {w h : Int} : ∀ (n : Nat) (G : Grid) (used : List Int), (fillG ps w h n G used).1.length ≤ n
  | 0, _, _ => by simp [fillG]
  | n + 1, G, used => by
    unfold fillG fillB
    split
    · simp
    · split
      · rename_i l e
        obtain ⟨i, -, e1⟩ := List.exists_of_findSome?_eq_some e
        unfold oneG at e1
        split at e1
        · cases e1
        · obtain ⟨t, -, e2⟩ := List.exists_of_findSome?_eq_some e1
          unfold tryG at e2
          split at e2
          · cases e2
          · split at e2
            · split at e2
              · rw [← Option.some.inj e2]
                have := fill_len (ps := ps) (w := w) (h := h) n (putP ps G (↑i, firstF (flaG w.toNat h.toNat G) % w, firstF (flaG w.toNat h.toNat G) / w, t) ↑i) (used ++ [(i : Int)])
                simp only [List.length_cons]; omega
              · cases e2
            · cases e2
      · simp
theorem findL_next {α β : Type} {f : α → Option β} {l : List α} {k : Nat} {x : α} (h : l[k]? = some x) (e : f x = none) : (l.drop k).findSome? f = (l.drop (k + 1)).findSome? f := by
  have hl := (List.getElem?_eq_some_iff.1 h).1
  rw [List.drop_eq_getElem_cons hl, (List.getElem?_eq_some_iff.1 h).2, List.findSome?_cons, e]
theorem findL_hit {α β : Type} {f : α → Option β} {l : List α} {k : Nat} {x : α} {y : β} (h : l[k]? = some x) (e : f x = some y) : (l.drop k).findSome? f = some y := by
  have hl := (List.getElem?_eq_some_iff.1 h).1
  rw [List.drop_eq_getElem_cons hl, (List.getElem?_eq_some_iff.1 h).2, List.findSome?_cons, e]
theorem try_square {F : Grid → List Int → List Plc × Bool} {ps : List Piece} {w h : Int} {G : Grid} {used : List Int} {k i : Int} {a b : Int} (hp : nthP ps i = (a, b)) (e : a = b) : tryG F ps w h G used k i true = none := by
  unfold tryG; rw [if_pos ⟨rfl, by rw [hp]; exact e⟩]
theorem try_room {F : Grid → List Int → List Plc × Bool} {ps : List Piece} {w h : Int} {G : Grid} {used : List Int} {k i : Int} {t : Bool} (e : roomP ps w.toNat h.toNat G (i, k % w, k / w, t) = false) : tryG F ps w h G used k i t = none := by
  unfold tryG
  split
  · rfl
  · rw [e]; rfl
theorem try_fine {F : Grid → List Int → List Plc × Bool} {ps : List Piece} {w h : Int} {G : Grid} {used : List Int} {k i : Int} {t : Bool} {G2 : Grid} {u2 : List Int} (hG : G2 = putP ps G (i, k % w, k / w, t) i) (hu : u2 = used ++ [i]) {l : List Plc} (e : (l, false) = F G2 u2) : tryG F ps w h G used k i t = none := by
  subst hG hu
  unfold tryG
  split
  · rfl
  · split
    · rw [← e]; rfl
    · rfl
theorem try_hit {F : Grid → List Int → List Plc × Bool} {ps : List Piece} {w h : Int} {G : Grid} {used : List Int} {k i : Int} {t : Bool} {G2 : Grid} {u2 : List Int} (hG : G2 = putP ps G (i, k % w, k / w, t) i) (hu : u2 = used ++ [i]) {l : List Plc} (e : (l, true) = F G2 u2) (hn : ¬ (t = true ∧ (nthP ps i).1 = (nthP ps i).2)) (hr : roomP ps w.toNat h.toNat G (i, k % w, k / w, t) = true) :
    tryG F ps w h G used k i t = some ((i, k % w, k / w, t) :: l) := by
  subst hG hu
  unfold tryG
  rw [if_neg hn, if_pos hr, ← e]; rfl
theorem one_start {F : Grid → List Int → List Plc × Bool} {ps : List Piece} {w h : Int} {G : Grid} {used : List Int} {k i : Int} (hi : 0 ≤ i) (hn : i ∉ used) : oneG F ps w h G used k i.toNat = ([false, true].drop 0).findSome? (tryG F ps w h G used k i) := by
  have e : ((i.toNat : Nat) : Int) = i := by omega
  unfold oneG
  rw [e, if_neg hn]; rfl
theorem one_used {F : Grid → List Int → List Plc × Bool} {ps : List Piece} {w h : Int} {G : Grid} {used : List Int} {k i : Int} (hi : 0 ≤ i) (hn : i ∈ used) : oneG F ps w h G used k i.toNat = none := by
  have e : ((i.toNat : Nat) : Int) = i := by omega
  unfold oneG
  rw [e, if_pos hn]
theorem one_end {F : Grid → List Int → List Plc × Bool} {ps : List Piece} {w h : Int} {G : Grid} {used : List Int} {k i j : Int} (hj : 2 ≤ j) {o : Option (List Plc)} (e : o = ([false, true].drop j.toNat).findSome? (tryG F ps w h G used k i)) : o = none := by
  rw [e, List.drop_of_length_le (by simp; omega)]; rfl
theorem fill_mem {ps : List Piece} {w h : Int} (hw : 1 ≤ w ∧ w ≤ 8) (hh : 1 ≤ h ∧ h ≤ 8) : ∀ (n : Nat) (G : Grid) (used : List Int), ∀ p ∈ (fillG ps w h n G used).1, (0 ≤ p.2.1 ∧ p.2.1 ≤ 8) ∧ 0 ≤ p.2.2.1 ∧ p.2.2.1 ≤ 64
  | 0, _, _, p, hp => by simp [fillG] at hp
  | n + 1, G, used, p, hp => by
    have hk : 0 ≤ firstF (flaG w.toNat h.toNat G) ∧ firstF (flaG w.toNat h.toNat G) ≤ 64 := by
      have bl : ∀ l : List Int, 0 ≤ firstF l ∧ firstF l ≤ l.length := fun l => by
        induction l with
        | nil => simp [firstF]
        | cons x r ih =>
          rw [firstF]
          split
          · simp only [List.length_cons]; omega
          · simp only [List.length_cons]; omega
      have h1 := bl (flaG w.toNat h.toNat G)
      rw [flaG_length] at h1
      have := Nat.mul_le_mul (show w.toNat ≤ 8 by omega) (show h.toNat ≤ 8 by omega)
      omega
    unfold fillG fillB at hp
    generalize firstF (flaG w.toNat h.toNat G) = k at hp hk
    split at hp
    · simp at hp
    · split at hp
      · rename_i l e
        obtain ⟨i, -, e1⟩ := List.exists_of_findSome?_eq_some e
        unfold oneG at e1
        split at e1
        · cases e1
        · obtain ⟨t, -, e2⟩ := List.exists_of_findSome?_eq_some e1
          unfold tryG at e2
          split at e2
          · cases e2
          · split at e2
            · split at e2
              · rw [← Option.some.inj e2] at hp
                rcases List.mem_cons.1 hp with rfl | hp
                · have h1 := Int.emod_nonneg k (show w ≠ 0 by omega)
                  have h2 := Int.emod_lt_of_pos k (show 0 < w by omega)
                  have h3 : 0 ≤ k / w := Int.ediv_nonneg hk.1 (by omega)
                  have h4 : k / w ≤ k := Int.ediv_le_self _ hk.1
                  dsimp only; omega
                · exact fill_mem hw hh n _ _ p hp
              · cases e2
            · cases e2
      · simp at hp
/-- Placings by the numbers of their pieces. -/
def sortP (n : Nat) (l : List Plc) : List Plc := (List.range n).flatMap fun (j : Nat) => l.filter fun p => decide (p.1 = (j : Int))
theorem sortP_succ (n : Nat) (l : List Plc) : sortP (n + 1) l = sortP n l ++ l.filter fun p => decide (p.1 = (n : Int)) := by simp [sortP, List.range_succ]
theorem sortP_len (l : List Plc) : ∀ n, (sortP n l).length ≤ n * l.length
  | 0 => by simp [sortP]
  | n + 1 => by
    have h1 := sortP_len l n
    have h2 := List.length_filter_le (fun p : Plc => decide (p.1 = (n : Int))) l
    rw [sortP_succ, List.length_append, Nat.add_mul]; omega
theorem sortP_mem {n : Nat} {l : List Plc} {p : Plc} (h : p ∈ sortP n l) : p ∈ l := by
  unfold sortP at h
  rw [List.mem_flatMap] at h
  obtain ⟨j, -, h⟩ := h
  exact (List.mem_filter.1 h).1
theorem filter_yes {l : List Plc} {k : Nat} {p : Plc} {f : Plc → Bool} (h : l[k]? = some p) (e : f p = true) : (l.take (k + 1)).filter f = (l.take k).filter f ++ [p] := by
  rw [List.take_add_one, h, List.filter_append]; simp [e]
theorem filter_no {l : List Plc} {k : Nat} {p : Plc} {f : Plc → Bool} (h : l[k]? = some p) (e : f p = false) : (l.take (k + 1)).filter f = (l.take k).filter f := by
  rw [List.take_add_one, h, List.filter_append]; simp [e]
def firstA (w h : Int) (ps : List Piece) : List Plc × Bool :=
  if areaF ps = w * h then (if (fillG ps w h 9 noG []).2 = true then (sortP ps.length (fillG ps w h 9 noG []).1, true) else ([], false)) else ([], false)
theorem firstA_area {w h : Int} {ps : List Piece} (e : areaF ps ≠ w * h) : firstA w h ps = ([], false) := if_neg e
theorem firstA_no {w h : Int} {ps : List Piece} (e : areaF ps = w * h) {l : List Plc} (hf : (l, false) = fillG ps w h 9 noG []) : firstA w h ps = ([], false) := by
  unfold firstA; rw [if_pos e, ← hf]; rfl
theorem firstA_yes {w h : Int} {ps : List Piece} (e : areaF ps = w * h) {l : List Plc} (hf : (l, true) = fillG ps w h 9 noG []) : firstA w h ps = (sortP ps.length l, true) := by
  unfold firstA; rw [if_pos e, ← hf]; rfl
theorem firstA_mem {w h : Int} {ps : List Piece} (hc : okCh w h ps = true) : ∀ p ∈ (firstA w h ps).1, (0 ≤ p.2.1 ∧ p.2.1 ≤ 8) ∧ 0 ≤ p.2.2.1 ∧ p.2.2.1 ≤ 64 := fun p hp => by
  obtain ⟨bw, bh, -⟩ := okCh_spec hc
  unfold firstA at hp
  split at hp
  · split at hp
    · exact fill_mem bw bh 9 noG [] p (sortP_mem hp)
    · simp at hp
  · simp at hp
theorem firstA_len {w h : Int} {ps : List Piece} (hc : okCh w h ps = true) : (firstA w h ps).1.length ≤ 72 := by
  obtain ⟨-, -, ops⟩ := okCh_spec hc
  have ol := (okPs_spec ops).2
  unfold firstA
  split
  · split
    · have h1 := sortP_len (fillG ps w h 9 noG []).1 ps.length
      have h2 := fill_len (ps := ps) (w := w) (h := h) 9 noG []
      exact Nat.le_trans h1 (Nat.mul_le_mul ol h2)
    · simp
  · simp
theorem diff_nil (n : Nat) : Diff n [] := ⟨List.nodup_nil, fun x hx => by cases hx⟩

/- Filling a chase as the program does it, against the reference's search: plain law. -/
/-- What the search has done to the placings. -/
structure FillR (us : List Bool) (pl : List Plc) (b : Bool) (pl2 : List Plc) (l : List Plc) : Prop where
  len : pl2.length = pl.length
  keep : ∀ i : Nat, us[i]? = some true → pl2[i]? = pl[i]?
  put : b = true → ∀ p ∈ l, 0 ≤ p.1 ∧ pl2[p.1.toNat]? = some p ∧ us[p.1.toNat]? = some false
  all : b = true → ∀ i : Nat, us[i]? = some false → ∃ p ∈ l, p.1 = (i : Int)
  one : b = true → (l.map (·.1)).Nodup
/-- The used pieces as marks and as a list. -/
structure UsedR (n : Nat) (us : List Bool) (used : List Int) : Prop where
  len : us.length = n
  diff : Diff n used
  iff : ∀ i : Nat, i < n → (us[i]? = some true ↔ (i : Int) ∈ used)
theorem UsedR.next {n : Nat} {us : List Bool} {used : List Int} (h : UsedR n us used) {i : Nat} (hi : i < n) (hn : (i : Int) ∉ used) : UsedR n (us.set i true) (used ++ [(i : Int)]) := by
  refine ⟨by rw [List.length_set]; exact h.len, diff_next h.diff (by omega) (by omega) hn, fun j hj => ?_⟩
  by_cases e : j = i
  · subst e
    have hl := h.len
    simp [show j < us.length by omega]
  · rw [List.getElem?_set_ne (fun x => e x.symm), h.iff j hj, List.mem_append]
    constructor
    · exact .inl
    · rintro (h1 | h1)
      · exact h1
      · have := List.mem_singleton.1 h1; omega
theorem all_in : ∀ (n : Nat) (used : List Int), (∀ i : Nat, i < n → (i : Int) ∈ used) → n ≤ used.length
  | 0, _, _ => Nat.zero_le _
  | n + 1, used, h => by
    have hn := h n (by omega)
    have h2 := all_in n (used.erase (n : Int)) fun i hi => (List.mem_erase_of_ne (by omega)).2 (h i (by omega))
    rw [List.length_erase_of_mem hn] at h2
    have := List.length_pos_of_mem hn
    omega
theorem UsedR.all {n : Nat} {us : List Bool} {used : List Int} (h : UsedR n us used) : us.all id = decide (used.length = n) := by
  have hl := diff_len n used h.diff
  by_cases e : used.length = n
  · rw [decide_eq_true e, List.all_eq_true]
    intro b hb
    obtain ⟨i, hi⟩ := List.getElem?_of_mem hb
    have hin := (List.getElem?_eq_some_iff.1 hi).1
    rw [h.len] at hin
    by_cases hm : (i : Int) ∈ used
    · rw [(h.iff i hin).2 hm] at hi; rw [← Option.some.inj hi]; rfl
    · have := diff_len n _ (diff_next h.diff (by omega) (by omega) hm)
      rw [List.length_append, e] at this
      simp at this
      omega
  · rw [decide_eq_false e]
    cases hx : us.all id with
    | false => rfl
    | true =>
      exfalso
      have := all_in n used fun i hi => (h.iff i hi).1 (by
        have hlt : i < us.length := by rw [h.len]; exact hi
        have hg := List.getElem?_eq_getElem hlt
        have hb := List.all_eq_true.1 hx _ (List.mem_of_getElem? hg)
        rw [hg]; exact congrArg some hb)
      omega
theorem FillR.more {us : List Bool} {pl pl1 pl2 l : List Plc} {b : Bool} (h : FillR us pl1 b pl2 l) (hl : pl1.length = pl.length) (hk : ∀ i : Nat, us[i]? = some true → pl1[i]? = pl[i]?) : FillR us pl b pl2 l :=
  ⟨h.len.trans hl, fun i hi => (h.keep i hi).trans (hk i hi), h.put, h.all, h.one⟩
theorem FillR.hit {us : List Bool} {pl pl2 l : List Plc} {i : Nat} {P : Plc} (hP : P.1 = (i : Int)) (hi : i < us.length) (hp : i < pl.length) (hu : us[i]? ≠ some true) (h : FillR (us.set i true) (pl.set i P) true pl2 l) : FillR us pl true pl2 (P :: l) := by
  have hsi : (us.set i true)[i]? = some true := by simp [hi]
  have huf : us[i]? = some false := by
    rw [List.getElem?_eq_getElem hi] at hu ⊢
    cases hb : us[i] with
    | true => rw [hb] at hu; exact absurd rfl hu
    | false => rfl
  have off : ∀ j : Nat, us[j]? = some true → j ≠ i := fun j hj e => hu (e ▸ hj)
  refine ⟨by rw [h.len, List.length_set], fun j hj => ?_, fun _ p hm => ?_, fun _ j hj => ?_, fun _ => ?_⟩
  · have hne := off j hj
    rw [h.keep j (by rw [List.getElem?_set_ne (fun e => hne e.symm)]; exact hj), List.getElem?_set_ne (fun e => hne e.symm)]
  · rcases List.mem_cons.1 hm with rfl | hm
    · have e : p.1.toNat = i := by omega
      refine ⟨by omega, ?_, by rw [e]; exact huf⟩
      rw [e, h.keep i hsi]; simp [hp]
    · obtain ⟨h1, h2, h3⟩ := h.put rfl p hm
      have hne : i ≠ p.1.toNat := fun e => by rw [← e, hsi] at h3; cases h3
      exact ⟨h1, h2, by rw [List.getElem?_set_ne hne] at h3; exact h3⟩
  · by_cases e : j = i
    · exact ⟨P, by simp, by rw [e]; exact hP⟩
    · obtain ⟨p, h1, h2⟩ := h.all rfl j (by rw [List.getElem?_set_ne (fun x => e x.symm)]; exact hj)
      exact ⟨p, by simp [h1], h2⟩
  · rw [List.map_cons, List.nodup_cons]
    refine ⟨fun hm => ?_, h.one rfl⟩
    obtain ⟨p, h1, h2⟩ := List.mem_map.1 hm
    obtain ⟨-, -, h3⟩ := h.put rfl p h1
    rw [show p.1.toNat = i by omega, hsi] at h3
    cases h3
section
variable {ps : List Piece} {w h k : Int} {G : Grid} {us : List Bool} {used : List Int} {F : Grid → List Bool → List Plc → Bool × List Plc} {R : Grid → List Int → List Plc × Bool}
end
/- What the law asks of a placing that the search finds. -/
/-- The placings fit, lie apart, on free places, and cover all that is free. -/
structure Cov (ps : List Piece) (w h : Nat) (G : Grid) (l : List Plc) : Prop where
  fit : ∀ p ∈ l, fitP ps w h p = true ∧ 0 ≤ p.1 ∧ p.1 < ps.length
  free : ∀ p ∈ l, ∀ y x, y < h → x < w → inP ps p y x = true → G y x = -1
  apart : l.Pairwise fun p q => ∀ y x, y < h → x < w → inP ps p y x = true → inP ps q y x = false
  cover : ∀ y x, y < h → x < w → G y x = -1 → ∃ p ∈ l, inP ps p y x = true
theorem Cov.next {ps : List Piece} {w h : Nat} {G : Grid} {P : Plc} {l : List Plc} (h0 : 0 ≤ P.1) (h1 : P.1 < ps.length) (hr : roomP ps w h G P = true) (hc : Cov ps w h (putP ps G P P.1) l) : Cov ps w h G (P :: l) := by
  have hf : fitP ps w h P = true ∧ freeP ps w h G P = true := by rw [roomP, Bool.and_eq_true] at hr; exact hr
  have off : ∀ q ∈ l, ∀ y x, y < h → x < w → inP ps q y x = true → inP ps P y x = false ∧ G y x = -1 := fun q hq y x hy hx hi => by
    have := hc.free q hq y x hy hx hi
    unfold putP at this
    cases e : inP ps P y x with
    | true => rw [e, if_pos rfl] at this; omega
    | false => rw [e, if_neg (by decide)] at this; exact ⟨rfl, this⟩
  refine ⟨fun p hp => ?_, fun p hp y x hy hx hi => ?_, ?_, fun y x hy hx hg => ?_⟩
  · rcases List.mem_cons.1 hp with rfl | hp
    · exact ⟨hf.1, h0, h1⟩
    · exact hc.fit p hp
  · rcases List.mem_cons.1 hp with rfl | hp
    · exact freeP_iff.1 hf.2 y x hy hx hi
    · exact (off p hp y x hy hx hi).2
  · rw [List.pairwise_cons]
    refine ⟨fun q hq y x hy hx hi => ?_, hc.apart⟩
    cases e : inP ps q y x with
    | false => rfl
    | true => have := (off q hq y x hy hx e).1; rw [hi] at this; cases this
  · cases e : inP ps P y x with
    | true => exact ⟨P, by simp, e⟩
    | false =>
      obtain ⟨p, hp, hi⟩ := hc.cover y x hy hx (by unfold putP; rw [e, if_neg (by decide)]; exact hg)
      exact ⟨p, by simp [hp], hi⟩
end Go.Proofs.Ytiaodmfipeoegaa.Ai
