/- Plain laws on chases, second part: placings that are laid place by place, as loops do it. -/
import Derived.Test.YtiaodmfipeoegaaChaseLaw
namespace Go.Proofs.Ytiaodmfipeoegaa.Ai
open Go Go.Proofs
set_option linter.unusedSimpArgs false
set_option linter.unusedVariables false

/-- A chase in which a piece is laid up to a place. -/
def partG (ps : List Piece) (G : Grid) (p : Plc) (n yy xx : Int) : Grid := fun y x => if inP ps p y x = true ∧ ((y : Int) < yy ∨ ((y : Int) = yy ∧ (x : Int) < xx)) then n else G y x
theorem inP_iff {ps : List Piece} {p : Plc} {y x : Nat} : inP ps p y x = true ↔ (p.2.2.1 ≤ y ∧ (y : Int) < p.2.2.1 + (sideP ps p).2) ∧ p.2.1 ≤ x ∧ (x : Int) < p.2.1 + (sideP ps p).1 := inQ_iff
theorem part_start (ps : List Piece) (G : Grid) (p : Plc) (n : Int) : partG ps G p n p.2.2.1 p.2.1 = G := by
  funext y x
  unfold partG
  rw [if_neg]
  rintro ⟨h1, h2⟩
  rw [inP_iff] at h1
  omega
theorem part_set {ps : List Piece} {G : Grid} {p : Plc} {n yy xx : Int} {y x : Nat} (hy : (y : Int) = yy) (hx : (x : Int) = xx) (hi : inP ps p y x = true) {x2 : Int} (h2 : x2 = xx + 1) : updG (partG ps G p n yy xx) y x n = partG ps G p n yy x2 := by
  subst h2
  funext y' x'
  unfold updG partG
  by_cases e : y' = y ∧ x' = x
  · obtain ⟨rfl, rfl⟩ := e
    rw [if_pos ⟨rfl, rfl⟩, if_pos ⟨hi, .inr ⟨hy, by omega⟩⟩]
  · rw [if_neg e]
    by_cases c : inP ps p y' x' = true ∧ ((y' : Int) < yy ∨ ((y' : Int) = yy ∧ (x' : Int) < xx))
    · rw [if_pos c, if_pos ⟨c.1, by omega⟩]
    · rw [if_neg c, if_neg (fun d => c ⟨d.1, by rcases d.2 with h | h; exact .inl h; exact .inr ⟨h.1, by by_cases q : (x' : Int) = xx; exact absurd ⟨by omega, by omega⟩ e; omega⟩⟩)]
theorem part_row {ps : List Piece} {G : Grid} {p : Plc} {n yy xx : Int} (hx : p.2.1 + (sideP ps p).1 ≤ xx) {y2 : Int} (h2 : y2 = yy + 1) : partG ps G p n yy xx = partG ps G p n y2 p.2.1 := by
  subst h2
  funext y x
  unfold partG
  by_cases c : inP ps p y x = true ∧ ((y : Int) < yy ∨ ((y : Int) = yy ∧ (x : Int) < xx))
  · rw [if_pos c, if_pos ⟨c.1, by omega⟩]
  · rw [if_neg c, if_neg (fun d => c ⟨d.1, by have h := inP_iff.1 d.1; omega⟩)]
theorem part_end {ps : List Piece} {G : Grid} {p : Plc} {n yy xx : Int} (hy : p.2.2.1 + (sideP ps p).2 ≤ yy) : partG ps G p n yy xx = putP ps G p n := by
  funext y x
  unfold partG putP
  by_cases c : inP ps p y x = true
  · rw [if_pos ⟨c, by have h := inP_iff.1 c; omega⟩, if_pos c]
  · rw [if_neg (fun d => c d.1), if_neg c]
theorem small_part {w h : Nat} {G : Grid} (hs : smallG w h G) (ps : List Piece) (p : Plc) {n : Int} (hn : -1 ≤ n ∧ n ≤ 7) (yy xx : Int) : smallG w h (partG ps G p n yy xx) := fun y x => by
  unfold partG; split
  · exact hn
  · exact hs y x
/-- All places that were passed are free. -/
def PassF (ps : List Piece) (w h : Nat) (G : Grid) (p : Plc) (yy xx : Int) : Prop := ∀ y x : Nat, y < h → x < w → inP ps p y x = true → ((y : Int) < yy ∨ ((y : Int) = yy ∧ (x : Int) < xx)) → G y x = -1
theorem PassF.start (ps : List Piece) (w h : Nat) (G : Grid) (p : Plc) : PassF ps w h G p p.2.2.1 p.2.1 := fun y x hy hx hi hc => by
  have := inP_iff.1 hi; omega
theorem PassF.step {ps : List Piece} {w h : Nat} {G : Grid} {p : Plc} {yy xx : Int} (hp : PassF ps w h G p yy xx) {y x : Nat} (ey : (y : Int) = yy) (ex : (x : Int) = xx) (hg : G y x = -1) {x2 : Int} (h2 : x2 = xx + 1) : PassF ps w h G p yy x2 := fun y' x' hy hx hi hc => by
  by_cases e : y' = y ∧ x' = x
  · rw [e.1, e.2]; exact hg
  · refine hp y' x' hy hx hi ?_
    rcases hc with hc | hc
    · exact .inl hc
    · refine .inr ⟨hc.1, ?_⟩
      by_cases q : (x' : Int) = xx
      · exact absurd ⟨by omega, by omega⟩ e
      · omega
theorem PassF.row {ps : List Piece} {w h : Nat} {G : Grid} {p : Plc} {yy xx : Int} (hp : PassF ps w h G p yy xx) (hx : p.2.1 + (sideP ps p).1 ≤ xx) {y2 : Int} (h2 : y2 = yy + 1) : PassF ps w h G p y2 p.2.1 := fun y x hy hx' hi hc => by
  have := inP_iff.1 hi
  exact hp y x hy hx' hi (by omega)
theorem PassF.done {ps : List Piece} {w h : Nat} {G : Grid} {p : Plc} {yy xx : Int} (hp : PassF ps w h G p yy xx) (hy : p.2.2.1 + (sideP ps p).2 ≤ yy) : freeP ps w h G p = true := freeP_iff.2 fun y x hy' hx hi => by
  have := inP_iff.1 hi
  exact hp y x hy' hx hi (by omega)
theorem taken {ps : List Piece} {w h : Nat} {G : Grid} {p : Plc} {y x : Nat} (hy : y < h) (hx : x < w) (hi : inP ps p y x = true) (hg : G y x ≠ -1) : freeP ps w h G p = false := by
  cases e : freeP ps w h G p with
  | false => rfl
  | true => exact absurd (freeP_iff.1 e y x hy hx hi) hg
/-- Rows of one length. -/
def recG (gr : List (List Int)) : Prop := ∃ (w h : Nat) (G : Grid), gr = tabG w h G ∧ (1 ≤ w ∧ w ≤ 8) ∧ (1 ≤ h ∧ h ≤ 8)
def cellL (gr : List (List Int)) (y x : Nat) : Int := (((gr[y]?).getD [])[x]?).getD 0
def roomL (gr : List (List Int)) (ps : List Piece) (p : Plc) : Bool := roomP ps ((gr[0]?).getD []).length gr.length (cellL gr) p
theorem cellL_tab {w h : Nat} {G : Grid} {y x : Nat} (hy : y < h) (hx : x < w) : cellL (tabG w h G) y x = G y x := by
  unfold cellL; rw [tabG_at hy]; show (((List.range w).map fun x => G y x)[x]?).getD 0 = _; rw [row_at hx]; rfl
theorem freeP_congr {ps : List Piece} {w h : Nat} {G H : Grid} {p : Plc} (e : ∀ y x, y < h → x < w → G y x = H y x) : freeP ps w h G p = freeP ps w h H p := by
  rw [Bool.eq_iff_iff, freeP_iff, freeP_iff]
  constructor
  · intro q y x hy hx hi; rw [← e y x hy hx]; exact q y x hy hx hi
  · intro q y x hy hx hi; rw [e y x hy hx]; exact q y x hy hx hi
theorem roomL_tab {w h : Nat} {G : Grid} {ps : List Piece} {p : Plc} (h1 : 1 ≤ h) : roomL (tabG w h G) ps p = roomP ps w h G p := by
  unfold roomL roomP
  rw [tabG_at (by omega), tabG_length]
  show (fitP ps ((List.range w).map fun x => G 0 x).length h p && freeP ps ((List.range w).map fun x => G 0 x).length h (cellL (tabG w h G)) p) = _
  rw [row_length, freeP_congr fun y x hy hx => cellL_tab hy hx]
theorem room_no {ps : List Piece} {w h : Nat} {G : Grid} {p : Plc} (h0 : fitP ps w h p = false) : roomP ps w h G p = false := by rw [roomP, h0]; rfl
theorem room_taken {ps : List Piece} {w h : Nat} {G : Grid} {p : Plc} (h0 : freeP ps w h G p = false) : roomP ps w h G p = false := by rw [roomP, h0]; simp
theorem room_yes {ps : List Piece} {w h : Nat} {G : Grid} {p : Plc} (h0 : fitP ps w h p = true) (h1 : freeP ps w h G p = true) : roomP ps w h G p = true := by rw [roomP, h0, h1]; rfl

/-! ### The reference's grid -/
/-- How far the placings are laid. -/
def FG (ps : List Piece) (w h : Nat) (pl : List Plc) (i l : Int) (grid : List Int) : Prop :=
  ∃ G, grid = flaG w h G ∧ smallG w h G ∧ chaseG ps w h (-1) pl noG = chaseG ps w h l (pl.drop i.toNat) G ∧ -1 ≤ l ∧ l < max 0 ps.length
theorem FG.start {ps : List Piece} {w h : Nat} {pl : List Plc} {grid : List Int} (hg : grid = flaG w h noG) : FG ps w h pl 0 (-1) grid := ⟨noG, hg, small_no _ _, rfl, Int.le_refl _, by omega⟩
theorem FG.len {ps : List Piece} {w h : Nat} {pl : List Plc} {i l : Int} {grid : List Int} (hf : FG ps w h pl i l grid) : grid.length = w * h := by
  obtain ⟨G, hg, -⟩ := hf; rw [hg, flaG_length]
theorem no_flat (w h : Nat) : flaG w h noG = List.replicate (w * h) (-1) := by
  apply List.ext_getElem?
  intro k
  by_cases hk : k < w * h
  · simp [flaG, noG, hk]
  · rw [List.getElem?_eq_none (by rw [flaG_length]; omega), List.getElem?_eq_none (by simp; omega)]
/-- Filled with -1 up to a place. -/
theorem fillm_step {n k : Nat} {l : List Int} (hl : l = List.replicate k (-1) ++ List.replicate (n - k) 0) (hk : k < n) : l.set k (-1) = List.replicate (k + 1) (-1) ++ List.replicate (n - (k + 1)) 0 := by
  subst hl
  rw [List.set_append_right _ _ (by simp), List.length_replicate, Nat.sub_self, show n - k = (n - (k + 1)) + 1 by omega, List.replicate_succ, List.set_cons_zero, List.replicate_succ', List.append_assoc]; rfl
theorem inB_out {n lo hi : Int} (h : inB n lo hi = false) : n < lo ∨ hi < n := by simp [inB] at h; omega
theorem part_at {ps : List Piece} {G : Grid} {p : Plc} {n yy xx : Int} {y x : Nat} (hy : (y : Int) = yy) (hx : (x : Int) = xx) : partG ps G p n yy xx y x = G y x := by
  unfold partG; rw [if_neg (fun e => by have := e.2; omega)]
theorem fit_no {ps : List Piece} {w h : Nat} {p : Plc} {a b : Int} (hs : (a, b) = sideP ps p) (hn : p.2.1 < 0 ∨ p.2.2.1 < 0 ∨ (w : Int) < p.2.1 + a ∨ (h : Int) < p.2.2.1 + b) : fitP ps w h p = false := by
  cases e : fitP ps w h p with
  | false => rfl
  | true => rw [fitP_iff, ← hs] at e; dsimp only at e; omega
theorem fit_yes {ps : List Piece} {w h : Nat} {p : Plc} {a b : Int} (hs : (a, b) = sideP ps p) (hn : (0 ≤ p.2.1 ∧ 0 ≤ p.2.2.1) ∧ p.2.1 + a ≤ w ∧ p.2.2.1 + b ≤ h) : fitP ps w h p = true := by
  rw [fitP_iff, ← hs]; exact hn
theorem fit_out {ps : List Piece} {w h : Nat} {p : Plc} (hp : okPs ps = true) (h0 : 0 ≤ p.1) (h1 : p.1 < ps.length) (ho : p.2.1 < 0 ∨ (w : Int) - 1 < p.2.1 ∨ p.2.2.1 < 0 ∨ (h : Int) - 1 < p.2.2.1) : fitP ps w h p = false := by
  have sb := side_bound hp h0 h1
  obtain ⟨a, b, hs⟩ : ∃ a b, (a, b) = sideP ps p := ⟨_, _, rfl⟩
  rw [← hs] at sb
  exact fit_no hs (by dsimp only at sb; omega)
theorem in_at {ps : List Piece} {p : Plc} {a b yy xx : Int} {y x : Nat} (hs : (a, b) = sideP ps p) (hy : (y : Int) = yy) (hx : (x : Int) = xx) (h : (p.2.2.1 ≤ yy ∧ yy < p.2.2.1 + b) ∧ p.2.1 ≤ xx ∧ xx < p.2.1 + a) : inP ps p y x = true := by
  rw [inP_iff, ← hs, hy, hx]; exact h
theorem frees_take {gr : List (List Int)} {i : Nat} {r : List Int} (h : gr[i]? = some r) : ((gr.take (i + 1)).map freeR).sum = ((gr.take i).map freeR).sum + freeR r := by
  rw [List.take_add_one, h]; simp
theorem nat_mul {a b : Int} (ha : 0 ≤ a) (hb : 0 ≤ b) : (a * b).toNat = a.toNat * b.toNat := by
  have h1 : ((a.toNat : Nat) : Int) = a := Int.toNat_of_nonneg ha
  have h2 : ((b.toNat : Nat) : Int) = b := Int.toNat_of_nonneg hb
  have h3 : ((a.toNat * b.toNat : Nat) : Int) = a * b := by rw [Int.natCast_mul, h1, h2]
  omega
theorem flat_ix {a w b c : Int} (ha : 0 ≤ a) (hw : 0 ≤ w) (hb : 0 ≤ b) (hc : c = a * w + b) : c.toNat = a.toNat * w.toNat + b.toNat := by
  have h1 := nat_mul ha hw
  have h2 : 0 ≤ a * w := Int.mul_nonneg ha hw
  omega
theorem FG.next {ps : List Piece} {w h : Nat} {pl : List Plc} {i j l : Int} {p : Plc} {G : Grid} {grid2 : List Int} (hx : pl[i.toNat]? = some p) (h0 : 0 ≤ i) (hj : j = i + 1) (sg : smallG w h G) (cg : chaseG ps w h (-1) pl noG = chaseG ps w h l (pl.drop i.toNat) G) (hl : -1 ≤ l)
    (h1 : l < p.1) (h2 : p.1 < ps.length) (h8 : ps.length ≤ 8) (hr : roomP ps w h G p = true) (he : grid2 = flaG w h (putP ps G p p.1)) : FG ps w h pl j p.1 grid2 :=
  ⟨putP ps G p p.1, he, small_put sg ps p (by omega), by rw [cg, chaseG_yes hx h1 h2 hr, show j.toNat = i.toNat + 1 by omega], by omega, by omega⟩
theorem gridL_no {w h : Int} {ps : List Piece} {pl : List Plc} (hc : okCh w h ps = true) (e : chaseG ps w.toNat h.toNat (-1) pl noG = none) : gridL w h ps pl = ([], false) := by
  unfold gridL chaseF; rw [if_pos hc, e]
theorem gridL_yes {w h : Int} {ps : List Piece} {pl : List Plc} {G : Grid} (hc : okCh w h ps = true) (e : chaseG ps w.toNat h.toNat (-1) pl noG = some G) : gridL w h ps pl = (flaG w.toNat h.toNat G, true) := by
  unfold gridL chaseF; rw [if_pos hc, e]
theorem gridL_ok {w h : Int} {ps : List Piece} {pl : List Plc} {g : List Int} {ok : Bool} (e : (g, ok) = gridL w h ps pl) : (chaseF w h ps pl).isSome = ok := by
  unfold gridL at e
  cases hc : chaseF w h ps pl with
  | none => rw [hc] at e; rw [(Prod.mk.inj e).2]; rfl
  | some G => rw [hc] at e; rw [(Prod.mk.inj e).2]; rfl
theorem chaseF_bad {w h : Int} {ps : List Piece} {pl : List Plc} (hc : okCh w h ps = false) : chaseF w h ps pl = none := by unfold chaseF; rw [if_neg (by rw [hc]; simp)]
end Go.Proofs.Ytiaodmfipeoegaa.Ai
