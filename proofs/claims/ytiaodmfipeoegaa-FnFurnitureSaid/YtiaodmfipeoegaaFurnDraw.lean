/- Rows of marks and of placings in memory, as impl.fill writes them. -/
import Derived.Test.YtiaodmfipeoegaaGridOf
import Derived.Test.YtiaodmfipeoegaaFurnEnd
import Derived.Test.YtiaodmfipeoegaaFill
import Derived.WalkKit
import Derived.BigCall
import Derived.Lib.Hide
import Derived.Deep.RegionWith
import Derived.Test.YtiaodmfipeoegaaChaseDraw
namespace Go.Proofs.Ytiaodmfipeoegaa.Ai
open Go Go.Proofs Go.RowKit
set_option linter.unusedVariables false
set_option linter.unusedSimpArgs false
set_option maxRecDepth 10000
set_option maxHeartbeats 4000000
/-- A block that begins with some values. -/
def RowV (w : World) (e : TypeId) (g : Nat) (vs : List Value) : Prop := ∃ cur : Array Value, w.heap[g]? = some (.cells cur e (0, 0)) ∧ vs.length ≤ cur.size ∧ cur.toList.take vs.length = vs
section
variable {w w' : World} {e : TypeId} {g : Nat} {vs : List Value}
theorem RowV.lt (h : RowV w e g vs) : g < w.heap.size := by obtain ⟨cur, h1, -⟩ := h; exact (Array.getElem?_eq_some_iff.1 h1).1
theorem RowV.keep (h : RowV w e g vs) (hb : w'.heap[g]? = w.heap[g]?) : RowV w' e g vs := by obtain ⟨cur, h1, h2⟩ := h; exact ⟨cur, hb.trans h1, h2⟩
theorem RowV.cell (h : RowV w e g vs) {i : Nat} {x : Value} (hx : vs[i]? = some x) : w.cell? ⟨g, i, none⟩ = some x := by
  obtain ⟨cur, h1, h2, h5⟩ := h
  have hl := (List.getElem?_eq_some_iff.1 hx).1
  have : (cur.toList.take vs.length)[i]? = some x := by rw [h5]; exact hx
  rw [List.getElem?_take, if_pos hl, Array.getElem?_toList] at this
  simp [World.cell?, h1, this]
theorem RowV.free (h : RowV w e g vs) (i : Nat) : w.frozen? ⟨g, i, none⟩ = false := by obtain ⟨cur, h1, -⟩ := h; exact frozen_of_row w g i _ _ h1
theorem RowV.set (h : RowV w e g vs) {i : Nat} (hi : i < vs.length) (x : Value) : RowV (w.setCell ⟨g, i, none⟩ x) e g (vs.set i x) := by
  obtain ⟨cur, h1, h2, h5⟩ := h
  refine ⟨cur.setIfInBounds i x, ?_, by simp only [List.length_set, Array.size_setIfInBounds]; exact h2, ?_⟩
  · rw [heap_setCell_same w g i _ _ _ h1]
  · rw [Array.toList_setIfInBounds, List.length_set, List.take_set, h5]
end
/-- The marks of the used pieces, and the placings by number, as values. -/
def boolV (us : List Bool) : List Value := us.map Value.bool
def plcC (p : Plc) : List Value := [.int .i64 p.1, .int .i64 p.2.1, .int .i64 p.2.2.1, .bool p.2.2.2]
def plcsV (pl : List Plc) : List Value := pl.flatMap plcC
theorem boolV_set (us : List Bool) (i : Nat) (b : Bool) : (boolV us).set i (.bool b) = boolV (us.set i b) := by unfold boolV; rw [List.map_set]
theorem plcsV_len (pl : List Plc) : (plcsV pl).length = 4 * pl.length := by
  induction pl with
  | nil => rfl
  | cons p r ih =>
    have : plcsV (p :: r) = plcC p ++ plcsV r := by simp [plcsV]
    rw [this, List.length_append, ih]; simp [plcC]; omega

/- What impl.fill's walk needs beside memory: marks taken back, candidates, unused pieces. -/
theorem tab_congr {W H : Nat} {G G2 : Grid} (h : ∀ y x, y < H → x < W → G y x = G2 y x) : tabG W H G = tabG W H G2 := by
  unfold tabG
  apply List.map_congr_left
  intro y hy
  apply List.map_congr_left
  intro x hx
  exact h y x (List.mem_range.1 hy) (List.mem_range.1 hx)
/-- A piece that had room is taken out again. -/
theorem put_undo {ps : List Piece} {W H : Nat} {G : Grid} {p : Plc} {n : Int} (h : roomP ps W H G p = true) : tabG W H (putP ps (putP ps G p n) p (-1)) = tabG W H G := by
  unfold roomP at h
  have hf := freeP_iff.1 (Bool.and_eq_true_iff.1 h).2
  refine tab_congr fun y x hy hx => ?_
  unfold putP
  cases e : inP ps p y x with
  | true => rw [if_pos rfl, hf y x hy hx e]
  | false => rw [if_neg (by decide), if_neg (by decide)]
/-- What is left of the candidates. -/
def candR (N i : Nat) : List (Nat × Bool) := (List.range' i (N - i)).flatMap fun i => [(i, false), (i, true)]
theorem candR_start (N : Nat) : candR N 0 = candL N := by unfold candR candL; rw [List.range_eq_range', Nat.sub_zero]
theorem candR_next {N i : Nat} (h : i < N) : candR N i = (i, false) :: (i, true) :: candR N (i + 1) := by
  unfold candR
  rw [show N - i = (N - (i + 1)) + 1 by omega, List.range'_succ, List.flatMap_cons]; rfl
theorem candR_end {N i : Nat} (h : N ≤ i) : candR N i = [] := by unfold candR; rw [show N - i = 0 by omega]; rfl
/-- .. within one piece. -/
def candJ (N i j : Nat) : List (Nat × Bool) := if j = 0 then candR N i else if j = 1 then (i, true) :: candR N (i + 1) else candR N (i + 1)
theorem candJ_at {N i j : Nat} (hi : i < N) (hj : j < 2) : candJ N i j = (i, decide (j = 1)) :: candJ N i (j + 1) := by
  rcases show j = 0 ∨ j = 1 by omega with rfl | rfl
  · unfold candJ; rw [if_pos rfl, candR_next hi]; rfl
  · unfold candJ; rfl
/-- How many pieces are not used yet. -/
theorem count_used {us : List Bool} {i : Nat} (h : us[i]? = some false) : (us.set i true).count false + 1 = us.count false := by
  induction us generalizing i with
  | nil => cases h
  | cons b r ih =>
    cases i with
    | zero => obtain rfl : b = false := by simpa using h
              simp
    | succ i =>
      have := ih (i := i) (by simpa using h)
      rw [List.set_cons_succ, List.count_cons, List.count_cons]
      omega
section
variable {ps : List Piece} {w h k : Int} {G : Grid} {us : List Bool} {F : Grid → List Bool → List Plc → Bool × List Plc}
theorem loop_used {i : Nat} {t : Bool} {r : List (Nat × Bool)} {pl : List Plc} (hu : us[i]? = some true) : loopI F ps w h k G us ((i, t) :: r) pl = loopI F ps w h k G us r pl := by rw [loopI, if_pos hu]
theorem loop_used2 {N i : Nat} {pl : List Plc} (hi : i < N) (hu : us[i]? = some true) : loopI F ps w h k G us (candR N i) pl = loopI F ps w h k G us (candR N (i + 1)) pl := by rw [candR_next hi, loop_used hu, loop_used hu]
theorem loop_full {i : Nat} {t : Bool} {r : List (Nat × Bool)} {pl : List Plc} (hu : us[i]? = some false) (hr : roomP ps w.toNat h.toNat G ((i : Int), k % w, k / w, t) = false) : loopI F ps w h k G us ((i, t) :: r) pl = loopI F ps w h k G us r pl := by
  rw [loopI, if_neg (by rw [hu]; simp), if_neg (by rw [hr]; simp)]
theorem loop_hit {i : Nat} {t : Bool} {r : List (Nat × Bool)} {pl : List Plc} (hu : us[i]? = some false) (hr : roomP ps w.toNat h.toNat G ((i : Int), k % w, k / w, t) = true) (hF : (F (putP ps G ((i : Int), k % w, k / w, t) i) (us.set i true) (pl.set i ((i : Int), k % w, k / w, t))).1 = true) : loopI F ps w h k G us ((i, t) :: r) pl = F (putP ps G ((i : Int), k % w, k / w, t) i) (us.set i true) (pl.set i ((i : Int), k % w, k / w, t)) := by
  rw [loopI, if_neg (by rw [hu]; simp), if_pos hr, if_pos hF]
theorem loop_miss {i : Nat} {t : Bool} {r : List (Nat × Bool)} {pl : List Plc} (hu : us[i]? = some false) (hr : roomP ps w.toNat h.toNat G ((i : Int), k % w, k / w, t) = true) (hF : (F (putP ps G ((i : Int), k % w, k / w, t) i) (us.set i true) (pl.set i ((i : Int), k % w, k / w, t))).1 = false) : loopI F ps w h k G us ((i, t) :: r) pl = loopI F ps w h k G us r (F (putP ps G ((i : Int), k % w, k / w, t) i) (us.set i true) (pl.set i ((i : Int), k % w, k / w, t))).2 := by
  rw [loopI, if_neg (by rw [hu]; simp), if_pos hr, if_neg (by rw [hF]; simp)]
end
theorem loopI_len {F : Grid → List Bool → List Plc → Bool × List Plc} {ps : List Piece} {w h k : Int} {G : Grid} {us : List Bool} (hF : ∀ G us pl, (F G us pl).2.length = pl.length) : ∀ (c : List (Nat × Bool)) (pl : List Plc), (loopI F ps w h k G us c pl).2.length = pl.length
  | [], _ => rfl
  | (i, t) :: r, pl => by
    rw [loopI]
    split
    · exact loopI_len hF r pl
    · split
      · split
        · rw [hF, List.length_set]
        · rw [loopI_len hF r, hF, List.length_set]
      · exact loopI_len hF r pl
theorem fillI_len {ps : List Piece} {w h : Int} : ∀ (n : Nat) (G : Grid) (us : List Bool) (pl : List Plc), (fillI ps w h n G us pl).2.length = pl.length
  | 0, _, _, _ => rfl
  | n + 1, G, us, pl => by
    unfold fillI
    split
    · rfl
    · exact loopI_len (fun G us pl => fillI_len n G us pl) _ _
theorem plcs_set : ∀ (pl : List Plc) (i : Nat) (p : Plc), ((((plcsV pl).set (4 * i) (.int .i64 p.1)).set (4 * i + 1) (.int .i64 p.2.1)).set (4 * i + 2) (.int .i64 p.2.2.1)).set (4 * i + 3) (.bool p.2.2.2) = plcsV (pl.set i p)
  | [], i, p => by simp [plcsV]
  | q :: r, 0, p => by simp [plcsV, plcC]
  | q :: r, i + 1, p => by
    have e : plcsV (q :: r) = plcC q ++ plcsV r := by simp [plcsV]
    have e2 : plcsV (q :: r.set i p) = plcC q ++ plcsV (r.set i p) := by simp [plcsV]
    rw [List.set_cons_succ, e, e2, ← plcs_set r i p]
    rw [show 4 * (i + 1) = 4 * i + 4 by omega]
    rfl

/- Contracts of the program's filling of a chase. -/
/-- The first place that is free, by column and row. -/
def spotA (w h : Nat) (G : Grid) : Int × Int × Bool :=
  if firstF (flaG w h G) = (flaG w h G).length then (0, 0, false) else (firstF (flaG w h G) % w, firstF (flaG w h G) / w, true)
theorem spotA_no {w h : Nat} {G : Grid} (e : firstF (flaG w h G) = (flaG w h G).length) : spotA w h G = (0, 0, false) := if_pos e
theorem spotA_yes {w h : Nat} {G : Grid} {x y : Nat} (hy : y < h) (hx : x < w) (e : firstF (flaG w h G) = (y : Int) * w + x) : spotA w h G = ((x : Int), (y : Int), true) := by
  have hl := flat_lt hy hx
  have e2 : (y : Int) * w + x = ((y * w + x : Nat) : Int) := by rw [Int.natCast_add, Int.natCast_mul]
  unfold spotA
  rw [if_neg (by rw [e, e2, flaG_length]; omega), e, e2]
  obtain ⟨d1, d2⟩ := flat_div (y := y) hx
  rw [← Int.natCast_emod, ← Int.natCast_ediv, d1, d2]
def FirstAt (w h : Nat) (G : Grid) (y x : Int) : Prop := firstF (flaG w h G) = (y * w + x) + firstF ((flaG w h G).drop (y * w + x).toNat)
theorem FirstAt.start (w h : Nat) (G : Grid) : FirstAt w h G 0 0 := by unfold FirstAt; simp
theorem cell_ix {w y x : Int} (hw : 0 ≤ w) (hy : 0 ≤ y) (hx : 0 ≤ x) : 0 ≤ y * w + x ∧ (y * w + x).toNat = y.toNat * w.toNat + x.toNat := by
  have h1 := nat_mul hy hw
  have h2 : 0 ≤ y * w := Int.mul_nonneg hy hw
  omega
theorem FirstAt.step {w h : Nat} {G : Grid} {y x x2 : Int} (hf : FirstAt w h G y x) (hy : 0 ≤ y ∧ y < h) (hx : 0 ≤ x ∧ x < w) (hg : 0 ≤ G y.toNat x.toNat) (h2 : x2 = x + 1) : FirstAt w h G y x2 := by
  obtain ⟨i1, i2⟩ := cell_ix (w := w) (by omega) hy.1 hx.1
  rw [Int.toNat_natCast] at i2
  exact firstF_drop i1 hf (by rw [i2]; exact flaG_at (by omega) (by omega)) hg (by omega)
theorem FirstAt.row {w h : Nat} {G : Grid} {y x y2 : Int} (hf : FirstAt w h G y x) (hx : x = w) (h2 : y2 = y + 1) : FirstAt w h G y2 0 := by
  unfold FirstAt at hf ⊢
  rw [show y2 * (w : Int) + 0 = y * w + x by rw [h2, hx, Int.add_mul]; omega]; exact hf
theorem FirstAt.hit {w h : Nat} {G : Grid} {y x : Int} (hf : FirstAt w h G y x) (hy : 0 ≤ y ∧ y < h) (hx : 0 ≤ x ∧ x < w) (hg : G y.toNat x.toNat < 0) : spotA w h G = (x, y, true) := by
  obtain ⟨i1, i2⟩ := cell_ix (w := w) (by omega) hy.1 hx.1
  rw [Int.toNat_natCast] at i2
  have e := firstF_stop hf (by rw [i2]; exact flaG_at (by omega) (by omega)) hg
  have a : ((y.toNat : Nat) : Int) = y := by omega
  have b : ((x.toNat : Nat) : Int) = x := by omega
  rw [spotA_yes (y := y.toNat) (x := x.toNat) (by omega) (by omega) (by rw [a, b]; exact e), a, b]
theorem FirstAt.fin {w h : Nat} {G : Grid} {y : Int} (hf : FirstAt w h G y 0) (hy : y = h) : spotA w h G = (0, 0, false) := by
  have e2 : y * (w : Int) + 0 = ((w * h : Nat) : Int) := by rw [hy, Int.add_zero, Int.natCast_mul, Int.mul_comm]
  refine spotA_no ?_
  unfold FirstAt at hf
  rw [e2] at hf
  rw [firstF_end hf (by rw [flaG_length]; exact Int.le_refl _), flaG_length]
theorem firstFree_ok (grid : List (List Int)) (w h : Nat) (G : Grid) (hg : grid = tabG w h G) (hw : 1 ≤ w ∧ w ≤ 8) (hh : 1 ≤ h ∧ h ≤ 8) (sg : smallG w h G) : OkA Try.prog 132 [.isl 1 (rows (cSl 1 cInt) grid)] (· = iib (spotA w h G)) :=
  fn_intro envOk fieldsOk mixed Try.func132 rfl fun κ X Y L Q m hQ => by
    have gl0 : grid.length = h := by rw [hg, tabG_length]
    conv => cbv
    refine r_lenR m.sX fun n1 hn1 mn1 => ?_
    conv => cbv
    refine r_loopF (α := Int) m 29 [9, 10, 11] [] (fun σ => [(9, .isl 1 (rows (cSl 1 cInt) grid)), (10, .int .i64 n1), (11, .int .i64 σ)]) (fun σ => [])
      (fun σ => (0 ≤ σ) ∧ (σ ≤ n1) ∧ (FirstAt w h G σ 0)) (fun σ => (n1 - σ).toNat) 0 ?_ ?_ ?_ ?_
    · cbv
    · cbv
    · exact ⟨(by (try dsimp only); first | omega | (simp only [List.length_nil]; omega) | (simp only [List.length_cons, List.length_nil]; omega)), (by (try dsimp only); first | omega | (simp only [List.length_nil]; omega) | (simp only [List.length_cons, List.length_nil]; omega)), (by (try dsimp only) <;> (exact FirstAt.start w h G))⟩
    rintro i1 ⟨lo1, hi1, q⟩ E hE F hF
    conv => cbv
    refine r_lss m.sX (fun h1 => ?_) (fun h1 => ?_) <;> conv => cbv
    · refine r_index m.sX (by omega) (by omega) fun row hrow => ?_
      conv => cbv
      have mrow := get_mem hrow
      have drow := drop_cons hrow
      have krow := take_snoc hrow
      have jrow : (i1 + 1).toNat = Int.toNat i1 + 1 := by omega
      have gl : grid.length = h := by rw [hg, tabG_length]
      have er : row = (List.range w).map fun x => G i1.toNat x := by rw [hg, tabG_at (by omega)] at hrow; exact (Option.some.inj hrow).symm
      have rl : row.length = w := by rw [er, row_length]
      refine r_lenR m.sX fun n2 hn2 mn2 => ?_
      conv => cbv
      refine r_loopF (α := Int) m 29 [5, 9, 10, 11, 16, 17, 18] [] (fun σ => [(5, .int .i64 i1), (9, .isl 1 (rows (cSl 1 cInt) grid)), (10, .int .i64 n1), (11, .int .i64 i1), (16, .isl 1 (rows cInt row)), (17, .int .i64 n2), (18, .int .i64 σ)]) (fun σ => [])
        (fun σ => (0 ≤ σ) ∧ (σ ≤ n2) ∧ (FirstAt w h G i1 σ)) (fun σ => (n2 - σ).toNat) 0 ?_ ?_ ?_ ?_
      · cbv
      · cbv
      · exact ⟨(by (try dsimp only); first | omega | (simp only [List.length_nil]; omega) | (simp only [List.length_cons, List.length_nil]; omega)), (by (try dsimp only); first | omega | (simp only [List.length_nil]; omega) | (simp only [List.length_cons, List.length_nil]; omega)), (by (try dsimp only) <;> (exact q))⟩
      rintro i2 ⟨lo2, hi2, q2⟩ E2 hE2 F2 hF2
      conv => cbv
      refine r_lss m.sX (fun h2 => ?_) (fun h2 => ?_) <;> conv => cbv
      · refine r_index m.sX (by omega) (by omega) fun number hnumber => ?_
        conv => cbv
        have mnumber := get_mem hnumber
        have dnumber := drop_cons hnumber
        have knumber := take_snoc hnumber
        have jnumber : (i2 + 1).toNat = Int.toNat i2 + 1 := by omega
        have vnumber := nth_some hnumber
        have en : number = G i1.toNat i2.toNat := by rw [er, row_at (by omega)] at hnumber; exact (Option.some.inj hnumber).symm
        have sn := sg i1.toNat i2.toNat
        refine r_eql m.sX (fun h3 => ?_) (fun h3 => ?_) <;> conv => cbv
        · refine hF2 _ _ ?_
          conv => cbv
          refine hF _ _ ?_
          conv => cbv
          exact hQ (.tup [.int .i64 i2, .int .i64 i1, .bool true]) (Eq.trans (by first | rfl | (simp only [lb, lbI, rows_cons, rows_nil, unnilT, unnil, unnilTI, unnilI]; done) | (simp only [lb, lbI, rows_cons, rows_nil, unnilT, unnil, unnilTI, unnilI]; rfl)) (congrArg (iib) (show (i2, i1, true) = spotA w h G from by rw [q2.hit (by omega) (by omega) (by omega)])))   -- leaf 1
        · refine r_addf m.sX (by omega) (by omega) fun r1 hr1 => ?_
          conv => cbv
          try have tr1 : Int.toNat r1 = Int.toNat i2 + 1 := by omega
          refine hE2 _ r1 ?_ ?_ ⟨(by (try dsimp only); first | omega | (simp only [List.length_nil]; omega) | (simp only [List.length_cons, List.length_nil]; omega)), (by (try dsimp only); first | omega | (simp only [List.length_nil]; omega) | (simp only [List.length_cons, List.length_nil]; omega)), (by (try dsimp only) <;> (exact q2.step (by omega) (by omega) (by omega) (by omega)))⟩ (by first | omega | (dsimp only; omega))
          · cbv
          · cbv
      · have dz_i2 := drop_end (xs := row) (i := Int.toNat i2) (by omega)
        have tz_i2 := take_end (xs := row) (i := Int.toNat i2) (by omega)
        refine hF2 _ _ ?_
        conv => cbv
        refine r_addf m.sX (by omega) (by omega) fun r2 hr2 => ?_
        conv => cbv
        try have tr2 : Int.toNat r2 = Int.toNat i1 + 1 := by omega
        refine hE _ r2 ?_ ?_ ⟨(by (try dsimp only); first | omega | (simp only [List.length_nil]; omega) | (simp only [List.length_cons, List.length_nil]; omega)), (by (try dsimp only); first | omega | (simp only [List.length_nil]; omega) | (simp only [List.length_cons, List.length_nil]; omega)), (by (try dsimp only) <;> (exact q2.row (by omega) (by omega)))⟩ (by first | omega | (dsimp only; omega))
        · cbv
        · cbv
    · have dz_i1 := drop_end (xs := grid) (i := Int.toNat i1) (by omega)
      have tz_i1 := take_end (xs := grid) (i := Int.toNat i1) (by omega)
      refine hF _ _ ?_
      conv => cbv
      exact hQ (.tup [.int .i64 0, .int .i64 0, .bool false]) (Eq.trans (by first | rfl | (simp only [lb, lbI, rows_cons, rows_nil, unnilT, unnil, unnilTI, unnilI]; done) | (simp only [lb, lbI, rows_cons, rows_nil, unnilT, unnil, unnilTI, unnilI]; rfl)) (congrArg (iib) (show (0, 0, false) = spotA w h G from by rw [q.fin (by omega)])))   -- leaf 2


/- impl.fill: the program's search, by the kit's walk. -/
theorem calls_iib {P : Program} {w : World} {I : Nat → Prop} {f : FuncId} {args : List PV} {p : Int × Int × Bool} (h : OkA P f args (· = iib p)) {vs : List Value} (hI : InR w I) (ha : All2 (RepArg w I) args vs) :
    Calls P f vs.toArray w fun e w' => e = .returned (.tuple #[.int .i64 p.1, .int .i64 p.2.1, .bool p.2.2]) ∧ Below w.heap.size w w' := by
  refine (h.2 w I vs hI ha).mono ?_
  rintro e w' ⟨v, r, gs, rfl, rfl, hb, -, -, hr⟩
  unfold iib at hr
  cases hr with
  | one hr => cases hr with
    | imm hr => cases hr
  | tup hr =>
    cases hr with
    | cons h1 h2 => cases h2 with
      | cons h2 h3 => cases h3 with
        | cons h3 h4 => cases h4; cases h1 with
          | imm h1 => cases h1; cases h2 with
            | imm h2 => cases h2; cases h3 with
              | imm h3 => cases h3; exact ⟨rfl, hb⟩
/-- What impl.fill may write. -/
def InF (bs : List (Nat × Nat)) (gu gp k : Nat) : Prop := inRows bs k ∨ k = gu ∨ k = gp
structure FillM (w : World) (B : Nat) (t : Nat × Nat) (bs : List (Nat × Nat)) (W : Nat) (gr : List (List Int)) (gu gp : Nat) (us : List Bool) (pl : List Plc) : Prop where
  grid : GridI w B t bs W gr
  used : RowV w 4 gu (boolV us)
  put : RowV w 60 gp (plcsV pl)
section
variable {w w' : World} {B : Nat} {t : Nat × Nat} {bs : List (Nat × Nat)} {W : Nat} {gr gr2 : List (List Int)} {gu gp : Nat} {us us2 : List Bool} {pl pl2 : List Plc}
theorem RowV.type {e e2 : TypeId} {g : Nat} {vs vs2 : List Value} (h : RowV w e g vs) (h2 : RowV w e2 g vs2) : e = e2 := by
  obtain ⟨c1, a1, -⟩ := h
  obtain ⟨c2, a2, -⟩ := h2
  rw [a1] at a2
  injection a2 with a2
  injection a2
theorem RowI.val {b : Nat × Nat} {l : List Int} (h : RowI w b l) : RowV w 3 b.1 (l.map (.int .i64)) := by
  obtain ⟨cur, h1, h2, h3, h4, h5⟩ := h
  exact ⟨cur, h1, by rw [List.length_map]; omega, by rw [List.length_map]; exact h5⟩
theorem GridI.row_val (h : GridI w B t bs W gr) {b : Nat × Nat} (hb : b ∈ bs) : ∃ l : List Int, RowV w 3 b.1 (l.map (.int .i64)) := by
  obtain ⟨y, hy⟩ := List.getElem?_of_mem hb
  have hl := (List.getElem?_eq_some_iff.1 hy).1
  exact ⟨_, ((h.rows y b (gr[y]'(by rw [h.len]; exact hl)) hy (List.getElem?_eq_getElem _)).1).val⟩
theorem GridI.top_val (h : GridI w B t bs W gr) : RowV w 46 t.1 (bs.map (rowV W)) := by
  obtain ⟨cur, h1, h2, h3, h4, h5⟩ := h.top
  exact ⟨cur, h1, by rw [List.length_map]; omega, by rw [List.length_map]; exact h5⟩
theorem FillM.below (h : FillM w B t bs W gr gu gp us pl) (hb : Below w.heap.size w w') : FillM w' B t bs W gr gu gp us pl :=
  ⟨h.grid.below hb, h.used.keep (hb.block _ h.used.lt), h.put.keep (hb.block _ h.put.lt)⟩
theorem FillM.off (h : FillM w B t bs W gr gu gp us pl) : (¬ inRows bs gu ∧ ¬ inRows bs gp) ∧ (gu ≠ gp ∧ (t.1 ≠ gu ∧ t.1 ≠ gp)) := by
  refine ⟨⟨?_, ?_⟩, ?_, ?_, ?_⟩
  · rintro ⟨b, hb, e⟩
    obtain ⟨l, hl⟩ := h.grid.row_val hb
    rw [e] at hl
    have := hl.type h.used
    revert this; decide
  · rintro ⟨b, hb, e⟩
    obtain ⟨l, hl⟩ := h.grid.row_val hb
    rw [e] at hl
    have := hl.type h.put
    revert this; decide
  · rintro rfl
    have := h.used.type h.put
    revert this; decide
  · intro e
    have hl := h.grid.top_val
    rw [e] at hl
    have := hl.type h.used
    revert this; decide
  · intro e
    have hl := h.grid.top_val
    rw [e] at hl
    have := hl.type h.put
    revert this; decide
theorem FillM.fresh (h : FillM w B t bs W gr gu gp us pl) {k : Nat} (hk : InF bs gu gp k) : k < w.heap.size := by
  rcases hk with ⟨b, hb, rfl⟩ | rfl | rfl
  · exact h.grid.lt.2 b hb
  · exact h.used.lt
  · exact h.put.lt
/-- The chase alone has changed. -/
theorem FillM.marked (h : FillM w B t bs W gr gu gp us pl) (hg : GridI w' B t bs W gr2) (hu : UpdG bs w w') : FillM w' B t bs W gr2 gu gp us pl :=
  ⟨hg, h.used.keep (hu.block _ h.used.lt h.off.1.1), h.put.keep (hu.block _ h.put.lt h.off.1.2)⟩
theorem FillM.set_used (h : FillM w B t bs W gr gu gp us pl) {i : Nat} (hi : i < us.length) (b : Bool) : FillM (w.setCell ⟨gu, i, none⟩ (.bool b)) B t bs W gr gu gp (us.set i b) pl := by
  have kp : ∀ k, k ≠ gu → (w.setCell ⟨gu, i, none⟩ (.bool b)).heap[k]? = w.heap[k]? := fun k hk => heap_setCell_other w ⟨gu, i, none⟩ k _ hk
  refine ⟨h.grid.keep fun k hk => kp k ?_, ?_, h.put.keep (kp _ h.off.2.1.symm)⟩
  · rintro rfl
    rcases hk with e | e
    · exact h.off.2.2.1 e.symm
    · exact h.off.1.1 e
  · rw [← boolV_set]; exact h.used.set (by unfold boolV; rw [List.length_map]; exact hi) _
theorem FillM.set_put (h : FillM w B t bs W gr gu gp us pl) {i : Nat} (hi : i < pl.length) (p : Plc) : FillM ((((w.setCell ⟨gp, i * 4, none⟩ (.int .i64 p.1)).setCell ⟨gp, i * 4 + 1, none⟩ (.int .i64 p.2.1)).setCell ⟨gp, i * 4 + 2, none⟩ (.int .i64 p.2.2.1)).setCell ⟨gp, i * 4 + 3, none⟩ (.bool p.2.2.2)) B t bs W gr gu gp us (pl.set i p) := by
  rw [Nat.mul_comm i 4]
  have kp : ∀ k, k ≠ gp → ((((w.setCell ⟨gp, 4 * i, none⟩ (.int .i64 p.1)).setCell ⟨gp, 4 * i + 1, none⟩ (.int .i64 p.2.1)).setCell ⟨gp, 4 * i + 2, none⟩ (.int .i64 p.2.2.1)).setCell ⟨gp, 4 * i + 3, none⟩ (.bool p.2.2.2)).heap[k]? = w.heap[k]? := fun k hk => by
    rw [heap_setCell_other _ ⟨gp, 4 * i + 3, none⟩ k _ hk, heap_setCell_other _ ⟨gp, 4 * i + 2, none⟩ k _ hk, heap_setCell_other _ ⟨gp, 4 * i + 1, none⟩ k _ hk, heap_setCell_other _ ⟨gp, 4 * i, none⟩ k _ hk]
  refine ⟨h.grid.keep fun k hk => kp k ?_, h.used.keep (kp _ h.off.2.1), ?_⟩
  · rintro rfl
    rcases hk with e | e
    · exact h.off.2.2.2 e.symm
    · exact h.off.1.2 e
  · rw [← plcs_set]
    have hl := plcsV_len pl
    exact (((h.put.set (by omega) _).set (by simp only [List.length_set]; omega) _).set (by simp only [List.length_set]; omega) _).set (by simp only [List.length_set]; omega) _
end
def LitB (w : World) (b : Nat) : Prop := w.heap[b]? = some (.cells #[.bool false, .bool true] 4 (0, 0))
theorem LitB.cell {w : World} {b j : Nat} (h : LitB w b) (hj : j < 2) : w.cell? ⟨b, j, none⟩ = some (.bool (decide (j = 1))) := by
  unfold LitB at h
  rcases show j = 0 ∨ j = 1 by omega with rfl | rfl <;> simp [World.cell?, h]
theorem firstF_le : ∀ l : List Int, 0 ≤ firstF l ∧ firstF l ≤ l.length
  | [] => ⟨Int.le_refl _, Int.le_refl _⟩
  | x :: r => by
    have := firstF_le r
    unfold firstF
    split <;> simp only [List.length_cons] <;> omega
theorem tab_small {W H : Nat} {G : Grid} (hs : smallG W H G) : ∀ r ∈ tabG W H G, ∀ x ∈ r, IntKind.i64.wrap x = x := fun r hr x hx => by
  have := tabG_small hs r hr x hx
  exact wrap64 (by omega) (by omega)
/-- What impl.fill does where so many pieces may still be used. -/
def FillK (ps : List Piece) (W H B : Nat) (t : Nat × Nat) (bs : List (Nat × Nat)) (gu gp cu cp : Nat) (vp : Value) (n : Nat) : Prop := ∀ (w : World) (G : Grid) (us : List Bool) (pl : List Plc),
    smallG W H G → us.length = ps.length → pl.length = ps.length → us.count false < n → RepI w (fun k => k < B) (.isl 2 (rows cPiece ps)) vp → B ≤ gu ∧ B ≤ gp → FillM w B t bs W (tabG W H G) gu gp us pl →
    Calls Try.prog 80 #[.slice (some ⟨t.1, 0, none⟩) H t.2, vp, .slice (some ⟨gu, 0, none⟩) ps.length cu, .slice (some ⟨gp, 0, none⟩) ps.length cp] w fun e w' =>
      e = .returned (.bool (fillI ps W H n G us pl).1) ∧ Upd (InF bs gu gp) w w' ∧ RowV w' 60 gp (plcsV (fillI ps W H n G us pl).2) ∧ ((fillI ps W H n G us pl).1 = false → FillM w' B t bs W (tabG W H G) gu gp us (fillI ps W H n G us pl).2)
set_option maxHeartbeats 4000000 in
set_option maxRecDepth 1000000 in
theorem fillK_step (ps : List Piece) (W H : Nat) (hps : okPs ps = true) (hW : 1 ≤ W ∧ W ≤ 8) (hH : 1 ≤ H ∧ H ≤ 8) (B : Nat) (t : Nat × Nat) (bs : List (Nat × Nat)) (gu gp cu cp : Nat) (vp : Value) (n : Nat) (ih0 : FillK ps W H B t bs gu gp cu cp vp n) : FillK ps W H B t bs gu gp cu cp vp (n + 1) := by
    intro w G us pl hs hu hp hc hv hB hm
    have hN := (okPs_spec hps).2
    have gl : (tabG W H G).length = H := tabG_length W H G
    have hBw : B ≤ w.heap.size := by have := hm.used.lt; omega
    have hoff : ∀ k, InF bs gu gp k → B ≤ k := by
      rintro k (⟨b, hb, rfl⟩ | rfl | rfl)
      · exact hm.grid.low.2 b hb
      · exact hB.1
      · exact hB.2
    have hV : ∀ W', Upd (InF bs gu gp) w W' → RepI W' (fun k => k < W'.heap.size) (.isl 2 (rows cPiece ps)) vp := fun W' hU => hv.mono fun g hg => ⟨Nat.lt_of_lt_of_le (Nat.lt_of_lt_of_le hg hBw) hU.size, hU.block g (Nat.lt_of_lt_of_le hg hBw) fun e => by have := hoff g e; omega⟩
    have hV0 : ∀ W', Upd (InF bs gu gp) w W' → RepI W' (fun k => k < B) (.isl 2 (rows cPiece ps)) vp := fun W' hU => hv.mono fun g hg => ⟨hg, hU.block g (Nat.lt_of_lt_of_le hg hBw) fun e => by have := hoff g e; omega⟩
    have A1 : Calls Try.prog 132 #[.slice (some ⟨t.1, 0, none⟩) H t.2] w _ := calls_iib (firstFree_ok (tabG W H G) W H G rfl hW hH hs) (inr_all w) (vs := [.slice (some ⟨t.1, 0, none⟩) H t.2]) (.cons (.one (by have := hm.grid.rep (tab_small hs) (Q := fun k => k < w.heap.size) hm.grid.lt; rw [gl] at this; exact this)) .nil)
    by_cases hf : firstF (flaG W H G) = (flaG W H G).length
    · rw [spotA_no hf] at A1
      have eA : fillI ps W H (n + 1) G us pl = (us.all id, pl) := by rw [fillI]; simp only [Int.toNat_natCast]; rw [if_pos hf]
      rw [eA]
      go_enter Try.func80, Try.ntmps80
      go_wp2_with (go_at_call 132; refine A1.mono ?_; rintro e w1 ⟨rfl, b1⟩; refine Hid.out ?_)
      refine Lib.hid ?_
      have m1 := hm.below b1
      have hl := hu
      go_wp2
      go_loopw [28] (fun u wr => ∃ i : Nat, u = .int .i64 (i : Int) ∧ i ≤ ps.length ∧ (∀ j : Nat, j < i → us[j]? = some true) ∧ wr = w1) (fun u _ => ps.length - (intOf u).toNat)
      case atStart => exact ⟨0, rfl, Nat.zero_le _, fun j hj => absurd hj (Nat.not_lt_zero _), by trivial⟩
      case round =>
        obtain ⟨i, rfl, hi, hall, rfl⟩ := hrel
        by_cases hin : i < ps.length
        · obtain ⟨b, hb⟩ : ∃ b, us[i]? = some b := ⟨_, List.getElem?_eq_getElem (by omega)⟩
          have cb := m1.used.cell (i := i) (x := .bool b) (by unfold boolV; rw [List.getElem?_map, hb]; rfl)
          cases b with
          | true =>
            go_wp2
            refine ⟨⟨i + 1, rfl, by omega, fun j hj => ?_, by trivial⟩, ?_⟩
            · by_cases e : j = i
              · rw [e]; exact hb
              · exact hall j (by omega)
            · simp only [intOf]; omega
          | false =>
            go_wp2
            go_ret
            have ea : us.all id = false := by
              cases hx : us.all id with
              | false => rfl
              | true => have := List.all_eq_true.1 hx _ (List.mem_of_getElem? hb); cases this
            rw [ea]
            exact ⟨rfl, Upd.of b1, m1.put, fun _ => m1⟩
        · obtain rfl : i = ps.length := by omega
          go_wp2
          go_ret
          have ea : us.all id = true := by
            rw [List.all_eq_true]
            intro b hb
            obtain ⟨j, hj⟩ := List.getElem?_of_mem hb
            have hl := (List.getElem?_eq_some_iff.1 hj).1
            rw [hall j (by omega)] at hj
            rw [← Option.some.inj hj]; rfl
          rw [ea]
          exact ⟨rfl, Upd.of b1, m1.put, fun e => by cases e⟩
    · obtain ⟨k, hk⟩ : ∃ k, k = firstF (flaG W H G) := ⟨_, rfl⟩
      have eS : spotA W H G = (k % (W : Int), k / (W : Int), true) := by unfold spotA; rw [if_neg hf, hk]
      have kb := firstF_le (flaG W H G)
      rw [← hk, flaG_length] at kb
      have kw : 0 ≤ k % (W : Int) ∧ k % (W : Int) < W := ⟨Int.emod_nonneg _ (by omega), Int.emod_lt_of_pos _ (by omega)⟩
      have kh : 0 ≤ k / (W : Int) ∧ k / (W : Int) ≤ 64 := by
        refine ⟨Int.ediv_nonneg kb.1 (by omega), ?_⟩
        have h1 : W * H ≤ 8 * 8 := Nat.mul_le_mul hW.2 hH.2
        exact Int.le_trans (Int.ediv_le_self _ kb.1) (by omega)
      rw [eS] at A1
      obtain ⟨A, eA⟩ : ∃ A, A = fillI ps W H (n + 1) G us pl := ⟨_, rfl⟩
      have eL : loopI (fillI ps W H n) ps W H k G us (candR ps.length 0) pl = A := by rw [eA, fillI, candR_start]; simp only [Int.toNat_natCast]; rw [if_neg hf, hk]
      rw [← eA]
      clear hf hk eS kb eA
      obtain ⟨X, hX⟩ : ∃ X, X = k % (W : Int) := ⟨_, rfl⟩
      obtain ⟨Y, hY⟩ : ∃ Y, Y = k / (W : Int) := ⟨_, rfl⟩
      rw [← hX, ← hY] at A1
      rw [← hX] at kw
      rw [← hY] at kh
      have HX := Lib.hid hX
      have HY := Lib.hid hY
      have HL := Lib.hid eL
      clear hX hY eL
      obtain ⟨va, vc, rfl⟩ : ∃ a c, vp = .slice a ps.length c := by
        rw [rows_eq] at hv
        obtain ⟨a, c, e⟩ := isl_shape hv
        rw [List.length_map] at e
        exact ⟨a, c, e⟩
      go_enter Try.func80, Try.ntmps80
      go_wp2_with (go_at_call 132; refine A1.mono ?_; rintro e w1 ⟨rfl, b1⟩; refine Hid.out ?_)
      refine Lib.hid ?_
      have m1 := hm.below b1
      go_wp2
      go_loopw [37] (fun u wr => ∃ (i : Nat) (pc : List Plc), u = .int .i64 (i : Int) ∧ i ≤ ps.length ∧ pc.length = ps.length ∧ loopI (fillI ps W H n) ps W H k G us (candR ps.length i) pc = A ∧ FillM wr B t bs W (tabG W H G) gu gp us pc ∧ Upd (InF bs gu gp) w wr) (fun u _ => ps.length - (intOf u).toNat)
      case atStart => exact ⟨0, pl, rfl, Nat.zero_le _, hp, HL.out, m1, Upd.of b1⟩
      case round =>
        obtain ⟨i, pc, rfl, hi, hpc, eL, m2, u2⟩ := hrel
        by_cases hin : i < ps.length
        · obtain ⟨b, hb⟩ : ∃ b, us[i]? = some b := ⟨_, List.getElem?_eq_getElem (by omega)⟩
          have cb := m2.used.cell (i := i) (x := .bool b) (by unfold boolV; rw [List.getElem?_map, hb]; rfl)
          cases b with
          | true =>
            go_wp2
            refine ⟨⟨i + 1, pc, rfl, by omega, hpc, ?_, m2, u2⟩, ?_⟩
            · rw [← loop_used2 hin hb]; exact eL
            · simp only [intOf]; omega
          | false =>
            go_wp2
            have hwb : ¬ InF bs gu gp wr.heap.size := fun e => by have := m2.fresh e; omega
            have q2 := alloc_below wr (.cells #[.bool false, .bool true] 4)
            have l2 : LitB (wr.alloc (.cells #[.bool false, .bool true] 4)) wr.heap.size := heap_alloc_new wr _
            generalize hwl : wr.alloc (.cells #[.bool false, .bool true] 4) = wl at q2 l2
            have m3 := m2.below q2
            have u3 : Upd (InF bs gu gp) w wl := u2.trans (Upd.of q2)
            generalize hwx : wr.heap.size = wb at hwb l2
            clear hwl hwx q2
            go_loopw [46] (fun u wq => ∃ (j : Nat) (pd : List Plc), u = .int .i64 (j : Int) ∧ j ≤ 2 ∧ pd.length = ps.length ∧ loopI (fillI ps W H n) ps W H k G us (candJ ps.length i j) pd = A ∧ FillM wq B t bs W (tabG W H G) gu gp us pd ∧ Upd (InF bs gu gp) w wq ∧ LitB wq wb) (fun u _ => 2 - (intOf u).toNat)
            case atStart => exact ⟨0, pc, rfl, Nat.zero_le _, hpc, eL, m3, u3, l2⟩
            case round =>
              obtain ⟨j, pd, rfl, hj, hpd, eL3, m4, u4, l4⟩ := hrel
              by_cases hj2 : j < 2
              · have cl := l4.cell hj2
                obtain ⟨tb, htb⟩ : ∃ tb, tb = decide (j = 1) := ⟨_, rfl⟩
                rw [← htb] at cl
                have HT := Lib.hid htb
                clear htb
                obtain ⟨P, hP⟩ : ∃ P : Plc, P = ((i : Int), X, Y, tb) := ⟨_, rfl⟩
                have q5 := alloc_below wr (.cells #[.int .i64 (i : Int), .int .i64 X, .int .i64 Y, .bool tb] 60)
                have e5 : BoxP (wr.alloc (.cells #[.int .i64 (i : Int), .int .i64 X, .int .i64 Y, .bool tb] 60)) wr.heap.size ((i : Int), X, Y, tb) := heap_alloc_new wr _
                have kb : ¬ InF bs gu gp wr.heap.size := fun e => by have := m4.fresh e; omega
                have kl : wb ≠ wr.heap.size := by have := (Array.getElem?_eq_some_iff.1 l4).1; omega
                generalize hwx : wr.alloc (.cells #[.int .i64 (i : Int), .int .i64 X, .int .i64 Y, .bool tb] 60) = wx at q5 e5
                have HWX := Lib.hid hwx
                clear hwx
                have m5 := m4.below q5
                have u5 : Upd (InF bs gu gp) w wx := u4.trans (Upd.of q5)
                have l5 : LitB wx wb := by unfold LitB; rw [q5.block wb (Array.getElem?_eq_some_iff.1 l4).1]; exact l4
                have AR : Calls Try.prog 126 #[.slice (some ⟨t.1, 0, none⟩) H t.2, .slice va ps.length vc, .agg #[.int .i64 (i : Int), .int .i64 X, .int .i64 Y, .bool tb]] wx _ := calls_bool (isRoom_ok (tabG W H G) ps ((i : Int), X, Y, tb) ⟨W, H, G, rfl, hW, hH⟩ hps ⟨by dsimp only; omega, by dsimp only; omega⟩ ⟨by dsimp only; omega, by dsimp only; omega⟩) (inr_all wx) (vs := [.slice (some ⟨t.1, 0, none⟩) H t.2, .slice va ps.length vc, .agg #[.int .i64 (i : Int), .int .i64 X, .int .i64 Y, .bool tb]])
                  (.cons (.one (by have := m5.grid.rep (tab_small hs) (Q := fun k => k < wx.heap.size) m5.grid.lt; rw [gl] at this; exact this)) (.cons (.one (hV wx u5)) (.cons (plc_arg (wrap64 (by dsimp only; omega) (by dsimp only; omega)) (wrap64 (by dsimp only; omega) (by dsimp only; omega)) (wrap64 (by dsimp only; omega) (by dsimp only; omega))) .nil)))
                rw [roomL_tab hH.1] at AR
                have eN := candJ_at hin hj2
                rw [← HT.out] at eN
                rw [eN] at eL3
                have eK : roomP ps W H G ((i : Int), X, Y, tb) = roomP ps (W : Int).toNat (H : Int).toNat G ((i : Int), k % (W : Int), k / (W : Int), tb) := by rw [Int.toNat_natCast, Int.toNat_natCast, HX.out, HY.out]
                have HE := Lib.hid eL3
                clear eL3 eN
                cases hr : roomP ps W H G ((i : Int), X, Y, tb) with
                | false =>
                  rw [hr] at AR eK
                  have HE2 := Lib.hid ((loop_full hb eK.symm).symm.trans HE.out)
                  clear eK hr
                  go_wp2_with (go_at_call 126; rw [HWX.out]; refine AR.mono ?_; rintro e w6 ⟨rfl, b6⟩; refine Hid.out ?_)
                  refine Lib.hid ?_
                  go_wp2
                  refine ⟨⟨j + 1, pd, rfl, by omega, hpd, HE2.out, m5.below b6, u5.trans (Upd.of b6), ?_⟩, ?_⟩
                  · unfold LitB; rw [b6.block wb (Array.getElem?_eq_some_iff.1 l5).1]; exact l5
                  · simp only [intOf]; omega
                | true =>
                  rw [hr] at AR eK
                  have HK := Lib.hid eK
                  have HRm := Lib.hid hr
                  clear eK hr
                  go_wp2_with (go_at_call 126; rw [HWX.out]; refine AR.mono ?_; rintro e w6 ⟨rfl, b6⟩; refine Hid.out ?_)
                  refine Lib.hid ?_
                  have m6 := m5.below b6
                  have u6 : Upd (InF bs gu gp) w w6 := u5.trans (Upd.of b6)
                  have e6 : BoxP w6 wr.heap.size ((i : Int), X, Y, tb) := e5.keep (b6.block _ (Array.getElem?_eq_some_iff.1 e5).1)
                  have l6 : LitB w6 wb := by unfold LitB; rw [b6.block wb (Array.getElem?_eq_some_iff.1 l5).1]; exact l5
                  have hfit : fitP ps W H ((i : Int), X, Y, tb) = true := by have := HRm.out; unfold roomP at this; exact (Bool.and_eq_true_iff.1 this).1
                  have AM : Calls Try.prog 127 #[.slice (some ⟨t.1, 0, none⟩) H t.2, .slice va ps.length vc, plcV ((i : Int), X, Y, tb), .int .i64 (i : Int)] w6 _ := mark_walk ps ((i : Int), X, Y, tb) i W H G hps ⟨by dsimp only; omega, by dsimp only; omega⟩ hfit hW.2 hH.2 w6 B t bs _ (hV w6 u6) m6.grid
                  obtain ⟨x0, x1, x2, x3⟩ := e6.cells
                  dsimp only at x0 x1 x2 x3
                  go_wp2_with (go_at_call 127; refine AM.mono ?_; rintro e w7 ⟨rfl, g7, h7⟩; refine Hid.out ?_)
                  refine Lib.hid ?_
                  clear x0 x1 x2 x3
                  have m7 := m6.marked g7 h7
                  have hG : ∀ k, inRows bs k → InF bs gu gp k := fun k h => .inl h
                  have u7 : Upd (InF bs gu gp) w w7 := u6.trans (h7.mono hG)
                  have e7 : BoxP w7 wr.heap.size ((i : Int), X, Y, tb) := e6.keep (h7.block _ (Array.getElem?_eq_some_iff.1 e6).1 fun h => kb (hG _ h))
                  have l7 : LitB w7 wb := by unfold LitB; rw [h7.block wb (Array.getElem?_eq_some_iff.1 l6).1 fun h => hwb (hG _ h)]; exact l6
                  obtain ⟨x0, x1, x2, x3⟩ := e7.cells
                  dsimp only at x0 x1 x2 x3
                  have cu7 := m7.used.cell (i := i) (x := .bool false) (by unfold boolV; rw [List.getElem?_map, hb]; rfl)
                  have fu7 := m7.used.free i
                  have pl7 := plcsV_len pd
                  obtain ⟨yA, cpA⟩ : ∃ y, w7.cell? ⟨gp, i * 4, none⟩ = some y := ⟨_, m7.put.cell (List.getElem?_eq_getElem (by omega))⟩
                  obtain ⟨yB, cpB⟩ : ∃ y, w7.cell? ⟨gp, i * 4 + 1, none⟩ = some y := ⟨_, m7.put.cell (List.getElem?_eq_getElem (by omega))⟩
                  obtain ⟨yC, cpC⟩ : ∃ y, w7.cell? ⟨gp, i * 4 + 2, none⟩ = some y := ⟨_, m7.put.cell (List.getElem?_eq_getElem (by omega))⟩
                  obtain ⟨yD, cpD⟩ : ∃ y, w7.cell? ⟨gp, i * 4 + 3, none⟩ = some y := ⟨_, m7.put.cell (List.getElem?_eq_getElem (by omega))⟩
                  have fpA := m7.put.free (i * 4)
                  have fpB := m7.put.free (i * 4 + 1)
                  have fpC := m7.put.free (i * 4 + 2)
                  have fpD := m7.put.free (i * 4 + 3)
                  have nA : ¬ gu = gp := m7.off.2.1
                  have nB : ¬ gp = gu := fun h => nA h.symm
                  have nC : ¬ wr.heap.size = gu := fun h => kb (.inr (.inl h))
                  have nD : ¬ gu = wr.heap.size := fun h => nC h.symm
                  have nE : ¬ wr.heap.size = gp := fun h => kb (.inr (.inr h))
                  have nF : ¬ gp = wr.heap.size := fun h => nE h.symm
                  clear pl7
                  go_wp2
                  go_region
                  have hi4 : i < pd.length := by omega
                  have hiu : i < us.length := by omega
                  have m8 := ((m7.set_used hiu true).set_put hi4 ((i : Int), X, Y, tb)).below ((Below.refl _ _).drew)
                  have h8 : Upd (InF bs gu gp) w7 (((((w7.setCell ⟨gu, i, none⟩ (.bool true)).setCell ⟨gp, i * 4, none⟩ (.int .i64 (i : Int))).setCell ⟨gp, i * 4 + 1, none⟩ (.int .i64 X)).setCell ⟨gp, i * 4 + 2, none⟩ (.int .i64 Y)).setCell ⟨gp, i * 4 + 3, none⟩ (.bool tb)).drew := by
                    have hu : ∀ k, k = gu → InF bs gu gp k := fun k h => .inr (.inl h)
                    have hp : ∀ k, k = gp → InF bs gu gp k := fun k h => .inr (.inr h)
                    refine Upd.trans ?_ (Upd.of ((Below.refl _ _).drew))
                    refine Upd.trans ?_ ((upd_set _ gp (i * 4 + 3) (.bool tb)).mono hp)
                    refine Upd.trans ?_ ((upd_set _ gp (i * 4 + 2) (.int .i64 Y)).mono hp)
                    refine Upd.trans ?_ ((upd_set _ gp (i * 4 + 1) (.int .i64 X)).mono hp)
                    refine Upd.trans ?_ ((upd_set _ gp (i * 4) (.int .i64 (i : Int))).mono hp)
                    exact (upd_set w7 gu i (.bool true)).mono hu
                  clear cu7 fu7 cpA cpB cpC cpD fpA fpB fpC fpD x0 x1 x2 x3
                  dsimp only at m8
                  generalize (((((w7.setCell ⟨gu, i, none⟩ (.bool true)).setCell ⟨gp, i * 4, none⟩ (.int .i64 (i : Int))).setCell ⟨gp, i * 4 + 1, none⟩ (.int .i64 X)).setCell ⟨gp, i * 4 + 2, none⟩ (.int .i64 Y)).setCell ⟨gp, i * 4 + 3, none⟩ (.bool tb)).drew = w8 at m8 h8
                  have u8' : Upd (InF bs gu gp) w w8 := u7.trans h8
                  have e8 : BoxP w8 wr.heap.size ((i : Int), X, Y, tb) := e7.keep (h8.block _ (Array.getElem?_eq_some_iff.1 e7).1 kb)
                  have l8 : LitB w8 wb := by unfold LitB; rw [h8.block wb (Array.getElem?_eq_some_iff.1 l7).1 hwb]; exact l7
                  have hct := count_used hb
                  have sG := small_put hs ps ((i : Int), X, Y, tb) (n := (i : Int)) ⟨by omega, by omega⟩
                  have AF := ih0 w8 (putP ps G ((i : Int), X, Y, tb) i) (us.set i true) (pd.set i ((i : Int), X, Y, tb)) sG (by rw [List.length_set]; exact hu) (by rw [List.length_set]; exact hpd) (by omega) (hV0 w8 u8') hB m8
                  obtain ⟨R, hR⟩ : ∃ R : Bool × List Plc, fillI ps W H n (putP ps G ((i : Int), X, Y, tb) i) (us.set i true) (pd.set i ((i : Int), X, Y, tb)) = R := ⟨_, rfl⟩
                  have hRl : R.2.length = ps.length := by rw [← hR, fillI_len, List.length_set]; exact hpd
                  rw [hR] at AF
                  have hF2 : fillI ps W H n (putP ps G ((i : Int), k % (W : Int), k / (W : Int), tb) i) (us.set i true) (pd.set i ((i : Int), k % (W : Int), k / (W : Int), tb)) = R := by rw [← HX.out, ← HY.out]; exact hR
                  clear hR
                  obtain ⟨rb, rl⟩ := R
                  dsimp only at AF hRl
                  cases rb with
                  | true =>
                    have eA := HE.out
                    rw [loop_hit hb HK.out.symm (by rw [hF2]), hF2] at eA
                    subst eA
                    clear hF2 hct
                    go_wp2_with (go_at_call 80; refine AF.mono ?_; rintro e w9 ⟨rfl, h9, r9, -⟩; refine Hid.out ?_)
                    refine Lib.hid ?_
                    go_wp2
                    go_ret
                    exact ⟨rfl, u8'.trans h9, r9⟩
                  | false =>
                    have eA := HE.out
                    rw [loop_miss hb HK.out.symm (by rw [hF2]), hF2] at eA
                    have HE3 := Lib.hid eA
                    clear hF2 hct eA
                    go_wp2_with (go_at_call 80; refine AF.mono ?_; rintro e w9 ⟨rfl, h9, -, f9⟩; refine Hid.out ?_)
                    refine Lib.hid ?_
                    have m9 := f9 (by trivial)
                    have u9 : Upd (InF bs gu gp) w w9 := u8'.trans h9
                    have e9 : BoxP w9 wr.heap.size ((i : Int), X, Y, tb) := e8.keep (h9.block _ (Array.getElem?_eq_some_iff.1 e8).1 kb)
                    have l9 : LitB w9 wb := by unfold LitB; rw [h9.block wb (Array.getElem?_eq_some_iff.1 l8).1 hwb]; exact l8
                    obtain ⟨x0, x1, x2, x3⟩ := e9.cells
                    dsimp only at x0 x1 x2 x3
                    have AM2 : Calls Try.prog 127 #[.slice (some ⟨t.1, 0, none⟩) H t.2, .slice va ps.length vc, plcV ((i : Int), X, Y, tb), .int .i64 (-1)] w9 _ := mark_walk ps ((i : Int), X, Y, tb) (-1) W H (putP ps G ((i : Int), X, Y, tb) i) hps ⟨by dsimp only; omega, by dsimp only; omega⟩ hfit hW.2 hH.2 w9 B t bs _ (hV w9 u9) m9.grid
                    clear f9
                    go_wp2_with (go_at_call 127; refine AM2.mono ?_; rintro e w10 ⟨rfl, g10, h10⟩; refine Hid.out ?_)
                    refine Lib.hid ?_
                    clear x0 x1 x2 x3
                    rw [put_undo HRm.out] at g10
                    have m10 := m9.marked g10 h10
                    have l10 : LitB w10 wb := by unfold LitB; rw [h10.block wb (Array.getElem?_eq_some_iff.1 l9).1 fun h => hwb (hG _ h)]; exact l9
                    have cu10 := m10.used.cell (i := i) (x := .bool true) (by unfold boolV; rw [List.getElem?_map, List.getElem?_set_self hiu]; rfl)
                    have fu10 := m10.used.free i
                    go_wp2
                    have m11 := m10.set_used (i := i) (by rw [List.length_set]; exact hiu) false
                    have es : (us.set i true).set i false = us := by
                      rw [List.set_set]
                      apply List.ext_getElem?
                      intro z
                      by_cases hz : i = z
                      · subst hz; rw [List.getElem?_set_self hiu, hb]
                      · rw [List.getElem?_set_ne hz]
                    rw [es] at m11
                    have h11 : Upd (InF bs gu gp) w10 (w10.setCell ⟨gu, i, none⟩ (.bool false)) := (upd_set w10 gu i (.bool false)).mono fun k h => .inr (.inl h)
                    refine ⟨⟨j + 1, rl, rfl, by omega, hRl, HE3.out, m11, u9.trans ((h10.mono hG).trans h11), ?_⟩, ?_⟩
                    · unfold LitB; rw [h11.block wb (Array.getElem?_eq_some_iff.1 l10).1 hwb]; exact l10
                    · simp only [intOf]; omega
              · obtain rfl : j = 2 := by omega
                go_wp2
                refine ⟨⟨i + 1, pd, rfl, by omega, hpd, eL3, m4, u4⟩, ?_⟩
                simp only [intOf]; omega
        · obtain rfl : i = ps.length := by omega
          go_wp2
          go_ret
          rw [candR_end (Nat.le_refl _)] at eL
          subst eL
          exact ⟨rfl, u2, m2.put, fun _ => m2⟩
theorem fill_walk (ps : List Piece) (W H : Nat) (hps : okPs ps = true) (hW : 1 ≤ W ∧ W ≤ 8) (hH : 1 ≤ H ∧ H ≤ 8) (B : Nat) (t : Nat × Nat) (bs : List (Nat × Nat)) (gu gp cu cp : Nat) (vp : Value) : ∀ n, FillK ps W H B t bs gu gp cu cp vp n
  | 0 => fun w G us pl _ _ _ hc _ _ _ => absurd hc (Nat.not_lt_zero _)
  | n + 1 => fillK_step ps W H hps hW hH B t bs gu gp cu cp vp n (fill_walk ps W H hps hW hH B t bs gu gp cu cp vp n)

/- Contracts of the reference's functions on furniture. -/
/-- What FillChase answers. -/
def fillC (w h : Int) (ps : List Piece) : List Plc × Bool := if okCh w h ps = true then firstA w h ps else ([], false)
def bigP (w h : Int) (p : Piece) : Bool := decide (max p.1 p.2 > max w h) || decide (min p.1 p.2 > min w h)
/-- What WhyNotFilled answers. -/
def whyA (w h : Int) (ps : List Piece) : Int × Bool :=
  if okCh w h ps = true then (if (firstA w h ps).2 = true then (0, true) else if areaF ps ≠ w * h then (1, true) else if ps.any (bigP w h) = true then (2, true) else (3, true)) else (0, false)
theorem any_next {ps : List Piece} {f : Piece → Bool} {i : Nat} {p : Piece} (h : ps[i]? = some p) (e : f p = false) (hq : (ps.take i).any f = false) : (ps.take (i + 1)).any f = false := by
  rw [List.take_add_one, h]; simp only [List.any_append, hq, Bool.false_or]; simp [e]
theorem any_hit {ps : List Piece} {f : Piece → Bool} {i : Nat} {p : Piece} (h : ps[i]? = some p) (e : f p = true) : ps.any f = true := List.any_eq_true.2 ⟨p, List.mem_of_getElem? h, e⟩
theorem isChase_ok (width : Int) (height : Int) (pieces : List Piece)  : OkA Try.prog 79 [.int .i64 width, .int .i64 height, .isl 2 (rows cPiece pieces)] (· = .bool (okCh width height pieces)) :=
  fn_intro envOk fieldsOk mixed Try.func79 rfl fun κ X Y L Q m hQ => by
    conv => cbv
    refine r_callB m.sX (isChaseSide_ok width) (fun h1 => ?_) (fun h1 => ?_) <;> conv => cbv
    · refine r_callB m.sX (isChaseSide_ok height) (fun h2 => ?_) (fun h2 => ?_) <;> conv => cbv
      · refine r_callB m.sX (ArePieces_ok pieces) (fun h3 => ?_) (fun h3 => ?_) <;> conv => cbv
        · exact hQ _ (congrArg PV.bool (by rw [okCh, h1, h2, h3]; rfl))   -- leaf 1
        · exact hQ _ (congrArg PV.bool (by rw [okCh, h1, h2, h3]; rfl))   -- leaf 2
      · exact hQ _ (congrArg PV.bool (by rw [okCh, h1, h2]; rfl))   -- leaf 3
    · exact hQ _ (congrArg PV.bool (by rw [okCh, h1]; rfl))   -- leaf 4

theorem specFillChase_ok (width : Int) (height : Int) (pieces : List Piece)  : OkA Try.prog 24 [.int .i64 width, .int .i64 height, .isl 2 (rows cPiece pieces)] (· = (lb 60 4 cPlaced) (fillC width height pieces)) :=
  OkA.unnil 60 4 (fn_intro envOk fieldsOk mixed Try.func24 rfl fun κ X Y L Q m hQ => by
    conv => cbv
    refine r_callB m.sX (fuChase_ok width height pieces) (fun h1 => ?_) (fun h1 => ?_) <;> conv => cbv
    · refine r_callF (lb 60 4 cPlaced) m.sX (fuFirst_ok width height pieces (by first | rfl | assumption | omega | (simp only [List.length_append, List.length_cons, List.length_nil] at *; omega))) fun v hv1 => ?_
      obtain ⟨v1, v2⟩ := v
      conv => cbv
      exact hQ (.tup [.fr 60 4 (rows cPlaced v1), .bool v2]) (Eq.trans (by first | rfl | (simp only [lb, lbI, rows_cons, rows_nil, unnilT, unnil, unnilTI, unnilI]; done) | (simp only [lb, lbI, rows_cons, rows_nil, unnilT, unnil, unnilTI, unnilI]; rfl)) (congrArg ((lb 60 4 cPlaced)) (show (v1, v2) = fillC width height pieces from by (rw [fillC, if_pos h1]; exact hv1))))   -- leaf 1
    · exact hQ (.tup [.nil, .bool false]) (Eq.trans (by first | rfl | (simp only [lb, lbI, rows_cons, rows_nil, unnilT, unnil, unnilTI, unnilI]; done) | (simp only [lb, lbI, rows_cons, rows_nil, unnilT, unnil, unnilTI, unnilI]; rfl)) (congrArg ((lb 60 4 cPlaced)) (show ([], false) = fillC width height pieces from by rw [fillC, h1]; rfl))))   -- leaf 2

theorem specWhyNotFilled_ok (width : Int) (height : Int) (pieces : List Piece)  : OkA Try.prog 26 [.int .i64 width, .int .i64 height, .isl 2 (rows cPiece pieces)] (· = ib (whyA width height pieces)) :=
  fn_intro envOk fieldsOk mixed Try.func26 rfl fun κ X Y L Q m hQ => by
    conv => cbv
    refine r_callB m.sX (fuChase_ok width height pieces) (fun h1 => ?_) (fun h1 => ?_) <;> conv => cbv
    · obtain ⟨bw, bh, ops⟩ := okCh_spec h1
      have mb := mul_bound (a := width) (A := 8) (b := height) (B := 8) (by omega) (by omega) (by omega) (by omega)
      refine r_callF (lb 60 4 cPlaced) m.sX (fuFirst_ok width height pieces (by first | rfl | assumption | omega | (simp only [List.length_append, List.length_cons, List.length_nil] at *; omega))) fun v hv1 => ?_
      obtain ⟨v1, ok⟩ := v
      conv => cbv
      rcases Bool.eq_false_or_eq_true ok with rfl | rfl <;> conv => cbv
      · exact hQ (.tup [.int .i64 0, .bool true]) (Eq.trans (by first | rfl | (simp only [lb, lbI, rows_cons, rows_nil, unnilT, unnil, unnilTI, unnilI]; done) | (simp only [lb, lbI, rows_cons, rows_nil, unnilT, unnil, unnilTI, unnilI]; rfl)) (congrArg (ib) (show (0, true) = whyA width height pieces from by rw [whyA, if_pos h1, if_pos (by rw [← hv1])])))   -- leaf 1
      · refine r_callF (PV.int .i64) m.sX (fuArea_ok pieces (by first | rfl | assumption | omega | (simp only [List.length_append, List.length_cons, List.length_nil] at *; omega))) fun r1 hr1 => ?_
        conv => cbv
        refine r_mulf m.sX (by first | omega | (subst_vars; omega)) (by first | omega | (subst_vars; omega)) fun r2 hr2 => ?_
        conv => cbv
        refine r_neq m.sX (fun h2 => ?_) (fun h2 => ?_) <;> conv => cbv
        · exact hQ (.tup [.int .i64 1, .bool true]) (Eq.trans (by first | rfl | (simp only [lb, lbI, rows_cons, rows_nil, unnilT, unnil, unnilTI, unnilI]; done) | (simp only [lb, lbI, rows_cons, rows_nil, unnilT, unnil, unnilTI, unnilI]; rfl)) (congrArg (ib) (show (1, true) = whyA width height pieces from by rw [whyA, if_pos h1, if_neg (by rw [← hv1]; exact Bool.false_ne_true), if_pos (by omega)])))   -- leaf 2
        · refine r_lenR m.sX fun n1 hn1 mn1 => ?_
          conv => cbv
          refine r_loopF (α := Int) m 58 [0, 1, 31, 32, 33] [] (fun σ => [(0, .int .i64 width), (1, .int .i64 height), (31, .isl 2 (rows cPiece pieces)), (32, .int .i64 n1), (33, .int .i64 σ)]) (fun σ => [])
            (fun σ => (0 ≤ σ) ∧ (σ ≤ n1) ∧ ((pieces.take σ.toNat).any (bigP width height) = false)) (fun σ => (n1 - σ).toNat) 0 ?_ ?_ ?_ ?_
          · cbv
          · cbv
          · exact ⟨(by (try dsimp only); first | omega | (simp only [List.length_nil]; omega) | (simp only [List.length_cons, List.length_nil]; omega)), (by (try dsimp only); first | omega | (simp only [List.length_nil]; omega) | (simp only [List.length_cons, List.length_nil]; omega)), (by (try dsimp only) <;> (rfl))⟩
          rintro i1 ⟨lo1, hi1, q⟩ E hE F hF
          conv => cbv
          refine r_lss m.sX (fun h3 => ?_) (fun h3 => ?_) <;> conv => cbv
          · refine r_index m.sX (by omega) (by omega) fun v hpA => ?_
            obtain ⟨pA, pB⟩ := v
            conv => cbv
            have hp := hpA
            have mp := get_mem hp
            have dp := drop_cons hp
            have kp := take_snoc hp
            have jp : (i1 + 1).toNat = Int.toNat i1 + 1 := by omega
            refine r_callF (PV.int .i64) m.sX (l1Most_ok pA pB) fun r3 hr3 => ?_
            conv => cbv
            try dsimp only at hr3
            refine r_callF (PV.int .i64) m.sX (l1Most_ok width height) fun r4 hr4 => ?_
            conv => cbv
            try dsimp only at hr4
            refine r_gtr m.sX (fun h4 => ?_) (fun h4 => ?_) <;> conv => cbv
            · refine hF _ _ ?_
              conv => cbv
              exact hQ (.tup [.int .i64 2, .bool true]) (Eq.trans (by first | rfl | (simp only [lb, lbI, rows_cons, rows_nil, unnilT, unnil, unnilTI, unnilI]; done) | (simp only [lb, lbI, rows_cons, rows_nil, unnilT, unnil, unnilTI, unnilI]; rfl)) (congrArg (ib) (show (2, true) = whyA width height pieces from by rw [whyA, if_pos h1, if_neg (by rw [← hv1]; exact Bool.false_ne_true), if_neg (by omega), if_pos (any_hit hp (by unfold bigP; rw [decide_eq_true (by dsimp only; omega)]; rfl))])))   -- leaf 3
            · refine r_callF (PV.int .i64) m.sX (l1Least_ok pA pB) fun r5 hr5 => ?_
              conv => cbv
              try dsimp only at hr5
              refine r_callF (PV.int .i64) m.sX (l1Least_ok width height) fun r6 hr6 => ?_
              conv => cbv
              try dsimp only at hr6
              refine r_gtr m.sX (fun h5 => ?_) (fun h5 => ?_) <;> conv => cbv
              · refine hF _ _ ?_
                conv => cbv
                exact hQ (.tup [.int .i64 2, .bool true]) (Eq.trans (by first | rfl | (simp only [lb, lbI, rows_cons, rows_nil, unnilT, unnil, unnilTI, unnilI]; done) | (simp only [lb, lbI, rows_cons, rows_nil, unnilT, unnil, unnilTI, unnilI]; rfl)) (congrArg (ib) (show (2, true) = whyA width height pieces from by rw [whyA, if_pos h1, if_neg (by rw [← hv1]; exact Bool.false_ne_true), if_neg (by omega), if_pos (any_hit hp (by unfold bigP; rw [Bool.or_comm, decide_eq_true (by dsimp only; omega)]; rfl))])))   -- leaf 4
              · refine r_addf m.sX (by omega) (by omega) fun r7 hr7 => ?_
                conv => cbv
                try have tr7 : Int.toNat r7 = Int.toNat i1 + 1 := by omega
                refine hE _ r7 ?_ ?_ ⟨(by (try dsimp only); first | omega | (simp only [List.length_nil]; omega) | (simp only [List.length_cons, List.length_nil]; omega)), (by (try dsimp only); first | omega | (simp only [List.length_nil]; omega) | (simp only [List.length_cons, List.length_nil]; omega)), (by (try dsimp only) <;> (rw [tr7]; exact any_next hp (by unfold bigP; rw [decide_eq_false (by dsimp only; omega), decide_eq_false (by dsimp only; omega)]; rfl) q))⟩ (by first | omega | (dsimp only; omega))
                · cbv
                · cbv
          · have dz_i1 := drop_end (xs := pieces) (i := Int.toNat i1) (by omega)
            have tz_i1 := take_end (xs := pieces) (i := Int.toNat i1) (by omega)
            refine hF _ _ ?_
            conv => cbv
            exact hQ (.tup [.int .i64 3, .bool true]) (Eq.trans (by first | rfl | (simp only [lb, lbI, rows_cons, rows_nil, unnilT, unnil, unnilTI, unnilI]; done) | (simp only [lb, lbI, rows_cons, rows_nil, unnilT, unnil, unnilTI, unnilI]; rfl)) (congrArg (ib) (show (3, true) = whyA width height pieces from by rw [whyA, if_pos h1, if_neg (by rw [← hv1]; exact Bool.false_ne_true), if_neg (by omega), if_neg (by rw [tz_i1] at q; rw [q]; decide)])))   -- leaf 5
    · exact hQ (.tup [.int .i64 0, .bool false]) (Eq.trans (by first | rfl | (simp only [lb, lbI, rows_cons, rows_nil, unnilT, unnil, unnilTI, unnilI]; done) | (simp only [lb, lbI, rows_cons, rows_nil, unnilT, unnil, unnilTI, unnilI]; rfl)) (congrArg (ib) (show (0, false) = whyA width height pieces from by rw [whyA, h1]; rfl)))   -- leaf 6


/- impl.FillChase: the search from an empty chase, by the kit's walk. -/
/-- The placings' numbers are small. -/
def SmP (p : Plc) : Prop := (0 ≤ p.1 ∧ p.1 ≤ 64) ∧ (0 ≤ p.2.1 ∧ p.2.1 ≤ 64) ∧ (0 ≤ p.2.2.1 ∧ p.2.2.1 ≤ 64)
theorem mem_set_of {α : Type} {l : List α} {i : Nat} {a x : α} (h : x ∈ l.set i a) : x ∈ l ∨ x = a := List.mem_or_eq_of_mem_set h
theorem loopI_small {F : Grid → List Bool → List Plc → Bool × List Plc} {ps : List Piece} {w h k : Int} {G : Grid} {us : List Bool} (hF : ∀ G us pl, (∀ p ∈ pl, SmP p) → ∀ p ∈ (F G us pl).2, SmP p) (hx : 0 ≤ k % w ∧ k % w ≤ 64) (hy : 0 ≤ k / w ∧ k / w ≤ 64) : ∀ (c : List (Nat × Bool)) (pl : List Plc), (∀ x ∈ c, x.1 ≤ 64) → (∀ p ∈ pl, SmP p) → ∀ p ∈ (loopI F ps w h k G us c pl).2, SmP p
  | [], pl, _, hp => hp
  | (i, t) :: r, pl, hc, hp => by
    have hr : ∀ x ∈ r, x.1 ≤ 64 := fun x hx => hc x (List.mem_cons_of_mem _ hx)
    have hi : i ≤ 64 := hc (i, t) (List.mem_cons_self)
    have h2 : ∀ p ∈ pl.set i ((i : Int), k % w, k / w, t), SmP p := fun p hm => by
      rcases mem_set_of hm with h | rfl
      · exact hp p h
      · exact ⟨by dsimp only; omega, hx, hy⟩
    rw [loopI]
    split
    · exact loopI_small hF hx hy r pl hr hp
    · split
      · split
        · exact hF _ _ _ h2
        · exact loopI_small hF hx hy r _ hr (hF _ _ _ h2)
      · exact loopI_small hF hx hy r pl hr hp
theorem fillI_small {ps : List Piece} {W H : Nat} (hW : 1 ≤ W ∧ W ≤ 8) (hH : 1 ≤ H ∧ H ≤ 8) (hN : ps.length ≤ 8) : ∀ (n : Nat) (G : Grid) (us : List Bool) (pl : List Plc), (∀ p ∈ pl, SmP p) → ∀ p ∈ (fillI ps W H n G us pl).2, SmP p
  | 0, _, _, pl, hp => hp
  | n + 1, G, us, pl, hp => by
    unfold fillI
    split
    · exact hp
    · have kb := firstF_le (flaG W H G)
      rw [flaG_length] at kb
      have hm : W * H ≤ 8 * 8 := Nat.mul_le_mul hW.2 hH.2
      refine loopI_small (fun G us pl h => fillI_small hW hH hN n G us pl h) ?_ ?_ _ _ (fun x hx => ?_) hp
      · simp only [Int.toNat_natCast]
        have := Int.emod_lt_of_pos (firstF (flaG W H G)) (show (0 : Int) < W by omega)
        exact ⟨Int.emod_nonneg _ (by omega), by omega⟩
      · simp only [Int.toNat_natCast]
        exact ⟨Int.ediv_nonneg kb.1 (by omega), Int.le_trans (Int.ediv_le_self _ kb.1) (by omega)⟩
      · unfold candL at hx
        obtain ⟨i, hi, hx⟩ := List.mem_flatMap.1 hx
        have := List.mem_range.1 hi
        simp only [List.mem_cons, List.not_mem_nil, or_false] at hx
        rcases hx with rfl | rfl <;> (dsimp only; omega)
theorem plcs_cons (p : Plc) (r : List Plc) : plcsV (p :: r) = plcC p ++ plcsV r := by simp [plcsV]
theorem repIs_plcs {w : World} {I : Nat → Prop} : ∀ {l : List Plc}, (∀ p ∈ l, SmP p) → RepIs w I (l.map cPlaced).flatten (plcsV l)
  | [], _ => .nil
  | p :: r, h => by
    obtain ⟨a, b, c⟩ := h p (List.mem_cons_self)
    rw [plcs_cons]
    exact .cons (.int _ _ (wrap64 (by omega) (by omega))) (.cons (.int _ _ (wrap64 (by omega) (by omega))) (.cons (.int _ _ (wrap64 (by omega) (by omega))) (.cons (.bool _) (repIs_plcs fun q hq => h q (List.mem_cons_of_mem _ hq)))))
theorem RowV.plain {w : World} {e : TypeId} {g : Nat} {vs : List Value} (h : RowV w e g vs) : plain w g := by obtain ⟨cur, h1, -⟩ := h; exact ⟨cur, e, h1⟩
theorem RowV.placed {w : World} {g N : Nat} {l : List Plc} {I : Nat → Prop} (h : RowV w 60 g (plcsV l)) (hl : l.length = N) (hN : N ≤ 8) (hs : ∀ p ∈ l, SmP p) (hg : I g) : RepI w I (.isl 4 (rows cPlaced l)) (.slice (some ⟨g, 0, none⟩) N N) := by
  have := RepI.isl (w := w) (I := I) 4 (l.map cPlaced) g 0 N (plcsV l) (fun e he => by obtain ⟨y, -, rfl⟩ := List.mem_map.1 he; rfl) (repIs_plcs hs) hg
    (fun j y hy => by rw [Nat.zero_add]; exact h.cell hy) (by rw [List.length_map, hl]; exact Nat.le_refl _) (by unfold maxLen; omega)
  rw [List.length_map, hl] at this
  rw [rows_eq]; exact this
theorem made_plcs {N : Nat} (hN : N ≤ 8) : (madeCells #[.int .i64 0, .int .i64 0, .int .i64 0, .bool false] (N * 4)).toList = plcsV (List.replicate N (0, 0, 0, false)) := by
  rcases show N = 0 ∨ N = 1 ∨ N = 2 ∨ N = 3 ∨ N = 4 ∨ N = 5 ∨ N = 6 ∨ N = 7 ∨ N = 8 by omega with rfl | rfl | rfl | rfl | rfl | rfl | rfl | rfl | rfl <;> simp [madeCells, plcsV, plcC, List.range, List.range.loop, List.replicate, List.flatMap]
theorem made_bools {N : Nat} (hN : N ≤ 8) : (madeCells #[.bool false] N).toList = boolV (List.replicate N false) := by
  rcases show N = 0 ∨ N = 1 ∨ N = 2 ∨ N = 3 ∨ N = 4 ∨ N = 5 ∨ N = 6 ∨ N = 7 ∨ N = 8 by omega with rfl | rfl | rfl | rfl | rfl | rfl | rfl | rfl | rfl <;> simp [madeCells, boolV, List.range, List.range.loop, List.replicate]
theorem RowV.of_new {w : World} {e : TypeId} {cs : Array Value} {vs : List Value} (h : cs.toList = vs) : RowV (w.alloc (.cells cs e)) e w.heap.size vs := by
  subst h
  exact ⟨cs, heap_alloc_new w _, by simp, List.take_of_length_le (Nat.le_refl _)⟩
theorem make_plcs (N : Nat) (hN : N ≤ 8) (W : World) : (Instr.makeSlice 24 (.int .i64 (N : Int)) (.int .i64 (N : Int))).run Try.prog W = .ok (.slice (some ⟨W.heap.size, 0, none⟩) N N) (W.alloc (.cells (madeCells #[.int .i64 0, .int .i64 0, .int .i64 0, .bool false] (N * 4)) 60)) := by
  have hinfo : (Try.prog.info? 60).map (fun i => (i.zero, i.size, i.bytes)) = some (some (.agg #[.int .i64 0, .int .i64 0, .int .i64 0, .bool false]), 4, 32) := by kernel_rfl
  obtain ⟨i, hi, hzz⟩ := Option.map_eq_some_iff.1 hinfo
  simp only [Prod.mk.injEq] at hzz
  obtain ⟨hz, hs, hb⟩ := hzz
  have hr := run_make (P := Try.prog) W 24 60 i _ Try.underlying24 hi hz .i64 .i64 N N (by omega) (Int.le_refl _) (by rw [hb]; omega) (by omega)
  simp only [Int.toNat_natCast, hs] at hr
  exact hr
theorem make_bools (N : Nat) (hN : N ≤ 8) (W : World) : (Instr.makeSlice 108 (.int .i64 (N : Int)) (.int .i64 (N : Int))).run Try.prog W = .ok (.slice (some ⟨W.heap.size, 0, none⟩) N N) (W.alloc (.cells (madeCells #[.bool false] N) 4)) :=
  run_make_row' 108 4 (.bool false) 1 Try.underlying108 (by kernel_rfl) rfl .i64 .i64 N (by omega) (by omega) W
/-- What stands ready ahead of the search. -/
structure ReadyF (w : World) (W H N gp : Nat) (V : World) (t : Nat × Nat) (bs : List (Nat × Nat)) (gu : Nat) : Prop where
  below : Below w.heap.size w V
  base : w.heap.size ≤ gu ∧ w.heap.size ≤ gp
  grid : GridI V w.heap.size t bs W (tabG W H noG)
  used : RowV V 4 gu (boolV (List.replicate N false))
  put : RowV V 60 gp (plcsV (List.replicate N (0, 0, 0, false)))
theorem GridI.base {w : World} {B B2 n : Nat} {t : Nat × Nat} {bs : List (Nat × Nat)} {gr : List (List Int)} (h : GridI w B t bs n gr) (hB : B2 ≤ B) : GridI w B2 t bs n gr := ⟨h.top, h.len, h.rows, h.apart, Nat.le_trans hB h.low.1, fun b hb => Nat.le_trans hB (h.low.2 b hb)⟩
set_option maxHeartbeats 4000000 in
set_option maxRecDepth 1000000 in
theorem chase_walk (width height : Int) (pieces : List Piece) (vps : Value) (w : World) (I : Nat → Prop) (hI : InR w I)
    (ha : All2 (RepArg w I) [.int .i64 width, .int .i64 height, .isl 2 (rows cPiece pieces)] [.int .i64 width, .int .i64 height, vps]) :
    Calls Try.prog 23 #[.int .i64 width, .int .i64 height, vps] w fun e w' => ∃ v, e = .returned (.tuple #[v, .bool (fillC width height pieces).2]) ∧ Below w.heap.size w w' ∧ RepI w' (fun g => w.heap.size ≤ g ∧ g < w'.heap.size ∧ plain w' g) (.isl 4 (rows cPlaced (fillC width height pieces).1)) v := by
  have AC : Calls Try.prog 79 #[.int .i64 width, .int .i64 height, vps] w _ := calls_bool (isChase_ok width height pieces) hI ha
  have hps : RepI w I (.isl 2 (rows cPiece pieces)) vps := by
    cases ha with
    | cons h1 t => cases t with
      | cons h2 t => cases t with
        | cons h3 t => cases h3 with
          | one h3 => exact h3
  cases hc : okCh width height pieces with
  | false =>
    rw [hc] at AC
    have eF : fillC width height pieces = ([], false) := by unfold fillC; rw [if_neg (by rw [hc]; decide)]
    rw [eF]
    go_enter Try.func23, Try.ntmps23
    go_wp2_with (go_at_call 79; refine AC.mono ?_; rintro e w1 ⟨rfl, b1⟩; refine Hid.out ?_)
    refine Lib.hid ?_
    go_wp2
    go_ret2
    refine ⟨_, rfl, b1.trans ((alloc_below w1 _).mono b1.size), ?_⟩
    rw [rows_nil]; exact .isl0 _ _ _ (Nat.zero_le _)
  | true =>
    rw [hc] at AC
    obtain ⟨bw, bh, hok⟩ := okCh_spec hc
    obtain ⟨-, hN⟩ := okPs_spec hok
    have hP : ∀ W : World, Below w.heap.size w W → RepI W I (.isl 2 (rows cPiece pieces)) vps := fun W hW => hps.mono fun g hg => ⟨hg, hW.block g (hI.1 g hg)⟩
    have AA : ∀ W : World, Below w.heap.size w W → Calls Try.prog 74 #[vps] W fun e w' => e = .returned (.int .i64 (areaF pieces)) ∧ Below W.heap.size W w' := fun W hW =>
      calls_int (area_ok pieces hok) (inr_all W) (vs := [vps]) (.cons (.one ((hP W hW).mono fun g hg => ⟨Nat.lt_of_lt_of_le (hI.1 g hg) hW.size, rfl⟩)) .nil)
    have mb := mul_bound (a := width) (A := 8) (b := height) (B := 8) (by omega) (by omega) (by omega) (by omega)
    have wm : IntKind.i64.wrap (width * height) = width * height := wrap64 (by omega) (by omega)
    by_cases har : areaF pieces = width * height
    · obtain ⟨W, rfl⟩ : ∃ W : Nat, width = W := ⟨width.toNat, by omega⟩
      obtain ⟨H, rfl⟩ : ∃ H : Nat, height = H := ⟨height.toNat, by omega⟩
      obtain ⟨va, vc, rfl⟩ : ∃ a c, vps = .slice a pieces.length c := by
        have hv := hps
        rw [rows_eq] at hv
        obtain ⟨a, c, e⟩ := isl_shape hv
        rw [List.length_map] at e
        exact ⟨a, c, e⟩
      have eF := fill_first (w := (W : Int)) (h := (H : Int)) (pl := List.replicate pieces.length (0, 0, 0, false)) (by simp) har
      obtain ⟨R, hR⟩ : ∃ R, R = fillI pieces W H 9 noG (List.replicate pieces.length false) (List.replicate pieces.length (0, 0, 0, false)) := ⟨_, rfl⟩
      have hRs : ∀ p ∈ R.2, SmP p := by
        rw [hR]
        refine fillI_small ⟨by omega, by omega⟩ ⟨by omega, by omega⟩ hN 9 noG _ _ fun p hp => ?_
        rw [List.eq_of_mem_replicate hp]
        exact ⟨by decide, by decide, by decide⟩
      have hRl : R.2.length = pieces.length := by rw [hR, fillI_len]; simp
      have eC : fillC W H pieces = if R.1 = true then (R.2, true) else ([], false) := by unfold fillC; rw [if_pos hc, eF, ← hR]
      have FW : ∀ (V : World) (t : Nat × Nat) (bs : List (Nat × Nat)) (gu gp : Nat), Below w.heap.size w V → w.heap.size ≤ gu ∧ w.heap.size ≤ gp → GridI V w.heap.size t bs W (tabG W H noG) → RowV V 4 gu (boolV (List.replicate pieces.length false)) → RowV V 60 gp (plcsV (List.replicate pieces.length (0, 0, 0, false))) →
          Calls Try.prog 80 #[.slice (some ⟨t.1, 0, none⟩) H t.2, .slice va pieces.length vc, .slice (some ⟨gu, 0, none⟩) pieces.length pieces.length, .slice (some ⟨gp, 0, none⟩) pieces.length pieces.length] V fun e w' => e = .returned (.bool R.1) ∧ Below w.heap.size V w' ∧ RowV w' 60 gp (plcsV R.2) := fun V t bs gu gp hV hg hG hu hp => by
        have := fill_walk pieces W H hok ⟨by omega, by omega⟩ ⟨by omega, by omega⟩ w.heap.size t bs gu gp pieces.length pieces.length (.slice va pieces.length vc) 9 V noG _ _ (small_no W H) (by simp) (by simp) (by simp; omega) ((hP V hV).mono fun g hg => ⟨hI.1 g hg, rfl⟩) hg ⟨hG, hu, hp⟩
        rw [← hR] at this
        refine this.mono ?_
        rintro e w' ⟨h1, h2, h3, -⟩
        refine ⟨h1, h2.below hV.size fun k hk => ?_, h3⟩
        rcases hk with ⟨b, hb, rfl⟩ | rfl | rfl
        · exact hG.low.2 b hb
        · exact hg.1
        · exact hg.2
      have EW := fun V => empty_walk W H ⟨by omega, by omega⟩ ⟨by omega, by omega⟩ V
      have mP := make_plcs pieces.length hN
      have mB := make_bools pieces.length hN
      have kP := made_plcs hN
      have kB := made_bools hN
      rw [eC]
      have HR := Lib.hid hR
      clear eF eC hR
      generalize madeCells #[.int .i64 0, .int .i64 0, .int .i64 0, .bool false] (pieces.length * 4) = zP at mP kP
      generalize madeCells #[.bool false] pieces.length = zB at mB kB
      have KP := Lib.hid kP
      have KB := Lib.hid kB
      clear kP kB
      go_enter Try.func23, Try.ntmps23
      go_wp2_with (go_at_call 79; refine AC.mono ?_; rintro e w1 ⟨rfl, b1⟩; refine Hid.out ?_)
      refine Lib.hid ?_
      go_wp2_with (go_at_call 74; refine (AA _ b1).mono ?_; rintro e w2 ⟨rfl, b2⟩; refine Hid.out ?_)
      refine Lib.hid ?_
      have b2' := b1.trans (b2.mono b1.size)
      go_wp2
      have cP : RowV (w2.alloc (.cells zP 60)) 60 w2.heap.size (plcsV (List.replicate pieces.length (0, 0, 0, false))) := RowV.of_new KP.out
      have q3 := alloc_below w2 (.cells zP 60)
      have q4 := q3.trans ((alloc_below (w2.alloc (.cells zP 60)) (.cells zB 4)).mono q3.size)
      have pushS : ∀ (V : World) (o : Obj), (V.alloc o).heap.size = V.heap.size + 1 := fun V o => Array.size_push _
      have n2 : w.heap.size ≤ w2.heap.size := b2'.size
      have cP4 : RowV ((w2.alloc (.cells zP 60)).alloc (.cells zB 4)) 60 w2.heap.size (plcsV (List.replicate pieces.length (0, 0, 0, false))) := cP.keep ((alloc_below _ _).block _ cP.lt)
      have cB4 : RowV ((w2.alloc (.cells zP 60)).alloc (.cells zB 4)) 4 (w2.heap.size + 1) (boolV (List.replicate pieces.length false)) := by
        have := RowV.of_new (w := w2.alloc (.cells zP 60)) (e := 4) KB.out
        rw [pushS] at this; exact this
      have GA : ∀ (V w5 : World) (t : Nat × Nat) (bs : List (Nat × Nat)), Below w2.heap.size w2 V → V.heap = (w2.alloc (.cells zP 60)).heap → GridI w5 V.heap.size t bs W (tabG W H noG) → Below V.heap.size V w5 → ReadyF w W H pieces.length w2.heap.size (w5.alloc (.cells zB 4)) t bs w5.heap.size := fun V w5 t bs hV hh hg hb => by
        have e1 : w2.heap.size < V.heap.size := by rw [hh, pushS]; omega
        have r1 : Below w.heap.size w w5 := b2'.trans ((hV.trans (hb.mono hV.size)).mono n2)
        have r2 := r1.trans ((alloc_below w5 (.cells zB 4)).mono r1.size)
        have cv : RowV V 60 w2.heap.size (plcsV (List.replicate pieces.length (0, 0, 0, false))) := cP.keep (by rw [hh])
        have c5 : RowV w5 60 w2.heap.size (plcsV (List.replicate pieces.length (0, 0, 0, false))) := cv.keep (hb.block _ e1)
        exact ⟨r2, ⟨r1.size, n2⟩, (hg.below (alloc_below _ _)).base (by have := hV.size; omega), RowV.of_new KB.out, c5.keep ((alloc_below _ _).block _ c5.lt)⟩
      have GB : ∀ (V w5 : World) (t : Nat × Nat) (bs : List (Nat × Nat)), Below w2.heap.size w2 V → V.heap = ((w2.alloc (.cells zP 60)).alloc (.cells zB 4)).heap → GridI w5 V.heap.size t bs W (tabG W H noG) → Below V.heap.size V w5 → ReadyF w W H pieces.length w2.heap.size w5 t bs (w2.heap.size + 1) := fun V w5 t bs hV hh hg hb => by
        have e1 : w2.heap.size + 1 < V.heap.size := by rw [hh, pushS, pushS]; omega
        have r1 : Below w.heap.size w w5 := b2'.trans ((hV.trans (hb.mono hV.size)).mono n2)
        have c5 : RowV w5 60 w2.heap.size (plcsV (List.replicate pieces.length (0, 0, 0, false))) := cP4.keep (by rw [hb.block _ (by omega), hh])
        have d5 : RowV w5 4 (w2.heap.size + 1) (boolV (List.replicate pieces.length false)) := cB4.keep (by rw [hb.block _ e1, hh])
        exact ⟨r1, ⟨by omega, n2⟩, hg.base (by have := hV.size; omega), d5, c5⟩
      have FU : ∀ (V : World) (t : Nat × Nat) (bs : List (Nat × Nat)) (gu : Nat), ReadyF w W H pieces.length w2.heap.size V t bs gu → Calls Try.prog 80 #[.slice (some ⟨t.1, 0, none⟩) H t.2, .slice va pieces.length vc, .slice (some ⟨gu, 0, none⟩) pieces.length pieces.length, .slice (some ⟨w2.heap.size, 0, none⟩) pieces.length pieces.length] V fun e w' => e = .returned (.bool R.1) ∧ Below w.heap.size w w' ∧ RowV w' 60 w2.heap.size (plcsV R.2) := fun V t bs gu h => by
        refine (FW V t bs gu w2.heap.size h.below h.base h.grid h.used h.put).mono ?_
        rintro e w6 ⟨h1, h2, h3⟩
        exact ⟨h1, h.below.trans h2, h3⟩
      clear FW cP cP4 cB4 pushS KP KB
      go_region_with (first | (go_at_call 81; refine (EW _).mono ?_; rintro e w5 ⟨t, bs, rfl, g5, b5⟩) | (go_at_call 80; refine (FU _ _ _ _ (by first | exact GA _ _ _ _ (by first | exact q3 | exact q3.drew | exact q3.drew.drew) (by rfl) g5 b5 | exact GB _ _ _ _ (by first | exact q4 | exact q4.drew | exact q4.drew.drew | exact (q3.drew).trans ((alloc_below _ _).mono q3.drew.size)) (by rfl) g5 b5)).mono ?_; rintro e w6 ⟨rfl, b6, p6⟩))
      all_goals
        obtain ⟨rb, rl⟩ := R
        dsimp only at hRs hRl p6 ⊢
        cases rb
      all_goals go_wp2
      all_goals go_ret2
      all_goals first
        | exact ⟨_, rfl, b6, p6.placed hRl hN hRs ⟨n2, p6.lt, p6.plain⟩⟩
        | (refine ⟨_, rfl, b6.trans ((alloc_below w6 _).mono b6.size), ?_⟩; rw [rows_nil]; exact .isl0 _ _ _ (Nat.zero_le _))
    · have eF : fillC width height pieces = ([], false) := by unfold fillC; rw [if_pos hc, firstA_area har]
      rw [eF]
      go_enter Try.func23, Try.ntmps23
      go_wp2_with (go_at_call 79; refine AC.mono ?_; rintro e w1 ⟨rfl, b1⟩; refine Hid.out ?_)
      refine Lib.hid ?_
      go_wp2_with (go_at_call 74; refine (AA _ b1).mono ?_; rintro e w2 ⟨rfl, b2⟩; refine Hid.out ?_)
      refine Lib.hid ?_
      have b2' := b1.trans (b2.mono b1.size)
      go_wp2
      go_ret2
      refine ⟨_, rfl, b2'.trans ((alloc_below w2 _).mono b2'.size), ?_⟩
      rw [rows_nil]; exact .isl0 _ _ _ (Nat.zero_le _)
theorem FillChase_ok (width height : Int) (pieces : List Piece) : OkA Try.prog 23 [.int .i64 width, .int .i64 height, .isl 2 (rows cPiece pieces)] (· = lbI 4 cPlaced (fillC width height pieces)) := by
  refine ⟨⟨_, Try.func23, rfl, rfl⟩, fun w I vs hI hargs => ?_⟩
  obtain ⟨vps, rfl⟩ : ∃ vps, vs = [.int .i64 width, .int .i64 height, vps] := by
    cases hargs with
    | cons h1 t => cases t with
      | cons h2 t => cases t with
        | cons h3 t =>
          cases t
          cases h1 with
          | one h1 => cases h1; cases h2 with
            | one h2 => cases h2; exact ⟨_, rfl⟩
  refine (chase_walk width height pieces vps w I hI hargs).mono ?_
  rintro e w' ⟨v, rfl, hbl, hr⟩
  refine ⟨_, lbI 4 cPlaced (fillC width height pieces), [] ++ ([] ++ []), rfl, rfl, hbl, List.nodup_nil, (fun g hg => by cases hg), .tup (.cons (.imm ?_) (.cons (.imm (.bool _)) .nil))⟩
  exact hr.mono fun g hg => ⟨⟨.inr hg.1, hg.2.1, by simp, fun _ => hg.2.2⟩, rfl⟩

/- impl.WhyNotFilled. -/
theorem WhyNotFilled_ok (width : Int) (height : Int) (pieces : List Piece)  : OkA Try.prog 25 [.int .i64 width, .int .i64 height, .isl 2 (rows cPiece pieces)] (· = ib (whyA width height pieces)) :=
  fn_intro envOk fieldsOk mixed Try.func25 rfl fun κ X Y L Q m hQ => by
    conv => cbv
    refine r_callB m.sX (isChase_ok width height pieces) (fun h1 => ?_) (fun h1 => ?_) <;> conv => cbv
    · obtain ⟨bw, bh, ops⟩ := okCh_spec h1
      have mb := mul_bound (a := width) (A := 8) (b := height) (B := 8) (by omega) (by omega) (by omega) (by omega)
      refine r_callF (lbI 4 cPlaced) m.sX (FillChase_ok width height pieces) fun v hv1 => ?_
      obtain ⟨v1, ok⟩ := v
      conv => cbv
      rw [fillC, if_pos h1] at hv1
      rcases Bool.eq_false_or_eq_true ok with rfl | rfl <;> conv => cbv
      · exact hQ (.tup [.int .i64 0, .bool true]) (Eq.trans (by first | rfl | (simp only [lb, lbI, rows_cons, rows_nil, unnilT, unnil, unnilTI, unnilI]; done) | (simp only [lb, lbI, rows_cons, rows_nil, unnilT, unnil, unnilTI, unnilI]; rfl)) (congrArg (ib) (show (0, true) = whyA width height pieces from by rw [whyA, if_pos h1, if_pos (by rw [← hv1])])))   -- leaf 1
      · refine r_callF (PV.int .i64) m.sX (area_ok pieces (by first | rfl | assumption | omega | (simp only [List.length_append, List.length_cons, List.length_nil] at *; omega))) fun r1 hr1 => ?_
        conv => cbv
        refine r_mulf m.sX (by first | omega | (subst_vars; omega)) (by first | omega | (subst_vars; omega)) fun r2 hr2 => ?_
        conv => cbv
        refine r_neq m.sX (fun h2 => ?_) (fun h2 => ?_) <;> conv => cbv
        · exact hQ (.tup [.int .i64 1, .bool true]) (Eq.trans (by first | rfl | (simp only [lb, lbI, rows_cons, rows_nil, unnilT, unnil, unnilTI, unnilI]; done) | (simp only [lb, lbI, rows_cons, rows_nil, unnilT, unnil, unnilTI, unnilI]; rfl)) (congrArg (ib) (show (1, true) = whyA width height pieces from by rw [whyA, if_pos h1, if_neg (by rw [← hv1]; exact Bool.false_ne_true), if_pos (by omega)])))   -- leaf 2
        · refine r_lenR m.sX fun n1 hn1 mn1 => ?_
          conv => cbv
          refine r_loopF (α := Int) m 58 [0, 1, 31, 32, 33] [] (fun σ => [(0, .int .i64 width), (1, .int .i64 height), (31, .isl 2 (rows cPiece pieces)), (32, .int .i64 n1), (33, .int .i64 σ)]) (fun σ => [])
            (fun σ => (0 ≤ σ) ∧ (σ ≤ n1) ∧ ((pieces.take σ.toNat).any (bigP width height) = false)) (fun σ => (n1 - σ).toNat) 0 ?_ ?_ ?_ ?_
          · cbv
          · cbv
          · exact ⟨(by (try dsimp only); first | omega | (simp only [List.length_nil]; omega) | (simp only [List.length_cons, List.length_nil]; omega)), (by (try dsimp only); first | omega | (simp only [List.length_nil]; omega) | (simp only [List.length_cons, List.length_nil]; omega)), (by (try dsimp only) <;> (rfl))⟩
          rintro i1 ⟨lo1, hi1, q⟩ E hE F hF
          conv => cbv
          refine r_lss m.sX (fun h3 => ?_) (fun h3 => ?_) <;> conv => cbv
          · refine r_index m.sX (by omega) (by omega) fun v hpA => ?_
            obtain ⟨pA, pB⟩ := v
            conv => cbv
            have hp := hpA
            have mp := get_mem hp
            have dp := drop_cons hp
            have kp := take_snoc hp
            have jp : (i1 + 1).toNat = Int.toNat i1 + 1 := by omega
            refine r_max m.sX fun r3 hr3 => ?_
            conv => cbv
            refine r_max m.sX fun r4 hr4 => ?_
            conv => cbv
            refine r_gtr m.sX (fun h4 => ?_) (fun h4 => ?_) <;> conv => cbv
            · refine hF _ _ ?_
              conv => cbv
              exact hQ (.tup [.int .i64 2, .bool true]) (Eq.trans (by first | rfl | (simp only [lb, lbI, rows_cons, rows_nil, unnilT, unnil, unnilTI, unnilI]; done) | (simp only [lb, lbI, rows_cons, rows_nil, unnilT, unnil, unnilTI, unnilI]; rfl)) (congrArg (ib) (show (2, true) = whyA width height pieces from by rw [whyA, if_pos h1, if_neg (by rw [← hv1]; exact Bool.false_ne_true), if_neg (by omega), if_pos (any_hit hp (by unfold bigP; rw [decide_eq_true (by dsimp only; omega)]; rfl))])))   -- leaf 3
            · refine r_min m.sX fun r5 hr5 => ?_
              conv => cbv
              refine r_min m.sX fun r6 hr6 => ?_
              conv => cbv
              refine r_gtr m.sX (fun h5 => ?_) (fun h5 => ?_) <;> conv => cbv
              · refine hF _ _ ?_
                conv => cbv
                exact hQ (.tup [.int .i64 2, .bool true]) (Eq.trans (by first | rfl | (simp only [lb, lbI, rows_cons, rows_nil, unnilT, unnil, unnilTI, unnilI]; done) | (simp only [lb, lbI, rows_cons, rows_nil, unnilT, unnil, unnilTI, unnilI]; rfl)) (congrArg (ib) (show (2, true) = whyA width height pieces from by rw [whyA, if_pos h1, if_neg (by rw [← hv1]; exact Bool.false_ne_true), if_neg (by omega), if_pos (any_hit hp (by unfold bigP; rw [Bool.or_comm, decide_eq_true (by dsimp only; omega)]; rfl))])))   -- leaf 4
              · refine r_addf m.sX (by omega) (by omega) fun r7 hr7 => ?_
                conv => cbv
                try have tr7 : Int.toNat r7 = Int.toNat i1 + 1 := by omega
                refine hE _ r7 ?_ ?_ ⟨(by (try dsimp only); first | omega | (simp only [List.length_nil]; omega) | (simp only [List.length_cons, List.length_nil]; omega)), (by (try dsimp only); first | omega | (simp only [List.length_nil]; omega) | (simp only [List.length_cons, List.length_nil]; omega)), (by (try dsimp only) <;> (rw [tr7]; exact any_next hp (by unfold bigP; rw [decide_eq_false (by dsimp only; omega), decide_eq_false (by dsimp only; omega)]; rfl) q))⟩ (by first | omega | (dsimp only; omega))
                · cbv
                · cbv
          · have dz_i1 := drop_end (xs := pieces) (i := Int.toNat i1) (by omega)
            have tz_i1 := take_end (xs := pieces) (i := Int.toNat i1) (by omega)
            refine hF _ _ ?_
            conv => cbv
            exact hQ (.tup [.int .i64 3, .bool true]) (Eq.trans (by first | rfl | (simp only [lb, lbI, rows_cons, rows_nil, unnilT, unnil, unnilTI, unnilI]; done) | (simp only [lb, lbI, rows_cons, rows_nil, unnilT, unnil, unnilTI, unnilI]; rfl)) (congrArg (ib) (show (3, true) = whyA width height pieces from by rw [whyA, if_pos h1, if_neg (by rw [← hv1]; exact Bool.false_ne_true), if_neg (by omega), if_neg (by rw [tz_i1] at q; rw [q]; decide)])))   -- leaf 5
    · exact hQ (.tup [.int .i64 0, .bool false]) (Eq.trans (by first | rfl | (simp only [lb, lbI, rows_cons, rows_nil, unnilT, unnil, unnilTI, unnilI]; done) | (simp only [lb, lbI, rows_cons, rows_nil, unnilT, unnil, unnilTI, unnilI]; rfl)) (congrArg (ib) (show (0, false) = whyA width height pieces from by rw [whyA, h1]; rfl)))   -- leaf 6


/- Contracts of what FnFurniture draws. -/
theorem OkA.iceZ2 {P : Program} {f : FuncId} {args : List PV} {Q : PV → Prop} (h : OkA P f args (fun r => Q (Ai.unnilZ 2 (Ai.ice r)))) : OkA P f args Q := OkA.unnilZ 2 (OkA.iceR (Q := fun r => Q (Ai.unnilZ 2 r)) h)
theorem drawFillChase_ok (code : List Int) (h : CurIn code) : OkA Try.prog 22 [.isl 1 (rows cU8 code)] (fun r => ∃ (q1 : Int) (q2 : Int) (q3 : List Piece), r = .tup [.int .i64 q1, .int .i64 q2, .isl 2 (rows cPiece q3)] ∧ (q3.length ≤ 9)) :=
  OkA.iceZ2 (fn_intro envOk fieldsOk mixed Try.func22 rfl fun κ X Y L Q m hQ => by
    conv => cbv
    refine r_mcall m.sX (cSide_ok code 0 0 h (by omega) (by omega)) ?_
    rintro _ _ ⟨w, rfl, ⟨a1, s1, rfl, ea1, fa1⟩, bw_1⟩
    conv => cbv
    refine r_mcall m.sX (cSide_ok code a1 s1 h (by omega) (by omega)) ?_
    rintro _ _ ⟨h_, rfl, ⟨a2, s2, rfl, ea2, fa2⟩, bh__1⟩
    conv => cbv
    refine r_mcall m.sX (cOne_ok code a2 s2 12 h (by omega) (by omega)) ?_
    rintro _ _ ⟨q1, rfl, ⟨a3, s3, rfl, ea3, fa3⟩⟩
    conv => cbv
    rcases Bool.eq_false_or_eq_true q1 with rfl | rfl <;> conv => cbv
    · exact hQ (.tup [.int .i64 3, .int .i64 3, .fr 62 2 [[.int .i64 2, .int .i64 2], [.int .i64 5, .int .i64 1]]]) ⟨3, 3, [(2, 2), (5, 1)], (by first | rfl | (simp only [rows_nil]; rfl) | (simp only [rows_cons, rows_nil]; rfl)), (by first | omega | assumption | (simp; done) | (simp [*]; done) | (simp at *; omega))⟩   -- leaf 1
    · refine r_mcall m.sX (cPieces_ok code a3 s3 w h_ h (by omega) (by omega)) ?_
      rintro _ _ ⟨q2, rfl, ⟨a4, s4, rfl, ea4, fa4⟩, bq2_1⟩
      conv => cbv
      exact hQ (.tup [.int .i64 w, .int .i64 h_, .isl 2 (rows cPiece q2)]) ⟨w, h_, q2, rfl, (by first | omega | assumption | (simp; done) | (simp [*]; done) | (simp at *; omega))⟩)   -- leaf 2

theorem drawSidesOf_ok (code : List Int) (h : CurIn code) : OkA Try.prog 27 [.isl 1 (rows cU8 code)] (fun r => ∃ (q1 : List Piece) (q2 : Int), r = .tup [.isl 2 (rows cPiece q1), .int .i64 q2] ∧ (q1.length ≤ 9)) :=
  OkA.iceR (fn_intro envOk fieldsOk mixed Try.func27 rfl fun κ X Y L Q m hQ => by
    conv => cbv
    refine r_mcall m.sX (cSide_ok code 0 0 h (by omega) (by omega)) ?_
    rintro _ _ ⟨q1, rfl, ⟨a1, s1, rfl, ea1, fa1⟩, bq1_1⟩
    conv => cbv
    refine r_mcall m.sX (cSide_ok code a1 s1 h (by omega) (by omega)) ?_
    rintro _ _ ⟨q2, rfl, ⟨a2, s2, rfl, ea2, fa2⟩, bq2_1⟩
    conv => cbv
    refine r_mcall m.sX (cPieces_ok code a2 s2 q1 q2 h (by omega) (by omega)) ?_
    rintro _ _ ⟨q3, rfl, ⟨a3, s3, rfl, ea3, fa3⟩, bq3_1⟩
    conv => cbv
    refine r_mcall m.sX (cAmong_ok code a3 s3 ([5, 65, -1]) (by simp) h (by omega) (by omega)) ?_
    rintro _ _ ⟨q4, rfl, ⟨a4, s4, rfl, ea4, fa4⟩, bq4⟩
    simp only [List.mem_cons, List.not_mem_nil, or_false] at bq4
    conv => cbv
    refine r_mcall m.sX (cAmong_ok code a4 s4 ([0, 3, 8, 12, 64, q4]) (by simp) h (by omega) (by omega)) ?_
    rintro _ _ ⟨q5, rfl, ⟨a5, s5, rfl, ea5, fa5⟩, bq5⟩
    simp only [List.mem_cons, List.not_mem_nil, or_false] at bq5
    conv => cbv
    exact hQ (.tup [.isl 2 (rows cPiece q3), .int .i64 q5]) ⟨q3, q5, rfl, (by first | omega | assumption | (simp; done) | (simp [*]; done) | (simp at *; omega))⟩)   -- leaf 1


end Go.Proofs.Ytiaodmfipeoegaa.Ai
