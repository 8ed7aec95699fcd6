/- Numbers that are put into a list of rising ones. -/
import Derived.Test.YtiaodmfipeoegaaCommon
import Derived.Test.YtiaodmfipeoegaaAiIceM
import Derived.Test.YtiaodmfipeoegaaFurnEnd
import Derived.Test.YtiaodmfipeoegaaGridOf
import Derived.Maps.RangeWalk
import Derived.Maps.OwnSet
import Derived.WalkKit
import Derived.Test.YtiaodmfipeoegaaChasePic
import Derived.Lib.Hide
namespace Go.Proofs.Ytiaodmfipeoegaa.Ai
open Go Go.Proofs Go.RowKit Go.Maps
set_option linter.unusedSimpArgs false
set_option maxRecDepth 10000
set_option maxHeartbeats 4000000
set_option linter.unusedVariables false
/-- A number put into a list of rising numbers. -/
def putF (l : List Int) (n : Int) : List Int := if (l.dropWhile fun x => decide (x < n)).head? = some n then l else l.takeWhile (fun x => decide (x < n)) ++ n :: l.dropWhile fun x => decide (x < n)
theorem put_at {l : List Int} {n : Int} : ∀ {k : Nat}, (∀ z ∈ l.take k, z < n) → (∀ x, l[k]? = some x → n ≤ x) → l.takeWhile (fun x => decide (x < n)) = l.take k ∧ l.dropWhile (fun x => decide (x < n)) = l.drop k := by
  induction l with
  | nil => intro k _ _; simp
  | cons a r ih =>
    intro k h1 h2
    cases k with
    | zero =>
      have := h2 a rfl
      simp only [List.take_zero, List.drop_zero]
      rw [List.takeWhile_cons, List.dropWhile_cons, decide_eq_false (by omega)]
      exact ⟨rfl, rfl⟩
    | succ k =>
      have ha : a < n := h1 a (by simp)
      obtain ⟨e1, e2⟩ := ih (k := k) (fun z hz => h1 z (by simp [hz])) fun x hx => h2 x (by simpa using hx)
      simp only [List.take_succ_cons, List.drop_succ_cons]
      rw [List.takeWhile_cons, List.dropWhile_cons, decide_eq_true ha, if_pos rfl, if_pos rfl, e1, e2]
      exact ⟨rfl, rfl⟩
theorem put_same {l : List Int} {n : Int} {k : Nat} (h1 : ∀ z ∈ l.take k, z < n) (h2 : l[k]? = some n) : putF l n = l := by
  obtain ⟨_, e⟩ := put_at h1 fun x hx => by rw [h2] at hx; obtain rfl := Option.some.inj hx; omega
  unfold putF
  rw [e, if_pos (by rw [List.head?_drop]; exact h2)]
theorem put_new {l : List Int} {n : Int} {k : Nat} (h1 : ∀ z ∈ l.take k, z < n) (h2 : ∀ x, l[k]? = some x → n < x) : putF l n = l.take k ++ n :: l.drop k := by
  obtain ⟨e1, e2⟩ := put_at h1 fun x hx => by have := h2 x hx; omega
  unfold putF
  rw [e1, e2, if_neg]
  rw [List.head?_drop]
  intro h
  have := h2 n h
  omega
theorem put_none {l : List Int} {n : Int} {k : Nat} (h1 : ∀ z ∈ l.take k, z < n) (h : l.length ≤ k) : putF l n = l.take k ++ n :: l.drop k := put_new h1 fun x hx => by rw [List.getElem?_eq_none h] at hx; cases hx
theorem put_some {l : List Int} {n : Int} {k : Nat} {x : Int} (h1 : ∀ z ∈ l.take k, z < n) (h : l[k]? = some x) (hx : n < x) : putF l n = l.take k ++ n :: l.drop k := put_new h1 fun y hy => by rw [h] at hy; obtain rfl := Option.some.inj hy; exact hx
theorem l1Put_ok (l : List Int) (n : Int) (hl : l.length ≤ 100000000) : OkA Try.prog 90 [.isl 1 (rows cInt l), .int .i64 n] (· = .isl 1 (rows cInt (putF l n))) :=
  OkA.iceI 1 (fn_intro envOk fieldsOk mixed Try.func90 rfl fun κ X Y L Q m hQ => by
    conv => cbv
    refine r_loopF (α := Int) m 48 [0, 1, 5] [] (fun σ => [(0, .isl 1 (rows cInt l)), (1, .int .i64 n), (5, .int .i64 σ)]) (fun σ => [])
      (fun σ => (0 ≤ σ ∧ σ ≤ l.length) ∧ (∀ z ∈ l.take σ.toNat, z < n)) (fun σ => (l.length - σ).toNat) 0 ?_ ?_ ?_ ?_
    · cbv
    · cbv
    · exact ⟨(by (try dsimp only) <;> (omega)), (by (try dsimp only) <;> (intro z hz; simp at hz))⟩
    rintro k ⟨kb, q⟩ E hE F hF
    conv => cbv
    refine r_lenR m.sX fun n1 hn1 mn1 => ?_
    conv => cbv
    refine r_lss m.sX (fun h1 => ?_) (fun h1 => ?_) <;> conv => cbv
    · refine r_index m.sX (by omega) (by omega) fun x1 hx1 => ?_
      conv => cbv
      have mx1 := get_mem hx1
      have vx1 := nth_some hx1
      refine r_lss m.sX (fun h2 => ?_) (fun h2 => ?_) <;> conv => cbv
      · refine r_addf m.sX (by omega) (by omega) fun k_2 hk_2 => ?_
        conv => cbv
        refine hE _ k_2 ?_ ?_ ⟨(by (try dsimp only) <;> (omega)), (by (try dsimp only) <;> (intro z hz; rw [show k_2.toNat = k.toNat + 1 by omega, List.take_add_one, hx1] at hz; simp only [Option.toList_some, List.mem_append, List.mem_singleton] at hz; rcases hz with hz | hz; (exact q z hz); omega))⟩ (by first | omega | (dsimp only; omega))
        · cbv
        · cbv
      · refine hF _ _ ?_
        conv => cbv
        refine r_lenR m.sX fun n2 hn2 mn2 => ?_
        conv => cbv
        refine r_lss m.sX (fun h3 => ?_) (fun h3 => ?_) <;> conv => cbv
        · refine r_index m.sX (by omega) (by omega) fun x2 hx2 => ?_
          conv => cbv
          have mx2 := get_mem hx2
          have vx2 := nth_some hx2
          obtain rfl : x1 = x2 := Option.some.inj (hx1.symm.trans hx2)
          refine r_eql m.sX (fun h4 => ?_) (fun h4 => ?_) <;> conv => cbv
          · exact hQ (.isl 1 (rows cInt l)) (Eq.trans (by first | rfl | (simp only [lb, lbI, rows_cons, rows_nil, unnilT, unnil, unnilTI, unnilI]; done) | (simp only [lb, lbI, rows_cons, rows_nil, unnilT, unnil, unnilTI, unnilI]; rfl)) (congrArg (fun l => PV.isl 1 (rows cInt l)) (show l = putF l n from by first | exact (put_same q (by rw [hx1, h4])).symm | exact (put_same q (by rw [hx3, h6])).symm | (rw [put_some q hx1 (by omega)]; subst_vars; simp; done) | (rw [put_some q hx3 (by omega)]; subst_vars; simp; done) | (rw [put_none q (by omega)]; subst_vars; simp; done))))   -- leaf 1
          · refine r_islice (i := 0) (j := k) m.sX (by omega) (by omega) (by omega) fun zs1 hzs1 => ?_
            have lzs1 : (zs1.length : Int) = k - 0 := by rw [hzs1]; first | done | (simp; done) | (simp; omega)
            conv => cbv
            refine r_append0R m.sX (by first | omega | (dsimp only; omega)) (by first | omega | (dsimp only; omega)) fun out hout => ?_
            conv => cbv
            have lout : (out.length : Int) = zs1.length := by rw [hout]; first | done | (simp; done) | (simp; omega)
            refine r_append1 (n) m.sX rfl (by first | omega | (dsimp only; omega)) (by first | omega | (dsimp only; omega)) fun out_2 hout_2 => ?_
            conv => cbv
            have lout_2 : (out_2.length : Int) = out.length + 1 := by rw [hout_2]; first | done | (simp; done) | (simp; omega)
            refine r_islice' (i := k) m.sX (by omega) (by omega) fun zs2 hzs2 => ?_
            have lzs2 : (zs2.length : Int) = l.length - k := by rw [hzs2]; first | done | (simp; done) | (simp; omega)
            conv => cbv
            refine r_append m.sX (by first | omega | (dsimp only; omega)) (by first | omega | (dsimp only; omega)) fun zs3 hzs3 => ?_
            conv => cbv
            have lzs3 : (zs3.length : Int) = out_2.length + zs2.length := by rw [hzs3]; first | done | (simp; done) | (simp; omega)
            exact hQ (.fr 3 1 (rows cInt zs3)) (Eq.trans (by first | rfl | (simp only [lb, lbI, rows_cons, rows_nil, unnilT, unnil, unnilTI, unnilI]; done) | (simp only [lb, lbI, rows_cons, rows_nil, unnilT, unnil, unnilTI, unnilI]; rfl)) (congrArg (fun l => PV.isl 1 (rows cInt l)) (show zs3 = putF l n from by first | exact (put_same q (by rw [hx1, h4])).symm | exact (put_same q (by rw [hx3, h6])).symm | (rw [put_some q hx1 (by omega)]; subst_vars; simp; done) | (rw [put_some q hx3 (by omega)]; subst_vars; simp; done) | (rw [put_none q (by omega)]; subst_vars; simp; done))))   -- leaf 2
        · refine r_islice (i := 0) (j := k) m.sX (by omega) (by omega) (by omega) fun zs4 hzs4 => ?_
          have lzs4 : (zs4.length : Int) = k - 0 := by rw [hzs4]; first | done | (simp; done) | (simp; omega)
          conv => cbv
          refine r_append0R m.sX (by first | omega | (dsimp only; omega)) (by first | omega | (dsimp only; omega)) fun out_3 hout_3 => ?_
          conv => cbv
          have lout_3 : (out_3.length : Int) = zs4.length := by rw [hout_3]; first | done | (simp; done) | (simp; omega)
          refine r_append1 (n) m.sX rfl (by first | omega | (dsimp only; omega)) (by first | omega | (dsimp only; omega)) fun out_4 hout_4 => ?_
          conv => cbv
          have lout_4 : (out_4.length : Int) = out_3.length + 1 := by rw [hout_4]; first | done | (simp; done) | (simp; omega)
          refine r_islice' (i := k) m.sX (by omega) (by omega) fun zs5 hzs5 => ?_
          have lzs5 : (zs5.length : Int) = l.length - k := by rw [hzs5]; first | done | (simp; done) | (simp; omega)
          conv => cbv
          refine r_append m.sX (by first | omega | (dsimp only; omega)) (by first | omega | (dsimp only; omega)) fun zs6 hzs6 => ?_
          conv => cbv
          have lzs6 : (zs6.length : Int) = out_4.length + zs5.length := by rw [hzs6]; first | done | (simp; done) | (simp; omega)
          exact hQ (.fr 3 1 (rows cInt zs6)) (Eq.trans (by first | rfl | (simp only [lb, lbI, rows_cons, rows_nil, unnilT, unnil, unnilTI, unnilI]; done) | (simp only [lb, lbI, rows_cons, rows_nil, unnilT, unnil, unnilTI, unnilI]; rfl)) (congrArg (fun l => PV.isl 1 (rows cInt l)) (show zs6 = putF l n from by first | exact (put_same q (by rw [hx1, h4])).symm | exact (put_same q (by rw [hx3, h6])).symm | (rw [put_some q hx1 (by omega)]; subst_vars; simp; done) | (rw [put_some q hx3 (by omega)]; subst_vars; simp; done) | (rw [put_none q (by omega)]; subst_vars; simp; done))))   -- leaf 3
    · refine hF _ _ ?_
      conv => cbv
      refine r_lenR m.sX fun n3 hn3 mn3 => ?_
      conv => cbv
      refine r_lss m.sX (fun h5 => ?_) (fun h5 => ?_) <;> conv => cbv
      · refine r_index m.sX (by omega) (by omega) fun x3 hx3 => ?_
        conv => cbv
        have mx3 := get_mem hx3
        have vx3 := nth_some hx3
        refine r_eql m.sX (fun h6 => ?_) (fun h6 => ?_) <;> conv => cbv
        · exact hQ (.isl 1 (rows cInt l)) (Eq.trans (by first | rfl | (simp only [lb, lbI, rows_cons, rows_nil, unnilT, unnil, unnilTI, unnilI]; done) | (simp only [lb, lbI, rows_cons, rows_nil, unnilT, unnil, unnilTI, unnilI]; rfl)) (congrArg (fun l => PV.isl 1 (rows cInt l)) (show l = putF l n from by first | exact (put_same q (by rw [hx1, h4])).symm | exact (put_same q (by rw [hx3, h6])).symm | (rw [put_some q hx1 (by omega)]; subst_vars; simp; done) | (rw [put_some q hx3 (by omega)]; subst_vars; simp; done) | (rw [put_none q (by omega)]; subst_vars; simp; done))))   -- leaf 4
        · refine r_islice (i := 0) (j := k) m.sX (by omega) (by omega) (by omega) fun zs7 hzs7 => ?_
          have lzs7 : (zs7.length : Int) = k - 0 := by rw [hzs7]; first | done | (simp; done) | (simp; omega)
          conv => cbv
          refine r_append0R m.sX (by first | omega | (dsimp only; omega)) (by first | omega | (dsimp only; omega)) fun out_5 hout_5 => ?_
          conv => cbv
          have lout_5 : (out_5.length : Int) = zs7.length := by rw [hout_5]; first | done | (simp; done) | (simp; omega)
          refine r_append1 (n) m.sX rfl (by first | omega | (dsimp only; omega)) (by first | omega | (dsimp only; omega)) fun out_6 hout_6 => ?_
          conv => cbv
          have lout_6 : (out_6.length : Int) = out_5.length + 1 := by rw [hout_6]; first | done | (simp; done) | (simp; omega)
          refine r_islice' (i := k) m.sX (by omega) (by omega) fun zs8 hzs8 => ?_
          have lzs8 : (zs8.length : Int) = l.length - k := by rw [hzs8]; first | done | (simp; done) | (simp; omega)
          conv => cbv
          refine r_append m.sX (by first | omega | (dsimp only; omega)) (by first | omega | (dsimp only; omega)) fun zs9 hzs9 => ?_
          conv => cbv
          have lzs9 : (zs9.length : Int) = out_6.length + zs8.length := by rw [hzs9]; first | done | (simp; done) | (simp; omega)
          exact hQ (.fr 3 1 (rows cInt zs9)) (Eq.trans (by first | rfl | (simp only [lb, lbI, rows_cons, rows_nil, unnilT, unnil, unnilTI, unnilI]; done) | (simp only [lb, lbI, rows_cons, rows_nil, unnilT, unnil, unnilTI, unnilI]; rfl)) (congrArg (fun l => PV.isl 1 (rows cInt l)) (show zs9 = putF l n from by first | exact (put_same q (by rw [hx1, h4])).symm | exact (put_same q (by rw [hx3, h6])).symm | (rw [put_some q hx1 (by omega)]; subst_vars; simp; done) | (rw [put_some q hx3 (by omega)]; subst_vars; simp; done) | (rw [put_none q (by omega)]; subst_vars; simp; done))))   -- leaf 5
      · refine r_islice (i := 0) (j := k) m.sX (by omega) (by omega) (by omega) fun zs10 hzs10 => ?_
        have lzs10 : (zs10.length : Int) = k - 0 := by rw [hzs10]; first | done | (simp; done) | (simp; omega)
        conv => cbv
        refine r_append0R m.sX (by first | omega | (dsimp only; omega)) (by first | omega | (dsimp only; omega)) fun out_7 hout_7 => ?_
        conv => cbv
        have lout_7 : (out_7.length : Int) = zs10.length := by rw [hout_7]; first | done | (simp; done) | (simp; omega)
        refine r_append1 (n) m.sX rfl (by first | omega | (dsimp only; omega)) (by first | omega | (dsimp only; omega)) fun out_8 hout_8 => ?_
        conv => cbv
        have lout_8 : (out_8.length : Int) = out_7.length + 1 := by rw [hout_8]; first | done | (simp; done) | (simp; omega)
        refine r_islice' (i := k) m.sX (by omega) (by omega) fun zs11 hzs11 => ?_
        have lzs11 : (zs11.length : Int) = l.length - k := by rw [hzs11]; first | done | (simp; done) | (simp; omega)
        conv => cbv
        refine r_append m.sX (by first | omega | (dsimp only; omega)) (by first | omega | (dsimp only; omega)) fun zs12 hzs12 => ?_
        conv => cbv
        have lzs12 : (zs12.length : Int) = out_8.length + zs11.length := by rw [hzs12]; first | done | (simp; done) | (simp; omega)
        exact hQ (.fr 3 1 (rows cInt zs12)) (Eq.trans (by first | rfl | (simp only [lb, lbI, rows_cons, rows_nil, unnilT, unnil, unnilTI, unnilI]; done) | (simp only [lb, lbI, rows_cons, rows_nil, unnilT, unnil, unnilTI, unnilI]; rfl)) (congrArg (fun l => PV.isl 1 (rows cInt l)) (show zs12 = putF l n from by first | exact (put_same q (by rw [hx1, h4])).symm | exact (put_same q (by rw [hx3, h6])).symm | (rw [put_some q hx1 (by omega)]; subst_vars; simp; done) | (rw [put_some q hx3 (by omega)]; subst_vars; simp; done) | (rw [put_none q (by omega)]; subst_vars; simp; done)))))   -- leaf 6

/- Pieces that quoins press, loose pieces, cuts: plain law. -/
open Classical in
/-- What is pressed: what stands at a quoin, and what stands just before a pressed piece. -/
inductive Prs (adj : Int → Int → Prop) (st : Int → Prop) : Int → Prop
  | base {n : Int} (h : st n) : Prs adj st n
  | step {n k : Int} (h0 : 0 ≤ n) (h : adj n k) (hk : Prs adj st k) : Prs adj st n
theorem Prs.mono {adj : Int → Int → Prop} {st st2 : Int → Prop} (h : ∀ n, st n → st2 n) {n : Int} (hp : Prs adj st n) : Prs adj st2 n := by
  induction hp with
  | base b => exact .base (h _ b)
  | step h0 ha _ ih => exact .step h0 ha ih
/-- The least set that is closed. -/
theorem Prs.least {adj : Int → Int → Prop} {st S : Int → Prop} (hb : ∀ n, st n → S n) (hc : ∀ n k, 0 ≤ n → adj n k → S k → S n) {n : Int} (hp : Prs adj st n) : S n := by
  induction hp with
  | base b => exact hb _ b
  | step h0 ha _ ih => exact hc _ _ h0 ha ih
def adjR (W H : Nat) (G : Grid) (n k : Int) : Prop := ∃ y x, (y < H ∧ x + 1 < W) ∧ G y x = n ∧ G y (x + 1) = k
def adjD (W H : Nat) (G : Grid) (n k : Int) : Prop := ∃ y x, (y + 1 < H ∧ x < W) ∧ G y x = n ∧ G (y + 1) x = k
def startR (W H : Nat) (G : Grid) (rows : List Int) (n : Int) : Prop := 0 ≤ n ∧ ∃ y ∈ rows, G y.toNat (W - 1) = n
def startD (W H : Nat) (G : Grid) (cols : List Int) (n : Int) : Prop := 0 ≤ n ∧ ∃ x ∈ cols, G (H - 1) x.toNat = n
def prsR (W H : Nat) (G : Grid) (rows : List Int) : Int → Prop := Prs (adjR W H G) (startR W H G rows)
def prsD (W H : Nat) (G : Grid) (cols : List Int) : Int → Prop := Prs (adjD W H G) (startD W H G cols)
def turnG (G : Grid) : Grid := fun y x => G x y
theorem turn_prs (W H : Nat) (G : Grid) (cols : List Int) : prsR H W (turnG G) cols = prsD W H G cols := by
  have e1 : adjR H W (turnG G) = adjD W H G := by
    funext n k
    apply propext
    constructor
    · rintro ⟨y, x, ⟨h1, h2⟩, h3, h4⟩; exact ⟨x, y, ⟨h2, h1⟩, h3, h4⟩
    · rintro ⟨y, x, ⟨h1, h2⟩, h3, h4⟩; exact ⟨x, y, ⟨h2, h1⟩, h3, h4⟩
  have e2 : startR H W (turnG G) cols = startD W H G cols := rfl
  unfold prsR prsD
  rw [e1, e2]
open Classical in
/-- Whether a piece is pressed from both sides. -/
noncomputable def heldB (W H : Nat) (G : Grid) (rows cols : List Int) (n : Int) : Bool := decide (prsR W H G rows n) && decide (prsD W H G cols n)
open Classical in
theorem held_iff {W H : Nat} {G : Grid} {rows cols : List Int} {n : Int} : heldB W H G rows cols n = true ↔ prsR W H G rows n ∧ prsD W H G cols n := by
  unfold heldB; rw [Bool.and_eq_true, decide_eq_true_iff, decide_eq_true_iff]
noncomputable def looseF (W H : Nat) (G : Grid) (pl : List Plc) (rows cols : List Int) : List Int := (pl.filter fun p => !heldB W H G rows cols p.1).map (·.1)
def quB (w h : Int) (rows cols : List Int) : Bool := rising 0 (h - 1) none rows && rising 0 (w - 1) none cols
/-- What LoosePieces answers. -/
noncomputable def looseA (w h : Int) (ps : List Piece) (pl : List Plc) (rows cols : List Int) : List Int × Bool := match chaseF w h ps pl with
  | some G => if quB w h rows cols then (looseF w.toNat h.toNat G pl rows cols, true) else ([], false)
  | none => ([], false)
noncomputable def lockA (w h : Int) (ps : List Piece) (pl : List Plc) (rows cols : List Int) : Bool × Bool := match chaseF w h ps pl with
  | some G => if quB w h rows cols then ((decide (freeC w.toNat h.toNat G = 0) && decide (pl.length = ps.length)) && decide (looseF w.toNat h.toNat G pl rows cols = []), true) else (false, false)
  | none => (false, false)
noncomputable def fallsF (W H : Nat) (G : Grid) (pl : List Plc) (rows cols : List Int) (row : Int) : List Int :=
  (looseF W H G pl (rows.filter fun y => decide (y ≠ row)) cols).filter fun n => decide (n ∉ looseF W H G pl rows cols)
noncomputable def fallsA (w h : Int) (ps : List Piece) (pl : List Plc) (rows cols : List Int) (row : Int) : List Int × Bool := match chaseF w h ps pl with
  | some G => if quB w h rows cols = true ∧ row ∈ rows then (fallsF w.toNat h.toNat G pl rows cols row, true) else ([], false)
  | none => ([], false)
theorem held_mono {W H : Nat} {G : Grid} {rows rows2 cols : List Int} (h : ∀ y, y ∈ rows2 → y ∈ rows) {n : Int} (hh : heldB W H G rows2 cols n = true) : heldB W H G rows cols n = true := by
  rw [held_iff] at hh ⊢
  refine ⟨Prs.mono (fun n hn => ?_) hh.1, hh.2⟩
  obtain ⟨h0, y, hy, e⟩ := hn
  exact ⟨h0, y, h y hy, e⟩
theorem filter_split {α : Type} {p q : α → Bool} : ∀ {l : List α}, (∀ x ∈ l, p x = true → q x = true) → (l.filter q).length = (l.filter p).length + (l.filter fun x => q x && !p x).length
  | [], _ => rfl
  | x :: r, h => by
    have ih := filter_split (p := p) (q := q) (l := r) fun y hy => h y (List.mem_cons_of_mem _ hy)
    have hx := h x (List.mem_cons_self)
    simp only [List.filter_cons]
    cases hp : p x with
    | true => rw [hx hp]; simp; omega
    | false => cases hq : q x with
      | true => simp; omega
      | false => simp; omega
theorem loose_mem {W H : Nat} {G : Grid} {pl : List Plc} {rows cols : List Int} {n : Int} : n ∈ looseF W H G pl rows cols ↔ (∃ p ∈ pl, p.1 = n) ∧ heldB W H G rows cols n = false := by
  unfold looseF
  rw [List.mem_map]
  constructor
  · rintro ⟨p, hp, rfl⟩
    rw [List.mem_filter] at hp
    exact ⟨⟨p, hp.1, rfl⟩, by simpa using hp.2⟩
  · rintro ⟨⟨p, hp, rfl⟩, h⟩
    exact ⟨p, List.mem_filter.2 ⟨hp, by simp [h]⟩, rfl⟩
/-- What the law asks of pieces that fall without a quoin. -/
theorem falls_law {W H : Nat} {G : Grid} {pl : List Plc} {rows cols : List Int} {row : Int} :
    (looseF W H G pl (rows.filter fun y => decide (y ≠ row)) cols).length = (looseF W H G pl rows cols).length + (fallsF W H G pl rows cols row).length ∧
    ∀ n ∈ fallsF W H G pl rows cols row, n ∉ looseF W H G pl rows cols ∧ n ∈ looseF W H G pl (rows.filter fun y => decide (y ≠ row)) cols := by
  have hm : ∀ n, heldB W H G (rows.filter fun y => decide (y ≠ row)) cols n = true → heldB W H G rows cols n = true := fun n => held_mono fun y hy => (List.mem_filter.1 hy).1
  refine ⟨?_, fun n hn => ?_⟩
  · have key := filter_split (l := pl) (p := fun p => !heldB W H G rows cols p.1) (q := fun p => !heldB W H G (rows.filter fun y => decide (y ≠ row)) cols p.1) fun p _ h => by
      cases hh : heldB W H G (rows.filter fun y => decide (y ≠ row)) cols p.1 with
      | false => rfl
      | true => rw [hm _ hh] at h; cases h
    unfold fallsF
    have e0 : ∀ L : List Int, (∀ p ∈ pl, p.1 ∈ L ↔ heldB W H G rows cols p.1 = false) → ((looseF W H G pl (rows.filter fun y => decide (y ≠ row)) cols).filter fun n => decide (n ∉ L)) = (pl.filter fun p => (!heldB W H G (rows.filter fun y => decide (y ≠ row)) cols p.1) && !(!heldB W H G rows cols p.1)).map (·.1) := fun L hL => by
      unfold looseF
      rw [List.filter_map, List.filter_filter]
      congr 1
      apply List.filter_congr
      intro p hp
      simp only [Function.comp]
      rw [Bool.and_comm]
      congr 1
      have this := hL p hp
      cases hh : heldB W H G rows cols p.1 with
      | false => have hin := this.2 hh; simp [hin]
      | true => have hni : ¬ p.1 ∈ L := fun h => by rw [this.1 h] at hh; cases hh
                simp [hni]
    have e := e0 (looseF W H G pl rows cols) fun p hp => by rw [loose_mem]; exact ⟨fun h => h.2, fun h => ⟨⟨p, hp, rfl⟩, h⟩⟩
    show _ = _ + ((looseF W H G pl (rows.filter fun y => decide (y ≠ row)) cols).filter fun n => decide (n ∉ looseF W H G pl rows cols)).length
    rw [e, List.length_map]
    unfold looseF
    rw [List.length_map, List.length_map]
    exact key
  · unfold fallsF at hn
    rw [List.mem_filter] at hn
    exact ⟨of_decide_eq_true hn.2, hn.1⟩

/- Rising lists as sets of pieces: plain law. -/
/-- Strictly rising. -/
abbrev Ris (l : List Int) : Prop := l.Pairwise (· < ·)
theorem ris_ext : ∀ {a b : List Int}, Ris a → Ris b → (∀ n, n ∈ a ↔ n ∈ b) → a = b
  | [], [], _, _, _ => rfl
  | [], y :: b, _, _, h => by have := (h y).2 (by simp); cases this
  | x :: a, [], _, _, h => by have := (h x).1 (by simp); cases this
  | x :: a, y :: b, ha, hb, h => by
    rw [Ris, List.pairwise_cons] at ha hb
    have e : x = y := by
      rcases List.mem_cons.1 ((h x).1 (by simp)) with e | h1
      · exact e
      · rcases List.mem_cons.1 ((h y).2 (by simp)) with e | h2
        · exact e.symm
        · have := ha.1 y h2; have := hb.1 x h1; omega
    subst e
    rw [ris_ext ha.2 hb.2 fun n => ?_]
    constructor
    · intro hn
      rcases List.mem_cons.1 ((h n).1 (by simp [hn])) with e | h1
      · have := ha.1 n hn; omega
      · exact h1
    · intro hn
      rcases List.mem_cons.1 ((h n).2 (by simp [hn])) with e | h1
      · have := hb.1 n hn; omega
      · exact h1
theorem ris_range (n : Nat) : Ris ((List.range n).map fun (k : Nat) => (k : Int)) := by
  rw [Ris, List.pairwise_map]
  exact List.pairwise_lt_range.imp fun h => by omega
theorem ris_put {l : List Int} (n : Int) (h : Ris l) : Ris (putF l n) ∧ ∀ m, m ∈ putF l n ↔ m ∈ l ∨ m = n := by
  have hp : ∀ x ∈ l.takeWhile (fun x => decide (x < n)), x < n := fun x hx => of_decide_eq_true (List.all_eq_true.1 (List.all_takeWhile (p := fun x => decide (x < n)) (l := l)) x hx)
  have hs : l = l.takeWhile (fun x => decide (x < n)) ++ l.dropWhile (fun x => decide (x < n)) := List.takeWhile_append_dropWhile.symm
  have hd : ∀ x ∈ l.dropWhile (fun x => decide (x < n)), n ≤ x := fun x hx => by
    rw [hs] at h
    have h2 := (List.pairwise_append.1 h).2.1
    cases hc : l.dropWhile (fun x => decide (x < n)) with
    | nil => rw [hc] at hx; cases hx
    | cons y r =>
      have hy : ¬ (decide (y < n) = true) := by
        have := List.head?_dropWhile_not (fun x => decide (x < n)) l
        rw [hc] at this
        simpa using this
      rw [hc] at hx h2
      have hy2 : n ≤ y := by simpa using hy
      rcases List.mem_cons.1 hx with rfl | hx
      · exact hy2
      · have := (List.pairwise_cons.1 h2).1 x hx; omega
  unfold putF
  split
  · rename_i e
    refine ⟨h, fun m => ⟨.inl, ?_⟩⟩
    rintro (h1 | rfl)
    · exact h1
    · rw [hs]; exact List.mem_append.2 (.inr (List.mem_of_mem_head? e))
  · rename_i e
    refine ⟨?_, fun m => ?_⟩
    · rw [Ris, List.pairwise_append, List.pairwise_cons]
      have h3 := h
      rw [hs, Ris, List.pairwise_append] at h3
      refine ⟨h3.1, ⟨fun x hx => ?_, h3.2.1⟩, fun x hx y hy => ?_⟩
      · have := hd x hx
        rcases Int.lt_or_eq_of_le this with h4 | h4
        · exact h4
        · exfalso
          refine e ?_
          cases hc : l.dropWhile (fun x => decide (x < n)) with
          | nil => rw [hc] at hx; cases hx
          | cons y r =>
            rw [hc] at hx h3
            rcases List.mem_cons.1 hx with rfl | hx
            · rw [h4]; rfl
            · have h5 := (List.pairwise_cons.1 h3.2.1).1 x hx
              have h6 := hd y (by rw [hc]; simp)
              omega
      · rcases List.mem_cons.1 hy with rfl | hy
        · exact hp x hx
        · have := hp x hx; have := hd y hy; omega
    · conv => rhs; rw [hs]
      simp only [List.mem_append, List.mem_cons]
      constructor
      · rintro (h1 | h1 | h1)
        · exact .inl (.inl h1)
        · exact .inr h1
        · exact .inl (.inr h1)
      · rintro ((h1 | h1) | h1)
        · exact .inl h1
        · exact .inr (.inr h1)
        · exact .inr (.inl h1)
theorem ris_len8 {l : List Int} (h : Ris l) (hb : ∀ n ∈ l, 0 ≤ n ∧ n ≤ 7) : l.length ≤ 8 := by
  have e : ∀ {a : List Int} {lo : Int}, Ris a → (∀ n ∈ a, lo ≤ n ∧ n ≤ 7) → lo ≤ 8 → (a.length : Int) ≤ 8 - lo := fun {a} => by
    induction a with
    | nil => intro lo _ _ h; simp; omega
    | cons x r ih =>
      intro lo h hb hl
      rw [Ris, List.pairwise_cons] at h
      have hx := hb x (by simp)
      have := ih (lo := x + 1) h.2 (fun n hn => by have := h.1 n hn; have := hb n (by simp [hn]); omega) (by omega)
      simp only [List.length_cons]; omega
  have := e h (lo := 0) hb (by omega)
  omega
open Classical in
/-- The set's pieces, rising. -/
noncomputable def setL (P : Int → Prop) : List Int := ((List.range 8).map fun (k : Nat) => (k : Int)).filter fun n => decide (P n)
open Classical in
theorem setL_mem {P : Int → Prop} {n : Int} : n ∈ setL P ↔ (0 ≤ n ∧ n ≤ 7) ∧ P n := by
  unfold setL
  rw [List.mem_filter, List.mem_map]
  constructor
  · rintro ⟨⟨k, hk, rfl⟩, h⟩
    have := List.mem_range.1 hk
    exact ⟨by omega, of_decide_eq_true h⟩
  · rintro ⟨h1, h2⟩
    exact ⟨⟨n.toNat, List.mem_range.2 (by omega), by omega⟩, decide_eq_true h2⟩
theorem setL_ris (P : Int → Prop) : Ris (setL P) := by unfold setL; exact (ris_range 8).filter _
theorem setL_eq {P : Int → Prop} {l : List Int} (hr : Ris l) (h : ∀ n, n ∈ l ↔ (0 ≤ n ∧ n ≤ 7) ∧ P n) : l = setL P := ris_ext hr (setL_ris P) fun n => by rw [h, setL_mem]
theorem setL_len (P : Int → Prop) : (setL P).length ≤ 8 := ris_len8 (setL_ris P) fun n hn => (setL_mem.1 hn).1
theorem setL_congr {P Q : Int → Prop} (h : ∀ n, P n ↔ Q n) : setL P = setL Q := by rw [show P = Q from funext fun n => propext (h n)]
theorem put_same2 {l : List Int} {n : Int} (h : Ris l) (hn : n ∈ l) : putF l n = l := ris_ext (ris_put n h).1 h fun m => by
  rw [(ris_put n h).2]
  exact ⟨fun e => e.elim id fun e => e ▸ hn, .inl⟩
/-- Neighbours: dx, dy further. -/
def adjG (dx dy W H : Nat) (G : Grid) (n k : Int) : Prop := ∃ y x, (y + dy < H ∧ x + dx < W) ∧ G y x = n ∧ G (y + dy) (x + dx) = k
theorem adjG_R (W H : Nat) (G : Grid) : adjG 1 0 W H G = adjR W H G := by
  funext n k; apply propext
  constructor
  · rintro ⟨y, x, ⟨h1, h2⟩, h3, h4⟩; exact ⟨y, x, ⟨h1, h2⟩, h3, h4⟩
  · rintro ⟨y, x, ⟨h1, h2⟩, h3, h4⟩; exact ⟨y, x, ⟨h1, h2⟩, h3, h4⟩
theorem adjG_D (W H : Nat) (G : Grid) : adjG 0 1 W H G = adjD W H G := by
  funext n k; apply propext
  constructor
  · rintro ⟨y, x, ⟨h1, h2⟩, h3, h4⟩; exact ⟨y, x, ⟨h1, h2⟩, h3, h4⟩
  · rintro ⟨y, x, ⟨h1, h2⟩, h3, h4⟩; exact ⟨y, x, ⟨h1, h2⟩, h3, h4⟩
/-- .. of the places that have been looked at. -/
def adjU (dx dy W H : Nat) (G : Grid) (y x : Nat) (n k : Int) : Prop := ∃ y' x', (y' < y ∨ y' = y ∧ x' < x) ∧ (y' + dy < H ∧ x' + dx < W) ∧ G y' x' = n ∧ G (y' + dy) (x' + dx) = k
structure BehX (dx dy W H : Nat) (G : Grid) (n : Int) (y x : Nat) (l : List Int) : Prop where
  ris : Ris l
  mem : ∀ k, k ∈ l ↔ (0 ≤ k ∧ k ≤ 7) ∧ (k ≠ n ∧ adjU dx dy W H G y x n k)
section
variable {dx dy W H : Nat} {G : Grid} {n : Int} {y x : Nat} {l l2 : List Int}
theorem BehX.start : BehX dx dy W H G n 0 0 [] := ⟨List.Pairwise.nil, fun k => ⟨fun h => (by cases h), fun ⟨_, _, y', x', h, _⟩ => by omega⟩⟩
theorem BehX.skip (h : BehX dx dy W H G n y x l) (hn : ¬ (G y x = n ∧ 0 ≤ G (y + dy) (x + dx) ∧ G (y + dy) (x + dx) ≠ n)) : BehX dx dy W H G n y (x + 1) l := by
  refine ⟨h.ris, fun k => ?_⟩
  rw [h.mem]
  constructor
  · rintro ⟨h1, h2, y', x', h3, h4⟩; exact ⟨h1, h2, y', x', by omega, h4⟩
  · rintro ⟨h1, h2, y', x', h3, h4, h5, h6⟩
    refine ⟨h1, h2, y', x', ?_, h4, h5, h6⟩
    by_cases e : y' = y ∧ x' = x
    · obtain ⟨rfl, rfl⟩ := e
      exact absurd ⟨h5, by omega, by omega⟩ hn
    · omega
theorem BehX.hit (h : BehX dx dy W H G n y x l) (hb : y + dy < H ∧ x + dx < W) (h1 : G y x = n) (h2 : 0 ≤ G (y + dy) (x + dx) ∧ G (y + dy) (x + dx) ≤ 7) (h3 : G (y + dy) (x + dx) ≠ n) (e : l2 = putF l (G (y + dy) (x + dx))) : BehX dx dy W H G n y (x + 1) l2 := by
  subst e
  obtain ⟨p1, p2⟩ := ris_put (G (y + dy) (x + dx)) h.ris
  refine ⟨p1, fun k => ?_⟩
  rw [p2, h.mem]
  constructor
  · rintro (⟨a, b, y', x', c, d⟩ | rfl)
    · exact ⟨a, b, y', x', by omega, d⟩
    · exact ⟨h2, h3, y, x, by omega, hb, h1, rfl⟩
  · rintro ⟨a, b, y', x', c, d, e, f⟩
    by_cases q : y' = y ∧ x' = x
    · obtain ⟨rfl, rfl⟩ := q; exact .inr f.symm
    · exact .inl ⟨a, b, y', x', by omega, d, e, f⟩
theorem BehX.row (h : BehX dx dy W H G n y x l) (hx : W ≤ x + dx) : BehX dx dy W H G n (y + 1) 0 l := by
  refine ⟨h.ris, fun k => ?_⟩
  rw [h.mem]
  constructor
  · rintro ⟨a, b, y', x', c, d⟩; exact ⟨a, b, y', x', by omega, d⟩
  · rintro ⟨a, b, y', x', c, d⟩; exact ⟨a, b, y', x', by omega, d⟩
theorem BehX.fin (h : BehX dx dy W H G n y x l) (hy : H ≤ y + dy) : l = setL fun k => k ≠ n ∧ adjG dx dy W H G n k := setL_eq h.ris fun k => by
  rw [h.mem]
  constructor
  · rintro ⟨a, b, y', x', c, d⟩; exact ⟨a, b, y', x', d⟩
  · rintro ⟨a, b, y', x', d⟩; exact ⟨a, b, y', x', by omega, d⟩
end

/- Sets of numbers in memory (map[int]bool whose values are true), for the kit's walk. -/
abbrev keyI (x : Int) : Lit := .int .i64 x
/-- A map that has just the numbers of S. -/
def SetP (D : DataW Unit) (S : Int → Prop) : Prop := ∀ x z, (S x → D.atKey (keyI x) z = .lit (.bool true)) ∧ (¬ S x → D.atKey (keyI x) z = z)
theorem SetP.congr {D : DataW Unit} {S T : Int → Prop} (h : SetP D S) (e : ∀ x, T x ↔ S x) : SetP D T := fun x z => ⟨fun t => (h x z).1 ((e x).1 t), fun t => (h x z).2 fun s => t ((e x).2 s)⟩
theorem SetP.put {D : DataW Unit} {S : Int → Prop} (h : SetP D S) (hD : IsMap D) (k : Int) : SetP (D.put (keyI k) (.lit (.bool true))) (fun x => S x ∨ x = k) := fun x z => by
  by_cases e : x = k
  · subst e
    exact ⟨fun _ => atKey_put_same hD (show WideAt.IsKeyLit (.int .i64 x) from trivial) _ _, fun hn => absurd (.inr rfl) hn⟩
  · have ne : keyI x ≠ keyI k := fun h => e (by injection h)
    refine ⟨fun hs => ?_, fun hn => ?_⟩
    · rw [atKey_put_other ne]; exact (h x z).1 (hs.resolve_right e)
    · rw [atKey_put_other ne]; exact (h x z).2 fun s => hn (.inl s)
theorem SetP.has {D : DataW Unit} {S : Int → Prop} (h : SetP D S) (x : Int) : Maps.has D (keyI x) = true ↔ S x := by
  constructor
  · intro e
    apply Classical.byContradiction
    intro hn
    rw [has_false_of_atKey fun z => (h x z).2 hn] at e
    cases e
  · intro s
    exact has_true_of_atKey fun z => (h x z).1 s
theorem keyedI : Keyed Try.prog 3 := int_keyed Try.underlying3
theorem zeroB (w : World) : (zeroValue 4).run Try.prog w = .ok (.bool false) w := by kernel_rfl
def SetM (w : World) (b n : Nat) (S : Int → Prop) : Prop := ∃ D : DataW Unit, w.ownsMap Try.prog 3 (plainElem Try.prog 4) b n D ∧ SetP D S
theorem wf_of {k : Int} (h : 0 ≤ k ∧ k ≤ 1000000) : (Lit.int .i64 k).wf = true := WalkArith.wf_i64 (by omega)
theorem SetM.new (w : World) : SetM (w.alloc (.map #[] 0)) w.heap.size 0 (fun _ => False) := ⟨.map [], World.ownsMap_made w _ _ _, fun x z => ⟨fun h => h.elim, fun _ => rfl⟩⟩
theorem SetM.congr {w : World} {b n : Nat} {S T : Int → Prop} (h : SetM w b n S) (e : ∀ x, T x ↔ S x) : SetM w b n T := by obtain ⟨D, h1, h2⟩ := h; exact ⟨D, h1, h2.congr e⟩
theorem SetM.put {w : World} {b n : Nat} {S : Int → Prop} (h : SetM w b n S) (hn : n < maxLen) {k : Int} (hk : 0 ≤ k ∧ k ≤ 1000000) : ∃ w', (Instr.mapUpdate 112 (.map (some b)) (.int .i64 k) (.bool true)).run Try.prog w = .ok () w' ∧ SetM w' b (n + 1) (fun x => S x ∨ x = k) ∧ w.grownBy w' (some b) := by
  obtain ⟨D, h1, h2⟩ := h
  obtain ⟨w', r1, r2, r3⟩ := h1.update keyedI Try.underlying112 hn (keyOf_int_mk Try.underlying3 (wf_of hk)) (plainElem_bool Try.underlying4 true)
  exact ⟨w', r1, ⟨_, r2, h2.put h1.isMap k⟩, r3⟩
theorem elem_bool {v : Value} {z : DataW Unit × List MemPlace} (h : plainElem Try.prog 4 v = some z) : ∃ c, v = .bool c ∧ z = (.lit (.bool c), []) := by
  have hu := Try.underlying4
  generalize Try.prog = P at hu h
  unfold plainElem at h
  rw [hu] at h
  cases v <;> simp at h
  exact ⟨_, rfl, h.symm⟩
theorem SetM.get {w : World} {b n : Nat} {S : Int → Prop} (h : SetM w b n S) {k : Int} (hk : 0 ≤ k ∧ k ≤ 1000000) : ∃ c, (Instr.lookup 112 (.map (some b)) (.int .i64 k) false).run Try.prog w = .ok (.bool c) w ∧ (c = true ↔ S k) := by
  obtain ⟨D, h1, h2⟩ := h
  obtain ⟨v, ps, r1, r2⟩ := h1.lookup keyedI Try.underlying112 (zeroB w) (plainElem_bool Try.underlying4 false) (keyOf_int_mk Try.underlying3 (wf_of hk))
  obtain ⟨c, rfl, e⟩ := elem_bool r2
  refine ⟨c, r1, ?_⟩
  by_cases s : S k
  · rw [(h2 k _).1 s] at e
    simp only [Prod.mk.injEq, DataW.lit.injEq, Lit.bool.injEq] at e
    exact ⟨fun _ => s, fun _ => e.1.symm⟩
  · rw [(h2 k _).2 s] at e
    simp only [Prod.mk.injEq, DataW.lit.injEq, Lit.bool.injEq] at e
    exact ⟨fun hc => by rw [hc] at e; exact absurd e.1 (by decide), fun h => absurd h s⟩
theorem SetM.lt {w : World} {b n : Nat} {S : Int → Prop} (h : SetM w b n S) : b < w.heap.size := by obtain ⟨D, h1, -⟩ := h; exact h1.lt
theorem SetM.kept {w w' : World} {row : Option Nat} {b n : Nat} {S : Int → Prop} (h : SetM w b n S) (hg : w.grownBy w' row) (hne : some b ≠ row) : SetM w' b n S := by obtain ⟨D, h1, h2⟩ := h; exact ⟨D, h1.kept hg hne, h2⟩
theorem SetM.below {w w' : World} {b n : Nat} {S : Int → Prop} (h : SetM w b n S) (hb : Below w.heap.size w w') : SetM w' b n S := h.kept (row := none) ⟨hb.os, hb.tape, hb.output, hb.size, fun i hi _ => hb.block i hi⟩ (by simp)
/- Sets of pieces in memory, counted; chases that are read. -/
open Classical in
/-- How many pieces a set has. -/
noncomputable def cntS (S : Int → Prop) : Nat := ((List.range 8).filter fun (k : Nat) => decide (S (k : Int))).length
theorem cntS_le (S : Int → Prop) : cntS S ≤ 8 := Nat.le_trans (List.length_filter_le _ _) (by simp)
theorem cntS_congr {S T : Int → Prop} (h : ∀ x, S x ↔ T x) : cntS S = cntS T := by
  have : S = T := by funext x; exact propext (h x)
  rw [this]
open Classical in
theorem filter_one_more {l : List Nat} {a : Nat} {p q : Nat → Prop} (hn : l.Nodup) (ha : a ∈ l) (hp : ¬ p a) (hq : ∀ x, q x ↔ (p x ∨ x = a)) : (l.filter fun x => decide (q x)).length = (l.filter fun x => decide (p x)).length + 1 := by
  induction l with
  | nil => cases ha
  | cons x r ih =>
    rw [List.nodup_cons] at hn
    by_cases e : x = a
    · subst e
      have e2 : (r.filter fun x => decide (q x)) = r.filter fun x => decide (p x) := List.filter_congr fun y hy => by
        have : y ≠ x := fun h => hn.1 (h ▸ hy)
        simp only [decide_eq_decide]
        rw [hq]; simp [this]
      rw [List.filter_cons, List.filter_cons, if_pos (decide_eq_true ((hq x).2 (.inr rfl))), if_neg (by simp [hp]), e2]
      rfl
    · have ih2 := ih hn.2 ((List.mem_cons.1 ha).resolve_left fun h => e h.symm)
      have e2 : decide (q x) = decide (p x) := by
        simp only [decide_eq_decide]
        rw [hq]; simp [e]
      rw [List.filter_cons, List.filter_cons, e2]
      split
      · simp only [List.length_cons, ih2]
      · exact ih2
theorem cntS_put {S : Int → Prop} {k : Int} (hk : 0 ≤ k ∧ k ≤ 7) (hs : ¬ S k) : cntS (fun x => S x ∨ x = k) = cntS S + 1 := by
  obtain ⟨n, rfl⟩ : ∃ n : Nat, k = n := ⟨k.toNat, by omega⟩
  exact filter_one_more (l := List.range 8) (a := n) (p := fun m => S (m : Int)) (q := fun m => S (m : Int) ∨ (m : Int) = n) List.nodup_range (List.mem_range.2 (by omega)) hs fun x => by
    constructor
    · rintro (h | h)
      · exact .inl h
      · exact .inr (by omega)
    · rintro (h | h)
      · exact .inl h
      · exact .inr (by omega)
def SetX (w : World) (b : Nat) (S : Int → Prop) : Prop := ∃ D : DataW Unit, w.ownsMap Try.prog 3 (plainElem Try.prog 4) b (Maps.size D) D ∧ SetP D S ∧ Maps.size D = cntS S
def mapSize (w : World) (b : Nat) : Nat := match w.heap[b]? with
  | some (.map es _) => es.size
  | _ => 0
theorem own_size {w : World} {b n : Nat} {D : DataW Unit} (h : w.ownsMap Try.prog 3 (plainElem Try.prog 4) b n D) : w.ownsMap Try.prog 3 (plainElem Try.prog 4) b (Maps.size D) D ∧ mapSize w b = Maps.size D := by
  obtain ⟨es, clock, hb, F, hs, rfl⟩ := h
  have e : Maps.size (DataW.map ((es.toList.map (WideElems.rg Try.prog 3 (plainElem (H := Unit) Try.prog 4))).foldr DataW.insert [])) = es.size := by simp [Maps.size, length_sorted]
  refine ⟨⟨es, clock, hb, F, Nat.le_of_eq e.symm, rfl⟩, ?_⟩
  unfold mapSize
  rw [hb, e]
section
variable {w w' : World} {b : Nat} {S T : Int → Prop}
theorem SetX.size (h : SetX w b S) : mapSize w b = cntS S := by obtain ⟨D, h1, -, h3⟩ := h; rw [(own_size h1).2, h3]
theorem SetX.toM (h : SetX w b S) : ∃ n, SetM w b n S := by obtain ⟨D, h1, h2, -⟩ := h; exact ⟨_, D, h1, h2⟩
theorem SetX.congr (h : SetX w b S) (e : ∀ x, T x ↔ S x) : SetX w b T := by obtain ⟨D, h1, h2, h3⟩ := h; exact ⟨D, h1, h2.congr e, by rw [h3]; exact cntS_congr fun x => (e x).symm⟩
theorem SetX.lt (h : SetX w b S) : b < w.heap.size := by obtain ⟨D, h1, -⟩ := h; exact h1.lt
theorem SetX.get (h : SetX w b S) {k : Int} (hk : 0 ≤ k ∧ k ≤ 1000000) : ∃ c, (Instr.lookup 112 (.map (some b)) (.int .i64 k) false).run Try.prog w = .ok (.bool c) w ∧ (c = true ↔ S k) := by obtain ⟨n, h⟩ := h.toM; exact h.get hk
theorem SetX.getZ (h : SetX w b S) {k : Int} (hk : -1 ≤ k ∧ k ≤ 1000000) : ∃ c, (Instr.lookup 112 (.map (some b)) (.int .i64 k) false).run Try.prog w = .ok (.bool c) w ∧ (c = true ↔ S k) := by
  obtain ⟨D, h1, h2, -⟩ := h
  obtain ⟨v, ps, r1, r2⟩ := h1.lookup keyedI Try.underlying112 (zeroB w) (plainElem_bool Try.underlying4 false) (keyOf_int_mk Try.underlying3 (WalkArith.wf_i64 (n := k) (by omega)))
  obtain ⟨c, rfl, e⟩ := elem_bool r2
  refine ⟨c, r1, ?_⟩
  by_cases s : S k
  · rw [(h2 k _).1 s] at e
    simp only [Prod.mk.injEq, DataW.lit.injEq, Lit.bool.injEq] at e
    exact ⟨fun _ => s, fun _ => e.1.symm⟩
  · rw [(h2 k _).2 s] at e
    simp only [Prod.mk.injEq, DataW.lit.injEq, Lit.bool.injEq] at e
    exact ⟨fun hc => by rw [hc] at e; exact absurd e.1 (by decide), fun h => absurd h s⟩
theorem SetX.new (w : World) : SetX (w.alloc (.map #[] 0)) w.heap.size (fun _ => False) := by
  refine ⟨.map [], World.ownsMap_made w _ _ _, fun x z => ⟨fun h => h.elim, fun _ => rfl⟩, ?_⟩
  unfold cntS
  rw [List.filter_eq_nil_iff.2 fun x _ => by simp]
  rfl
theorem SetX.at (h : SetX w b S) (e : w'.heap[b]? = w.heap[b]?) : SetX w' b S := by
  obtain ⟨D, ⟨es, clock, h1, h2⟩, h3⟩ := h
  exact ⟨D, ⟨es, clock, e.trans h1, h2⟩, h3⟩
theorem SetX.put (h : SetX w b S) {k : Int} (hk : 0 ≤ k ∧ k ≤ 7) : ∃ w', (Instr.mapUpdate 112 (.map (some b)) (.int .i64 k) (.bool true)).run Try.prog w = .ok () w' ∧ SetX w' b (fun x => S x ∨ x = k) ∧ w.grownBy w' (some b) := by
  obtain ⟨D, h1, h2, h3⟩ := h
  have hc := cntS_le S
  obtain ⟨w', r1, r2, r3⟩ := h1.update keyedI Try.underlying112 (by unfold maxLen; omega) (keyOf_int_mk Try.underlying3 (wf_of (k := k) ⟨by omega, by omega⟩)) (plainElem_bool Try.underlying4 true)
  refine ⟨w', r1, ⟨_, (own_size r2).1, h2.put h1.isMap k, ?_⟩, r3⟩
  rw [size_put (h1.tidy keyedI)]
  by_cases hs : S k
  · rw [if_pos ((h2.has k).2 hs), h3]
    exact cntS_congr fun x => ⟨.inl, fun h => h.elim id fun e => by rw [e]; exact hs⟩
  · rw [if_neg (fun h => hs ((h2.has k).1 h)), h3, cntS_put hk hs]
end
theorem ints_at {w : World} {I : Nat → Prop} {v : Value} {l : List Int} (h : RepI w I (.isl 1 (rows cInt l)) v) : ∃ A c, v = .slice A l.length c ∧ (0 < l.length → ∃ g o, A = some ⟨g, o, none⟩ ∧ ∀ (i : Nat) n, l[i]? = some n → w.cell? ⟨g, o + i, none⟩ = some (.int .i64 n)) := by
  by_cases hl : l = []
  · subst hl
    rw [rows_nil] at h
    obtain ⟨a, c, e⟩ := isl_shape h
    exact ⟨a, c, e, fun h => absurd h (Nat.lt_irrefl _)⟩
  · obtain ⟨g, o, c, e, hc⟩ := row_of h hl
    exact ⟨_, c, e, fun _ => ⟨g, o, rfl, hc⟩⟩
/-- What a pass over the places has done so far: up to row y, place x. -/
structure PassX (W H : Nat) (G : Grid) (rows : List Int) (S0 S : Int → Prop) (a : Bool) (y x : Nat) : Prop where
  more : ∀ n, S0 n → S n
  ok : ∀ n, S n → prsR W H G rows n
  still : a = false → (∀ n, S n ↔ S0 n) ∧ ∀ y' x', (y' < y ∨ y' = y ∧ x' < x) → y' < H → x' + 1 < W → 0 ≤ G y' x' → S0 (G y' (x' + 1)) → S0 (G y' x')
  grew : a = true → cntS S0 < cntS S
section
variable {W H : Nat} {G : Grid} {rows : List Int} {S0 S : Int → Prop} {a : Bool} {y x : Nat}
theorem PassX.start (h : ∀ n, S0 n → prsR W H G rows n) : PassX W H G rows S0 S0 false 0 0 := ⟨fun _ h => h, h, fun _ => ⟨fun _ => Iff.rfl, fun y' x' h => by omega⟩, fun h => by cases h⟩
theorem PassX.row (h : PassX W H G rows S0 S a y x) (hx : W ≤ x + 1) : PassX W H G rows S0 S a (y + 1) 0 := by
  refine ⟨h.more, h.ok, fun e => ⟨(h.still e).1, fun y' x' hy h1 h2 => (h.still e).2 y' x' ?_ h1 h2⟩, h.grew⟩
  rcases hy with hy | ⟨-, hy⟩
  · by_cases e2 : y' = y
    · exact .inr ⟨e2, by omega⟩
    · exact .inl (by omega)
  · omega
/-- Nothing is pressed anew here. -/
theorem PassX.skip (h : PassX W H G rows S0 S a y x) (hn : 0 ≤ G y x → S (G y (x + 1)) → S (G y x)) : PassX W H G rows S0 S a y (x + 1) := by
  refine ⟨h.more, h.ok, fun e => ⟨(h.still e).1, fun y' x' hy h1 h2 h3 h4 => ?_⟩, h.grew⟩
  obtain ⟨e1, e2⟩ := h.still e
  by_cases e3 : y' = y ∧ x' = x
  · obtain ⟨rfl, rfl⟩ := e3
    exact (e1 _).1 (hn h3 ((e1 _).2 h4))
  · exact e2 y' x' (by omega) h1 h2 h3 h4
/-- A piece more is pressed. -/
theorem PassX.press (h : PassX W H G rows S0 S a y x) (hy : y < H) (hx : x + 1 < W) (h0 : 0 ≤ G y x ∧ G y x ≤ 7) (h1 : S (G y (x + 1))) (h2 : ¬ S (G y x)) : PassX W H G rows S0 (fun n => S n ∨ n = G y x) true y (x + 1) := by
  refine ⟨fun n hn => .inl (h.more n hn), fun n hn => ?_, fun e => Bool.noConfusion e, fun _ => ?_⟩
  · rcases hn with hn | rfl
    · exact h.ok n hn
    · exact .step h0.1 ⟨y, x, ⟨hy, hx⟩, rfl, rfl⟩ (h.ok _ h1)
  · rw [cntS_put h0 h2]
    cases a with
    | true => have := h.grew rfl; omega
    | false => rw [cntS_congr (h.still rfl).1]; omega
/-- A whole pass without a new one: all are found. -/
theorem PassX.done (h : PassX W H G rows S0 S false H 0) (hs : ∀ n, startR W H G rows n → S0 n) (n : Int) : S n ↔ prsR W H G rows n := by
  obtain ⟨e1, e2⟩ := h.still rfl
  refine ⟨h.ok n, fun hp => ?_⟩
  refine Prs.least (S := S) (fun n hn => (e1 n).2 (hs n hn)) (fun n k h0 ha hk => ?_) hp
  obtain ⟨y, x, ⟨hy, hx⟩, rfl, rfl⟩ := ha
  exact (e1 _).2 (e2 y x (.inl hy) hy hx h0 ((e1 _).1 hk))
end
def flagN : Value → Nat
  | .bool true => 1
  | _ => 0
theorem start_next {W H : Nat} {G : Grid} {rows : List Int} {i : Nat} {y : Int} (hy : rows[i]? = some y) (n : Int) : startR W H G (rows.take (i + 1)) n ↔ startR W H G (rows.take i) n ∨ (0 ≤ n ∧ n = G y.toNat (W - 1)) := by
  unfold startR
  rw [List.take_add_one, hy]
  constructor
  · rintro ⟨h0, z, hz, e⟩
    rcases List.mem_append.1 hz with hz | hz
    · exact .inl ⟨h0, z, hz, e⟩
    · have : z = y := by simpa using hz
      subst this
      exact .inr ⟨h0, e.symm⟩
  · rintro (⟨h0, z, hz, e⟩ | ⟨h0, e⟩)
    · exact ⟨h0, z, List.mem_append.2 (.inl hz), e⟩
    · exact ⟨h0, y, List.mem_append.2 (.inr (by simp)), e.symm⟩
set_option maxHeartbeats 4000000 in
set_option maxRecDepth 1000000 in
theorem press_walk (W H : Nat) (hW : 1 ≤ W ∧ W ≤ 8) (hH : 1 ≤ H ∧ H ≤ 8) (G : Grid) (sg : smallG W H G) (rows : List Int) (hr : ∀ y ∈ rows, 0 ≤ y ∧ y < H) (hrl : rows.length ≤ 100) (vg vr : Value) (w : World) (hg : GridAt w vg (tabG W H G))
    (hv : ∃ A c, vr = .slice A rows.length c ∧ (0 < rows.length → ∃ g o, A = some ⟨g, o, none⟩ ∧ ∀ (i : Nat) n, rows[i]? = some n → w.cell? ⟨g, o + i, none⟩ = some (.int .i64 n))) :
    Calls Try.prog 138 #[vg, vr] w fun e w' => ∃ b, e = .returned (.map (some b)) ∧ SetX w' b (prsR W H G rows) ∧ w.heap.size ≤ b ∧ Below w.heap.size w w' := by
  obtain ⟨A, vc, rfl, hA⟩ := hv
  obtain ⟨g0, o0, c0, rfl, hgr⟩ := hg
  rw [tabG_length]
  have hG : ∀ y, y < H → ∃ g o c, w.cell? ⟨g0, o0 + y, none⟩ = some (.slice (some ⟨g, o, none⟩) W c) ∧ ∀ x, x < W → w.cell? ⟨g, o + x, none⟩ = some (.int .i64 (G y x)) := fun y hy => by
    obtain ⟨u, hu, g, o, c, rfl, hc⟩ := hgr y _ (tabG_at hy)
    rw [row_length] at hu
    exact ⟨g, o, c, hu, fun x hx => hc x _ (row_at hx)⟩
  have HG := Lib.hid hG
  clear hG
  have HA := Lib.hid hA
  clear hgr hA
  have hmm := @run_makeMap Try.prog
  have s1 := SetX.new w
  have q1 := alloc_below w (.map #[] 0)
  go_enter Try.func138, Try.ntmps138
  go_wp2
  generalize w.alloc (.map #[] 0) = w1 at s1 q1
  have hbl : ∀ k, k < w.heap.size → k ≠ w.heap.size := fun k h => by omega
  go_loopw [16] (fun u wr => ∃ i : Nat, u = .int .i64 (i : Int) ∧ i ≤ rows.length ∧ SetX wr w.heap.size (startR W H G (rows.take i)) ∧ Below w.heap.size w wr) (fun u _ => rows.length - (intOf u).toNat)
  case atStart =>
    refine ⟨0, rfl, Nat.zero_le _, s1.congr fun x => ⟨?_, fun h => h.elim⟩, q1⟩
    rintro ⟨-, y, hy, -⟩
    cases hy
  case round =>
    obtain ⟨i, rfl, hi, hS, hB⟩ := hrel
    by_cases hin : i < rows.length
    · obtain ⟨yy, hy⟩ : ∃ y, rows[i]? = some y := ⟨_, List.getElem?_eq_getElem hin⟩
      obtain ⟨ga, oa, rfl, hac⟩ := HA.out (by omega)
      have hyb := hr yy (List.mem_of_getElem? hy)
      obtain ⟨y, rfl⟩ : ∃ y : Nat, yy = y := ⟨yy.toNat, by omega⟩
      obtain ⟨gr, or_, cr, hrow, hcell⟩ := HG.out y (by omega)
      have cy := cell_old hB (hac i _ hy)
      have crow := cell_old hB hrow
      have cn := cell_old hB (hcell (W - 1) (by omega))
      have ew : ((W : Int) - 1) = ((W - 1 : Nat) : Int) := by omega
      have wW : IntKind.i64.wrap ((W : Int) - 1) = (W : Int) - 1 := wrap64 (by omega) (by omega)
      clear hac hcell hrow
      have sn := sg y (W - 1)
      have hst := fun n => start_next (W := W) (H := H) (G := G) hy n
      simp only [Int.toNat_natCast] at hst
      have HST := Lib.hid hst
      clear hst
      obtain ⟨nm, hnm⟩ : ∃ nm, nm = G y (W - 1) := ⟨_, rfl⟩
      rw [← hnm] at cn sn
      have HNM := Lib.hid hnm
      clear hnm
      by_cases hfree : nm = -1
      · go_wp2
        go_region
        all_goals go_wp2
        all_goals
          refine ⟨⟨i + 1, rfl, by omega, hS.congr fun n => ?_, hB.drew⟩, ?_⟩
          · rw [HST.out, ← HNM.out]
            constructor
            · rintro (h | h)
              · exact h
              · omega
            · exact .inl
          · simp only [intOf]; omega
      · have hdr : SetX wr.drew w.heap.size (startR W H G (rows.take i)) := hS
        obtain ⟨w5, E5, S5, g5⟩ := hdr.put (k := nm) (by omega)
        have b5 : Below w.heap.size w w5 := hB.drew.grown g5 hB.drew.size fun k hk => by cases hk; exact Nat.le_refl _
        go_wp2
        go_region
        all_goals go_wp2
        all_goals
          refine ⟨⟨i + 1, rfl, by omega, S5.congr fun n => ?_, b5⟩, ?_⟩
          · rw [HST.out, ← HNM.out]
            constructor
            · rintro (h | h)
              · exact .inl h
              · exact .inr h.2
            · rintro (h | h)
              · exact .inl h
              · exact .inr ⟨by omega, h⟩
          · simp only [intOf]; omega
    · obtain rfl : i = rows.length := by omega
      rw [List.take_length] at hS
      have HB0 := Lib.hid hB
      go_wp2
      go_loopw [9] (fun ag wq => ∃ (a : Bool) (S : Int → Prop), ag = .bool a ∧ SetX wq w.heap.size S ∧ (∀ n, startR W H G rows n → S n) ∧ (∀ n, S n → prsR W H G rows n) ∧ (a = false → ∀ n, S n ↔ prsR W H G rows n) ∧ Below w.heap.size w wq) (fun ag wq => 2 * (9 - mapSize wq w.heap.size) + flagN ag)
      case atStart => exact ⟨true, _, rfl, hS, fun _ h => h, fun _ h => .base h, fun h => (by cases h), hB⟩
      case round =>
        obtain ⟨a, S0, rfl, hS0, hst0, hok0, hdn0, hB1⟩ := hrel
        cases a with
        | false =>
          have HD := Lib.hid (hdn0 rfl)
          clear hdn0
          go_wp2
          go_ret
          exact ⟨w.heap.size, rfl, hS0.congr fun n => (HD.out n).symm, Nat.le_refl _, hB1⟩
        | true =>
          have HS0 := Lib.hid hS0
          have HST0 := Lib.hid hst0
          have HOK0 := Lib.hid hok0
          have hsz := Lib.hid hS0.size
          clear hdn0 hst0 hok0
          go_wp2
          go_loopw [9, 40] (fun ag u wq => ∃ (a : Bool) (y : Nat) (S : Int → Prop), ag = .bool a ∧ u = .int .i64 (y : Int) ∧ y ≤ H ∧ SetX wq w.heap.size S ∧ PassX W H G rows S0 S a y 0 ∧ Below w.heap.size w wq) (fun _ u _ => H - (intOf u).toNat)
          case atStart => exact ⟨false, 0, S0, rfl, rfl, Nat.zero_le _, hS0, PassX.start HOK0.out, hB1⟩
          case round =>
            obtain ⟨a, y, S, rfl, rfl, hyH, hS1, hP1, hB2⟩ := hrel
            by_cases hy : y < H
            · obtain ⟨gr, or_, cr, hrow, hcell⟩ := HG.out y hy
              have crow := cell_old hB2 hrow
              have HC := Lib.hid hcell
              clear hcell hrow
              go_wp2
              go_loopw [9, 12] (fun ag u wq => ∃ (a : Bool) (x : Nat) (S : Int → Prop), ag = .bool a ∧ u = .int .i64 (x : Int) ∧ x + 1 ≤ W ∧ SetX wq w.heap.size S ∧ PassX W H G rows S0 S a y x ∧ Below w.heap.size w wq) (fun _ u _ => W - (intOf u).toNat)
              case atStart => exact ⟨a, 0, S, rfl, rfl, by omega, hS1, hP1, hB2⟩
              case round =>
                obtain ⟨a2, x, S2, rfl, rfl, hxW, hS2, hP2, hB3⟩ := hrel
                have wx : IntKind.i64.wrap ((x : Int) + 1) = (x : Int) + 1 := wrap64 (by omega) (by omega)
                by_cases hx : x + 1 < W
                · have cm := cell_old hB3 (HC.out x (by omega))
                  have ck := cell_old hB3 (HC.out (x + 1) hx)
                  have sm := sg y x
                  have sk := sg y (x + 1)
                  obtain ⟨mm, hmm2⟩ : ∃ mm, mm = G y x := ⟨_, rfl⟩
                  obtain ⟨kk, hkk⟩ : ∃ kk, kk = G y (x + 1) := ⟨_, rfl⟩
                  rw [← hmm2] at cm sm
                  rw [← hkk] at ck sk
                  have ck2 : wr.cell? ⟨gr, or_ + x + 1, none⟩ = some (.int .i64 kk) := ck
                  have HM := Lib.hid hmm2
                  have HK := Lib.hid hkk
                  clear hmm2 hkk
                  obtain ⟨c1, E1, hc1⟩ := hS2.getZ (k := kk) ⟨by omega, by omega⟩
                  obtain ⟨c2, E2, hc2⟩ := hS2.getZ (k := mm) ⟨by omega, by omega⟩
                  have HC1 := Lib.hid hc1
                  have HC2 := Lib.hid hc2
                  clear hc1 hc2
                  by_cases hfree : mm = -1
                  · have hsk := hP2.skip fun h _ => by have := HM.out; omega
                    go_wp2
                    refine ⟨⟨a2, x + 1, S2, rfl, by simp, by omega, hS2, hsk, hB3⟩, ?_⟩
                    simp only [intOf]; omega
                  · cases c1 with
                    | false =>
                      have hsk := hP2.skip fun _ h => by rw [← HK.out] at h; exact absurd (HC1.out.2 h) (by decide)
                      go_wp2
                      refine ⟨⟨a2, x + 1, S2, rfl, by simp, by omega, hS2, hsk, hB3⟩, ?_⟩
                      simp only [intOf]; omega
                    | true =>
                      cases c2 with
                      | true =>
                        have hsk := hP2.skip fun _ _ => by rw [← HM.out]; exact HC2.out.1 rfl
                        go_wp2
                        refine ⟨⟨a2, x + 1, S2, rfl, by simp, by omega, hS2, hsk, hB3⟩, ?_⟩
                        simp only [intOf]; omega
                      | false =>
                        have hpr := hP2.press hy hx (by rw [← HM.out]; omega) (by rw [← HK.out]; exact HC1.out.1 rfl) (fun h => by rw [← HM.out] at h; exact absurd (HC2.out.2 h) (by decide))
                        rw [← HM.out] at hpr
                        obtain ⟨w5, E5, S5, g5⟩ := hS2.put (k := mm) (by omega)
                        have b5 : Below w.heap.size w w5 := hB3.grown g5 hB3.size fun k hk => by cases hk; exact Nat.le_refl _
                        go_wp2
                        refine ⟨⟨true, x + 1, _, rfl, by simp, by omega, S5, hpr, b5⟩, ?_⟩
                        simp only [intOf]; omega
                · have hrow2 := hP2.row (show W ≤ x + 1 by omega)
                  go_wp2
                  refine ⟨⟨a2, y + 1, S2, rfl, by simp, by omega, hS2, hrow2, hB3⟩, ?_⟩
                  simp only [intOf]; omega
            · obtain rfl : y = H := by omega
              go_wp2
              have hc8 := cntS_le S
              have hm2 := hS1.size
              have hm0 := hsz.out
              refine ⟨⟨a, S, rfl, hS1, fun n h => hP1.more n (HST0.out n h), hP1.ok, fun e => ?_, hB2⟩, ?_⟩
              · subst e
                exact hP1.done HST0.out
              · rw [hm2, hm0]
                cases a with
                | true => have := hP1.grew rfl; simp only [flagN]; omega
                | false => rw [cntS_congr (hP1.still rfl).1]; simp only [flagN]; omega

/- impl.turned: rows and columns exchanged, by the kit's walk. -/
theorem tab_congr2 {W H : Nat} {G G2 : Grid} (h : ∀ y x, y < H → x < W → G y x = G2 y x) : tabG W H G = tabG W H G2 := by
  unfold tabG
  apply List.map_congr_left
  intro y hy
  apply List.map_congr_left
  intro x hx
  exact h y x (List.mem_range.1 hy) (List.mem_range.1 hx)
/-- The turned chase as far as it is written: columns below y, and of column y the rows below x. -/
def wipT (G : Grid) (y x : Nat) : Grid := fun r c => if c < y ∨ c = y ∧ r < x then G c r else -1
theorem wipT_start (G : Grid) (W H : Nat) : tabG H W (wipT G 0 0) = tabG H W noG := tab_congr2 fun r c _ _ => by unfold wipT noG; rw [if_neg (by omega)]
theorem wipT_set (G : Grid) (W H y x : Nat) : tabG H W (updG (wipT G y x) x y (G y x)) = tabG H W (wipT G y (x + 1)) := tab_congr2 fun r c _ _ => by
  unfold updG wipT
  by_cases h : r = x ∧ c = y
  · obtain ⟨rfl, rfl⟩ := h
    rw [if_pos ⟨rfl, rfl⟩, if_pos (by omega)]
  · rw [if_neg h]
    by_cases h2 : c < y ∨ c = y ∧ r < x
    · rw [if_pos h2, if_pos (by omega)]
    · rw [if_neg h2, if_neg (by omega)]
theorem wipT_row (G : Grid) (W H y : Nat) : tabG H W (wipT G y W) = tabG H W (wipT G (y + 1) 0) := tab_congr2 fun r c hr hc => by
  unfold wipT
  by_cases h : c < y + 1
  · rw [if_pos (by omega), if_pos (by omega)]
  · rw [if_neg (by omega), if_neg (by omega)]
theorem wipT_end (G : Grid) (W H : Nat) : tabG H W (wipT G H 0) = tabG H W (turnG G) := tab_congr2 fun r c hr hc => by
  unfold wipT turnG; rw [if_pos (by omega)]
set_option maxHeartbeats 4000000 in
set_option maxRecDepth 1000000 in
theorem turn_walk (W H : Nat) (hW : 1 ≤ W ∧ W ≤ 8) (hH : 1 ≤ H ∧ H ≤ 8) (G : Grid) (vg : Value) (w : World) (hg : GridAt w vg (tabG W H G)) :
    Calls Try.prog 99 #[vg] w fun e w' => ∃ (t : Nat × Nat) (bs : List (Nat × Nat)), e = .returned (.slice (some ⟨t.1, 0, none⟩) W t.2) ∧ GridI w' w.heap.size t bs H (tabG H W (turnG G)) ∧ Below w.heap.size w w' := by
  obtain ⟨g0, o0, c0, rfl, hgr⟩ := hg
  rw [tabG_length]
  have hG : ∀ y, y < H → ∃ g o c, w.cell? ⟨g0, o0 + y, none⟩ = some (.slice (some ⟨g, o, none⟩) W c) ∧ ∀ x, x < W → w.cell? ⟨g, o + x, none⟩ = some (.int .i64 (G y x)) := fun y hy => by
    obtain ⟨u, hu, g, o, c, rfl, hc⟩ := hgr y _ (tabG_at hy)
    rw [row_length] at hu
    exact ⟨g, o, c, hu, fun x hx => hc x _ (row_at hx)⟩
  obtain ⟨g1, o1, c1, h01, -⟩ := hG 0 (by omega)
  rw [Nat.add_zero] at h01
  have HG := Lib.hid hG
  clear hG hgr
  have EW := fun V => empty_walk H W hH hW V
  go_enter Try.func99, Try.ntmps99
  go_wp2_with (go_at_call 81; refine (EW _).mono ?_; rintro e w5 ⟨t, bs, rfl, g5, b5⟩; refine Hid.out ?_)
  refine Lib.hid ?_
  clear h01
  go_wp2
  rw [← wipT_start G W H] at g5
  go_loopw [17] (fun u wr => ∃ y : Nat, u = .int .i64 (y : Int) ∧ y ≤ H ∧ GridI wr w.heap.size t bs H (tabG H W (wipT G y 0)) ∧ Below w.heap.size w wr) (fun u _ => H - (intOf u).toNat)
  case atStart => exact ⟨0, rfl, Nat.zero_le _, g5, b5⟩
  case round =>
    obtain ⟨y, rfl, hyH, hI, hB⟩ := hrel
    by_cases hy : y < H
    · obtain ⟨gr, or_, cr, hrow, hcell⟩ := HG.out y hy
      have crow := cell_old hB hrow
      have HC := Lib.hid hcell
      clear hcell hrow
      go_wp2
      go_loopw [24] (fun u wq => ∃ x : Nat, u = .int .i64 (x : Int) ∧ x ≤ W ∧ GridI wq w.heap.size t bs H (tabG H W (wipT G y x)) ∧ Below w.heap.size w wq) (fun u _ => W - (intOf u).toNat)
      case atStart => exact ⟨0, rfl, Nat.zero_le _, hI, hB⟩
      case round =>
        obtain ⟨x, rfl, hxW, hI2, hB2⟩ := hrel
        by_cases hx : x < W
        · have cm := cell_old hB2 (HC.out x hx)
          obtain ⟨bk, hbk, cT, rI, -⟩ := hI2.at_row (tabG_at hx)
          have cR := rI.cell (row_at hy)
          have fR := rI.free y
          have hgs := hI2.set hbk (tabG_at hx) (by rw [row_length]; exact hy) (G y x)
          rw [tabG_set hx, wipT_set] at hgs
          have hb2 := hI2.low.2 bk (List.mem_of_getElem? hbk)
          obtain ⟨mm, hmm2⟩ : ∃ mm, mm = G y x := ⟨_, rfl⟩
          rw [← hmm2] at cm hgs
          have hBs : Below w.heap.size w (wr.setCell ⟨bk.1, y, none⟩ (.int .i64 mm)) := hB2.trans ⟨rfl, rfl, rfl, by simp [World.setCell], fun k hk => heap_setCell_other wr ⟨bk.1, y, none⟩ k _ (by show k ≠ bk.1; omega)⟩
          clear hmm2
          go_wp2
          refine ⟨⟨x + 1, by simp, by omega, hgs, hBs⟩, ?_⟩
          simp only [intOf]; omega
        · obtain rfl : x = W := by omega
          rw [wipT_row] at hI2
          go_wp2
          refine ⟨⟨y + 1, by simp, by omega, hI2, hB2⟩, ?_⟩
          simp only [intOf]; omega
    · obtain rfl : y = H := by omega
      rw [wipT_end] at hI
      go_wp2
      go_ret
      exact ⟨t, bs, rfl, hI, hB⟩
theorem GridI.plain {w : World} {B n : Nat} {t : Nat × Nat} {bs : List (Nat × Nat)} {gr : List (List Int)} (h : GridI w B t bs n gr) : plain w t.1 ∧ ∀ b ∈ bs, plain w b.1 := by
  obtain ⟨cur, h1, -⟩ := h.top
  refine ⟨⟨cur, _, h1⟩, fun b hb => ?_⟩
  obtain ⟨y, hy⟩ := List.getElem?_of_mem hb
  have hl := (List.getElem?_eq_some_iff.1 hy).1
  obtain ⟨c2, h2, -⟩ := (h.rows y b (gr[y]'(by rw [h.len]; exact hl)) hy (List.getElem?_eq_getElem _)).1
  exact ⟨c2, _, h2⟩
theorem turn_small {W H : Nat} {G : Grid} (h : smallG W H G) : smallG H W (turnG G) := fun y x => h x y
theorem turned_ok (grid : List (List Int)) (W H : Nat) (G : Grid) (hgr : grid = tabG W H G) (hW : 1 ≤ W ∧ W ≤ 8) (hH : 1 ≤ H ∧ H ≤ 8) (sg : smallG W H G) : OkA Try.prog 99 [.isl 1 (rows (cSl 1 cInt) grid)] (· = .isl 1 (rows (cSl 1 cInt) (tabG H W (turnG G)))) := by
  subst hgr
  refine ⟨⟨_, Try.func99, rfl, rfl⟩, fun w I vs hI hargs => ?_⟩
  obtain ⟨vg, rfl, hr⟩ : ∃ vg, vs = [vg] ∧ RepI w I (.isl 1 (rows (cSl 1 cInt) (tabG W H G))) vg := by
    cases hargs with
    | cons h1 t => cases t; cases h1 with
      | one h1 => exact ⟨_, rfl, h1⟩
  have hg : GridAt w vg (tabG W H G) := grid_of hr (by intro e; have := congrArg List.length e; rw [tabG_length] at this; simp at this; omega) fun r hr e => by
    obtain ⟨y, hy⟩ := List.getElem?_of_mem hr
    have hyH := (List.getElem?_eq_some_iff.1 hy).1
    rw [tabG_length] at hyH
    rw [tabG_at hyH] at hy
    have := congrArg List.length (Option.some.inj hy)
    rw [row_length, e] at this
    simp at this; omega
  refine (turn_walk W H hW hH G vg w hg).mono ?_
  rintro e w' ⟨t, bs, rfl, hG, hbl⟩
  have hp := hG.plain
  have hlt := hG.lt
  have hrep := hG.rep (Q := fun g => (((true : Bool) = true ∧ I g) ∨ w.heap.size ≤ g) ∧ g < w'.heap.size ∧ g ∉ ([] : List Nat) ∧ (w.heap.size ≤ g → plain w' g)) (fun r hr x hx => by
    have := tabG_small (turn_small sg) r hr x hx
    exact wrap64 (by omega) (by omega)) ⟨⟨.inr hG.low.1, hlt.1, by simp, fun _ => hp.1⟩, fun b hb => ⟨.inr (hG.low.2 b hb), hlt.2 b hb, by simp, fun _ => hp.2 b hb⟩⟩
  rw [tabG_length] at hrep
  exact ⟨_, _, [], rfl, rfl, hbl, List.nodup_nil, (fun g hg => by cases hg), .one (.imm hrep)⟩

/- impl.loose: pieces that are not pressed from both sides, by the kit's walk. -/
theorem OwnI.repN {w : World} {B : Nat} {v : Value} {o : List Int} (h : OwnI w B v o) (hx : ∀ x ∈ o, IntKind.i64.wrap x = x) : RepI w (fun g => B ≤ g ∧ g < w.heap.size ∧ plain w g) (.isl 1 (rows cInt o)) v := by
  by_cases ho : o = []
  · subst ho
    rw [rows_nil]
    obtain ⟨-, ⟨rfl, -⟩ | ⟨g, cap, cur, rfl, hb, hg, h1, h2, -⟩⟩ := h
    · exact .isl0 _ _ _ (Nat.zero_le _)
    · exact .isl0 _ _ _ h2
  · obtain ⟨b, rfl, hr, hb⟩ := h.rowI ho
    obtain ⟨cur, h1, -⟩ := id hr
    exact hr.rep hx ⟨hb, hr.lt, ⟨cur, _, h1⟩⟩
theorem GridI.at {w : World} {B n : Nat} {t : Nat × Nat} {bs : List (Nat × Nat)} {gr : List (List Int)} (h : GridI w B t bs n gr) : GridAt w (.slice (some ⟨t.1, 0, none⟩) gr.length t.2) gr := by
  refine ⟨t.1, 0, t.2, rfl, fun y r hr => ?_⟩
  obtain ⟨b, hb, hc, hR, hl⟩ := h.at_row hr
  refine ⟨_, by rw [Nat.zero_add]; exact hc, b.1, 0, b.2, by rw [hl], fun x n hx => by rw [Nat.zero_add]; exact hR.cell hx⟩
theorem GridAt.old {w w' : World} {v : Value} {gr : List (List Int)} (h : GridAt w v gr) (hb : Below w.heap.size w w') : GridAt w' v gr := by
  obtain ⟨g, o, c, e, h1⟩ := h
  refine ⟨g, o, c, e, fun y r hr => ?_⟩
  obtain ⟨u, hu, g2, o2, c2, e2, h2⟩ := h1 y r hr
  exact ⟨u, cell_old hb hu, g2, o2, c2, e2, fun x n hx => cell_old hb (h2 x n hx)⟩
theorem plc_cells {w : World} {I : Nat → Prop} : ∀ {ps : List Plc} {vs : List Value}, RepIs w I (ps.map cPlaced).flatten vs → ∀ (i : Nat) p, ps[i]? = some p → (vs[i * 4]? = some (.int .i64 p.1) ∧ vs[i * 4 + 1]? = some (.int .i64 p.2.1)) ∧ vs[i * 4 + 2]? = some (.int .i64 p.2.2.1) ∧ vs[i * 4 + 3]? = some (.bool p.2.2.2)
  | [], _, _, i, p, h => by simp at h
  | q :: r, vs, h, i, p, hi => by
    simp only [List.map_cons, List.flatten_cons, cPlaced, List.cons_append, List.nil_append] at h
    cases h with
    | cons h1 h => cases h with
      | cons h2 h => cases h with
        | cons h3 h => cases h with
          | cons h4 h =>
            cases h1
            cases h2
            cases h3
            cases h4
            cases i with
            | zero => simp at hi; subst hi; exact ⟨⟨rfl, rfl⟩, rfl, rfl⟩
            | succ i =>
              have := plc_cells h i p (by simpa using hi)
              rw [show (i + 1) * 4 = i * 4 + 4 by omega]
              exact this
theorem placed_at {w : World} {I : Nat → Prop} {v : Value} {ps : List Plc} (h : RepI w I (.isl 4 (rows cPlaced ps)) v) : ∃ A c, v = .slice A ps.length c ∧ (0 < ps.length → ∃ g o, A = some ⟨g, o, none⟩ ∧ ∀ (i : Nat) p, ps[i]? = some p → (w.cell? ⟨g, o + i * 4, none⟩ = some (.int .i64 p.1) ∧ w.cell? ⟨g, o + i * 4 + 1, none⟩ = some (.int .i64 p.2.1)) ∧ w.cell? ⟨g, o + i * 4 + 2, none⟩ = some (.int .i64 p.2.2.1) ∧ w.cell? ⟨g, o + i * 4 + 3, none⟩ = some (.bool p.2.2.2)) := by
  rw [rows_eq] at h
  generalize hes : ps.map cPlaced = es at h
  cases h with
  | isl0 sz A c hm =>
    rw [List.map_eq_nil_iff.1 hes]
    exact ⟨A, c, rfl, fun h => absurd h (Nat.lt_irrefl _)⟩
  | isl sz es g o c vs hl hr hI hcell hc hm =>
    subst hes
    refine ⟨_, c, by rw [List.length_map], fun _ => ⟨g, o, rfl, fun i p hi => ?_⟩⟩
    obtain ⟨⟨a, b⟩, d, e⟩ := plc_cells hr i p hi
    exact ⟨⟨hcell _ _ a, by rw [Nat.add_assoc]; exact hcell _ _ b⟩, by rw [Nat.add_assoc]; exact hcell _ _ d, by rw [Nat.add_assoc]; exact hcell _ _ e⟩
theorem new_cellN (w : World) (n : Int) (k : Nat) (hk : k = w.heap.size) : ∀ j u, ([Value.int .i64 n] : List Value)[j]? = some u → (w.alloc (.cells #[.int .i64 n] 3)).cell? ((⟨k, 0, none⟩ : Addr).add j) = some u := by subst hk; exact new_cell w n
theorem loose_take {W H : Nat} {G : Grid} {pl : List Plc} {rows cols : List Int} {i : Nat} {p : Plc} (h : pl[i]? = some p) : looseF W H G (pl.take (i + 1)) rows cols = looseF W H G (pl.take i) rows cols ++ if heldB W H G rows cols p.1 = true then [] else [p.1] := by
  unfold looseF
  rw [List.take_add_one, h, List.filter_append, List.map_append]
  congr 1
  cases hh : heldB W H G rows cols p.1 <;> simp [hh]
theorem loose_len (W H : Nat) (G : Grid) (pl : List Plc) (rows cols : List Int) : (looseF W H G pl rows cols).length ≤ pl.length := by
  unfold looseF; rw [List.length_map]; exact List.length_filter_le _ _
set_option maxHeartbeats 4000000 in
set_option maxRecDepth 1000000 in
theorem loose_walk (W H : Nat) (hW : 1 ≤ W ∧ W ≤ 8) (hH : 1 ≤ H ∧ H ≤ 8) (G : Grid) (sg : smallG W H G) (placed : List Plc) (hpl : ∀ p ∈ placed, 0 ≤ p.1 ∧ p.1 ≤ 7) (hpn : placed.length ≤ 100) (rows cols : List Int) (hr : ∀ y ∈ rows, 0 ≤ y ∧ y < H) (hrl : rows.length ≤ 100) (hc : ∀ x ∈ cols, 0 ≤ x ∧ x < W) (hcl : cols.length ≤ 100)
    (vg vp vr vc : Value) (w : World) (hg : GridAt w vg (tabG W H G))
    (hp : ∃ A c, vp = .slice A placed.length c ∧ (0 < placed.length → ∃ g o, A = some ⟨g, o, none⟩ ∧ ∀ (i : Nat) p, placed[i]? = some p → (w.cell? ⟨g, o + i * 4, none⟩ = some (.int .i64 p.1) ∧ w.cell? ⟨g, o + i * 4 + 1, none⟩ = some (.int .i64 p.2.1)) ∧ w.cell? ⟨g, o + i * 4 + 2, none⟩ = some (.int .i64 p.2.2.1) ∧ w.cell? ⟨g, o + i * 4 + 3, none⟩ = some (.bool p.2.2.2)))
    (hvr : ∃ A c, vr = .slice A rows.length c ∧ (0 < rows.length → ∃ g o, A = some ⟨g, o, none⟩ ∧ ∀ (i : Nat) n, rows[i]? = some n → w.cell? ⟨g, o + i, none⟩ = some (.int .i64 n)))
    (hvc : ∃ A c, vc = .slice A cols.length c ∧ (0 < cols.length → ∃ g o, A = some ⟨g, o, none⟩ ∧ ∀ (i : Nat) n, cols[i]? = some n → w.cell? ⟨g, o + i, none⟩ = some (.int .i64 n))) :
    Calls Try.prog 93 #[vg, vp, vr, vc] w fun e w' => ∃ v, e = .returned v ∧ OwnI w' w.heap.size v (looseF W H G placed rows cols) ∧ Below w.heap.size w w' := by
  have P1 := press_walk W H hW hH G sg rows hr hrl vg vr w hg hvr
  have T1 : ∀ w1, Below w.heap.size w w1 → Calls Try.prog 99 #[vg] w1 _ := fun w1 h1 => turn_walk W H hW hH G vg w1 (hg.old h1)
  have P2 : ∀ (w2 : World) (t : Nat × Nat) (bs : List (Nat × Nat)) (B : Nat), Below w.heap.size w w2 → GridI w2 B t bs H (tabG H W (turnG G)) → Calls Try.prog 138 #[.slice (some ⟨t.1, 0, none⟩) W t.2, vc] w2 _ := fun w2 t bs B h2 hI =>
    press_walk H W hH hW (turnG G) (turn_small sg) cols hc hcl (.slice (some ⟨t.1, 0, none⟩) W t.2) vc w2 (by have := hI.at; rw [tabG_length] at this; exact this) (by
      obtain ⟨A, c, e, h⟩ := hvc
      refine ⟨A, c, e, fun hn => ?_⟩
      obtain ⟨g, o, e2, h3⟩ := h hn
      exact ⟨g, o, e2, fun i n hi => cell_old h2 (h3 i n hi)⟩)
  obtain ⟨A, pc, rfl, hA⟩ := hp
  have HA := Lib.hid hA
  clear hA hvr hvc hg
  obtain ⟨i0, z0, hi0, hz0, -, hz1, hz2, hz3, -⟩ := run_zeroValue (envOk 3 _ rfl)
  replace hz1 : i0.size = 1 := hz1
  replace hz2 : i0.bytes = 8 := hz2
  replace hz3 : z0.cells.size = 1 := hz3
  go_enter Try.func93, Try.ntmps93
  go_wp2_with (go_at_call 138; refine P1.mono ?_; rintro e w1 ⟨b1, rfl, S1, l1, B1⟩; refine Hid.out ?_)
  refine Lib.hid ?_
  go_wp2_with (go_at_call 99; refine (T1 _ B1).mono ?_; rintro e w2 ⟨t, bs, rfl, I2, B2⟩; refine Hid.out ?_)
  refine Lib.hid ?_
  have B2' := B1.trans (B2.mono B1.size)
  go_wp2_with (go_at_call 138; refine (P2 _ t bs _ B2' I2).mono ?_; rintro e w3 ⟨b2, rfl, S3, l3, B3⟩; refine Hid.out ?_)
  refine Lib.hid ?_
  have B3' := B2'.trans (B3.mono B2'.size)
  have S1' : SetX w3 b1 (prsR W H G rows) := (S1.at (B2.block _ S1.lt)).at (B3.block _ (Nat.lt_of_lt_of_le S1.lt B2.size))
  clear S1 B2 B3 I2 P1 T1 P2 B1 B2'
  have r0 := own_new w3 (B := w3.heap.size) (Nat.le_refl _)
  have q4 := alloc_below w3 (.cells #[] 3)
  have S14 := S1'.at (q4.block _ S1'.lt)
  have S34 := S3.at (q4.block _ S3.lt)
  have lt1 := S1'.lt
  have lt3 := S3.lt
  have B4 := B3'.trans (q4.mono B3'.size)
  have k4' := q4.size
  go_wp2
  generalize w3.alloc (.cells #[] 3) = w4 at r0 S14 S34 B4 k4'
  obtain ⟨kB, hkB⟩ : ∃ kB, kB = w3.heap.size := ⟨_, rfl⟩
  have hwk : w.heap.size ≤ w3.heap.size := B3'.size
  rw [← hkB] at r0 lt1 lt3 k4' hwk ⊢
  clear hkB S1' S3 q4 B3'
  go_loopw [11, 24] (fun v u wr => ∃ i : Nat, u = .int .i64 (i : Int) ∧ i ≤ placed.length ∧ OwnI wr kB v (looseF W H G (placed.take i) rows cols) ∧ SetX wr b1 (prsR W H G rows) ∧ SetX wr b2 (prsR H W (turnG G) cols) ∧ kB ≤ wr.heap.size ∧ Below w.heap.size w wr) (fun _ u _ => placed.length - (intOf u).toNat)
  case atStart => exact ⟨0, rfl, Nat.zero_le _, r0, S14, S34, k4', B4⟩
  case round =>
    obtain ⟨i, rfl, hi, hO, hS1, hS2, hkB, hB⟩ := hrel
    by_cases hin : i < placed.length
    · obtain ⟨p, hp⟩ : ∃ p, placed[i]? = some p := ⟨_, List.getElem?_eq_getElem hin⟩
      obtain ⟨gp, op, rfl, hcells⟩ := HA.out (by omega)
      have hpb := hpl p (List.mem_of_getElem? hp)
      have HN := Lib.hid (loose_take (W := W) (H := H) (G := G) (rows := rows) (cols := cols) hp)
      have HHd := Lib.hid (@held_iff W H G rows cols p.1)
      obtain ⟨⟨c0, c1⟩, c2, c3⟩ := hcells i p hp
      have d0 := cell_old hB c0
      have d1 := cell_old hB c1
      have d2 := cell_old hB c2
      have d3 := cell_old hB c3
      clear c0 c1 c2 c3 hcells
      obtain ⟨pA, pB, pC, pD⟩ := p
      dsimp only at d0 d1 d2 d3 hpb HN HHd
      have hll : (looseF W H G (placed.take i) rows cols).length ≤ 100 := Nat.le_trans (loose_len _ _ _ _ _ _) (by rw [List.length_take]; omega)
      have q5 := alloc_below wr (.cells #[.int .i64 pA, .int .i64 pB, .int .i64 pC, .bool pD] 60)
      have X1 := hS1.at (q5.block _ hS1.lt)
      have X2 := hS2.at (q5.block _ hS2.lt)
      have O5 := OwnI.below hO q5
      have B5 := hB.trans (q5.mono hB.size)
      have K5 := Nat.le_trans hkB q5.size
      obtain ⟨a1, E1, hc1⟩ := X1.getZ (k := pA) ⟨by omega, by omega⟩
      obtain ⟨a2, E2, hc2⟩ := X2.getZ (k := pA) ⟨by omega, by omega⟩
      rw [turn_prs] at hc2
      have HC1 := Lib.hid hc1
      have HC2 := Lib.hid hc2
      clear hc1 hc2
      generalize looseF W H G (placed.take i) rows cols = l at hO HN hll O5
      have fin : ∀ v6 w9, w9.ownsRow kB 3 1 v6 (l.length + 1) (l.map (.int .i64) ++ [.int .i64 pA]) → ((wr.alloc (.cells #[.int .i64 pA, .int .i64 pB, .int .i64 pC, .bool pD] 60)).alloc (.cells #[.int .i64 pA] 3)).grownBy w9 u11.ownBlock → heldB W H G rows cols pA = false →
          (∃ j : Nat, Value.int .i64 ((i : Int) + 1) = .int .i64 (j : Int) ∧ j ≤ placed.length ∧ OwnI w9 kB v6 (looseF W H G (placed.take j) rows cols) ∧ SetX w9 b1 (prsR W H G rows) ∧ SetX w9 b2 (prsR H W (turnG G) cols) ∧ kB ≤ w9.heap.size ∧ Below w.heap.size w w9) := fun v6 w9 h6 g6 hh => by
        have b6 := alloc_below (wr.alloc (.cells #[.int .i64 pA, .int .i64 pB, .int .i64 pC, .bool pD] 60)) (.cells #[.int .i64 pA] 3)
        have b9 : Below kB wr w9 := (((q5.mono hkB).trans (b6.mono K5)).grown g6 (Nat.le_trans K5 b6.size) (fun k hk => (World.ownsRow.lt hO k hk).1))
        have o1 : OwnI w9 kB v6 (l ++ [pA]) := own_next h6 (Nat.le_refl _)
        refine ⟨i + 1, by simp, by omega, ?_, hS1.at (b9.block _ lt1), hS2.at (b9.block _ lt3), Nat.le_trans hkB b9.size, hB.trans (b9.mono (by omega))⟩
        rw [HN.out, hh]; exact o1
      have hs2 : kB ≤ ((wr.alloc (.cells #[.int .i64 pA, .int .i64 pB, .int .i64 pC, .bool pD] 60)).alloc (.cells #[.int .i64 pA] 3)).heap.size := Nat.le_trans K5 (alloc_below _ _).size
      have k3 : l.length + 1 ≤ maxLen := by unfold maxLen; omega
      have k4 : (l.length + 1) * 8 ≤ 140737488355328 := by omega
      have HF := Lib.hid fin
      clear fin
      cases a1 with
      | false =>
        have hh := Lib.hid (show heldB W H G rows cols pA = false from by
          cases h : heldB W H G rows cols pA with
          | false => rfl
          | true => exact absurd (HC1.out.2 (HHd.out.1 h).1) (by decide))
        go_wp2_with (at_builtin; refine wpList_append_own _ rfl _ _ 46 rfl kB 3 i0 z0 1 8 Try.underlying46 hi0 hz0 hz1 hz2 hz3 (by decide) _ _ _ rfl (World.ownsRow.alloc O5 _) ⟨_, 0, none⟩ 1 1 [.int .i64 pA] rfl rfl (new_cellN _ _ _ (Array.size_push _).symm) (new_one _) k3 k4 hs2 ?_; intro v6 w9 h6 g6 _; refine Hid.out ?_)
        all_goals try (exfalso; omega)
        refine Lib.hid ?_
        go_wp2
        go_roundw
        case rel => exact HF.out _ _ h6 g6 hh.out
        case measure => simp only [intOf]; omega
      | true =>
        cases a2 with
        | false =>
          have hh := Lib.hid (show heldB W H G rows cols pA = false from by
            cases h : heldB W H G rows cols pA with
            | false => rfl
            | true => exact absurd (HC2.out.2 (HHd.out.1 h).2) (by decide))
          go_wp2_with (at_builtin; refine wpList_append_own _ rfl _ _ 46 rfl kB 3 i0 z0 1 8 Try.underlying46 hi0 hz0 hz1 hz2 hz3 (by decide) _ _ _ rfl (World.ownsRow.alloc O5 _) ⟨_, 0, none⟩ 1 1 [.int .i64 pA] rfl rfl (new_cellN _ _ _ (Array.size_push _).symm) (new_one _) k3 k4 hs2 ?_; intro v6 w9 h6 g6 _; refine Hid.out ?_)
          all_goals try (exfalso; omega)
          refine Lib.hid ?_
          go_wp2
          go_roundw
          case rel => exact HF.out _ _ h6 g6 hh.out
          case measure => simp only [intOf]; omega
        | true =>
          have hh : heldB W H G rows cols pA = true := HHd.out.2 ⟨HC1.out.1 rfl, HC2.out.1 rfl⟩
          have hN := HN.out
          rw [hh, if_pos rfl, List.append_nil] at hN
          have HN2 := Lib.hid hN
          clear hN hh
          go_wp2
          refine ⟨⟨i + 1, by simp, by omega, by rw [HN2.out]; exact O5, X1, X2, K5, B5⟩, ?_⟩
          simp only [intOf]; omega
    · obtain rfl : i = placed.length := by omega
      rw [List.take_length] at hO
      go_wp2
      go_ret
      exact ⟨_, rfl, hO.low hwk, hB⟩

/- impl.loose as a contract, and what valid placings and quoins are. -/
theorem tab_ne {W H : Nat} {G : Grid} (hH : 1 ≤ H) : tabG W H G ≠ [] := fun e => by have := congrArg List.length e; rw [tabG_length] at this; simp at this; omega
theorem tab_rows {W H : Nat} {G : Grid} (hW : 1 ≤ W) : ∀ r ∈ tabG W H G, r ≠ [] := fun r hr e => by
  obtain ⟨y, hy⟩ := List.getElem?_of_mem hr
  have hyH := (List.getElem?_eq_some_iff.1 hy).1
  rw [tabG_length] at hyH
  rw [tabG_at hyH] at hy
  have := congrArg List.length (Option.some.inj hy)
  rw [row_length, e] at this
  simp at this; omega
theorem loose_okG (al : Bool) (grid : List (List Int)) (placed : List Plc) (rows_ columns : List Int) (W H : Nat) (G : Grid) (hgr : grid = tabG W H G) (hW : 1 ≤ W ∧ W ≤ 8) (hH : 1 ≤ H ∧ H ≤ 8) (sg : smallG W H G) (hpl : ∀ p ∈ placed, 0 ≤ p.1 ∧ p.1 ≤ 7) (hpn : placed.length ≤ 100)
    (hr : ∀ y ∈ rows_, 0 ≤ y ∧ y < H) (hrl : rows_.length ≤ 100) (hc : ∀ x ∈ columns, 0 ≤ x ∧ x < W) (hcl : columns.length ≤ 100) :
    OkG al Try.prog 93 [.isl 1 (rows (cSl 1 cInt) grid), .isl 4 (rows cPlaced placed), .isl 1 (rows cInt rows_), .isl 1 (rows cInt columns)] (· = .isl 1 (rows cInt (looseF W H G placed rows_ columns))) := by
  subst hgr
  refine ⟨⟨_, Try.func93, rfl, rfl⟩, fun w I vs hI hargs => ?_⟩
  obtain ⟨vg, vp, vr, vc, rfl, h1, h2, h3, h4⟩ : ∃ vg vp vr vc, vs = [vg, vp, vr, vc] ∧ RepI w I (.isl 1 (rows (cSl 1 cInt) (tabG W H G))) vg ∧ RepI w I (.isl 4 (rows cPlaced placed)) vp ∧ RepI w I (.isl 1 (rows cInt rows_)) vr ∧ RepI w I (.isl 1 (rows cInt columns)) vc := by
    cases hargs with
    | cons h1 t => cases t with
      | cons h2 t => cases t with
        | cons h3 t => cases t with
          | cons h4 t =>
            cases t
            cases h1 with
            | one h1 => cases h2 with
              | one h2 => cases h3 with
                | one h3 => cases h4 with
                  | one h4 => exact ⟨_, _, _, _, rfl, h1, h2, h3, h4⟩
  refine (loose_walk W H hW hH G sg placed hpl hpn rows_ columns hr hrl hc hcl vg vp vr vc w (grid_of h1 (tab_ne hH.1) (tab_rows hW.1)) (placed_at h2) (ints_at h3) (ints_at h4)).mono ?_
  rintro e w' ⟨v, rfl, hO, hbl⟩
  refine ⟨v, _, [], rfl, rfl, hbl, List.nodup_nil, (fun g hg => by cases hg), .one (.imm ((hO.repN fun x hx => ?_).mono fun g hg => ⟨⟨.inr hg.1, hg.2.1, by simp, fun _ => hg.2.2⟩, rfl⟩))⟩
  unfold looseF at hx
  obtain ⟨p, hp, rfl⟩ := List.mem_map.1 hx
  have := hpl p (List.mem_filter.1 hp).1
  exact wrap64 (by omega) (by omega)
theorem loose_ok (grid : List (List Int)) (placed : List Plc) (rows_ columns : List Int) (W H : Nat) (G : Grid) (hgr : grid = tabG W H G) (hW : 1 ≤ W ∧ W ≤ 8) (hH : 1 ≤ H ∧ H ≤ 8) (sg : smallG W H G) (hpl : ∀ p ∈ placed, 0 ≤ p.1 ∧ p.1 ≤ 7) (hpn : placed.length ≤ 100)
    (hr : ∀ y ∈ rows_, 0 ≤ y ∧ y < H) (hrl : rows_.length ≤ 100) (hc : ∀ x ∈ columns, 0 ≤ x ∧ x < W) (hcl : columns.length ≤ 100) :
    OkA Try.prog 93 [.isl 1 (rows (cSl 1 cInt) grid), .isl 4 (rows cPlaced placed), .isl 1 (rows cInt rows_), .isl 1 (rows cInt columns)] (· = .isl 1 (rows cInt (looseF W H G placed rows_ columns))) := loose_okG true grid placed rows_ columns W H G hgr hW hH sg hpl hpn hr hrl hc hcl
theorem loose_okO (grid : List (List Int)) (placed : List Plc) (rows_ columns : List Int) (W H : Nat) (G : Grid) (hgr : grid = tabG W H G) (hW : 1 ≤ W ∧ W ≤ 8) (hH : 1 ≤ H ∧ H ≤ 8) (sg : smallG W H G) (hpl : ∀ p ∈ placed, 0 ≤ p.1 ∧ p.1 ≤ 7) (hpn : placed.length ≤ 100)
    (hr : ∀ y ∈ rows_, 0 ≤ y ∧ y < H) (hrl : rows_.length ≤ 100) (hc : ∀ x ∈ columns, 0 ≤ x ∧ x < W) (hcl : columns.length ≤ 100) :
    Ok Try.prog 93 [.isl 1 (rows (cSl 1 cInt) grid), .isl 4 (rows cPlaced placed), .isl 1 (rows cInt rows_), .isl 1 (rows cInt columns)] (· = .isl 1 (rows cInt (looseF W H G placed rows_ columns))) := loose_okG false grid placed rows_ columns W H G hgr hW hH sg hpl hpn hr hrl hc hcl
theorem chaseG_nums {ps : List Piece} {w h : Nat} : ∀ {pl : List Plc} {l : Int} {G G2 : Grid}, chaseG ps w h l pl G = some G2 → ∀ p ∈ pl, l < p.1 ∧ p.1 < ps.length
  | [], _, _, _, _, p, hp => by cases hp
  | q :: r, l, G, G2, e, p, hp => by
    rw [chaseG] at e
    split at e
    · rename_i hq
      rcases List.mem_cons.1 hp with rfl | hp
      · exact hq.1
      · have := chaseG_nums e p hp
        omega
    · cases e
theorem chase_nums {w h : Int} {ps : List Piece} {pl : List Plc} {G : Grid} (e : chaseF w h ps pl = some G) : ∀ p ∈ pl, 0 ≤ p.1 ∧ p.1 ≤ 7 := fun p hp => by
  obtain ⟨hc, -, -⟩ := chaseF_some e
  obtain ⟨-, -, hok⟩ := okCh_spec hc
  have := (okPs_spec hok).2
  unfold chaseF at e
  rw [if_pos hc] at e
  have := chaseG_nums e p hp
  omega
theorem rising_from {lo hi : Int} : ∀ {x : Int} {r : List Int}, x ≤ hi → rising lo hi (some x) r = true → (r.length : Int) ≤ hi - x ∧ ∀ y ∈ r, lo ≤ y ∧ y ≤ hi
  | x, [], hx, _ => ⟨by simp; omega, fun y hy => by cases hy⟩
  | x, z :: r, hx, h => by
    rw [rising_cons, Bool.and_eq_true, Bool.and_eq_true] at h
    have hz := inB_spec h.1.1
    have hlt := of_decide_eq_true h.1.2
    obtain ⟨h1, h2⟩ := rising_from hz.2 h.2
    refine ⟨by simp only [List.length_cons]; omega, fun y hy => ?_⟩
    rcases List.mem_cons.1 hy with rfl | hy
    · exact hz
    · exact h2 y hy
theorem rising_spec {hi : Int} {r : List Int} (h0 : -1 ≤ hi) (h : rising 0 hi none r = true) : (r.length : Int) ≤ hi + 1 ∧ ∀ y ∈ r, 0 ≤ y ∧ y ≤ hi := by
  cases r with
  | nil => exact ⟨by simp; omega, fun y hy => by cases hy⟩
  | cons z r =>
    rw [rising_cons, Bool.and_eq_true, Bool.and_eq_true] at h
    have hz := inB_spec h.1.1
    obtain ⟨h1, h2⟩ := rising_from hz.2 h.2
    refine ⟨by simp only [List.length_cons]; omega, fun y hy => ?_⟩
    rcases List.mem_cons.1 hy with rfl | hy
    · exact hz
    · exact h2 y hy
structure QuOk (W H : Nat) (rows cols : List Int) : Prop where
  rows : (∀ y ∈ rows, 0 ≤ y ∧ y < H) ∧ rows.length ≤ 100
  cols : (∀ x ∈ cols, 0 ≤ x ∧ x < W) ∧ cols.length ≤ 100
theorem qu_ok {w h : Int} {rows cols : List Int} (e : quB w h rows cols = true) (hw : 1 ≤ w ∧ w ≤ 8) (hh : 1 ≤ h ∧ h ≤ 8) : QuOk w.toNat h.toNat rows cols := by
  unfold quB at e
  rw [Bool.and_eq_true] at e
  obtain ⟨a1, a2⟩ := rising_spec (by omega) e.1
  obtain ⟨b1, b2⟩ := rising_spec (by omega) e.2
  exact ⟨⟨fun y hy => by have := a2 y hy; omega, by omega⟩, ⟨fun x hx => by have := b2 x hx; omega, by omega⟩⟩
/-- Fewer rows of quoins. -/
theorem QuOk.less {W H : Nat} {rows cols : List Int} (h : QuOk W H rows cols) (p : Int → Bool) : QuOk W H (rows.filter p) cols :=
  ⟨⟨fun y hy => h.rows.1 y (List.mem_filter.1 hy).1, Nat.le_trans (List.length_filter_le _ _) h.rows.2⟩, h.cols⟩
/-- What impl.quoined answers. -/
def quoL (w h : Int) (ps : List Piece) (pl : List Plc) (rows cols : List Int) : List (List Int) × Bool := ((chaseL w h ps pl).1, (chaseL w h ps pl).2 && quB w h rows cols)
theorem quo_yes {w h : Int} {ps : List Piece} {pl : List Plc} {rows cols : List Int} {g : List (List Int)} (e : (g, true) = quoL w h ps pl rows cols) : ∃ G, chaseF w h ps pl = some G ∧ g = tabG w.toNat h.toNat G ∧ smallG w.toNat h.toNat G ∧ ((1 ≤ w ∧ w ≤ 8) ∧ (1 ≤ h ∧ h ≤ 8)) ∧ quB w h rows cols = true ∧ QuOk w.toNat h.toNat rows cols ∧ pl.length ≤ 8 ∧ ∀ p ∈ pl, 0 ≤ p.1 ∧ p.1 ≤ 7 := by
  unfold quoL at e
  obtain ⟨e1, e2⟩ := Prod.mk.inj e
  have e2 := e2.symm
  rw [Bool.and_eq_true] at e2
  unfold chaseL at e1 e2
  cases hF : chaseF w h ps pl with
  | none => rw [hF] at e2; cases e2.1
  | some G =>
    rw [hF] at e1
    obtain ⟨hc, hs, hl⟩ := chaseF_some hF
    obtain ⟨bw, bh, -⟩ := okCh_spec hc
    exact ⟨G, rfl, e1, hs, ⟨bw, bh⟩, e2.2, qu_ok e2.2 bw bh, hl, chase_nums hF⟩
theorem quo_no {w h : Int} {ps : List Piece} {pl : List Plc} {rows cols : List Int} {g : List (List Int)} (e : (g, false) = quoL w h ps pl rows cols) : looseA w h ps pl rows cols = ([], false) ∧ lockA w h ps pl rows cols = (false, false) ∧ ∀ row, fallsA w h ps pl rows cols row = ([], false) := by
  unfold quoL chaseL at e
  unfold looseA lockA fallsA
  obtain ⟨-, e2⟩ := Prod.mk.inj e
  cases hF : chaseF w h ps pl with
  | none => exact ⟨rfl, rfl, fun _ => rfl⟩
  | some G =>
    rw [hF] at e2
    have hq : quB w h rows cols = false := e2.symm
    dsimp only
    rw [hq]
    exact ⟨rfl, rfl, fun row => if_neg (fun h => by cases h.1)⟩

end Go.Proofs.Ytiaodmfipeoegaa.Ai
