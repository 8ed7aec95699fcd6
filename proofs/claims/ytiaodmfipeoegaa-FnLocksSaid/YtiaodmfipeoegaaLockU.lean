/- Contracts of the program's functions on locked formes. -/
import Derived.Test.YtiaodmfipeoegaaLockK
import Derived.Test.YtiaodmfipeoegaaChase2
import Derived.Test.YtiaodmfipeoegaaThaw
import Derived.Test.YtiaodmfipeoegaaAiRules
namespace Go.Proofs.Ytiaodmfipeoegaa.Ai
open Go Go.Proofs Go.RowKit
set_option linter.unusedSimpArgs false
set_option maxRecDepth 10000
set_option maxHeartbeats 4000000
set_option linter.unusedVariables false
set_option linter.unusedSectionVars false
theorem hasNumber_ok (l : List Int) (n : Int)  : OkA Try.prog 97 [.isl 1 (rows cInt l), .int .i64 n] (· = .bool (decide (n ∈ l))) :=
  fn_intro envOk fieldsOk mixed Try.func97 rfl fun κ X Y L Q m hQ => by
    conv => cbv
    refine r_lenR m.sX fun n1 hn1 mn1 => ?_
    conv => cbv
    refine r_loopF (α := Int) m 17 [1, 7, 8, 9] [] (fun σ => [(1, .int .i64 n), (7, .isl 1 (rows cInt l)), (8, .int .i64 n1), (9, .int .i64 σ)]) (fun σ => [])
      (fun σ => (0 ≤ σ) ∧ (σ ≤ n1) ∧ (decide (n ∈ l) = decide (n ∈ l.drop σ.toNat))) (fun σ => (n1 - σ).toNat) 0 ?_ ?_ ?_ ?_
    · cbv
    · cbv
    · exact ⟨(by (try dsimp only); first | omega | (simp only [List.length_nil]; omega) | (simp only [List.length_cons, List.length_nil]; omega)), (by (try dsimp only); first | omega | (simp only [List.length_nil]; omega) | (simp only [List.length_cons, List.length_nil]; omega)), (by (try dsimp only) <;> first | omega | rfl | (simp [*]; done))⟩
    rintro i1 ⟨lo1, hi1, q⟩ E hE F hF
    conv => cbv
    refine r_lss m.sX (fun h1 => ?_) (fun h1 => ?_) <;> conv => cbv
    · refine r_index m.sX (by omega) (by omega) fun x hx => ?_
      conv => cbv
      have mx := get_mem hx
      have dx := drop_cons hx
      have kx := take_snoc hx
      have jx : (i1 + 1).toNat = Int.toNat i1 + 1 := by omega
      have vx := nth_some hx
      refine r_eql m.sX (fun h2 => ?_) (fun h2 => ?_) <;> conv => cbv
      · refine hF _ _ ?_
        conv => cbv
        exact hQ _ (congrArg PV.bool (by rw [q]; simp [*]))   -- leaf 1
      · refine r_addf m.sX (by omega) (by omega) fun r1 hr1 => ?_
        conv => cbv
        try have tr1 : Int.toNat r1 = Int.toNat i1 + 1 := by omega
        refine hE _ r1 ?_ ?_ ⟨(by (try dsimp only); first | omega | (simp only [List.length_nil]; omega) | (simp only [List.length_cons, List.length_nil]; omega)), (by (try dsimp only); first | omega | (simp only [List.length_nil]; omega) | (simp only [List.length_cons, List.length_nil]; omega)), (by (try dsimp only) <;> (rw [q, dx, tr1]; simp [Ne.symm h2]))⟩ (by first | omega | (dsimp only; omega))
        · cbv
        · cbv
    · have dz_i1 := drop_end (xs := l) (i := Int.toNat i1) (by omega)
      have tz_i1 := take_end (xs := l) (i := Int.toNat i1) (by omega)
      refine hF _ _ ?_
      conv => cbv
      exact hQ _ (congrArg PV.bool (by rw [q]; simp [*]))   -- leaf 2

theorem keep_next {f : Int → Bool} {l z : List Int} {i : Nat} {x : Int} (hx : l[i]? = some x) (q : z = (l.take i).filter f) (h : f x = true) : z ++ [x] = (l.take (i + 1)).filter f := by
  rw [List.take_add_one, hx, List.filter_append, ← q]; simp [h]
theorem drop_next {f : Int → Bool} {l z : List Int} {i : Nat} {x : Int} (hx : l[i]? = some x) (q : z = (l.take i).filter f) (h : f x = false) : z = (l.take (i + 1)).filter f := by
  rw [List.take_add_one, hx, List.filter_append, ← q]; simp [h]
/-- Whether a line between columns cuts no piece. -/
def cutB (H : Nat) (G : Grid) (x : Nat) : Bool := (List.range H).all fun y => decide (G y x = -1) || decide (G y x ≠ G y (x - 1))
def cutsF (W H : Nat) (G : Grid) : List Int := ((List.range W).filter fun x => decide (1 ≤ x) && cutB H G x).map fun (x : Nat) => (x : Int)
def cutsN (n H : Nat) (G : Grid) : List Int := ((List.range n).filter fun x => decide (1 ≤ x) && cutB H G x).map fun (x : Nat) => (x : Int)
theorem cutsN_one (H : Nat) (G : Grid) : cutsN 1 H G = [] := rfl
theorem cutsN_yes {n H : Nat} {G : Grid} (hn : 1 ≤ n) (h : cutB H G n = true) : cutsN (n + 1) H G = cutsN n H G ++ [(n : Int)] := by
  unfold cutsN
  rw [List.range_succ, List.filter_append, List.map_append]
  congr 1
  simp [h, hn]
theorem cutsN_no {n H : Nat} {G : Grid} (h : cutB H G n = false) : cutsN (n + 1) H G = cutsN n H G := by
  unfold cutsN
  rw [List.range_succ, List.filter_append, List.map_append]
  simp [h]
def cutU (k : Nat) (G : Grid) (x : Nat) : Bool := (List.range k).all fun y => decide (G y x = -1) || decide (G y x ≠ G y (x - 1))
theorem cutU_next {k : Nat} {G : Grid} {x : Nat} : cutU (k + 1) G x = (cutU k G x && (decide (G k x = -1) || decide (G k x ≠ G k (x - 1)))) := by
  unfold cutU
  rw [List.range_succ, List.all_append]; simp
structure TabOk (grid : List (List Int)) (W H : Nat) (G : Grid) : Prop where
  eq : grid = tabG W H G
  hW : 1 ≤ W ∧ W ≤ 8
  hH : 1 ≤ H ∧ H ≤ 8
  sg : smallG W H G
theorem cuts_ok (grid : List (List Int)) (W : Nat) (H : Nat) (G : Grid) (tk : TabOk grid W H G) : OkA Try.prog 98 [.isl 1 (rows (cSl 1 cInt) grid)] (· = .fr 3 1 (rows cInt (cutsF W H G))) :=
  OkA.unnil 3 1 (fn_intro envOk fieldsOk mixed Try.func98 rfl fun κ X Y L Q m hQ => by
    obtain ⟨hg, hW, hH, sg⟩ := tk
    have gl : grid.length = H := by rw [hg, tabG_length]
    conv => cbv
    refine r_loopF (α := List Int × Int) m 50 [0, 4] [⟨3, 25, 3, 1, 0⟩] (fun σ => [(0, .isl 1 (rows (cSl 1 cInt) grid)), (3, .osl 25 0), (4, .int .i64 σ.2)]) (fun σ => [(25, 0, .row 3 1 (rows cInt σ.1))])
      (fun σ => (1 ≤ σ.2 ∧ σ.2 ≤ (W : Int)) ∧ (σ.1 = cutsN σ.2.toNat H G) ∧ ((σ.1.length : Int) ≤ σ.2)) (fun σ => ((W : Int) - σ.2).toNat) ([], 1) ?_ ?_ ?_ ?_
    · cbv
    · (try dsimp only); (try simp only [rows_cons, rows_nil]); cbv
    · exact ⟨(by (try dsimp only) <;> first | omega | rfl | (simp [*]; done)), (by (try dsimp only) <;> (exact (cutsN_one H G).symm)), (by (try dsimp only) <;> first | omega | rfl | (simp [*]; done))⟩
    rintro ⟨list, x⟩ ⟨xb, q, ln⟩ E hE F hF
    dsimp only at xb q ln
    conv => cbv
    refine r_index m.sX (by omega) (by omega) fun x1 hx1 => ?_
    conv => cbv
    have mx1 := get_mem hx1
    have lx1 : x1.length = W := by rw [hg, tabG_at (by omega)] at hx1; rw [← Option.some.inj hx1, row_length]
    refine r_lenR m.sX fun n1 hn1 mn1 => ?_
    conv => cbv
    refine r_lss m.sX (fun h1 => ?_) (fun h1 => ?_) <;> conv => cbv
    · refine r_lenR m.sX fun n2 hn2 mn2 => ?_
      conv => cbv
      refine r_loopF (α := Bool × Int) m 50 [0, 4, 5, 17, 18, 19] [⟨3, 25, 3, 1, 0⟩] (fun σ => [(0, .isl 1 (rows (cSl 1 cInt) grid)), (3, .osl 25 0), (4, .int .i64 x), (5, .bool σ.1), (17, .isl 1 (rows (cSl 1 cInt) grid)), (18, .int .i64 n2), (19, .int .i64 σ.2)]) (fun σ => [(25, 0, .row 3 1 (rows cInt list))])
        (fun σ => (0 ≤ σ.2) ∧ (σ.2 ≤ n2) ∧ (σ.1 = cutU σ.2.toNat G x.toNat)) (fun σ => (n2 - σ.2).toNat) (true, 0) ?_ ?_ ?_ ?_
      · cbv
      · cbv
      · exact ⟨(by (try dsimp only); first | omega | (simp only [List.length_nil]; omega) | (simp only [List.length_cons, List.length_nil]; omega)), (by (try dsimp only); first | omega | (simp only [List.length_nil]; omega) | (simp only [List.length_cons, List.length_nil]; omega)), (by (try dsimp only) <;> (rfl))⟩
      rintro ⟨clear, i1⟩ ⟨lo2, hi2, q2⟩ E2 hE2 F2 hF2
      dsimp only at lo2 hi2 q2
      conv => cbv
      refine r_lss m.sX (fun h2 => ?_) (fun h2 => ?_) <;> conv => cbv
      · refine r_index m.sX (by omega) (by omega) fun row hrow => ?_
        conv => cbv
        have mrow := get_mem hrow
        have drow := drop_cons hrow
        have krow := take_snoc hrow
        have jrow : (i1 + 1).toNat = Int.toNat i1 + 1 := by omega
        have er : row = (List.range W).map fun x => G i1.toNat x := by rw [hg, tabG_at (by omega)] at hrow; exact (Option.some.inj hrow).symm
        have rl : row.length = W := by rw [er, row_length]
        refine r_draw m (by kernel_rfl) ?_
        conv => cbv
        rcases Bool.eq_false_or_eq_true clear with rfl | rfl <;> conv => cbv
        · refine r_index m.sY (by omega) (by omega) fun x2 hx2 => ?_
          conv => cbv
          have mx2 := get_mem hx2
          have vx2 := nth_some hx2
          have e2 : x2 = G i1.toNat x.toNat := by rw [er, row_at (by omega)] at hx2; exact (Option.some.inj hx2).symm
          refine r_eql m.sY (fun h3 => ?_) (fun h3 => ?_) <;> conv => cbv
          · refine r_addf m.sX (by omega) (by omega) fun r1 hr1 => ?_
            conv => cbv
            try have tr1 : Int.toNat r1 = Int.toNat i1 + 1 := by omega
            refine hE2 _ (true, r1) ?_ ?_ ⟨(by (try dsimp only); first | omega | (simp only [List.length_nil]; omega) | (simp only [List.length_cons, List.length_nil]; omega)), (by (try dsimp only); first | omega | (simp only [List.length_nil]; omega) | (simp only [List.length_cons, List.length_nil]; omega)), (by (try dsimp only) <;> (rw [tr1, cutU_next, ← q2]; first | (rw [decide_eq_true (show G i1.toNat x.toNat = -1 by omega)]; rfl) | (rw [decide_eq_false (show ¬ G i1.toNat x.toNat = -1 by omega), decide_eq_true (show G i1.toNat x.toNat ≠ G i1.toNat (x.toNat - 1) by omega)]; rfl) | (rw [decide_eq_false (show ¬ G i1.toNat x.toNat = -1 by omega), decide_eq_false (show ¬ (G i1.toNat x.toNat ≠ G i1.toNat (x.toNat - 1)) by omega)]; rfl) | rfl))⟩ (by first | omega | (dsimp only; omega))
            · cbv
            · cbv
          · refine r_index m.sY (by omega) (by omega) fun x3 hx3 => ?_
            conv => cbv
            have mx3 := get_mem hx3
            have vx3 := nth_some hx3
            obtain rfl : x2 = x3 := Option.some.inj (hx2.symm.trans hx3)
            refine r_subf m.sY (by omega) (by omega) fun r2 hr2 => ?_
            conv => cbv
            refine r_index m.sY (by omega) (by omega) fun x4 hx4 => ?_
            conv => cbv
            have mx4 := get_mem hx4
            have vx4 := nth_some hx4
            have e4 : x4 = G i1.toNat (x.toNat - 1) := by rw [er, show r2.toNat = x.toNat - 1 by omega, row_at (by omega)] at hx4; exact (Option.some.inj hx4).symm
            refine r_neq m.sY (fun h4 => ?_) (fun h4 => ?_) <;> conv => cbv
            · refine r_addf m.sX (by omega) (by omega) fun r3 hr3 => ?_
              conv => cbv
              try have tr3 : Int.toNat r3 = Int.toNat i1 + 1 := by omega
              refine hE2 _ (true, r3) ?_ ?_ ⟨(by (try dsimp only); first | omega | (simp only [List.length_nil]; omega) | (simp only [List.length_cons, List.length_nil]; omega)), (by (try dsimp only); first | omega | (simp only [List.length_nil]; omega) | (simp only [List.length_cons, List.length_nil]; omega)), (by (try dsimp only) <;> (rw [tr3, cutU_next, ← q2]; first | (rw [decide_eq_true (show G i1.toNat x.toNat = -1 by omega)]; rfl) | (rw [decide_eq_false (show ¬ G i1.toNat x.toNat = -1 by omega), decide_eq_true (show G i1.toNat x.toNat ≠ G i1.toNat (x.toNat - 1) by omega)]; rfl) | (rw [decide_eq_false (show ¬ G i1.toNat x.toNat = -1 by omega), decide_eq_false (show ¬ (G i1.toNat x.toNat ≠ G i1.toNat (x.toNat - 1)) by omega)]; rfl) | rfl))⟩ (by first | omega | (dsimp only; omega))
              · cbv
              · cbv
            · refine r_addf m.sX (by omega) (by omega) fun r4 hr4 => ?_
              conv => cbv
              try have tr4 : Int.toNat r4 = Int.toNat i1 + 1 := by omega
              refine hE2 _ (false, r4) ?_ ?_ ⟨(by (try dsimp only); first | omega | (simp only [List.length_nil]; omega) | (simp only [List.length_cons, List.length_nil]; omega)), (by (try dsimp only); first | omega | (simp only [List.length_nil]; omega) | (simp only [List.length_cons, List.length_nil]; omega)), (by (try dsimp only) <;> (rw [tr4, cutU_next, ← q2]; first | (rw [decide_eq_true (show G i1.toNat x.toNat = -1 by omega)]; rfl) | (rw [decide_eq_false (show ¬ G i1.toNat x.toNat = -1 by omega), decide_eq_true (show G i1.toNat x.toNat ≠ G i1.toNat (x.toNat - 1) by omega)]; rfl) | (rw [decide_eq_false (show ¬ G i1.toNat x.toNat = -1 by omega), decide_eq_false (show ¬ (G i1.toNat x.toNat ≠ G i1.toNat (x.toNat - 1)) by omega)]; rfl) | rfl))⟩ (by first | omega | (dsimp only; omega))
              · cbv
              · cbv
        · refine r_addf m.sX (by omega) (by omega) fun r5 hr5 => ?_
          conv => cbv
          try have tr5 : Int.toNat r5 = Int.toNat i1 + 1 := by omega
          refine hE2 _ (false, r5) ?_ ?_ ⟨(by (try dsimp only); first | omega | (simp only [List.length_nil]; omega) | (simp only [List.length_cons, List.length_nil]; omega)), (by (try dsimp only); first | omega | (simp only [List.length_nil]; omega) | (simp only [List.length_cons, List.length_nil]; omega)), (by (try dsimp only) <;> (rw [tr5, cutU_next, ← q2]; first | (rw [decide_eq_true (show G i1.toNat x.toNat = -1 by omega)]; rfl) | (rw [decide_eq_false (show ¬ G i1.toNat x.toNat = -1 by omega), decide_eq_true (show G i1.toNat x.toNat ≠ G i1.toNat (x.toNat - 1) by omega)]; rfl) | (rw [decide_eq_false (show ¬ G i1.toNat x.toNat = -1 by omega), decide_eq_false (show ¬ (G i1.toNat x.toNat ≠ G i1.toNat (x.toNat - 1)) by omega)]; rfl) | rfl))⟩ (by first | omega | (dsimp only; omega))
          · cbv
          · cbv
      · have dz_i1 := drop_end (xs := grid) (i := Int.toNat i1) (by omega)
        have tz_i1 := take_end (xs := grid) (i := Int.toNat i1) (by omega)
        refine hF2 _ _ ?_
        conv => cbv
        rcases Bool.eq_false_or_eq_true clear with rfl | rfl <;> conv => cbv
        · refine r_append1 (x) m.sX rfl (by first | omega | (dsimp only; omega)) (by first | omega | (dsimp only; omega)) fun list_2 hlist_2 => ?_
          conv => cbv
          have llist_2 : (list_2.length : Int) = list.length + 1 := by rw [hlist_2]; first | done | (simp; done) | (simp; omega)
          refine r_addf m.sX (by omega) (by omega) fun x_2 hx_2 => ?_
          conv => cbv
          refine hE _ (list_2, x_2) ?_ ?_ ⟨(by (try dsimp only) <;> first | omega | rfl | (simp [*]; done) | (rw [xb]; simp [*]; done)), (by (try dsimp only) <;> (rw [show Int.toNat x_2 = x.toNat + 1 by omega]; first | (rw [cutsN_yes (by omega) (show cutB H G x.toNat = true from by rw [show cutB H G x.toNat = cutU H G x.toNat from rfl, show H = i1.toNat by omega, ← q2]), ← q, show ((x.toNat : Nat) : Int) = x by omega]; exact hlist_2) | (rw [cutsN_no (show cutB H G x.toNat = false from by rw [show cutB H G x.toNat = cutU H G x.toNat from rfl, show H = i1.toNat by omega, ← q2])]; exact q))), (by (try dsimp only) <;> (omega))⟩ (by first | omega | (dsimp only; omega))
          · cbv
          · cbv
        · refine r_addf m.sX (by omega) (by omega) fun x_3 hx_3 => ?_
          conv => cbv
          refine hE _ (list, x_3) ?_ ?_ ⟨(by (try dsimp only) <;> first | omega | rfl | (simp [*]; done) | (rw [xb]; simp [*]; done)), (by (try dsimp only) <;> (rw [show Int.toNat x_3 = x.toNat + 1 by omega]; first | (rw [cutsN_yes (by omega) (show cutB H G x.toNat = true from by rw [show cutB H G x.toNat = cutU H G x.toNat from rfl, show H = i1.toNat by omega, ← q2]), ← q, show ((x.toNat : Nat) : Int) = x by omega]; exact hlist_2) | (rw [cutsN_no (show cutB H G x.toNat = false from by rw [show cutB H G x.toNat = cutU H G x.toNat from rfl, show H = i1.toNat by omega, ← q2])]; exact q))), (by (try dsimp only) <;> (omega))⟩ (by first | omega | (dsimp only; omega))
          · cbv
          · cbv
    · refine hF _ _ ?_
      conv => cbv
      exact hQ (.fr 3 1 (rows cInt list)) (Eq.trans (by first | rfl | (simp only [lb, lbI, rows_cons, rows_nil, unnilT, unnil, unnilTI, unnilI]; done) | (simp only [lb, lbI, rows_cons, rows_nil, unnilT, unnil, unnilTI, unnilI]; rfl)) (congrArg (fun l => PV.fr 3 1 (rows cInt l)) (show list = cutsF W H G from by rw [q, show x.toNat = W by omega]; rfl))))   -- leaf 1

def upA (w h : Int) (ps : List Piece) (pl : List Plc) : List Int × Bool := match chaseF w h ps pl with
  | some G => (cutsF w.toNat h.toNat G, true)
  | none => ([], false)
def levA (w h : Int) (ps : List Piece) (pl : List Plc) : List Int × Bool := match chaseF w h ps pl with
  | some G => (cutsF h.toNat w.toNat (turnG G), true)
  | none => ([], false)
theorem up_no {w h : Int} {ps : List Piece} {pl : List Plc} {g : List (List Int)} (e : (g, false) = chaseL w h ps pl) : upA w h ps pl = ([], false) ∧ levA w h ps pl = ([], false) := by
  have := chaseL_no e
  unfold upA levA; rw [this]; exact ⟨rfl, rfl⟩
theorem UprightCuts_ok (width : Int) (height : Int) (pieces : List Piece) (placed : List Plc) (hb : ∀ p ∈ placed, p.2.1 ≤ 1000000 ∧ p.2.2.1 ≤ 1000000) : OkA Try.prog 42 [.int .i64 width, .int .i64 height, .isl 2 (rows cPiece pieces), .isl 4 (rows cPlaced placed)] (· = (lb 3 1 cInt) (upA width height pieces placed)) :=
  OkA.unnil 3 1 (fn_intro envOk fieldsOk mixed Try.func42 rfl fun κ X Y L Q m hQ => by
    conv => cbv
    refine r_callF (lbI 1 (cSl 1 cInt)) m.sX (chaseOf_ok width height pieces placed hb) fun v hgrid => ?_
    obtain ⟨grid, ok⟩ := v
    conv => cbv
    rcases Bool.eq_false_or_eq_true ok with rfl | rfl <;> conv => cbv
    · obtain ⟨G, eG, eg, sg, bw⟩ := chaseL_yes hgrid
      have tk : TabOk grid width.toNat height.toNat G := ⟨eg, ⟨by omega, by omega⟩, ⟨by omega, by omega⟩, sg⟩
      refine r_callF (fun l => PV.fr _ _ (rows _ l)) m.sX (cuts_ok grid _ _ _ tk) fun v1 hv1 => ?_
      conv => cbv
      exact hQ (.tup [.fr 3 1 (rows cInt v1), .bool true]) (Eq.trans (by first | rfl | (simp only [lb, lbI, rows_cons, rows_nil, unnilT, unnil, unnilTI, unnilI]; done) | (simp only [lb, lbI, rows_cons, rows_nil, unnilT, unnil, unnilTI, unnilI]; rfl)) (congrArg ((lb 3 1 cInt)) (show (v1, true) = upA width height pieces placed from by rw [upA, eG, hv1])))   -- leaf 1
    · exact hQ (.tup [.fr 3 1 [], .bool false]) (Eq.trans (by first | rfl | (simp only [lb, lbI, rows_cons, rows_nil, unnilT, unnil, unnilTI, unnilI]; done) | (simp only [lb, lbI, rows_cons, rows_nil, unnilT, unnil, unnilTI, unnilI]; rfl)) (congrArg ((lb 3 1 cInt)) (show ([], false) = upA width height pieces placed from by exact (up_no hgrid).1.symm))))   -- leaf 2

theorem LevelCuts_ok (width : Int) (height : Int) (pieces : List Piece) (placed : List Plc) (hb : ∀ p ∈ placed, p.2.1 ≤ 1000000 ∧ p.2.2.1 ≤ 1000000) : OkA Try.prog 44 [.int .i64 width, .int .i64 height, .isl 2 (rows cPiece pieces), .isl 4 (rows cPlaced placed)] (· = (lb 3 1 cInt) (levA width height pieces placed)) :=
  OkA.unnil 3 1 (fn_intro envOk fieldsOk mixed Try.func44 rfl fun κ X Y L Q m hQ => by
    conv => cbv
    refine r_callF (lbI 1 (cSl 1 cInt)) m.sX (chaseOf_ok width height pieces placed hb) fun v hgrid => ?_
    obtain ⟨grid, ok⟩ := v
    conv => cbv
    rcases Bool.eq_false_or_eq_true ok with rfl | rfl <;> conv => cbv
    · obtain ⟨G, eG, eg, sg, bw⟩ := chaseL_yes hgrid
      have tk : TabOk grid width.toNat height.toNat G := ⟨eg, ⟨by omega, by omega⟩, ⟨by omega, by omega⟩, sg⟩
      refine r_callF (fun l => PV.isl _ (rows _ l)) m.sX (turned_ok grid width.toNat height.toNat G eg tk.hW tk.hH sg) fun v1 hv1 => ?_
      conv => cbv
      have tk2 : TabOk v1 height.toNat width.toNat (turnG G) := ⟨hv1, tk.hH, tk.hW, turn_small sg⟩
      refine r_callF (fun l => PV.fr _ _ (rows _ l)) m.sX (cuts_ok v1 _ _ _ tk2) fun v2 hv2 => ?_
      conv => cbv
      exact hQ (.tup [.fr 3 1 (rows cInt v2), .bool true]) (Eq.trans (by first | rfl | (simp only [lb, lbI, rows_cons, rows_nil, unnilT, unnil, unnilTI, unnilI]; done) | (simp only [lb, lbI, rows_cons, rows_nil, unnilT, unnil, unnilTI, unnilI]; rfl)) (congrArg ((lb 3 1 cInt)) (show (v2, true) = levA width height pieces placed from by rw [levA, eG, hv2])))   -- leaf 1
    · exact hQ (.tup [.fr 3 1 [], .bool false]) (Eq.trans (by first | rfl | (simp only [lb, lbI, rows_cons, rows_nil, unnilT, unnil, unnilTI, unnilI]; done) | (simp only [lb, lbI, rows_cons, rows_nil, unnilT, unnil, unnilTI, unnilI]; rfl)) (congrArg ((lb 3 1 cInt)) (show ([], false) = levA width height pieces placed from by exact (up_no hgrid).2.symm))))   -- leaf 2

theorem quoined_ok (width : Int) (height : Int) (pieces : List Piece) (placed : List Plc) (rows_ : List Int) (columns : List Int) (hb : ∀ p ∈ placed, p.2.1 ≤ 1000000 ∧ p.2.2.1 ≤ 1000000) : OkA Try.prog 92 [.int .i64 width, .int .i64 height, .isl 2 (rows cPiece pieces), .isl 4 (rows cPlaced placed), .isl 1 (rows cInt rows_), .isl 1 (rows cInt columns)] (· = (lbI 1 (cSl 1 cInt)) (quoL width height pieces placed rows_ columns)) :=
  OkA.iceI 1 (fn_intro envOk fieldsOk mixed Try.func92 rfl fun κ X Y L Q m hQ => by
    conv => cbv
    refine r_callF (lbI 1 (cSl 1 cInt)) m.sX (chaseOf_ok width height pieces placed hb) fun v hgrid => ?_
    obtain ⟨grid, ok⟩ := v
    conv => cbv
    rcases Bool.eq_false_or_eq_true ok with rfl | rfl <;> conv => cbv
    · obtain ⟨G, eG, eg, -, bw, -⟩ := chaseL_yes hgrid
      refine r_subf m.sX (by omega) (by omega) fun r1 hr1 => ?_
      conv => cbv
      refine r_callB m.sX (increases_ok rows_ 0 r1) (fun h1 => ?_) (fun h1 => ?_) <;> conv => cbv
      · refine r_subf m.sX (by omega) (by omega) fun r2 hr2 => ?_
        conv => cbv
        refine r_callB m.sX (increases_ok columns 0 r2) (fun h2 => ?_) (fun h2 => ?_) <;> conv => cbv
        · exact hQ (.tup [.isl 1 (rows (cSl 1 cInt) grid), .bool true]) (Eq.trans (by first | rfl | (simp only [lb, lbI, rows_cons, rows_nil, unnilT, unnil, unnilTI, unnilI]; done) | (simp only [lb, lbI, rows_cons, rows_nil, unnilT, unnil, unnilTI, unnilI]; rfl)) (congrArg ((lbI 1 (cSl 1 cInt))) (show (grid, true) = quoL width height pieces placed rows_ columns from by rw [quoL, ← hgrid, quB, ← hr1, ← hr2, h1, h2]; rfl)))   -- leaf 1
        · exact hQ (.tup [.isl 1 (rows (cSl 1 cInt) grid), .bool false]) (Eq.trans (by first | rfl | (simp only [lb, lbI, rows_cons, rows_nil, unnilT, unnil, unnilTI, unnilI]; done) | (simp only [lb, lbI, rows_cons, rows_nil, unnilT, unnil, unnilTI, unnilI]; rfl)) (congrArg ((lbI 1 (cSl 1 cInt))) (show (grid, false) = quoL width height pieces placed rows_ columns from by rw [quoL, ← hgrid, quB, ← hr1, ← hr2, h1, h2]; rfl)))   -- leaf 2
      · exact hQ (.tup [.isl 1 (rows (cSl 1 cInt) grid), .bool false]) (Eq.trans (by first | rfl | (simp only [lb, lbI, rows_cons, rows_nil, unnilT, unnil, unnilTI, unnilI]; done) | (simp only [lb, lbI, rows_cons, rows_nil, unnilT, unnil, unnilTI, unnilI]; rfl)) (congrArg ((lbI 1 (cSl 1 cInt))) (show (grid, false) = quoL width height pieces placed rows_ columns from by rw [quoL, ← hgrid, quB, ← hr1, h1]; rfl)))   -- leaf 3
    · exact hQ (.tup [.isl 1 (rows (cSl 1 cInt) grid), .bool false]) (Eq.trans (by first | rfl | (simp only [lb, lbI, rows_cons, rows_nil, unnilT, unnil, unnilTI, unnilI]; done) | (simp only [lb, lbI, rows_cons, rows_nil, unnilT, unnil, unnilTI, unnilI]; rfl)) (congrArg ((lbI 1 (cSl 1 cInt))) (show (grid, false) = quoL width height pieces placed rows_ columns from by rw [quoL, ← hgrid]; rfl))))   -- leaf 4

theorem IsLocked_ok (width : Int) (height : Int) (pieces : List Piece) (placed : List Plc) (rows_ : List Int) (columns : List Int) (hb : ∀ p ∈ placed, p.2.1 ≤ 1000000 ∧ p.2.2.1 ≤ 1000000) : OkA Try.prog 34 [.int .i64 width, .int .i64 height, .isl 2 (rows cPiece pieces), .isl 4 (rows cPlaced placed), .isl 1 (rows cInt rows_), .isl 1 (rows cInt columns)] (· = bb (lockA width height pieces placed rows_ columns)) :=
  fn_intro envOk fieldsOk mixed Try.func34 rfl fun κ X Y L Q m hQ => by
    conv => cbv
    refine r_callF (lbI 1 (cSl 1 cInt)) m.sX (quoined_ok width height pieces placed rows_ columns (by first | rfl | assumption | omega | (simp only [List.length_append, List.length_cons, List.length_nil] at *; omega))) fun v hgrid => ?_
    obtain ⟨grid, ok⟩ := v
    conv => cbv
    rcases Bool.eq_false_or_eq_true ok with rfl | rfl <;> conv => cbv
    · obtain ⟨G, eG, eg, sg, ⟨bw, bh⟩, eq_, ⟨⟨q1, q2⟩, q3, q4⟩, pl8, pn⟩ := quo_yes hgrid
      have tz := tab_sizes (w := width.toNat) (h := height.toNat) (G := G) (by omega) (by omega)
      rw [← eg] at tz
      refine r_callF (PV.int .i64) m.sX (freePlaces_ok grid (by first | rfl | assumption | omega | (simp only [List.length_append, List.length_cons, List.length_nil] at *; omega))) fun r1 hr1 => ?_
      conv => cbv
      have fc : freeC width.toNat height.toNat G = r1 := by rw [hr1, eg]; rfl
      refine r_eql m.sX (fun h1 => ?_) (fun h1 => ?_) <;> conv => cbv
      · refine r_lenR m.sX fun n1 hn1 mn1 => ?_
        conv => cbv
        refine r_lenR m.sX fun n2 hn2 mn2 => ?_
        conv => cbv
        refine r_eql m.sX (fun h2 => ?_) (fun h2 => ?_) <;> conv => cbv
        · refine r_callF (fun l => PV.isl _ (rows _ l)) m.sX (loose_ok grid placed rows_ columns width.toNat height.toNat G eg ⟨by omega, by omega⟩ ⟨by omega, by omega⟩ sg pn (by omega) (by assumption) (by assumption) (by assumption) (by assumption)) fun v1 hv1 => ?_
          conv => cbv
          refine r_lenR m.sX fun n3 hn3 mn3 => ?_
          conv => cbv
          refine r_eql m.sX (fun h3 => ?_) (fun h3 => ?_) <;> conv => cbv
          · exact hQ (.tup [.bool true, .bool true]) (Eq.trans (by first | rfl | (simp only [lb, lbI, rows_cons, rows_nil, unnilT, unnil, unnilTI, unnilI]; done) | (simp only [lb, lbI, rows_cons, rows_nil, unnilT, unnil, unnilTI, unnilI]; rfl)) (congrArg (bb) (show (true, true) = lockA width height pieces placed rows_ columns from by rw [lockA, eG]; dsimp only; rw [if_pos eq_, fc, decide_eq_true h1, decide_eq_true (show placed.length = pieces.length by omega), ← hv1, decide_eq_true (List.length_eq_zero_iff.1 (show v1.length = 0 by omega))]; rfl)))   -- leaf 1
          · exact hQ (.tup [.bool false, .bool true]) (Eq.trans (by first | rfl | (simp only [lb, lbI, rows_cons, rows_nil, unnilT, unnil, unnilTI, unnilI]; done) | (simp only [lb, lbI, rows_cons, rows_nil, unnilT, unnil, unnilTI, unnilI]; rfl)) (congrArg (bb) (show (false, true) = lockA width height pieces placed rows_ columns from by rw [lockA, eG]; dsimp only; rw [if_pos eq_, ← hv1, decide_eq_false (show ¬ v1 = [] from fun e => h3 (by rw [hn3, e]; rfl))]; simp)))   -- leaf 2
        · exact hQ (.tup [.bool false, .bool true]) (Eq.trans (by first | rfl | (simp only [lb, lbI, rows_cons, rows_nil, unnilT, unnil, unnilTI, unnilI]; done) | (simp only [lb, lbI, rows_cons, rows_nil, unnilT, unnil, unnilTI, unnilI]; rfl)) (congrArg (bb) (show (false, true) = lockA width height pieces placed rows_ columns from by rw [lockA, eG]; dsimp only; rw [if_pos eq_, decide_eq_false (show ¬ placed.length = pieces.length by omega)]; simp)))   -- leaf 3
      · exact hQ (.tup [.bool false, .bool true]) (Eq.trans (by first | rfl | (simp only [lb, lbI, rows_cons, rows_nil, unnilT, unnil, unnilTI, unnilI]; done) | (simp only [lb, lbI, rows_cons, rows_nil, unnilT, unnil, unnilTI, unnilI]; rfl)) (congrArg (bb) (show (false, true) = lockA width height pieces placed rows_ columns from by rw [lockA, eG]; dsimp only; rw [if_pos eq_, fc, decide_eq_false h1]; simp)))   -- leaf 4
    · exact hQ (.tup [.bool false, .bool false]) (Eq.trans (by first | rfl | (simp only [lb, lbI, rows_cons, rows_nil, unnilT, unnil, unnilTI, unnilI]; done) | (simp only [lb, lbI, rows_cons, rows_nil, unnilT, unnil, unnilTI, unnilI]; rfl)) (congrArg (bb) (show (false, false) = lockA width height pieces placed rows_ columns from by exact (quo_no hgrid).2.1.symm)))   -- leaf 5

theorem FallsWithout_ok (width : Int) (height : Int) (pieces : List Piece) (placed : List Plc) (rows_ : List Int) (columns : List Int) (row : Int) (hb : ∀ p ∈ placed, p.2.1 ≤ 1000000 ∧ p.2.2.1 ≤ 1000000) : OkA Try.prog 38 [.int .i64 width, .int .i64 height, .isl 2 (rows cPiece pieces), .isl 4 (rows cPlaced placed), .isl 1 (rows cInt rows_), .isl 1 (rows cInt columns), .int .i64 row] (· = (lb 3 1 cInt) (fallsA width height pieces placed rows_ columns row)) :=
  OkA.unnil 3 1 (fn_intro envOk fieldsOk mixed Try.func38 rfl fun κ X Y L Q m hQ => by
    conv => cbv
    refine r_callF (lbI 1 (cSl 1 cInt)) m.sX (quoined_ok width height pieces placed rows_ columns (by first | rfl | assumption | omega | (simp only [List.length_append, List.length_cons, List.length_nil] at *; omega))) fun v hgrid => ?_
    obtain ⟨grid, ok⟩ := v
    conv => cbv
    rcases Bool.eq_false_or_eq_true ok with rfl | rfl <;> conv => cbv
    · obtain ⟨G, eG, eg, sg, ⟨bw, bh⟩, eq_, qo, pl8, pn⟩ := quo_yes hgrid
      obtain ⟨⟨q1, q2⟩, q3, q4⟩ := id qo
      refine r_callB m.sX (hasNumber_ok rows_ row) (fun h1 => ?_) (fun h1 => ?_) <;> conv => cbv
      · refine r_lenR m.sX fun n1 hn1 mn1 => ?_
        conv => cbv
        refine r_loopF (α := List Int × Int) m 85 [3, 4, 5, 6, 16, 45, 46, 47] [⟨18, 145, 3, 1, 0⟩] (fun σ => [(3, .isl 4 (rows cPlaced placed)), (4, .isl 1 (rows cInt rows_)), (5, .isl 1 (rows cInt columns)), (6, .int .i64 row), (16, .isl 1 (rows (cSl 1 cInt) grid)), (18, .osl 145 0), (45, .isl 1 (rows cInt rows_)), (46, .int .i64 n1), (47, .int .i64 σ.2)]) (fun σ => [(145, 0, .row 3 1 (rows cInt σ.1))])
          (fun σ => (0 ≤ σ.2) ∧ (σ.2 ≤ n1) ∧ (σ.1 = (rows_.take σ.2.toNat).filter fun y => decide (y ≠ row)) ∧ ((σ.1.length : Int) ≤ σ.2)) (fun σ => (n1 - σ.2).toNat) ([], 0) ?_ ?_ ?_ ?_
        · cbv
        · (try dsimp only); (try simp only [rows_cons, rows_nil]); cbv
        · exact ⟨(by (try dsimp only); first | omega | (simp only [List.length_nil]; omega) | (simp only [List.length_cons, List.length_nil]; omega)), (by (try dsimp only); first | omega | (simp only [List.length_nil]; omega) | (simp only [List.length_cons, List.length_nil]; omega)), (by (try dsimp only) <;> (rfl)), (by (try dsimp only) <;> first | omega | rfl | (simp [*]; done))⟩
        rintro ⟨others, i1⟩ ⟨lo1, hi1, q, ln⟩ E hE F hF
        dsimp only at lo1 hi1 q ln
        conv => cbv
        refine r_lss m.sX (fun h2 => ?_) (fun h2 => ?_) <;> conv => cbv
        · refine r_index m.sX (by omega) (by omega) fun y hy => ?_
          conv => cbv
          have my := get_mem hy
          have dy := drop_cons hy
          have ky := take_snoc hy
          have jy : (i1 + 1).toNat = Int.toNat i1 + 1 := by omega
          have vy := nth_some hy
          refine r_neq m.sX (fun h3 => ?_) (fun h3 => ?_) <;> conv => cbv
          · refine r_append1 (y) m.sX rfl (by first | omega | (dsimp only; omega)) (by first | omega | (dsimp only; omega)) fun others_2 hothers_2 => ?_
            conv => cbv
            have lothers_2 : (others_2.length : Int) = others.length + 1 := by rw [hothers_2]; first | done | (simp; done) | (simp; omega)
            refine r_addf m.sX (by omega) (by omega) fun r1 hr1 => ?_
            conv => cbv
            try have tr1 : Int.toNat r1 = Int.toNat i1 + 1 := by omega
            refine hE _ (others_2, r1) ?_ ?_ ⟨(by (try dsimp only); first | omega | (simp only [List.length_nil]; omega) | (simp only [List.length_cons, List.length_nil]; omega)), (by (try dsimp only); first | omega | (simp only [List.length_nil]; omega) | (simp only [List.length_cons, List.length_nil]; omega)), (by (try dsimp only) <;> (rw [tr1]; first | (rw [hothers_2]; exact keep_next hy q (decide_eq_true h3)) | exact drop_next hy q (decide_eq_false (by simp [h3])))), (by (try dsimp only) <;> (omega))⟩ (by first | omega | (dsimp only; omega))
            · cbv
            · cbv
          · refine r_addf m.sX (by omega) (by omega) fun r2 hr2 => ?_
            conv => cbv
            try have tr2 : Int.toNat r2 = Int.toNat i1 + 1 := by omega
            refine hE _ (others, r2) ?_ ?_ ⟨(by (try dsimp only); first | omega | (simp only [List.length_nil]; omega) | (simp only [List.length_cons, List.length_nil]; omega)), (by (try dsimp only); first | omega | (simp only [List.length_nil]; omega) | (simp only [List.length_cons, List.length_nil]; omega)), (by (try dsimp only) <;> (rw [tr2]; first | (rw [hothers_2]; exact keep_next hy q (decide_eq_true h3)) | exact drop_next hy q (decide_eq_false (by simp [h3])))), (by (try dsimp only) <;> (omega))⟩ (by first | omega | (dsimp only; omega))
            · cbv
            · cbv
        · have dz_i1 := drop_end (xs := rows_) (i := Int.toNat i1) (by omega)
          have tz_i1 := take_end (xs := rows_) (i := Int.toNat i1) (by omega)
          refine hF _ _ ?_
          conv => cbv
          refine r_callF (fun l => PV.isl _ (rows _ l)) m.sX (loose_ok grid placed rows_ columns width.toNat height.toNat G eg ⟨by omega, by omega⟩ ⟨by omega, by omega⟩ sg pn (by omega) (by assumption) (by assumption) (by assumption) (by assumption)) fun before hbefore => ?_
          conv => cbv
          have eo : others = rows_.filter fun y => decide (y ≠ row) := by rw [q, List.take_of_length_le (by omega)]
          have ql := qo.less (fun y => decide (y ≠ row))
          rw [← eo] at ql
          obtain ⟨⟨o1, o2⟩, -⟩ := id ql
          refine .inl (r_callFO (fun l => PV.isl _ (rows _ l)) m.sX ((loose_okO grid placed others columns width.toNat height.toNat G eg ⟨by omega, by omega⟩ ⟨by omega, by omega⟩ sg pn (by omega) (by assumption) (by assumption) (by assumption) (by assumption))) fun v1 hv1 => ?_)
          conv => cbv
          have vl : v1.length ≤ placed.length := by rw [hv1]; exact loose_len _ _ _ _ _ _
          refine r_lenR m.sX fun n2 hn2 mn2 => ?_
          conv => cbv
          refine r_loopF (α := List Int × Int) m 85 [21, 69, 70, 71] [⟨22, 177, 3, 1, 0⟩] (fun σ => [(21, .isl 1 (rows cInt before)), (22, .osl 177 0), (69, .isl 1 (rows cInt v1)), (70, .int .i64 n2), (71, .int .i64 σ.2)]) (fun σ => [(177, 0, .row 3 1 (rows cInt σ.1))])
            (fun σ => (0 ≤ σ.2) ∧ (σ.2 ≤ n2) ∧ (σ.1 = (v1.take σ.2.toNat).filter fun n => decide (n ∉ before)) ∧ ((σ.1.length : Int) ≤ σ.2)) (fun σ => (n2 - σ.2).toNat) ([], 0) ?_ ?_ ?_ ?_
          · cbv
          · (try dsimp only); (try simp only [rows_cons, rows_nil]); cbv
          · exact ⟨(by (try dsimp only); first | omega | (simp only [List.length_nil]; omega) | (simp only [List.length_cons, List.length_nil]; omega)), (by (try dsimp only); first | omega | (simp only [List.length_nil]; omega) | (simp only [List.length_cons, List.length_nil]; omega)), (by (try dsimp only) <;> (rfl)), (by (try dsimp only) <;> first | omega | rfl | (simp [*]; done))⟩
          rintro ⟨list, i2⟩ ⟨lo2, hi2, qq, ln2⟩ E hE F hF
          dsimp only at lo2 hi2 qq ln2
          conv => cbv
          refine r_lss m.sX (fun h4 => ?_) (fun h4 => ?_) <;> conv => cbv
          · refine r_index m.sX (by omega) (by omega) fun number hnumber => ?_
            conv => cbv
            have mnumber := get_mem hnumber
            have dnumber := drop_cons hnumber
            have knumber := take_snoc hnumber
            have jnumber : (i2 + 1).toNat = Int.toNat i2 + 1 := by omega
            have vnumber := nth_some hnumber
            refine r_callB m.sX (hasNumber_ok before number) (fun h5 => ?_) (fun h5 => ?_) <;> conv => cbv
            · refine r_addf m.sX (by omega) (by omega) fun r3 hr3 => ?_
              conv => cbv
              try have tr3 : Int.toNat r3 = Int.toNat i2 + 1 := by omega
              refine hE _ (list, r3) ?_ ?_ ⟨(by (try dsimp only); first | omega | (simp only [List.length_nil]; omega) | (simp only [List.length_cons, List.length_nil]; omega)), (by (try dsimp only); first | omega | (simp only [List.length_nil]; omega) | (simp only [List.length_cons, List.length_nil]; omega)), (by (try dsimp only) <;> (rw [tr3]; first | (rw [hlist_2]; exact keep_next hnumber qq (decide_eq_true (of_decide_eq_false h5))) | exact drop_next hnumber qq (decide_eq_false (fun e => e (of_decide_eq_true h5))))), (by (try dsimp only) <;> (omega))⟩ (by first | omega | (dsimp only; omega))
              · cbv
              · cbv
            · refine r_append1 (number) m.sX rfl (by first | omega | (dsimp only; omega)) (by first | omega | (dsimp only; omega)) fun list_2 hlist_2 => ?_
              conv => cbv
              have llist_2 : (list_2.length : Int) = list.length + 1 := by rw [hlist_2]; first | done | (simp; done) | (simp; omega)
              refine r_addf m.sX (by omega) (by omega) fun r4 hr4 => ?_
              conv => cbv
              try have tr4 : Int.toNat r4 = Int.toNat i2 + 1 := by omega
              refine hE _ (list_2, r4) ?_ ?_ ⟨(by (try dsimp only); first | omega | (simp only [List.length_nil]; omega) | (simp only [List.length_cons, List.length_nil]; omega)), (by (try dsimp only); first | omega | (simp only [List.length_nil]; omega) | (simp only [List.length_cons, List.length_nil]; omega)), (by (try dsimp only) <;> (rw [tr4]; first | (rw [hlist_2]; exact keep_next hnumber qq (decide_eq_true (of_decide_eq_false h5))) | exact drop_next hnumber qq (decide_eq_false (fun e => e (of_decide_eq_true h5))))), (by (try dsimp only) <;> (omega))⟩ (by first | omega | (dsimp only; omega))
              · cbv
              · cbv
          · have dz_i2 := drop_end (xs := v1) (i := Int.toNat i2) (by omega)
            have tz_i2 := take_end (xs := v1) (i := Int.toNat i2) (by omega)
            refine hF _ _ ?_
            conv => cbv
            exact hQ (.tup [.fr 3 1 (rows cInt list), .bool true]) (Eq.trans (by first | rfl | (simp only [lb, lbI, rows_cons, rows_nil, unnilT, unnil, unnilTI, unnilI]; done) | (simp only [lb, lbI, rows_cons, rows_nil, unnilT, unnil, unnilTI, unnilI]; rfl)) (congrArg ((lb 3 1 cInt)) (show (list, true) = fallsA width height pieces placed rows_ columns row from by rw [fallsA, eG]; dsimp only; rw [if_pos ⟨eq_, of_decide_eq_true h1⟩, qq, List.take_of_length_le (by omega)]; unfold fallsF; rw [← hbefore, ← eo, ← hv1])))   -- leaf 1
      · exact hQ (.tup [.fr 3 1 [], .bool false]) (Eq.trans (by first | rfl | (simp only [lb, lbI, rows_cons, rows_nil, unnilT, unnil, unnilTI, unnilI]; done) | (simp only [lb, lbI, rows_cons, rows_nil, unnilT, unnil, unnilTI, unnilI]; rfl)) (congrArg ((lb 3 1 cInt)) (show ([], false) = fallsA width height pieces placed rows_ columns row from by rw [fallsA, eG]; dsimp only; rw [if_neg (fun e => of_decide_eq_false h1 e.2)])))   -- leaf 2
    · exact hQ (.tup [.fr 3 1 [], .bool false]) (Eq.trans (by first | rfl | (simp only [lb, lbI, rows_cons, rows_nil, unnilT, unnil, unnilTI, unnilI]; done) | (simp only [lb, lbI, rows_cons, rows_nil, unnilT, unnil, unnilTI, unnilI]; rfl)) (congrArg ((lb 3 1 cInt)) (show ([], false) = fallsA width height pieces placed rows_ columns row from by exact ((quo_no hgrid).2.2 row).symm))))   -- leaf 3


/- A slot that holds nil may be taken as an empty list that is read. -/
section
variable {P : Program} {G : Env} {κ : Ctx} {X Y : Req → (PV → Prop) → Prop} {L : Code → (Ex → St → Prop) → St → Prop}
theorem r_nilI (t sz : Nat) {c : Code} {Q : Ex → St → Prop} {s : St} (h : Mach P G κ X Y L) (ho : s.T.getD t .undef = .nil) (H : L c Q (s.put (some t) (.isl sz []))) : L c Q s := by
  have := h.z
  rw [h.L] at H ⊢
  intro η a w hs
  have hr := hs.tmp t
  rw [ho] at hr
  have hr2 : Rep w (imm κ η w) η (.isl sz []) (a.tmps.getD t Go.undef) := by
    generalize a.tmps.getD t Go.undef = v at hr ⊢
    cases hr with
    | one hr => cases hr with
      | one hr => cases hr with
        | imm hr =>
          cases hr
          exact .one (.one (.imm (.isl0 sz none 0 (Nat.zero_le _))))
  have hp := hs.put (some t) hr2
  have e : a.put (some t) (a.tmps.getD t Go.undef) = a := by
    cases a
    simp only [Act.put]
    congr 1
    apply Array.ext
    · simp
    · intro i h1 h2
      simp only [Array.set!_eq_setIfInBounds] at *
      rw [Array.getElem_setIfInBounds]
      split
      · rename_i q; subst q; simp [Array.getD, h2]
      · rfl
  rw [e] at hp
  exact H η a w hp
end
theorem RepArg.nil_isl {w : World} {I : Nat → Prop} {v : Value} (h : RepArg w I .nil v) (sz : Nat) : RepArg w I (.isl sz []) v := by
  cases h with
  | one h => cases h; exact .one (.isl0 sz none 0 (Nat.zero_le _))
/- Contracts of the reference's functions on locked formes. -/
theorem put_more {l : List Int} {n : Int} (hn : n ∉ l) : (putF l n).length = l.length + 1 := by
  unfold putF
  split
  · rename_i e
    exact absurd (by
      have := List.takeWhile_append_dropWhile (p := fun x => decide (x < n)) (l := l)
      rw [← this]
      exact List.mem_append.2 (.inr (List.mem_of_mem_head? e))) hn
  · have := congrArg List.length (List.takeWhile_append_dropWhile (p := fun x => decide (x < n)) (l := l))
    simp only [List.length_append, List.length_cons] at this ⊢
    omega
structure FlatOk (grid : List Int) (width height : Int) (G : Grid) : Prop where
  eq : grid = flaG width.toNat height.toNat G
  hw : 1 ≤ width ∧ width ≤ 8
  hh : 1 ≤ height ∧ height ≤ 8
  sg : smallG width.toNat height.toNat G
theorem FlatOk.at {grid : List Int} {w h : Int} {G : Grid} (f : FlatOk grid w h G) {y x i c : Int} (hy : 0 ≤ y ∧ y < h) (hx : 0 ≤ x ∧ x < w) (hi : i = y * w + x) (hc : grid[i.toNat]? = some c) : c = G y.toNat x.toNat := by
  have ix := flat_ix (a := y) (b := x) (w := w) hy.1 (by have := f.hw; omega) hx.1 hi
  rw [f.eq, ix, flaG_at (by omega) (by omega)] at hc
  exact (Option.some.inj hc).symm
theorem lkBehind_ok (grid : List Int) (width : Int) (height : Int) (number : Int) (dx : Int) (dy : Int) (G : Grid) (fo : FlatOk grid width height G) (hd : (0 ≤ dx ∧ dx ≤ 1) ∧ 0 ≤ dy ∧ dy ≤ 1) : OkA Try.prog 175 [.isl 1 (rows cInt grid), .int .i64 width, .int .i64 height, .int .i64 number, .int .i64 dx, .int .i64 dy] (· = .isl 1 (rows cInt (setL fun k => k ≠ number ∧ adjG dx.toNat dy.toNat width.toNat height.toNat G number k))) :=
  OkA.iceI 1 (fn_intro envOk fieldsOk mixed Try.func175 rfl fun κ X Y L Q m hQ => by
    obtain ⟨eg, hw, hh, sg⟩ := id fo
    have gl : grid.length = width.toNat * height.toNat := by rw [eg, flaG_length]
    have mb8 := mul_bound (a := width) (A := 8) (b := height) (B := 8) (by omega) (by omega) (by omega) (by omega)
    have ml := nat_mul (a := width) (b := height) (by omega) (by omega)
    conv => cbv
    refine r_nilI 13 1 m rfl ?_
    conv => cbv
    refine r_loopF (α := List Int × Int) m 66 [0, 1, 2, 3, 4, 5, 13, 14] [] (fun σ => [(0, .isl 1 (rows cInt grid)), (1, .int .i64 width), (2, .int .i64 height), (3, .int .i64 number), (4, .int .i64 dx), (5, .int .i64 dy), (13, .isl 1 (rows cInt σ.1)), (14, .int .i64 σ.2)]) (fun σ => [])
      (fun σ => (0 ≤ σ.2 ∧ σ.2 ≤ height) ∧ (BehX dx.toNat dy.toNat width.toNat height.toNat G number σ.2.toNat 0 σ.1)) (fun σ => (height - σ.2).toNat) ([], 0) ?_ ?_ ?_ ?_
    · cbv
    · (try dsimp only); (try simp only [rows_cons, rows_nil]); cbv
    · exact ⟨(by (try dsimp only) <;> first | omega | rfl | (simp [*]; done)), (by (try dsimp only) <;> (exact BehX.start))⟩
    rintro ⟨out, y⟩ ⟨yb, bx⟩ E hE F hF
    dsimp only at yb bx
    conv => cbv
    refine r_addf m.sX (by omega) (by omega) fun r1 hr1 => ?_
    conv => cbv
    refine r_lss m.sX (fun h1 => ?_) (fun h1 => ?_) <;> conv => cbv
    · refine r_loopF (α := List Int × Int) m 66 [0, 1, 2, 3, 4, 5, 13, 14, 15] [] (fun σ => [(0, .isl 1 (rows cInt grid)), (1, .int .i64 width), (2, .int .i64 height), (3, .int .i64 number), (4, .int .i64 dx), (5, .int .i64 dy), (13, .isl 1 (rows cInt σ.1)), (14, .int .i64 y), (15, .int .i64 σ.2)]) (fun σ => [])
        (fun σ => (0 ≤ σ.2 ∧ σ.2 ≤ width) ∧ (BehX dx.toNat dy.toNat width.toNat height.toNat G number y.toNat σ.2.toNat σ.1)) (fun σ => (width - σ.2).toNat) (out, 0) ?_ ?_ ?_ ?_
      · cbv
      · cbv
      · exact ⟨(by (try dsimp only) <;> first | omega | rfl | (simp [*]; done)), (by (try dsimp only) <;> (exact bx))⟩
      rintro ⟨out_2, x⟩ ⟨xb, bx2⟩ E2 hE2 F2 hF2
      dsimp only at xb bx2
      have ol := ris_len8 bx2.ris fun n hn => ((bx2.mem n).1 hn).1
      conv => cbv
      refine r_addf m.sX (by omega) (by omega) fun r2 hr2 => ?_
      conv => cbv
      refine r_lss m.sX (fun h2 => ?_) (fun h2 => ?_) <;> conv => cbv
      · refine r_addf m.sX (by omega) (by omega) fun r3 hr3 => ?_
        conv => cbv
        have m4 := mul_bound (a := r3) (A := 8) (b := width) (B := 8) (by omega) (by omega) (by omega) (by omega)
        have m7 := mul_bound (a := y) (A := 8) (b := width) (B := 8) (by omega) (by omega) (by omega) (by omega)
        refine r_mulf m.sX (by first | omega | (subst_vars; omega)) (by first | omega | (subst_vars; omega)) fun r4 hr4 => ?_
        conv => cbv
        refine r_addf m.sX (by omega) (by omega) fun r5 hr5 => ?_
        conv => cbv
        refine r_addf m.sX (by omega) (by omega) fun r6 hr6 => ?_
        conv => cbv
        have ix6 := flat_ix (a := r3) (w := width) (b := x + dx) (by omega) (by omega) (by omega) (show r6 = r3 * width + (x + dx) by omega)
        have il6 := flat_lt (show r3.toNat < height.toNat by omega) (show (x + dx).toNat < width.toNat by omega)
        refine r_index m.sX (by omega) (by omega) fun next hnext => ?_
        conv => cbv
        have mnext := get_mem hnext
        have vnext := nth_some hnext
        have en : next = G r3.toNat (x + dx).toNat := fo.at ⟨by omega, by omega⟩ ⟨by omega, by omega⟩ (by omega) hnext
        rw [show r3.toNat = y.toNat + dy.toNat by omega, show (x + dx).toNat = x.toNat + dx.toNat by omega] at en
        have sn := sg (y.toNat + dy.toNat) (x.toNat + dx.toNat)
        refine r_mulf m.sX (by first | omega | (subst_vars; omega)) (by first | omega | (subst_vars; omega)) fun r7 hr7 => ?_
        conv => cbv
        refine r_addf m.sX (by omega) (by omega) fun r8 hr8 => ?_
        conv => cbv
        have ix8 := flat_ix (a := y) (w := width) (b := x) (by omega) (by omega) (by omega) (show r8 = y * width + x by omega)
        have il8 := flat_lt (show y.toNat < height.toNat by omega) (show x.toNat < width.toNat by omega)
        refine r_index m.sX (by omega) (by omega) fun x1 hx1 => ?_
        conv => cbv
        have mx1 := get_mem hx1
        have vx1 := nth_some hx1
        have e1 : x1 = G y.toNat x.toNat := fo.at ⟨by omega, by omega⟩ ⟨by omega, by omega⟩ (by omega) hx1
        refine r_eql m.sX (fun h3 => ?_) (fun h3 => ?_) <;> conv => cbv
        · refine r_geq m.sX (fun h4 => ?_) (fun h4 => ?_) <;> conv => cbv
          · refine r_neq m.sX (fun h5 => ?_) (fun h5 => ?_) <;> conv => cbv
            · refine r_callF (fun l => PV.isl _ (rows _ l)) m.sX (l1Put_ok out_2 next (by omega)) fun out_3 hout_3 => ?_
              conv => cbv
              refine r_addf m.sX (by omega) (by omega) fun x_2 hx_2 => ?_
              conv => cbv
              refine hE2 _ (out_3, x_2) ?_ ?_ ⟨(by (try dsimp only) <;> first | omega | rfl | (simp [*]; done) | (rw [xb]; simp [*]; done)), (by (try dsimp only) <;> (rw [show Int.toNat x_2 = x.toNat + 1 by omega]; first | exact bx2.hit ⟨by omega, by omega⟩ (by omega) ⟨by omega, by omega⟩ (by omega) (by rw [hout_3, en]) | exact bx2.skip (fun e => by have := e.1; have := e.2.1; have := e.2.2; omega)))⟩ (by first | omega | (dsimp only; omega))
              · cbv
              · cbv
            · refine r_addf m.sX (by omega) (by omega) fun x_3 hx_3 => ?_
              conv => cbv
              refine hE2 _ (out_2, x_3) ?_ ?_ ⟨(by (try dsimp only) <;> first | omega | rfl | (simp [*]; done) | (rw [xb]; simp [*]; done)), (by (try dsimp only) <;> (rw [show Int.toNat x_3 = x.toNat + 1 by omega]; first | exact bx2.hit ⟨by omega, by omega⟩ (by omega) ⟨by omega, by omega⟩ (by omega) (by rw [hout_3, en]) | exact bx2.skip (fun e => by have := e.1; have := e.2.1; have := e.2.2; omega)))⟩ (by first | omega | (dsimp only; omega))
              · cbv
              · cbv
          · refine r_addf m.sX (by omega) (by omega) fun x_4 hx_4 => ?_
            conv => cbv
            refine hE2 _ (out_2, x_4) ?_ ?_ ⟨(by (try dsimp only) <;> first | omega | rfl | (simp [*]; done) | (rw [xb]; simp [*]; done)), (by (try dsimp only) <;> (rw [show Int.toNat x_4 = x.toNat + 1 by omega]; first | exact bx2.hit ⟨by omega, by omega⟩ (by omega) ⟨by omega, by omega⟩ (by omega) (by rw [hout_3, en]) | exact bx2.skip (fun e => by have := e.1; have := e.2.1; have := e.2.2; omega)))⟩ (by first | omega | (dsimp only; omega))
            · cbv
            · cbv
        · refine r_addf m.sX (by omega) (by omega) fun x_5 hx_5 => ?_
          conv => cbv
          refine hE2 _ (out_2, x_5) ?_ ?_ ⟨(by (try dsimp only) <;> first | omega | rfl | (simp [*]; done) | (rw [xb]; simp [*]; done)), (by (try dsimp only) <;> (rw [show Int.toNat x_5 = x.toNat + 1 by omega]; first | exact bx2.hit ⟨by omega, by omega⟩ (by omega) ⟨by omega, by omega⟩ (by omega) (by rw [hout_3, en]) | exact bx2.skip (fun e => by have := e.1; have := e.2.1; have := e.2.2; omega)))⟩ (by first | omega | (dsimp only; omega))
          · cbv
          · cbv
      · refine hF2 _ _ ?_
        conv => cbv
        refine r_addf m.sX (by omega) (by omega) fun y_2 hy_2 => ?_
        conv => cbv
        refine hE _ (out_2, y_2) ?_ ?_ ⟨(by (try dsimp only) <;> first | omega | rfl | (simp [*]; done) | (rw [yb]; simp [*]; done)), (by (try dsimp only) <;> (rw [show Int.toNat y_2 = y.toNat + 1 by omega]; exact bx2.row (by omega)))⟩ (by first | omega | (dsimp only; omega))
        · cbv
        · cbv
    · refine hF _ _ ?_
      conv => cbv
      exact hQ (.isl 1 (rows cInt out)) (Eq.trans (by first | rfl | (simp only [lb, lbI, rows_cons, rows_nil, unnilT, unnil, unnilTI, unnilI]; done) | (simp only [lb, lbI, rows_cons, rows_nil, unnilT, unnil, unnilTI, unnilI]; rfl)) (congrArg (fun l => PV.isl 1 (rows cInt l)) (show out = setL fun k => k ≠ number ∧ adjG dx.toNat dy.toNat width.toNat height.toNat G number k from by exact bx.fin (by omega)))))   -- leaf 1

/-- One pass of the reference's spreading: so many numbers have been looked at. -/
structure SprX (adj : Int → Int → Prop) (st : Int → Prop) (P0 P : List Int) (again : Bool) (ns : List Int) : Prop where
  ris : Ris P
  bnd : ∀ n ∈ P, 0 ≤ n ∧ n ≤ 7
  more : ∀ n, n ∈ P0 → n ∈ P
  ok : ∀ n ∈ P, Prs adj st n
  still : again = false → P = P0 ∧ ∀ n ∈ ns, 0 ≤ n → n ∉ P0 → ∀ k, 0 ≤ k ∧ k ≤ 7 → k ≠ n → adj n k → k ∉ P0
  grew : again = true → P0.length < P.length
/-- Within one number: nothing behind it is pressed so far, or it is pressed now. -/
def HitX (P : List Int) (a : Bool) (number : Int) (beh : List Int) (j : Nat) (P3 : List Int) (a3 : Bool) : Prop :=
  (P3 = P ∧ a3 = a ∧ ∀ k ∈ beh.take j, k ∉ P) ∨ (P3 = putF P number ∧ a3 = true ∧ ∃ k ∈ beh, k ∈ P)
section
variable {adj : Int → Int → Prop} {st : Int → Prop} {P0 P P3 P4 beh ns : List Int} {a a3 : Bool} {number k : Int} {j : Nat}
theorem HitX.start : HitX P a number beh 0 P a := .inl ⟨rfl, rfl, fun k hk => by cases hk⟩
theorem HitX.no (h : HitX P a number beh j P3 a3) (hk : beh[j]? = some k) (hn : k ∉ P3) : HitX P a number beh (j + 1) P3 a3 := by
  rcases h with ⟨rfl, rfl, h⟩ | h
  · refine .inl ⟨rfl, rfl, fun m hm => ?_⟩
    rw [List.take_add_one, hk] at hm
    rcases List.mem_append.1 hm with hm | hm
    · exact h m hm
    · have : m = k := by simpa using hm
      rw [this]; exact hn
  · exact .inr h
theorem HitX.yes (hr : Ris P) (h : HitX P a number beh j P3 a3) (hk : beh[j]? = some k) (hn : k ∈ P3) (e : P4 = putF P3 number) : HitX P a number beh (j + 1) P4 true := by
  rcases h with ⟨rfl, rfl, h⟩ | ⟨rfl, -, h⟩
  · exact .inr ⟨e, rfl, k, List.mem_of_getElem? hk, hn⟩
  · refine .inr ⟨?_, rfl, h⟩
    obtain ⟨p1, p2⟩ := ris_put number hr
    rw [e, put_same2 p1 ((p2 number).2 (.inr rfl))]
theorem SprX.start (hr : Ris P0) (hb : ∀ n ∈ P0, 0 ≤ n ∧ n ≤ 7) (ho : ∀ n ∈ P0, Prs adj st n) : SprX adj st P0 P0 false [] := ⟨hr, hb, fun _ h => h, ho, fun _ => ⟨rfl, fun n hn => by cases hn⟩, fun h => by cases h⟩
theorem SprX.skip (h : SprX adj st P0 P a ns) (hn : number < 0 ∨ number ∈ P) : SprX adj st P0 P a (ns ++ [number]) := by
  refine ⟨h.ris, h.bnd, h.more, h.ok, fun e => ⟨(h.still e).1, fun n hm h0 h1 k hk => ?_⟩, h.grew⟩
  obtain ⟨e1, e2⟩ := h.still e
  rcases List.mem_append.1 hm with hm | hm
  · exact e2 n hm h0 h1 k hk
  · have e3 : n = number := by simpa using hm
    subst e3
    rcases hn with hn | hn
    · omega
    · rw [e1] at hn; exact absurd hn h1
theorem SprX.next (h : SprX adj st P0 P a ns) (h0 : 0 ≤ number ∧ number ≤ 7) (hn : number ∉ P) (hbeh : beh = setL fun k => k ≠ number ∧ adj number k) (hh : HitX P a number beh j P3 a3) (hj : beh.length ≤ j) : SprX adj st P0 P3 a3 (ns ++ [number]) := by
  rcases hh with ⟨rfl, rfl, h1⟩ | ⟨rfl, rfl, k, h1, h2⟩
  · rw [List.take_of_length_le hj] at h1
    refine ⟨h.ris, h.bnd, h.more, h.ok, fun e => ⟨(h.still e).1, fun n hm g0 g1 k hk gk ga => ?_⟩, h.grew⟩
    obtain ⟨e1, e2⟩ := h.still e
    rcases List.mem_append.1 hm with hm | hm
    · exact e2 n hm g0 g1 k hk gk ga
    · have e3 : n = number := by simpa using hm
      subst e3
      have := h1 k (by rw [hbeh, setL_mem]; exact ⟨hk, gk, ga⟩)
      rw [e1] at this; exact this
  · obtain ⟨p1, p2⟩ := ris_put number h.ris
    rw [hbeh, setL_mem] at h1
    have bnd : ∀ n ∈ putF P number, 0 ≤ n ∧ n ≤ 7 := fun n hm => by
      rcases (p2 n).1 hm with hm | rfl
      · exact h.bnd n hm
      · exact h0
    refine ⟨p1, bnd, fun n hm => (p2 n).2 (.inl (h.more n hm)), fun n hm => ?_, fun e => Bool.noConfusion e, fun _ => ?_⟩
    · rcases (p2 n).1 hm with hm | rfl
      · exact h.ok n hm
      · exact .step h0.1 h1.2.2 (h.ok _ h2)
    · have hl : (putF P number).length = P.length + 1 := put_more hn
      cases a with
      | true => have := h.grew rfl; omega
      | false => rw [(h.still rfl).1] at hl ⊢; omega
theorem SprX.done (h : SprX adj st P0 P false ns) (hs : ∀ n, st n → n ∈ P0) (hadj : ∀ n k, adj n k → 0 ≤ n → n ∈ ns) (hk7 : ∀ n k, adj n k → k ≤ 7) : P = setL (Prs adj st) := by
  obtain ⟨e1, e2⟩ := h.still rfl
  refine setL_eq h.ris fun n => ⟨fun hm => ⟨h.bnd n hm, h.ok n hm⟩, fun ⟨_, hp⟩ => ?_⟩
  rw [e1]
  refine Prs.least (S := fun n => n ∈ P0) hs (fun n k h0 ha hk => ?_) hp
  show n ∈ P0
  by_cases hm : n ∈ P0
  · exact hm
  · by_cases hkn : k = n
    · rw [← hkn]; exact hk
    · have hb := h.bnd k (h.more k hk)
      exact absurd hk (e2 n (hadj n k ha h0) h0 hm k hb hkn ha)
end
def mzF (P : List Int) (a : Bool) : Nat := 2 * (9 - P.length) + (if a = true then 1 else 0)
theorem SprX.meas {adj : Int → Int → Prop} {st : Int → Prop} {P0 P ns : List Int} {a : Bool} (h : SprX adj st P0 P a ns) : mzF P a < mzF P0 true := by
  have h8 := ris_len8 h.ris h.bnd
  unfold mzF
  cases a with
  | true => have := h.grew rfl; simp; omega
  | false => rw [(h.still rfl).1]; simp
theorem HitX.len {P P3 beh : List Int} {a a3 : Bool} {number : Int} {j : Nat} (h : HitX P a number beh j P3 a3) (hr : Ris P) (hb : ∀ n ∈ P, 0 ≤ n ∧ n ≤ 7) : P3.length ≤ 9 := by
  have h8 := ris_len8 hr hb
  rcases h with ⟨rfl, -, -⟩ | ⟨rfl, -, -⟩
  · omega
  · by_cases hm : number ∈ P
    · rw [put_same2 hr hm]; omega
    · rw [put_more hm]; omega
theorem adj_in {dx dy W H : Nat} {G : Grid} {grid : List Int} {i : Nat} (hg : grid = flaG W H G) (hi : grid.length ≤ i) (n k : Int) (h : adjG dx dy W H G n k) (h0 : 0 ≤ n) : n ∈ grid.take i := by
  obtain ⟨y, x, ⟨h1, h2⟩, rfl, -⟩ := h
  rw [List.take_of_length_le hi, hg]
  exact List.mem_of_getElem? (flaG_at (y := y) (x := x) (by omega) (by omega))
theorem adj_seven {dx dy W H : Nat} {G : Grid} (hs : smallG W H G) (n k : Int) (h : adjG dx dy W H G n k) : k ≤ 7 := by
  obtain ⟨y, x, -, -, rfl⟩ := h
  exact (hs _ _).2
theorem lkSpread_ok (grid : List Int) (width : Int) (height : Int) (pressed : List Int) (dx : Int) (dy : Int) (G : Grid) (st : Int → Prop) (fo : FlatOk grid width height G) (hd : (0 ≤ dx ∧ dx ≤ 1) ∧ 0 ≤ dy ∧ dy ≤ 1) (hst : ∀ n, st n → 0 ≤ n ∧ n ≤ 7) (hp : pressed = setL st) : OkA Try.prog 166 [.isl 1 (rows cInt grid), .int .i64 width, .int .i64 height, .isl 1 (rows cInt pressed), .int .i64 dx, .int .i64 dy] (· = .isl 1 (rows cInt (setL (Prs (adjG dx.toNat dy.toNat width.toNat height.toNat G) st)))) :=
  OkA.iceI 1 (fn_intro envOk fieldsOk mixed Try.func166 rfl fun κ X Y L Q m hQ => by
    obtain ⟨eg, hw, hh, sg⟩ := id fo
    have gl : grid.length = width.toNat * height.toNat := by rw [eg, flaG_length]
    have mb8 := Nat.mul_le_mul (show width.toNat ≤ 8 by omega) (show height.toNat ≤ 8 by omega)
    conv => cbv
    refine r_loopF (α := List Int × Bool) m 53 [0, 1, 2, 3, 4, 5, 13] [] (fun σ => [(0, .isl 1 (rows cInt grid)), (1, .int .i64 width), (2, .int .i64 height), (3, .isl 1 (rows cInt σ.1)), (4, .int .i64 dx), (5, .int .i64 dy), (13, .bool σ.2)]) (fun σ => [])
      (fun σ => (Ris σ.1) ∧ (∀ n ∈ σ.1, 0 ≤ n ∧ n ≤ 7) ∧ (∀ n, st n → n ∈ σ.1) ∧ (∀ n ∈ σ.1, Prs (adjG dx.toNat dy.toNat width.toNat height.toNat G) st n) ∧ (σ.2 = false → σ.1 = setL (Prs (adjG dx.toNat dy.toNat width.toNat height.toNat G) st))) (fun σ => mzF σ.1 σ.2) (pressed, true) ?_ ?_ ?_ ?_
    · cbv
    · cbv
    · exact ⟨(by (try dsimp only) <;> (rw [hp]; exact setL_ris st)), (by (try dsimp only) <;> (rw [hp]; exact fun n hn => (setL_mem.1 hn).1)), (by (try dsimp only) <;> (rw [hp]; exact fun n hn => setL_mem.2 ⟨hst n hn, hn⟩)), (by (try dsimp only) <;> (rw [hp]; exact fun n hn => .base (setL_mem.1 hn).2)), (by (try dsimp only) <;> (intro h; cases h))⟩
    rintro ⟨pressed_2, again⟩ ⟨ri, bd, sb, ok, dn⟩ E hE F hF
    dsimp only at ri bd sb ok dn
    conv => cbv
    rcases Bool.eq_false_or_eq_true again with rfl | rfl <;> conv => cbv
    · refine r_lenR m.sX fun n1 hn1 mn1 => ?_
      conv => cbv
      refine r_loopF (α := List Int × Bool × Int) m 53 [0, 1, 2, 3, 4, 5, 13, 19, 20, 21] [] (fun σ => [(0, .isl 1 (rows cInt grid)), (1, .int .i64 width), (2, .int .i64 height), (3, .isl 1 (rows cInt σ.1)), (4, .int .i64 dx), (5, .int .i64 dy), (13, .bool σ.2.1), (19, .isl 1 (rows cInt grid)), (20, .int .i64 n1), (21, .int .i64 σ.2.2)]) (fun σ => [])
        (fun σ => (0 ≤ σ.2.2) ∧ (σ.2.2 ≤ n1) ∧ (SprX (adjG dx.toNat dy.toNat width.toNat height.toNat G) st pressed_2 σ.1 σ.2.1 (grid.take σ.2.2.toNat)) ∧ (mzF σ.1 σ.2.1 < mzF pressed_2 true)) (fun σ => (n1 - σ.2.2).toNat) (pressed_2, false, 0) ?_ ?_ ?_ ?_
      · cbv
      · cbv
      · exact ⟨(by (try dsimp only); first | omega | (simp only [List.length_nil]; omega) | (simp only [List.length_cons, List.length_nil]; omega)), (by (try dsimp only); first | omega | (simp only [List.length_nil]; omega) | (simp only [List.length_cons, List.length_nil]; omega)), (by (try dsimp only) <;> (exact SprX.start ri bd ok)), (by (try dsimp only) <;> (exact (SprX.start (adj := adjG dx.toNat dy.toNat width.toNat height.toNat G) (st := st) ri bd ok).meas))⟩
      rintro ⟨pressed_3, again_2, i1⟩ ⟨lo2, hi2, sp, mm⟩ E2 hE2 F2 hF2
      dsimp only at lo2 hi2 sp mm
      conv => cbv
      refine r_lss m.sX (fun h1 => ?_) (fun h1 => ?_) <;> conv => cbv
      · refine r_index m.sX (by omega) (by omega) fun number hnumber => ?_
        conv => cbv
        have mnumber := get_mem hnumber
        have dnumber := drop_cons hnumber
        have knumber := take_snoc hnumber
        have jnumber : (i1 + 1).toNat = Int.toNat i1 + 1 := by omega
        have vnumber := nth_some hnumber
        have nb := flaG_small sg number (by rw [← eg]; exact List.mem_of_getElem? hnumber)
        refine r_lss m.sX (fun h2 => ?_) (fun h2 => ?_) <;> conv => cbv
        · refine r_addf m.sX (by omega) (by omega) fun r1 hr1 => ?_
          conv => cbv
          try have tr1 : Int.toNat r1 = Int.toNat i1 + 1 := by omega
          refine hE2 _ (pressed_3, again_2, r1) ?_ ?_ ⟨(by (try dsimp only); first | omega | (simp only [List.length_nil]; omega) | (simp only [List.length_cons, List.length_nil]; omega)), (by (try dsimp only); first | omega | (simp only [List.length_nil]; omega) | (simp only [List.length_cons, List.length_nil]; omega)), (by (try dsimp only) <;> (rw [tr1, List.take_add_one, hnumber]; first | exact sp.skip (.inl h2) | exact sp.skip (.inr (of_decide_eq_true h3)) | exact sp.next ⟨by omega, by omega⟩ (of_decide_eq_false h3) hv1 hx (by omega))), (by (try dsimp only) <;> (first | exact (sp.skip (number := number) (.inl h2)).meas | exact (sp.skip (number := number) (.inr (of_decide_eq_true h3))).meas | exact (sp.next ⟨by omega, by omega⟩ (of_decide_eq_false h3) hv1 hx (by omega)).meas))⟩ (by first | omega | (dsimp only; omega))
          · cbv
          · cbv
        · refine r_callB m.sX (l1Has_ok pressed_3 number) (fun h3 => ?_) (fun h3 => ?_) <;> conv => cbv
          · refine r_addf m.sX (by omega) (by omega) fun r2 hr2 => ?_
            conv => cbv
            try have tr2 : Int.toNat r2 = Int.toNat i1 + 1 := by omega
            refine hE2 _ (pressed_3, again_2, r2) ?_ ?_ ⟨(by (try dsimp only); first | omega | (simp only [List.length_nil]; omega) | (simp only [List.length_cons, List.length_nil]; omega)), (by (try dsimp only); first | omega | (simp only [List.length_nil]; omega) | (simp only [List.length_cons, List.length_nil]; omega)), (by (try dsimp only) <;> (rw [tr2, List.take_add_one, hnumber]; first | exact sp.skip (.inl h2) | exact sp.skip (.inr (of_decide_eq_true h3)) | exact sp.next ⟨by omega, by omega⟩ (of_decide_eq_false h3) hv1 hx (by omega))), (by (try dsimp only) <;> (first | exact (sp.skip (number := number) (.inl h2)).meas | exact (sp.skip (number := number) (.inr (of_decide_eq_true h3))).meas | exact (sp.next ⟨by omega, by omega⟩ (of_decide_eq_false h3) hv1 hx (by omega)).meas))⟩ (by first | omega | (dsimp only; omega))
            · cbv
            · cbv
          · refine r_callF (fun l => PV.isl _ (rows _ l)) m.sX (lkBehind_ok grid width height number dx dy (by first | rfl | assumption | omega | (simp only [List.length_append, List.length_cons, List.length_nil] at *; omega)) (by first | rfl | assumption | omega | (simp only [List.length_append, List.length_cons, List.length_nil] at *; omega)) (by first | rfl | assumption | omega | (simp only [List.length_append, List.length_cons, List.length_nil] at *; omega))) fun v1 hv1 => ?_
            conv => cbv
            have vl : v1.length ≤ 8 := by rw [hv1]; exact setL_len _
            refine r_lenR m.sX fun n2 hn2 mn2 => ?_
            conv => cbv
            refine r_loopF (α := List Int × Bool × Int) m 53 [0, 1, 2, 3, 4, 5, 13, 15, 19, 20, 21, 38, 39, 40] [] (fun σ => [(0, .isl 1 (rows cInt grid)), (1, .int .i64 width), (2, .int .i64 height), (3, .isl 1 (rows cInt σ.1)), (4, .int .i64 dx), (5, .int .i64 dy), (13, .bool σ.2.1), (15, .int .i64 number), (19, .isl 1 (rows cInt grid)), (20, .int .i64 n1), (21, .int .i64 i1), (38, .isl 1 (rows cInt v1)), (39, .int .i64 n2), (40, .int .i64 σ.2.2)]) (fun σ => [])
              (fun σ => (0 ≤ σ.2.2) ∧ (σ.2.2 ≤ n2) ∧ (HitX pressed_3 again_2 number v1 σ.2.2.toNat σ.1 σ.2.1)) (fun σ => (n2 - σ.2.2).toNat) (pressed_3, again_2, 0) ?_ ?_ ?_ ?_
            · cbv
            · cbv
            · exact ⟨(by (try dsimp only); first | omega | (simp only [List.length_nil]; omega) | (simp only [List.length_cons, List.length_nil]; omega)), (by (try dsimp only); first | omega | (simp only [List.length_nil]; omega) | (simp only [List.length_cons, List.length_nil]; omega)), (by (try dsimp only) <;> (exact HitX.start))⟩
            rintro ⟨pressed_4, again_3, i2⟩ ⟨lo3, hi3, hx⟩ E3 hE3 F3 hF3
            dsimp only at lo3 hi3 hx
            have pl4 := hx.len sp.ris sp.bnd
            conv => cbv
            refine r_lss m.sX (fun h4 => ?_) (fun h4 => ?_) <;> conv => cbv
            · refine r_index m.sX (by omega) (by omega) fun k hk => ?_
              conv => cbv
              have mk := get_mem hk
              have dk := drop_cons hk
              have kk := take_snoc hk
              have jk : (i2 + 1).toNat = Int.toNat i2 + 1 := by omega
              have vk := nth_some hk
              refine r_callB m.sX (l1Has_ok pressed_4 k) (fun h5 => ?_) (fun h5 => ?_) <;> conv => cbv
              · refine r_callF (fun l => PV.isl _ (rows _ l)) m.sX (l1Put_ok pressed_4 number (by omega)) fun pressed_5 hpressed_5 => ?_
                conv => cbv
                refine r_addf m.sX (by omega) (by omega) fun r3 hr3 => ?_
                conv => cbv
                try have tr3 : Int.toNat r3 = Int.toNat i2 + 1 := by omega
                refine hE3 _ (pressed_5, true, r3) ?_ ?_ ⟨(by (try dsimp only); first | omega | (simp only [List.length_nil]; omega) | (simp only [List.length_cons, List.length_nil]; omega)), (by (try dsimp only); first | omega | (simp only [List.length_nil]; omega) | (simp only [List.length_cons, List.length_nil]; omega)), (by (try dsimp only) <;> (rw [tr3]; first | exact hx.yes sp.ris hk (of_decide_eq_true h5) hpressed_5 | exact hx.no hk (of_decide_eq_false h5)))⟩ (by first | omega | (dsimp only; omega))
                · cbv
                · cbv
              · refine r_addf m.sX (by omega) (by omega) fun r4 hr4 => ?_
                conv => cbv
                try have tr4 : Int.toNat r4 = Int.toNat i2 + 1 := by omega
                refine hE3 _ (pressed_4, again_3, r4) ?_ ?_ ⟨(by (try dsimp only); first | omega | (simp only [List.length_nil]; omega) | (simp only [List.length_cons, List.length_nil]; omega)), (by (try dsimp only); first | omega | (simp only [List.length_nil]; omega) | (simp only [List.length_cons, List.length_nil]; omega)), (by (try dsimp only) <;> (rw [tr4]; first | exact hx.yes sp.ris hk (of_decide_eq_true h5) hpressed_5 | exact hx.no hk (of_decide_eq_false h5)))⟩ (by first | omega | (dsimp only; omega))
                · cbv
                · cbv
            · have dz_i2 := drop_end (xs := v1) (i := Int.toNat i2) (by omega)
              have tz_i2 := take_end (xs := v1) (i := Int.toNat i2) (by omega)
              refine hF3 _ _ ?_
              conv => cbv
              refine r_addf m.sX (by omega) (by omega) fun r5 hr5 => ?_
              conv => cbv
              try have tr5 : Int.toNat r5 = Int.toNat i1 + 1 := by omega
              refine hE2 _ (pressed_4, again_3, r5) ?_ ?_ ⟨(by (try dsimp only); first | omega | (simp only [List.length_nil]; omega) | (simp only [List.length_cons, List.length_nil]; omega)), (by (try dsimp only); first | omega | (simp only [List.length_nil]; omega) | (simp only [List.length_cons, List.length_nil]; omega)), (by (try dsimp only) <;> (rw [tr5, List.take_add_one, hnumber]; first | exact sp.skip (.inl h2) | exact sp.skip (.inr (of_decide_eq_true h3)) | exact sp.next ⟨by omega, by omega⟩ (of_decide_eq_false h3) hv1 hx (by omega))), (by (try dsimp only) <;> (first | exact (sp.skip (number := number) (.inl h2)).meas | exact (sp.skip (number := number) (.inr (of_decide_eq_true h3))).meas | exact (sp.next ⟨by omega, by omega⟩ (of_decide_eq_false h3) hv1 hx (by omega)).meas))⟩ (by first | omega | (dsimp only; omega))
              · cbv
              · cbv
      · have dz_i1 := drop_end (xs := grid) (i := Int.toNat i1) (by omega)
        have tz_i1 := take_end (xs := grid) (i := Int.toNat i1) (by omega)
        refine hF2 _ _ ?_
        conv => cbv
        refine hE _ (pressed_3, again_2) ?_ ?_ ⟨(by (try dsimp only) <;> (exact sp.ris)), (by (try dsimp only) <;> (exact sp.bnd)), (by (try dsimp only) <;> (exact fun n hn => sp.more n (sb n hn))), (by (try dsimp only) <;> (exact sp.ok)), (by (try dsimp only) <;> (intro e; rw [e] at sp; exact sp.done sb (adj_in eg (by omega)) (adj_seven sg)))⟩ (by first | omega | (dsimp only; omega))
        · cbv
        · cbv
    · refine hF _ _ ?_
      conv => cbv
      exact hQ (.isl 1 (rows cInt pressed_2)) (Eq.trans (by first | rfl | (simp only [lb, lbI, rows_cons, rows_nil, unnilT, unnil, unnilTI, unnilI]; done) | (simp only [lb, lbI, rows_cons, rows_nil, unnilT, unnil, unnilTI, unnilI]; rfl)) (congrArg (fun l => PV.isl 1 (rows cInt l)) (show pressed_2 = setL (Prs (adjG dx.toNat dy.toNat width.toNat height.toNat G) st) from by exact dn rfl))))   -- leaf 1


/- Contracts of the reference's functions on locked formes: what is pressed, what is loose. -/
theorem start_none (W H : Nat) (G : Grid) : [] = setL (startR W H G []) := (setL_eq (P := startR W H G []) (l := []) List.Pairwise.nil fun n => ⟨fun h => (by cases h), fun ⟨_, _, y, hy, _⟩ => by cases hy⟩)
theorem start_hit {W H : Nat} {G : Grid} {rows P P2 : List Int} {i : Nat} {y n : Int} (h : P = setL (startR W H G (rows.take i))) (hy : rows[i]? = some y) (hn : 0 ≤ n ∧ n ≤ 7) (e : n = G y.toNat (W - 1)) (e2 : P2 = putF P n) : P2 = setL (startR W H G (rows.take (i + 1))) := by
  obtain ⟨p1, p2⟩ := ris_put n (show Ris P by rw [h]; exact setL_ris _)
  rw [e2]
  refine setL_eq p1 fun k => ?_
  rw [p2, h, setL_mem, List.take_add_one, hy]
  constructor
  · rintro (⟨a, b, z, hz, c⟩ | rfl)
    · exact ⟨a, b, z, List.mem_append.2 (.inl hz), c⟩
    · exact ⟨hn, hn.1, y, List.mem_append.2 (.inr (by simp)), e.symm⟩
  · rintro ⟨a, b, z, hz, c⟩
    rcases List.mem_append.1 hz with hz | hz
    · exact .inl ⟨a, b, z, hz, c⟩
    · have hz : z = y := by simpa using hz
      subst hz
      exact .inr (by rw [← c, e])
theorem start_skip {W H : Nat} {G : Grid} {rows P : List Int} {i : Nat} {y n : Int} (h : P = setL (startR W H G (rows.take i))) (hy : rows[i]? = some y) (hn : n < 0) (e : n = G y.toNat (W - 1)) : P = setL (startR W H G (rows.take (i + 1))) := by
  rw [h, List.take_add_one, hy]
  refine setL_congr fun k => ?_
  constructor
  · rintro ⟨b, z, hz, c⟩
    exact ⟨b, z, List.mem_append.2 (.inl hz), c⟩
  · rintro ⟨b, z, hz, c⟩
    rcases List.mem_append.1 hz with hz | hz
    · exact ⟨b, z, hz, c⟩
    · have hz : z = y := by simpa using hz
      subst hz
      omega
theorem start_bnd {W H : Nat} {G : Grid} (sg : smallG W H G) {rows : List Int} (n : Int) (h : startR W H G rows n) : 0 ≤ n ∧ n ≤ 7 := by
  obtain ⟨h0, y, -, rfl⟩ := h
  exact ⟨h0, (sg _ _).2⟩
theorem flat_ok {w h : Int} {ps : List Piece} {pl : List Plc} {G : Grid} {g : List Int} (e : chaseF w h ps pl = some G) (hg : g = flaG w.toNat h.toNat G) : FlatOk g w h G := by
  obtain ⟨hc, hs, -⟩ := chaseF_some e
  obtain ⟨bw, bh, -⟩ := okCh_spec hc
  exact ⟨hg, bw, bh, hs⟩
theorem start_all {W H : Nat} {G : Grid} {l p : List Int} {i : Nat} (q : p = setL (startR W H G (l.take i))) (hi : l.length ≤ i) : p = setL (startR W H G l) := by rw [q, List.take_of_length_le hi]
theorem lkRight_ok (grid : List Int) (width : Int) (height : Int) (rows_ : List Int) (G : Grid) (fo : FlatOk grid width height G) (hr : ∀ y ∈ rows_, 0 ≤ y ∧ y < height) : OkA Try.prog 140 [.isl 1 (rows cInt grid), .int .i64 width, .int .i64 height, .isl 1 (rows cInt rows_)] (· = .isl 1 (rows cInt (setL (prsR width.toNat height.toNat G rows_)))) :=
  OkA.iceI 1 (fn_intro envOk fieldsOk mixed Try.func140 rfl fun κ X Y L Q m hQ => by
    obtain ⟨eg, hw, hh, sg⟩ := id fo
    have sgS : smallG width.toNat height.toNat G := sg
    have gl : grid.length = width.toNat * height.toNat := by rw [eg, flaG_length]
    have ml := nat_mul (a := width) (b := height) (by omega) (by omega)
    have mb8 := mul_bound (a := width) (A := 8) (b := height) (B := 8) (by omega) (by omega) (by omega) (by omega)
    conv => cbv
    refine r_lenR m.sX fun n1 hn1 mn1 => ?_
    conv => cbv
    refine r_nilI 9 1 m rfl ?_
    conv => cbv
    refine r_loopF (α := List Int × Int) m 39 [0, 1, 2, 9, 13, 14, 15] [] (fun σ => [(0, .isl 1 (rows cInt grid)), (1, .int .i64 width), (2, .int .i64 height), (9, .isl 1 (rows cInt σ.1)), (13, .isl 1 (rows cInt rows_)), (14, .int .i64 n1), (15, .int .i64 σ.2)]) (fun σ => [])
      (fun σ => (0 ≤ σ.2) ∧ (σ.2 ≤ n1) ∧ (σ.1 = setL (startR width.toNat height.toNat G (rows_.take σ.2.toNat)))) (fun σ => (n1 - σ.2).toNat) ([], 0) ?_ ?_ ?_ ?_
    · cbv
    · (try dsimp only); (try simp only [rows_cons, rows_nil]); cbv
    · exact ⟨(by (try dsimp only); first | omega | (simp only [List.length_nil]; omega) | (simp only [List.length_cons, List.length_nil]; omega)), (by (try dsimp only); first | omega | (simp only [List.length_nil]; omega) | (simp only [List.length_cons, List.length_nil]; omega)), (by (try dsimp only) <;> (exact start_none _ _ _))⟩
    rintro ⟨pressed, i1⟩ ⟨lo1, hi1, q⟩ E hE F hF
    dsimp only at lo1 hi1 q
    have pl8 : pressed.length ≤ 8 := by rw [q]; exact setL_len _
    conv => cbv
    refine r_lss m.sX (fun h1 => ?_) (fun h1 => ?_) <;> conv => cbv
    · refine r_index m.sX (by omega) (by omega) fun y hy => ?_
      conv => cbv
      have my := get_mem hy
      have dy := drop_cons hy
      have ky := take_snoc hy
      have jy : (i1 + 1).toNat = Int.toNat i1 + 1 := by omega
      have vy := nth_some hy
      have yb := hr y (List.mem_of_getElem? hy)
      have m4 := mul_bound (a := y) (A := 8) (b := width) (B := 8) (by omega) (by omega) (by omega) (by omega)
      refine r_mulf m.sX (by first | omega | (subst_vars; omega)) (by first | omega | (subst_vars; omega)) fun r1 hr1 => ?_
      conv => cbv
      refine r_addf m.sX (by omega) (by omega) fun r2 hr2 => ?_
      conv => cbv
      refine r_subf m.sX (by omega) (by omega) fun r3 hr3 => ?_
      conv => cbv
      have ix := flat_ix (a := y) (w := width) (b := width - 1) (by omega) (by omega) (by omega) (show r3 = y * width + (width - 1) by omega)
      have il := flat_lt (show y.toNat < height.toNat by omega) (show (width - 1).toNat < width.toNat by omega)
      refine r_index m.sX (by omega) (by omega) fun number hnumber => ?_
      conv => cbv
      have mnumber := get_mem hnumber
      have vnumber := nth_some hnumber
      have en : number = G y.toNat (width - 1).toNat := fo.at ⟨by omega, by omega⟩ ⟨by omega, by omega⟩ (by omega) hnumber
      rw [show (width - 1).toNat = width.toNat - 1 by omega] at en
      have sn := sg y.toNat (width.toNat - 1)
      refine r_geq m.sX (fun h2 => ?_) (fun h2 => ?_) <;> conv => cbv
      · refine r_callF (fun l => PV.isl _ (rows _ l)) m.sX (l1Put_ok pressed number (by omega)) fun pressed_2 hpressed_2 => ?_
        conv => cbv
        refine r_addf m.sX (by omega) (by omega) fun r4 hr4 => ?_
        conv => cbv
        try have tr4 : Int.toNat r4 = Int.toNat i1 + 1 := by omega
        refine hE _ (pressed_2, r4) ?_ ?_ ⟨(by (try dsimp only); first | omega | (simp only [List.length_nil]; omega) | (simp only [List.length_cons, List.length_nil]; omega)), (by (try dsimp only); first | omega | (simp only [List.length_nil]; omega) | (simp only [List.length_cons, List.length_nil]; omega)), (by (try dsimp only) <;> (rw [tr4]; first | exact start_hit q hy ⟨by omega, by omega⟩ en (by assumption) | exact start_skip q hy (by omega) en))⟩ (by first | omega | (dsimp only; omega))
        · cbv
        · cbv
      · refine r_addf m.sX (by omega) (by omega) fun r5 hr5 => ?_
        conv => cbv
        try have tr5 : Int.toNat r5 = Int.toNat i1 + 1 := by omega
        refine hE _ (pressed, r5) ?_ ?_ ⟨(by (try dsimp only); first | omega | (simp only [List.length_nil]; omega) | (simp only [List.length_cons, List.length_nil]; omega)), (by (try dsimp only); first | omega | (simp only [List.length_nil]; omega) | (simp only [List.length_cons, List.length_nil]; omega)), (by (try dsimp only) <;> (rw [tr5]; first | exact start_hit q hy ⟨by omega, by omega⟩ en (by assumption) | exact start_skip q hy (by omega) en))⟩ (by first | omega | (dsimp only; omega))
        · cbv
        · cbv
    · have dz_i1 := drop_end (xs := rows_) (i := Int.toNat i1) (by omega)
      have tz_i1 := take_end (xs := rows_) (i := Int.toNat i1) (by omega)
      refine hF _ _ ?_
      conv => cbv
      refine r_callF (fun l => PV.isl _ (rows _ l)) m.sX (lkSpread_ok grid width height pressed 1 0 G _ fo ⟨by omega, by omega⟩ (start_bnd sgS) (start_all q (by omega))) fun v1 hv1 => ?_
      conv => cbv
      exact hQ (.isl 1 (rows cInt v1)) (Eq.trans (by first | rfl | (simp only [lb, lbI, rows_cons, rows_nil, unnilT, unnil, unnilTI, unnilI]; done) | (simp only [lb, lbI, rows_cons, rows_nil, unnilT, unnil, unnilTI, unnilI]; rfl)) (congrArg (fun l => PV.isl 1 (rows cInt l)) (show v1 = setL (prsR width.toNat height.toNat G rows_) from by rw [hv1]; exact congrArg setL (by rw [show Int.toNat 1 = 1 from rfl, show Int.toNat 0 = 0 from rfl, adjG_R]; rfl)))))   -- leaf 1

theorem lkBelow_ok (grid : List Int) (width : Int) (height : Int) (columns : List Int) (G : Grid) (fo : FlatOk grid width height G) (hr : ∀ x ∈ columns, 0 ≤ x ∧ x < width) : OkA Try.prog 141 [.isl 1 (rows cInt grid), .int .i64 width, .int .i64 height, .isl 1 (rows cInt columns)] (· = .isl 1 (rows cInt (setL (prsD width.toNat height.toNat G columns)))) :=
  OkA.iceI 1 (fn_intro envOk fieldsOk mixed Try.func141 rfl fun κ X Y L Q m hQ => by
    obtain ⟨eg, hw, hh, sg⟩ := id fo
    have sgS : smallG height.toNat width.toNat (turnG G) := turn_small sg
    have gl : grid.length = width.toNat * height.toNat := by rw [eg, flaG_length]
    have ml := nat_mul (a := width) (b := height) (by omega) (by omega)
    have mb8 := mul_bound (a := width) (A := 8) (b := height) (B := 8) (by omega) (by omega) (by omega) (by omega)
    conv => cbv
    refine r_lenR m.sX fun n1 hn1 mn1 => ?_
    conv => cbv
    refine r_nilI 9 1 m rfl ?_
    conv => cbv
    refine r_loopF (α := List Int × Int) m 39 [0, 1, 2, 9, 13, 14, 15] [] (fun σ => [(0, .isl 1 (rows cInt grid)), (1, .int .i64 width), (2, .int .i64 height), (9, .isl 1 (rows cInt σ.1)), (13, .isl 1 (rows cInt columns)), (14, .int .i64 n1), (15, .int .i64 σ.2)]) (fun σ => [])
      (fun σ => (0 ≤ σ.2) ∧ (σ.2 ≤ n1) ∧ (σ.1 = setL (startR height.toNat width.toNat (turnG G) (columns.take σ.2.toNat)))) (fun σ => (n1 - σ.2).toNat) ([], 0) ?_ ?_ ?_ ?_
    · cbv
    · (try dsimp only); (try simp only [rows_cons, rows_nil]); cbv
    · exact ⟨(by (try dsimp only); first | omega | (simp only [List.length_nil]; omega) | (simp only [List.length_cons, List.length_nil]; omega)), (by (try dsimp only); first | omega | (simp only [List.length_nil]; omega) | (simp only [List.length_cons, List.length_nil]; omega)), (by (try dsimp only) <;> (exact start_none _ _ _))⟩
    rintro ⟨pressed, i1⟩ ⟨lo1, hi1, q⟩ E hE F hF
    dsimp only at lo1 hi1 q
    have pl8 : pressed.length ≤ 8 := by rw [q]; exact setL_len _
    conv => cbv
    refine r_lss m.sX (fun h1 => ?_) (fun h1 => ?_) <;> conv => cbv
    · refine r_index m.sX (by omega) (by omega) fun x hx => ?_
      conv => cbv
      have mx := get_mem hx
      have dx := drop_cons hx
      have kx := take_snoc hx
      have jx : (i1 + 1).toNat = Int.toNat i1 + 1 := by omega
      have vx := nth_some hx
      have xb := hr x (List.mem_of_getElem? hx)
      refine r_subf m.sX (by omega) (by omega) fun r1 hr1 => ?_
      conv => cbv
      have m4 := mul_bound (a := r1) (A := 8) (b := width) (B := 8) (by omega) (by omega) (by omega) (by omega)
      refine r_mulf m.sX (by first | omega | (subst_vars; omega)) (by first | omega | (subst_vars; omega)) fun r2 hr2 => ?_
      conv => cbv
      refine r_addf m.sX (by omega) (by omega) fun r3 hr3 => ?_
      conv => cbv
      have ix := flat_ix (a := height - 1) (w := width) (b := x) (by omega) (by omega) (by omega) (show r3 = (height - 1) * width + x by rw [show height - 1 = r1 by omega]; omega)
      have il := flat_lt (show (height - 1).toNat < height.toNat by omega) (show x.toNat < width.toNat by omega)
      refine r_index m.sX (by omega) (by omega) fun number hnumber => ?_
      conv => cbv
      have mnumber := get_mem hnumber
      have vnumber := nth_some hnumber
      have en : number = turnG G x.toNat (height - 1).toNat := fo.at (y := height - 1) (x := x) ⟨by omega, by omega⟩ ⟨by omega, by omega⟩ (show r3 = (height - 1) * width + x by rw [show height - 1 = r1 by omega]; omega) hnumber
      rw [show (height - 1).toNat = height.toNat - 1 by omega] at en
      have sn := sg (height.toNat - 1) x.toNat
      have en2 : number = G (height.toNat - 1) x.toNat := en
      refine r_geq m.sX (fun h2 => ?_) (fun h2 => ?_) <;> conv => cbv
      · refine r_callF (fun l => PV.isl _ (rows _ l)) m.sX (l1Put_ok pressed number (by omega)) fun pressed_2 hpressed_2 => ?_
        conv => cbv
        refine r_addf m.sX (by omega) (by omega) fun r4 hr4 => ?_
        conv => cbv
        try have tr4 : Int.toNat r4 = Int.toNat i1 + 1 := by omega
        refine hE _ (pressed_2, r4) ?_ ?_ ⟨(by (try dsimp only); first | omega | (simp only [List.length_nil]; omega) | (simp only [List.length_cons, List.length_nil]; omega)), (by (try dsimp only); first | omega | (simp only [List.length_nil]; omega) | (simp only [List.length_cons, List.length_nil]; omega)), (by (try dsimp only) <;> (rw [tr4]; first | exact start_hit q hx ⟨by omega, by omega⟩ en (by assumption) | exact start_skip q hx (by omega) en))⟩ (by first | omega | (dsimp only; omega))
        · cbv
        · cbv
      · refine r_addf m.sX (by omega) (by omega) fun r5 hr5 => ?_
        conv => cbv
        try have tr5 : Int.toNat r5 = Int.toNat i1 + 1 := by omega
        refine hE _ (pressed, r5) ?_ ?_ ⟨(by (try dsimp only); first | omega | (simp only [List.length_nil]; omega) | (simp only [List.length_cons, List.length_nil]; omega)), (by (try dsimp only); first | omega | (simp only [List.length_nil]; omega) | (simp only [List.length_cons, List.length_nil]; omega)), (by (try dsimp only) <;> (rw [tr5]; first | exact start_hit q hx ⟨by omega, by omega⟩ en (by assumption) | exact start_skip q hx (by omega) en))⟩ (by first | omega | (dsimp only; omega))
        · cbv
        · cbv
    · have dz_i1 := drop_end (xs := columns) (i := Int.toNat i1) (by omega)
      have tz_i1 := take_end (xs := columns) (i := Int.toNat i1) (by omega)
      refine hF _ _ ?_
      conv => cbv
      refine r_callF (fun l => PV.isl _ (rows _ l)) m.sX (lkSpread_ok grid width height pressed 0 1 G _ fo ⟨by omega, by omega⟩ (start_bnd sgS) (start_all q (by omega))) fun v1 hv1 => ?_
      conv => cbv
      exact hQ (.isl 1 (rows cInt v1)) (Eq.trans (by first | rfl | (simp only [lb, lbI, rows_cons, rows_nil, unnilT, unnil, unnilTI, unnilI]; done) | (simp only [lb, lbI, rows_cons, rows_nil, unnilT, unnil, unnilTI, unnilI]; rfl)) (congrArg (fun l => PV.isl 1 (rows cInt l)) (show v1 = setL (prsD width.toNat height.toNat G columns) from by rw [hv1]; exact congrArg setL (by rw [show Int.toNat 1 = 1 from rfl, show Int.toNat 0 = 0 from rfl, adjG_D]; rfl)))))   -- leaf 1


/- Contracts of the reference's functions on locked formes: loose pieces, locked formes, falls, cuts. -/
theorem fuGridI_ok (width height : Int) (pieces : List Piece) (placed : List Plc) (G : Grid) (eG : chaseF width height pieces placed = some G) : OkA Try.prog 67 [.int .i64 width, .int .i64 height, .isl 2 (rows cPiece pieces), .isl 4 (rows cPlaced placed)] (· = lbI 1 cInt (gridL width height pieces placed)) := (fuGrid_ok width height pieces placed (chaseF_some eG).1).ice
theorem quOk_R {w h : Int} {rows cols : List Int} (hh : 1 ≤ h ∧ h ≤ 8) (q : QuOk w.toNat h.toNat rows cols) : ∀ y ∈ rows, 0 ≤ y ∧ y < h := fun y hy => by have := q.rows.1 y hy; omega
theorem quOk_C {w h : Int} {rows cols : List Int} (hw : 1 ≤ w ∧ w ≤ 8) (q : QuOk w.toNat h.toNat rows cols) : ∀ x ∈ cols, 0 ≤ x ∧ x < w := fun y hy => by have := q.cols.1 y hy; omega
theorem held_set {W H : Nat} {G : Grid} {rows cols : List Int} {n : Int} (hn : 0 ≤ n ∧ n ≤ 7) : heldB W H G rows cols n = (decide (n ∈ setL (prsR W H G rows)) && decide (n ∈ setL (prsD W H G cols))) := by
  have e1 : (n ∈ setL (prsR W H G rows)) = prsR W H G rows n := propext (by rw [setL_mem]; exact ⟨fun h => h.2, fun h => ⟨hn, h⟩⟩)
  have e2 : (n ∈ setL (prsD W H G cols)) = prsD W H G cols n := propext (by rw [setL_mem]; exact ⟨fun h => h.2, fun h => ⟨hn, h⟩⟩)
  rw [Bool.eq_iff_iff, held_iff, Bool.and_eq_true, decide_eq_true_iff, decide_eq_true_iff, e1, e2]
theorem lkAsked_ok (width : Int) (height : Int) (pieces : List Piece) (placed : List Plc) (rows_ : List Int) (columns : List Int)  : OkA Try.prog 94 [.int .i64 width, .int .i64 height, .isl 2 (rows cPiece pieces), .isl 4 (rows cPlaced placed), .isl 1 (rows cInt rows_), .isl 1 (rows cInt columns)] (· = .bool ((chaseF width height pieces placed).isSome && quB width height rows_ columns)) :=
  fn_intro envOk fieldsOk mixed Try.func94 rfl fun κ X Y L Q m hQ => by
    conv => cbv
    refine r_callB m.sX (fuAsked_ok width height pieces placed) (fun h1 => ?_) (fun h1 => ?_) <;> conv => cbv
    · obtain ⟨G, eG, oc, sg, bw⟩ := asked_some h1
      refine r_subf m.sX (by omega) (by omega) fun r1 hr1 => ?_
      conv => cbv
      refine r_callB m.sX (l1Rising_ok rows_ 0 r1) (fun h2 => ?_) (fun h2 => ?_) <;> conv => cbv
      · refine r_subf m.sX (by omega) (by omega) fun r2 hr2 => ?_
        conv => cbv
        refine r_callB m.sX (l1Rising_ok columns 0 r2) (fun h3 => ?_) (fun h3 => ?_) <;> conv => cbv
        · exact hQ _ (congrArg PV.bool (by rw [h1, quB, ← hr1, ← hr2, h2, h3]; rfl))   -- leaf 1
        · exact hQ _ (congrArg PV.bool (by rw [h1, quB, ← hr1, ← hr2, h2, h3]; rfl))   -- leaf 2
      · exact hQ _ (congrArg PV.bool (by rw [h1, quB, ← hr1, h2]; rfl))   -- leaf 3
    · exact hQ _ (congrArg PV.bool (by rw [h1]; rfl))   -- leaf 4

theorem lkLooseR_ok (width : Int) (height : Int) (pieces : List Piece) (placed : List Plc) (rows_ : List Int) (columns : List Int) (G : Grid) (eG : chaseF width height pieces placed = some G) (qo : QuOk width.toNat height.toNat rows_ columns) : OkA Try.prog 95 [.int .i64 width, .int .i64 height, .isl 2 (rows cPiece pieces), .isl 4 (rows cPlaced placed), .isl 1 (rows cInt rows_), .isl 1 (rows cInt columns)] (· = .fr 3 1 (rows cInt (looseF width.toNat height.toNat G placed rows_ columns))) :=
  OkA.unnil 3 1 (fn_intro envOk fieldsOk mixed Try.func95 rfl fun κ X Y L Q m hQ => by
    obtain ⟨oc, sg, pl8⟩ := chaseF_some eG
    obtain ⟨bw, bh, -⟩ := okCh_spec oc
    have qR := quOk_R bh qo
    have qC := quOk_C bw qo
    have pn := chase_nums eG
    conv => cbv
    refine r_callF (lbI 1 cInt) m.sX (fuGridI_ok width height pieces placed G eG) fun v hgrid => ?_
    obtain ⟨grid, v1⟩ := v
    conv => cbv
    have eg : grid = flaG width.toNat height.toNat G := by rw [gridL_get eG] at hgrid; exact (Prod.mk.inj hgrid).1
    refine r_callF (fun l => PV.isl _ (rows _ l)) m.sX (lkRight_ok grid width height rows_ G (flat_ok eG eg) qR) fun right hright => ?_
    conv => cbv
    have rl : right.length ≤ 8 := by rw [hright]; exact setL_len _
    refine r_callF (fun l => PV.isl _ (rows _ l)) m.sX (lkBelow_ok grid width height columns G (flat_ok eG eg) qC) fun below hbelow => ?_
    conv => cbv
    have bl : below.length ≤ 8 := by rw [hbelow]; exact setL_len _
    refine r_lenR m.sX fun n1 hn1 mn1 => ?_
    conv => cbv
    refine r_loopF (α := List Int × Int) m 63 [15, 16, 38, 39, 40] [⟨17, 137, 3, 1, 0⟩] (fun σ => [(15, .isl 1 (rows cInt right)), (16, .isl 1 (rows cInt below)), (17, .osl 137 0), (38, .isl 4 (rows cPlaced placed)), (39, .int .i64 n1), (40, .int .i64 σ.2)]) (fun σ => [(137, 0, .row 3 1 (rows cInt σ.1))])
      (fun σ => (0 ≤ σ.2) ∧ (σ.2 ≤ n1) ∧ (σ.1 = looseF width.toNat height.toNat G (placed.take σ.2.toNat) rows_ columns) ∧ ((σ.1.length : Int) ≤ σ.2)) (fun σ => (n1 - σ.2).toNat) ([], 0) ?_ ?_ ?_ ?_
    · cbv
    · (try dsimp only); (try simp only [rows_cons, rows_nil]); cbv
    · exact ⟨(by (try dsimp only); first | omega | (simp only [List.length_nil]; omega) | (simp only [List.length_cons, List.length_nil]; omega)), (by (try dsimp only); first | omega | (simp only [List.length_nil]; omega) | (simp only [List.length_cons, List.length_nil]; omega)), (by (try dsimp only) <;> (rfl)), (by (try dsimp only) <;> first | omega | rfl | (simp [*]; done))⟩
    rintro ⟨out, i1⟩ ⟨lo1, hi1, q, ln⟩ E hE F hF
    dsimp only at lo1 hi1 q ln
    conv => cbv
    refine r_lss m.sX (fun h1 => ?_) (fun h1 => ?_) <;> conv => cbv
    · refine r_index m.sX (by omega) (by omega) fun v hxA => ?_
      obtain ⟨xA, xB, xC, xD⟩ := v
      conv => cbv
      have hx := hxA
      have mx := get_mem hx
      have dx := drop_cons hx
      have kx := take_snoc hx
      have jx : (i1 + 1).toNat = Int.toNat i1 + 1 := by omega
      refine r_callB m.sX (l1Has_ok right xA) (fun h2 => ?_) (fun h2 => ?_) <;> conv => cbv
      · refine r_callB m.sX (l1Has_ok below xA) (fun h3 => ?_) (fun h3 => ?_) <;> conv => cbv
        · refine r_addf m.sX (by omega) (by omega) fun r1 hr1 => ?_
          conv => cbv
          try have tr1 : Int.toNat r1 = Int.toNat i1 + 1 := by omega
          refine hE _ (out, r1) ?_ ?_ ⟨(by (try dsimp only); first | omega | (simp only [List.length_nil]; omega) | (simp only [List.length_cons, List.length_nil]; omega)), (by (try dsimp only); first | omega | (simp only [List.length_nil]; omega) | (simp only [List.length_cons, List.length_nil]; omega)), (by (try dsimp only) <;> (have pb := pn _ (List.mem_of_getElem? hxA); rw [tr1, loose_take hxA, held_set pb, ← hright, ← hbelow, ← q]; first | (rw [h2, h3]; simp; done) | (rw [h2, h3]; simpa using hout_2) | (rw [h2]; simpa using hout_3))), (by (try dsimp only) <;> (omega))⟩ (by first | omega | (dsimp only; omega))
          · cbv
          · cbv
        · refine r_append1 (xA) m.sX rfl (by first | omega | (dsimp only; omega)) (by first | omega | (dsimp only; omega)) fun out_2 hout_2 => ?_
          conv => cbv
          have lout_2 : (out_2.length : Int) = out.length + 1 := by rw [hout_2]; first | done | (simp; done) | (simp; omega)
          refine r_addf m.sX (by omega) (by omega) fun r2 hr2 => ?_
          conv => cbv
          try have tr2 : Int.toNat r2 = Int.toNat i1 + 1 := by omega
          refine hE _ (out_2, r2) ?_ ?_ ⟨(by (try dsimp only); first | omega | (simp only [List.length_nil]; omega) | (simp only [List.length_cons, List.length_nil]; omega)), (by (try dsimp only); first | omega | (simp only [List.length_nil]; omega) | (simp only [List.length_cons, List.length_nil]; omega)), (by (try dsimp only) <;> (have pb := pn _ (List.mem_of_getElem? hxA); rw [tr2, loose_take hxA, held_set pb, ← hright, ← hbelow, ← q]; first | (rw [h2, h3]; simp; done) | (rw [h2, h3]; simpa using hout_2) | (rw [h2]; simpa using hout_3))), (by (try dsimp only) <;> (omega))⟩ (by first | omega | (dsimp only; omega))
          · cbv
          · cbv
      · refine r_append1 (xA) m.sX rfl (by first | omega | (dsimp only; omega)) (by first | omega | (dsimp only; omega)) fun out_3 hout_3 => ?_
        conv => cbv
        have lout_3 : (out_3.length : Int) = out.length + 1 := by rw [hout_3]; first | done | (simp; done) | (simp; omega)
        refine r_addf m.sX (by omega) (by omega) fun r3 hr3 => ?_
        conv => cbv
        try have tr3 : Int.toNat r3 = Int.toNat i1 + 1 := by omega
        refine hE _ (out_3, r3) ?_ ?_ ⟨(by (try dsimp only); first | omega | (simp only [List.length_nil]; omega) | (simp only [List.length_cons, List.length_nil]; omega)), (by (try dsimp only); first | omega | (simp only [List.length_nil]; omega) | (simp only [List.length_cons, List.length_nil]; omega)), (by (try dsimp only) <;> (have pb := pn _ (List.mem_of_getElem? hxA); rw [tr3, loose_take hxA, held_set pb, ← hright, ← hbelow, ← q]; first | (rw [h2, h3]; simp; done) | (rw [h2, h3]; simpa using hout_2) | (rw [h2]; simpa using hout_3))), (by (try dsimp only) <;> (omega))⟩ (by first | omega | (dsimp only; omega))
        · cbv
        · cbv
    · have dz_i1 := drop_end (xs := placed) (i := Int.toNat i1) (by omega)
      have tz_i1 := take_end (xs := placed) (i := Int.toNat i1) (by omega)
      refine hF _ _ ?_
      conv => cbv
      exact hQ (.fr 3 1 (rows cInt out)) (Eq.trans (by first | rfl | (simp only [lb, lbI, rows_cons, rows_nil, unnilT, unnil, unnilTI, unnilI]; done) | (simp only [lb, lbI, rows_cons, rows_nil, unnilT, unnil, unnilTI, unnilI]; rfl)) (congrArg (fun l => PV.fr 3 1 (rows cInt l)) (show out = looseF width.toNat height.toNat G placed rows_ columns from by rw [q, List.take_of_length_le (by omega)]))))   -- leaf 1

theorem askQ {w h : Int} {ps : List Piece} {pl : List Plc} {rows cols : List Int} (e : ((chaseF w h ps pl).isSome && quB w h rows cols) = true) : ∃ G, chaseF w h ps pl = some G ∧ ((1 ≤ w ∧ w ≤ 8) ∧ (1 ≤ h ∧ h ≤ 8)) ∧ quB w h rows cols = true ∧ QuOk w.toNat h.toNat rows cols ∧ pl.length ≤ 8 ∧ ∀ p ∈ pl, 0 ≤ p.1 ∧ p.1 ≤ 7 := by
  rw [Bool.and_eq_true] at e
  obtain ⟨G, eG, oc, sg, bw⟩ := asked_some e.1
  exact ⟨G, eG, bw, e.2, qu_ok e.2 bw.1 bw.2, (chaseF_some eG).2.2, chase_nums eG⟩
theorem askN {w h : Int} {ps : List Piece} {pl : List Plc} {rows cols : List Int} (e : ((chaseF w h ps pl).isSome && quB w h rows cols) = false) : looseA w h ps pl rows cols = ([], false) ∧ lockA w h ps pl rows cols = (false, false) ∧ ∀ row, fallsA w h ps pl rows cols row = ([], false) := by
  unfold looseA lockA fallsA
  cases hF : chaseF w h ps pl with
  | none => exact ⟨rfl, rfl, fun _ => rfl⟩
  | some G =>
    rw [hF] at e
    have hq : quB w h rows cols = false := e
    dsimp only
    rw [hq]
    exact ⟨rfl, rfl, fun row => if_neg (fun h => by cases h.1)⟩
theorem lkLoose_ok (width height : Int) (pieces : List Piece) (placed : List Plc) (rows_ columns : List Int) (G : Grid) (eG : chaseF width height pieces placed = some G) (qo : QuOk width.toNat height.toNat rows_ columns) : OkA Try.prog 95 [.int .i64 width, .int .i64 height, .isl 2 (rows cPiece pieces), .isl 4 (rows cPlaced placed), .isl 1 (rows cInt rows_), .isl 1 (rows cInt columns)] (· = .isl 1 (rows cInt (looseF width.toNat height.toNat G placed rows_ columns))) := (lkLooseR_ok width height pieces placed rows_ columns G eG qo).ice
theorem lkLooseO_ok (width height : Int) (pieces : List Piece) (placed : List Plc) (rows_ columns : List Int) (G : Grid) (eG : chaseF width height pieces placed = some G) (qo : QuOk width.toNat height.toNat rows_ columns) : Ok Try.prog 95 [.int .i64 width, .int .i64 height, .isl 2 (rows cPiece pieces), .isl 4 (rows cPlaced placed), .isl 1 (rows cInt rows_), .isl 1 (rows cInt columns)] (· = .isl 1 (rows cInt (looseF width.toNat height.toNat G placed rows_ columns))) := ((lkLooseR_ok width height pieces placed rows_ columns G eG qo).ok (flat_fr flat_cInt)).ice
theorem lock_fill {w h : Int} {ps : List Piece} {pl : List Plc} {G : Grid} {a b : Bool} (eG : chaseF w h ps pl = some G) (e : (a, b) = fillA w h ps pl) : (decide (freeC w.toNat h.toNat G = 0) && decide (pl.length = ps.length)) = a := by
  rw [fillA, eG] at e
  exact (Prod.mk.inj e).1.symm
theorem lock_eq {w h : Int} {ps : List Piece} {pl : List Plc} {G : Grid} {rows cols : List Int} {a : Bool} (eG : chaseF w h ps pl = some G) (eq_ : quB w h rows cols = true) (e : (decide (freeC w.toNat h.toNat G = 0) && decide (pl.length = ps.length)) = a) : lockA w h ps pl rows cols = (a && decide (looseF w.toNat h.toNat G pl rows cols = []), true) := by
  rw [lockA, eG]; dsimp only; rw [if_pos eq_, e]
theorem specIsLocked_ok (width : Int) (height : Int) (pieces : List Piece) (placed : List Plc) (rows_ : List Int) (columns : List Int)  : OkA Try.prog 35 [.int .i64 width, .int .i64 height, .isl 2 (rows cPiece pieces), .isl 4 (rows cPlaced placed), .isl 1 (rows cInt rows_), .isl 1 (rows cInt columns)] (· = bb (lockA width height pieces placed rows_ columns)) :=
  fn_intro envOk fieldsOk mixed Try.func35 rfl fun κ X Y L Q m hQ => by
    conv => cbv
    refine r_callB m.sX (lkAsked_ok width height pieces placed rows_ columns) (fun h1 => ?_) (fun h1 => ?_) <;> conv => cbv
    · obtain ⟨G, eG, bw, eq_, qo, pl8, pn⟩ := askQ h1
      refine r_callF bb m.sX (specIsFilled_ok width height pieces placed) fun v hfilled => ?_
      obtain ⟨filled, v1⟩ := v
      conv => cbv
      rcases Bool.eq_false_or_eq_true filled with rfl | rfl <;> conv => cbv
      · refine r_callF (fun l => PV.isl _ (rows _ l)) m.sX (lkLoose_ok width height pieces placed rows_ columns G eG (by assumption)) fun v2 hv2 => ?_
        conv => cbv
        have vl : v2.length ≤ placed.length := by rw [hv2]; exact loose_len _ _ _ _ _ _
        refine r_lenR m.sX fun n1 hn1 mn1 => ?_
        conv => cbv
        refine r_eql m.sX (fun h2 => ?_) (fun h2 => ?_) <;> conv => cbv
        · have ef := lock_fill eG hfilled
          exact hQ (.tup [.bool true, .bool true]) (Eq.trans (by first | rfl | (simp only [lb, lbI, rows_cons, rows_nil, unnilT, unnil, unnilTI, unnilI]; done) | (simp only [lb, lbI, rows_cons, rows_nil, unnilT, unnil, unnilTI, unnilI]; rfl)) (congrArg (bb) (show (true, true) = lockA width height pieces placed rows_ columns from by rw [lock_eq eG eq_ ef, ← hv2, decide_eq_true (List.length_eq_zero_iff.1 (show v2.length = 0 by omega))]; rfl)))   -- leaf 1
        · have ef := lock_fill eG hfilled
          exact hQ (.tup [.bool false, .bool true]) (Eq.trans (by first | rfl | (simp only [lb, lbI, rows_cons, rows_nil, unnilT, unnil, unnilTI, unnilI]; done) | (simp only [lb, lbI, rows_cons, rows_nil, unnilT, unnil, unnilTI, unnilI]; rfl)) (congrArg (bb) (show (false, true) = lockA width height pieces placed rows_ columns from by rw [lock_eq eG eq_ ef, ← hv2, decide_eq_false (fun e => h2 (by rw [hn1, e]; rfl))]; rfl)))   -- leaf 2
      · exact hQ (.tup [.bool false, .bool true]) (Eq.trans (by first | rfl | (simp only [lb, lbI, rows_cons, rows_nil, unnilT, unnil, unnilTI, unnilI]; done) | (simp only [lb, lbI, rows_cons, rows_nil, unnilT, unnil, unnilTI, unnilI]; rfl)) (congrArg (bb) (show (false, true) = lockA width height pieces placed rows_ columns from by rw [lock_eq eG eq_ (lock_fill eG hfilled)]; rfl)))   -- leaf 3
    · exact hQ (.tup [.bool false, .bool false]) (Eq.trans (by first | rfl | (simp only [lb, lbI, rows_cons, rows_nil, unnilT, unnil, unnilTI, unnilI]; done) | (simp only [lb, lbI, rows_cons, rows_nil, unnilT, unnil, unnilTI, unnilI]; rfl)) (congrArg (bb) (show (false, false) = lockA width height pieces placed rows_ columns from by exact (askN h1).2.1.symm)))   -- leaf 4

theorem specFallsWithout_ok (width : Int) (height : Int) (pieces : List Piece) (placed : List Plc) (rows_ : List Int) (columns : List Int) (row : Int)  : OkA Try.prog 39 [.int .i64 width, .int .i64 height, .isl 2 (rows cPiece pieces), .isl 4 (rows cPlaced placed), .isl 1 (rows cInt rows_), .isl 1 (rows cInt columns), .int .i64 row] (· = (lb 3 1 cInt) (fallsA width height pieces placed rows_ columns row)) :=
  OkA.unnil 3 1 (fn_intro envOk fieldsOk mixed Try.func39 rfl fun κ X Y L Q m hQ => by
    conv => cbv
    refine r_callB m.sX (lkAsked_ok width height pieces placed rows_ columns) (fun h1 => ?_) (fun h1 => ?_) <;> conv => cbv
    · obtain ⟨G, eG, bw, eq_, qo, pl8, pn⟩ := askQ h1
      obtain ⟨⟨q1, q2⟩, q3, q4⟩ := id qo
      refine r_callB m.sX (l1Has_ok rows_ row) (fun h2 => ?_) (fun h2 => ?_) <;> conv => cbv
      · refine r_lenR m.sX fun n1 hn1 mn1 => ?_
        conv => cbv
        refine r_loopF (α := List Int × Int) m 80 [0, 1, 2, 3, 4, 5, 6, 37, 38, 39] [⟨16, 129, 3, 1, 0⟩] (fun σ => [(0, .int .i64 width), (1, .int .i64 height), (2, .isl 2 (rows cPiece pieces)), (3, .isl 4 (rows cPlaced placed)), (4, .isl 1 (rows cInt rows_)), (5, .isl 1 (rows cInt columns)), (6, .int .i64 row), (16, .osl 129 0), (37, .isl 1 (rows cInt rows_)), (38, .int .i64 n1), (39, .int .i64 σ.2)]) (fun σ => [(129, 0, .row 3 1 (rows cInt σ.1))])
          (fun σ => (0 ≤ σ.2) ∧ (σ.2 ≤ n1) ∧ (σ.1 = (rows_.take σ.2.toNat).filter fun y => decide (y ≠ row)) ∧ ((σ.1.length : Int) ≤ σ.2)) (fun σ => (n1 - σ.2).toNat) ([], 0) ?_ ?_ ?_ ?_
        · cbv
        · (try dsimp only); (try simp only [rows_cons, rows_nil]); cbv
        · exact ⟨(by (try dsimp only); first | omega | (simp only [List.length_nil]; omega) | (simp only [List.length_cons, List.length_nil]; omega)), (by (try dsimp only); first | omega | (simp only [List.length_nil]; omega) | (simp only [List.length_cons, List.length_nil]; omega)), (by (try dsimp only) <;> (rfl)), (by (try dsimp only) <;> first | omega | rfl | (simp [*]; done))⟩
        rintro ⟨left, i1⟩ ⟨lo1, hi1, q, ln⟩ E hE F hF
        dsimp only at lo1 hi1 q ln
        conv => cbv
        refine r_lss m.sX (fun h3 => ?_) (fun h3 => ?_) <;> conv => cbv
        · refine r_index m.sX (by omega) (by omega) fun y hy => ?_
          conv => cbv
          have my := get_mem hy
          have dy := drop_cons hy
          have ky := take_snoc hy
          have jy : (i1 + 1).toNat = Int.toNat i1 + 1 := by omega
          have vy := nth_some hy
          refine r_neq m.sX (fun h4 => ?_) (fun h4 => ?_) <;> conv => cbv
          · refine r_append1 (y) m.sX rfl (by first | omega | (dsimp only; omega)) (by first | omega | (dsimp only; omega)) fun left_2 hleft_2 => ?_
            conv => cbv
            have lleft_2 : (left_2.length : Int) = left.length + 1 := by rw [hleft_2]; first | done | (simp; done) | (simp; omega)
            refine r_addf m.sX (by omega) (by omega) fun r1 hr1 => ?_
            conv => cbv
            try have tr1 : Int.toNat r1 = Int.toNat i1 + 1 := by omega
            refine hE _ (left_2, r1) ?_ ?_ ⟨(by (try dsimp only); first | omega | (simp only [List.length_nil]; omega) | (simp only [List.length_cons, List.length_nil]; omega)), (by (try dsimp only); first | omega | (simp only [List.length_nil]; omega) | (simp only [List.length_cons, List.length_nil]; omega)), (by (try dsimp only) <;> (rw [tr1]; first | (rw [hleft_2]; exact keep_next hy q (decide_eq_true h4)) | exact drop_next hy q (decide_eq_false (by simp [h4])))), (by (try dsimp only) <;> (omega))⟩ (by first | omega | (dsimp only; omega))
            · cbv
            · cbv
          · refine r_addf m.sX (by omega) (by omega) fun r2 hr2 => ?_
            conv => cbv
            try have tr2 : Int.toNat r2 = Int.toNat i1 + 1 := by omega
            refine hE _ (left, r2) ?_ ?_ ⟨(by (try dsimp only); first | omega | (simp only [List.length_nil]; omega) | (simp only [List.length_cons, List.length_nil]; omega)), (by (try dsimp only); first | omega | (simp only [List.length_nil]; omega) | (simp only [List.length_cons, List.length_nil]; omega)), (by (try dsimp only) <;> (rw [tr2]; first | (rw [hleft_2]; exact keep_next hy q (decide_eq_true h4)) | exact drop_next hy q (decide_eq_false (by simp [h4])))), (by (try dsimp only) <;> (omega))⟩ (by first | omega | (dsimp only; omega))
            · cbv
            · cbv
        · have dz_i1 := drop_end (xs := rows_) (i := Int.toNat i1) (by omega)
          have tz_i1 := take_end (xs := rows_) (i := Int.toNat i1) (by omega)
          refine hF _ _ ?_
          conv => cbv
          refine r_callF (fun l => PV.isl _ (rows _ l)) m.sX (lkLoose_ok width height pieces placed rows_ columns G eG (by assumption)) fun before hbefore => ?_
          conv => cbv
          have eo : left = rows_.filter fun y => decide (y ≠ row) := by rw [q, List.take_of_length_le (by omega)]
          have ql := qo.less (fun y => decide (y ≠ row))
          rw [← eo] at ql
          refine .inl (r_callFO (fun l => PV.isl _ (rows _ l)) m.sX ((lkLooseO_ok width height pieces placed left columns G eG (by assumption))) fun v1 hv1 => ?_)
          conv => cbv
          have vl : v1.length ≤ placed.length := by rw [hv1]; exact loose_len _ _ _ _ _ _
          refine r_lenR m.sX fun n2 hn2 mn2 => ?_
          conv => cbv
          refine r_loopF (α := List Int × Int) m 80 [19, 64, 65, 66] [⟨20, 161, 3, 1, 0⟩] (fun σ => [(19, .isl 1 (rows cInt before)), (20, .osl 161 0), (64, .isl 1 (rows cInt v1)), (65, .int .i64 n2), (66, .int .i64 σ.2)]) (fun σ => [(161, 0, .row 3 1 (rows cInt σ.1))])
            (fun σ => (0 ≤ σ.2) ∧ (σ.2 ≤ n2) ∧ (σ.1 = (v1.take σ.2.toNat).filter fun n => decide (n ∉ before)) ∧ ((σ.1.length : Int) ≤ σ.2)) (fun σ => (n2 - σ.2).toNat) ([], 0) ?_ ?_ ?_ ?_
          · cbv
          · (try dsimp only); (try simp only [rows_cons, rows_nil]); cbv
          · exact ⟨(by (try dsimp only); first | omega | (simp only [List.length_nil]; omega) | (simp only [List.length_cons, List.length_nil]; omega)), (by (try dsimp only); first | omega | (simp only [List.length_nil]; omega) | (simp only [List.length_cons, List.length_nil]; omega)), (by (try dsimp only) <;> (rfl)), (by (try dsimp only) <;> first | omega | rfl | (simp [*]; done))⟩
          rintro ⟨out, i2⟩ ⟨lo2, hi2, qq, ln2⟩ E hE F hF
          dsimp only at lo2 hi2 qq ln2
          conv => cbv
          refine r_lss m.sX (fun h5 => ?_) (fun h5 => ?_) <;> conv => cbv
          · refine r_index m.sX (by omega) (by omega) fun number hnumber => ?_
            conv => cbv
            have mnumber := get_mem hnumber
            have dnumber := drop_cons hnumber
            have knumber := take_snoc hnumber
            have jnumber : (i2 + 1).toNat = Int.toNat i2 + 1 := by omega
            have vnumber := nth_some hnumber
            refine r_callB m.sX (l1Has_ok before number) (fun h6 => ?_) (fun h6 => ?_) <;> conv => cbv
            · refine r_addf m.sX (by omega) (by omega) fun r3 hr3 => ?_
              conv => cbv
              try have tr3 : Int.toNat r3 = Int.toNat i2 + 1 := by omega
              refine hE _ (out, r3) ?_ ?_ ⟨(by (try dsimp only); first | omega | (simp only [List.length_nil]; omega) | (simp only [List.length_cons, List.length_nil]; omega)), (by (try dsimp only); first | omega | (simp only [List.length_nil]; omega) | (simp only [List.length_cons, List.length_nil]; omega)), (by (try dsimp only) <;> (rw [tr3]; first | (rw [hout_2]; exact keep_next hnumber qq (decide_eq_true (of_decide_eq_false h6))) | exact drop_next hnumber qq (decide_eq_false (fun e => e (of_decide_eq_true h6))))), (by (try dsimp only) <;> (omega))⟩ (by first | omega | (dsimp only; omega))
              · cbv
              · cbv
            · refine r_append1 (number) m.sX rfl (by first | omega | (dsimp only; omega)) (by first | omega | (dsimp only; omega)) fun out_2 hout_2 => ?_
              conv => cbv
              have lout_2 : (out_2.length : Int) = out.length + 1 := by rw [hout_2]; first | done | (simp; done) | (simp; omega)
              refine r_addf m.sX (by omega) (by omega) fun r4 hr4 => ?_
              conv => cbv
              try have tr4 : Int.toNat r4 = Int.toNat i2 + 1 := by omega
              refine hE _ (out_2, r4) ?_ ?_ ⟨(by (try dsimp only); first | omega | (simp only [List.length_nil]; omega) | (simp only [List.length_cons, List.length_nil]; omega)), (by (try dsimp only); first | omega | (simp only [List.length_nil]; omega) | (simp only [List.length_cons, List.length_nil]; omega)), (by (try dsimp only) <;> (rw [tr4]; first | (rw [hout_2]; exact keep_next hnumber qq (decide_eq_true (of_decide_eq_false h6))) | exact drop_next hnumber qq (decide_eq_false (fun e => e (of_decide_eq_true h6))))), (by (try dsimp only) <;> (omega))⟩ (by first | omega | (dsimp only; omega))
              · cbv
              · cbv
          · have dz_i2 := drop_end (xs := v1) (i := Int.toNat i2) (by omega)
            have tz_i2 := take_end (xs := v1) (i := Int.toNat i2) (by omega)
            refine hF _ _ ?_
            conv => cbv
            exact hQ (.tup [.fr 3 1 (rows cInt out), .bool true]) (Eq.trans (by first | rfl | (simp only [lb, lbI, rows_cons, rows_nil, unnilT, unnil, unnilTI, unnilI]; done) | (simp only [lb, lbI, rows_cons, rows_nil, unnilT, unnil, unnilTI, unnilI]; rfl)) (congrArg ((lb 3 1 cInt)) (show (out, true) = fallsA width height pieces placed rows_ columns row from by rw [fallsA, eG]; dsimp only; rw [if_pos ⟨eq_, of_decide_eq_true h2⟩, qq, List.take_of_length_le (by omega)]; unfold fallsF; rw [← hbefore, ← eo, ← hv1])))   -- leaf 1
      · exact hQ (.tup [.nil, .bool false]) (Eq.trans (by first | rfl | (simp only [lb, lbI, rows_cons, rows_nil, unnilT, unnil, unnilTI, unnilI]; done) | (simp only [lb, lbI, rows_cons, rows_nil, unnilT, unnil, unnilTI, unnilI]; rfl)) (congrArg ((lb 3 1 cInt)) (show ([], false) = fallsA width height pieces placed rows_ columns row from by rw [fallsA, eG]; dsimp only; rw [if_neg (fun e => of_decide_eq_false h2 e.2)])))   -- leaf 2
    · exact hQ (.tup [.nil, .bool false]) (Eq.trans (by first | rfl | (simp only [lb, lbI, rows_cons, rows_nil, unnilT, unnil, unnilTI, unnilI]; done) | (simp only [lb, lbI, rows_cons, rows_nil, unnilT, unnil, unnilTI, unnilI]; rfl)) (congrArg ((lb 3 1 cInt)) (show ([], false) = fallsA width height pieces placed rows_ columns row from by exact ((askN h1).2.2 row).symm))))   -- leaf 3


end Go.Proofs.Ytiaodmfipeoegaa.Ai
