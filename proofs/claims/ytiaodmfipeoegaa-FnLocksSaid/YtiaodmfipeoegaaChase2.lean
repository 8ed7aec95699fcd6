/- Contracts of the functions on chases: turned placings, free places, pictures. -/
import Derived.Test.YtiaodmfipeoegaaChasePic
namespace Go.Proofs.Ytiaodmfipeoegaa.Ai
open Go Go.Proofs
set_option linter.unusedSimpArgs false
set_option maxRecDepth 10000
set_option maxHeartbeats 4000000
set_option linter.unusedVariables false
theorem chaseL_yes {w h : Int} {ps : List Piece} {pl : List Plc} {g : List (List Int)} (e : (g, true) = chaseL w h ps pl) : ∃ G, chaseF w h ps pl = some G ∧ g = tabG w.toNat h.toNat G ∧ smallG w.toNat h.toNat G ∧ ((1 ≤ w ∧ w ≤ 8) ∧ (1 ≤ h ∧ h ≤ 8)) ∧ okPs ps = true := by
  unfold chaseL at e
  cases hc : chaseF w h ps pl with
  | none => rw [hc] at e; cases (Prod.mk.inj e).2
  | some G =>
    rw [hc] at e
    obtain ⟨h1, h2, -⟩ := chaseF_some hc
    obtain ⟨h3, h4, h5⟩ := okCh_spec h1
    exact ⟨G, rfl, (Prod.mk.inj e).1, h2, ⟨h3, h4⟩, h5⟩
theorem chaseL_no {w h : Int} {ps : List Piece} {pl : List Plc} {g : List (List Int)} (e : (g, false) = chaseL w h ps pl) : chaseF w h ps pl = none := by
  unfold chaseL at e
  cases hc : chaseF w h ps pl with
  | none => rfl
  | some G => rw [hc] at e; cases (Prod.mk.inj e).2
theorem tab_sizes {w h : Nat} {G : Grid} (hw : w ≤ 8) (hh : h ≤ 8) : (tabG w h G).length ≤ 100 ∧ ∀ r ∈ tabG w h G, r.length ≤ 100 := by
  refine ⟨by rw [tabG_length]; omega, fun r hr => ?_⟩
  obtain ⟨y, -, rfl⟩ := List.mem_map.1 hr
  simp; omega
theorem gridL_get {w h : Int} {ps : List Piece} {pl : List Plc} {G : Grid} (e : chaseF w h ps pl = some G) : gridL w h ps pl = (flaG w.toNat h.toNat G, true) := by unfold gridL; rw [e]
theorem asked_some {w h : Int} {ps : List Piece} {pl : List Plc} (e : (chaseF w h ps pl).isSome = true) : ∃ G, chaseF w h ps pl = some G ∧ okCh w h ps = true ∧ smallG w.toNat h.toNat G ∧ ((1 ≤ w ∧ w ≤ 8) ∧ (1 ≤ h ∧ h ≤ 8)) := by
  obtain ⟨G, hG⟩ := Option.isSome_iff_exists.1 e
  obtain ⟨h1, h2, -⟩ := chaseF_some hG
  obtain ⟨h3, h4, -⟩ := okCh_spec h1
  exact ⟨G, hG, h1, h2, h3, h4⟩
theorem asked_none {w h : Int} {ps : List Piece} {pl : List Plc} (e : (chaseF w h ps pl).isSome = false) : chaseF w h ps pl = none := by simpa using e
theorem flaG_small {w h : Nat} {G : Grid} (hs : smallG w h G) : ∀ c ∈ flaG w h G, -1 ≤ c ∧ c ≤ 7 := by
  intro c hc
  obtain ⟨k, -, rfl⟩ := List.mem_map.1 hc
  exact hs _ _
theorem IsFilled_ok (width : Int) (height : Int) (pieces : List Piece) (placed : List Plc) (hb : ∀ p ∈ placed, p.2.1 ≤ 1000000 ∧ p.2.2.1 ≤ 1000000) : OkA Try.prog 12 [.int .i64 width, .int .i64 height, .isl 2 (rows cPiece pieces), .isl 4 (rows cPlaced placed)] (· = bb (fillA width height pieces placed)) :=
  fn_intro envOk fieldsOk mixed Try.func12 rfl fun κ X Y L Q m hQ => by
    conv => cbv
    refine r_callF (lbI 1 (cSl 1 cInt)) m.sX (chaseOf_ok width height pieces placed hb) fun v hgrid => ?_
    obtain ⟨grid, ok⟩ := v
    conv => cbv
    rcases Bool.eq_false_or_eq_true ok with rfl | rfl <;> conv => cbv
    · obtain ⟨G, eG, eg, -, bw, -⟩ := chaseL_yes hgrid
      have tz := tab_sizes (w := width.toNat) (h := height.toNat) (G := G) (by omega) (by omega)
      rw [← eg] at tz
      refine r_callF (PV.int .i64) m.sX (freePlaces_ok grid (by first | rfl | assumption | omega | (simp only [List.length_append, List.length_cons, List.length_nil] at *; omega))) fun r1 hr1 => ?_
      conv => cbv
      have fc : freeC width.toNat height.toNat G = r1 := by rw [hr1, eg]; rfl
      refine r_eql m.sX (fun h1 => ?_) (fun h1 => ?_) <;> conv => cbv
      · refine r_lenR m.sX fun n1 hn1 mn1 => ?_
        conv => cbv
        refine r_lenR m.sX fun n2 hn2 mn2 => ?_
        conv => cbv
        refine r_eql m.sX (fun h2 => ?_) (fun h2 => ?_) <;> conv => cbv
        · exact hQ (.tup [.bool true, .bool true]) (Eq.trans (by first | rfl | (simp only [lb, lbI, rows_cons, rows_nil, unnilT, unnil, unnilTI, unnilI]; done) | (simp only [lb, lbI, rows_cons, rows_nil, unnilT, unnil, unnilTI, unnilI]; rfl)) (congrArg (bb) (show (true, true) = fillA width height pieces placed from by rw [fillA, eG]; dsimp only; rw [fc, decide_eq_true h1, decide_eq_true (by omega)]; rfl)))   -- leaf 1
        · exact hQ (.tup [.bool false, .bool true]) (Eq.trans (by first | rfl | (simp only [lb, lbI, rows_cons, rows_nil, unnilT, unnil, unnilTI, unnilI]; done) | (simp only [lb, lbI, rows_cons, rows_nil, unnilT, unnil, unnilTI, unnilI]; rfl)) (congrArg (bb) (show (false, true) = fillA width height pieces placed from by rw [fillA, eG]; dsimp only; rw [fc, decide_eq_true h1, decide_eq_false (by omega)]; rfl)))   -- leaf 2
      · exact hQ (.tup [.bool false, .bool true]) (Eq.trans (by first | rfl | (simp only [lb, lbI, rows_cons, rows_nil, unnilT, unnil, unnilTI, unnilI]; done) | (simp only [lb, lbI, rows_cons, rows_nil, unnilT, unnil, unnilTI, unnilI]; rfl)) (congrArg (bb) (show (false, true) = fillA width height pieces placed from by rw [fillA, eG]; dsimp only; rw [fc, decide_eq_false h1]; rfl)))   -- leaf 3
    · have eN := chaseL_no hgrid
      exact hQ (.tup [.bool false, .bool false]) (Eq.trans (by first | rfl | (simp only [lb, lbI, rows_cons, rows_nil, unnilT, unnil, unnilTI, unnilI]; done) | (simp only [lb, lbI, rows_cons, rows_nil, unnilT, unnil, unnilTI, unnilI]; rfl)) (congrArg (bb) (show (false, false) = fillA width height pieces placed from by rw [fillA, eN])))   -- leaf 4

theorem specIsFilled_ok (width : Int) (height : Int) (pieces : List Piece) (placed : List Plc)  : OkA Try.prog 13 [.int .i64 width, .int .i64 height, .isl 2 (rows cPiece pieces), .isl 4 (rows cPlaced placed)] (· = bb (fillA width height pieces placed)) :=
  fn_intro envOk fieldsOk mixed Try.func13 rfl fun κ X Y L Q m hQ => by
    conv => cbv
    refine r_callB m.sX (fuAsked_ok width height pieces placed) (fun h1 => ?_) (fun h1 => ?_) <;> conv => cbv
    · obtain ⟨G, eG, oc, sg, bw⟩ := asked_some h1
      refine r_callF (lb 3 1 cInt) m.sX (fuGrid_ok width height pieces placed (by first | rfl | assumption | omega | (simp only [List.length_append, List.length_cons, List.length_nil] at *; omega))) fun v hgrid => ?_
      obtain ⟨grid, v1⟩ := v
      conv => cbv
      have eg : grid = flaG width.toNat height.toNat G := by rw [gridL_get eG] at hgrid; exact (Prod.mk.inj hgrid).1
      have fc : freeR grid = freeC width.toNat height.toNat G := by rw [eg, freeF]
      have fh := freeR_has (l := grid) (fun c hc => (flaG_small sg c (by rw [← eg]; exact hc)).1)
      refine r_lenR m.sX fun n1 hn1 mn1 => ?_
      conv => cbv
      refine r_lenR m.sX fun n2 hn2 mn2 => ?_
      conv => cbv
      refine r_eql m.sX (fun h2 => ?_) (fun h2 => ?_) <;> conv => cbv
      · refine .inl (r_callBO m.sX ((l1Has_ok grid (-1)).ok flat_bool) (fun h3 => ?_) (fun h3 => ?_)) <;> conv => cbv
        · exact hQ (.tup [.bool false, .bool true]) (Eq.trans (by first | rfl | (simp only [lb, lbI, rows_cons, rows_nil, unnilT, unnil, unnilTI, unnilI]; done) | (simp only [lb, lbI, rows_cons, rows_nil, unnilT, unnil, unnilTI, unnilI]; rfl)) (congrArg (bb) (show (false, true) = fillA width height pieces placed from by rw [fillA, eG]; dsimp only; rw [← fc, decide_eq_false (fun e => (fh.1 e) (of_decide_eq_true h3))]; rfl)))   -- leaf 1
        · exact hQ (.tup [.bool true, .bool true]) (Eq.trans (by first | rfl | (simp only [lb, lbI, rows_cons, rows_nil, unnilT, unnil, unnilTI, unnilI]; done) | (simp only [lb, lbI, rows_cons, rows_nil, unnilT, unnil, unnilTI, unnilI]; rfl)) (congrArg (bb) (show (true, true) = fillA width height pieces placed from by rw [fillA, eG]; dsimp only; rw [← fc, decide_eq_true (fh.2 (of_decide_eq_false h3)), decide_eq_true (by omega)]; rfl)))   -- leaf 2
      · exact hQ (.tup [.bool false, .bool true]) (Eq.trans (by first | rfl | (simp only [lb, lbI, rows_cons, rows_nil, unnilT, unnil, unnilTI, unnilI]; done) | (simp only [lb, lbI, rows_cons, rows_nil, unnilT, unnil, unnilTI, unnilI]; rfl)) (congrArg (bb) (show (false, true) = fillA width height pieces placed from by rw [fillA, eG]; dsimp only; rw [decide_eq_false (show ¬ placed.length = pieces.length by omega), Bool.and_false])))   -- leaf 3
    · have eN := asked_none h1
      exact hQ (.tup [.bool false, .bool false]) (Eq.trans (by first | rfl | (simp only [lb, lbI, rows_cons, rows_nil, unnilT, unnil, unnilTI, unnilI]; done) | (simp only [lb, lbI, rows_cons, rows_nil, unnilT, unnil, unnilTI, unnilI]; rfl)) (congrArg (bb) (show (false, false) = fillA width height pieces placed from by rw [fillA, eN])))   -- leaf 4

end Go.Proofs.Ytiaodmfipeoegaa.Ai
