/- Contracts of the functions on chases: turned placings, free places, pictures. -/
import Derived.Test.YtiaodmfipeoegaaChasePic
namespace Go.Proofs.Ytiaodmfipeoegaa.Ai
open Go Go.Proofs
set_option linter.unusedSimpArgs false
set_option maxRecDepth 10000
set_option maxHeartbeats 4000000
set_option linter.unusedVariables false
theorem l1Num_small (n : Int) (h : 0 ≤ n ∧ n ≤ 9) : OkA Try.prog 71 [.int .i64 n] (· = .str [UInt8.ofNat (48 + n).toNat]) :=
  fn_intro envOk fieldsOk mixed Try.func71 rfl fun κ X Y L Q m hQ => by
    conv => cbv
    refine r_lss m.sX (fun h1 => ?_) (fun h1 => ?_) <;> conv => cbv
    · refine r_addf m.sX (by omega) (by omega) fun r1 hr1 => ?_
      conv => cbv
      refine r_conv m.sX fun r2 hr2 => ?_   -- r2 = uint8 of r1
      conv => cbv
      refine r_tostr ([r2] : List Int) m.sX rfl fun s1 hs1 => ?_   -- s1 = string of bytes
      conv => cbv
      refine hQ _ ?_
      have e2 : r2 = r1 := by rw [hr2, IntKind.wrap_u8]; omega
      rw [hs1, e2, hr1]; rfl
    · exact absurd h.2 (by omega)
theorem chaseL_yes {w h : Int} {ps : List Piece} {pl : List Plc} {g : List (List Int)} (e : (g, true) = chaseL w h ps pl) : ∃ G, chaseF w h ps pl = some G ∧ g = tabG w.toNat h.toNat G ∧ smallG w.toNat h.toNat G ∧ ((1 ≤ w ∧ w ≤ 8) ∧ (1 ≤ h ∧ h ≤ 8)) ∧ okPs ps = true := by
  unfold chaseL at e
  cases hc : chaseF w h ps pl with
  | none => rw [hc] at e; cases (Prod.mk.inj e).2
  | some G =>
    rw [hc] at e
    obtain ⟨h1, h2, -⟩ := chaseF_some hc
    obtain ⟨h3, h4, h5⟩ := okCh_spec h1
    exact ⟨G, rfl, (Prod.mk.inj e).1, h2, ⟨h3, h4⟩, h5⟩
theorem chaseL_no {w h : Int} {ps : List Piece} {pl : List Plc} {g : List (List Int)} (e : (g, false) = chaseL w h ps pl) : chaseF w h ps pl = none := by
  unfold chaseL at e
  cases hc : chaseF w h ps pl with
  | none => rfl
  | some G => rw [hc] at e; cases (Prod.mk.inj e).2
theorem turn_take {pl : List Plc} {i : Nat} {p : Plc} (h : pl[i]? = some p) : (pl.take (i + 1)).map turnP = (pl.take i).map turnP ++ [turnP p] := by rw [List.take_add_one, h]; simp
theorem tab_sizes {w h : Nat} {G : Grid} (hw : w ≤ 8) (hh : h ≤ 8) : (tabG w h G).length ≤ 100 ∧ ∀ r ∈ tabG w h G, r.length ≤ 100 := by
  refine ⟨by rw [tabG_length]; omega, fun r hr => ?_⟩
  obtain ⟨y, -, rfl⟩ := List.mem_map.1 hr
  simp; omega
theorem gridL_get {w h : Int} {ps : List Piece} {pl : List Plc} {G : Grid} (e : chaseF w h ps pl = some G) : gridL w h ps pl = (flaG w.toNat h.toNat G, true) := by unfold gridL; rw [e]
theorem asked_some {w h : Int} {ps : List Piece} {pl : List Plc} (e : (chaseF w h ps pl).isSome = true) : ∃ G, chaseF w h ps pl = some G ∧ okCh w h ps = true ∧ smallG w.toNat h.toNat G ∧ ((1 ≤ w ∧ w ≤ 8) ∧ (1 ≤ h ∧ h ≤ 8)) := by
  obtain ⟨G, hG⟩ := Option.isSome_iff_exists.1 e
  obtain ⟨h1, h2, -⟩ := chaseF_some hG
  obtain ⟨h3, h4, -⟩ := okCh_spec h1
  exact ⟨G, hG, h1, h2, h3, h4⟩
theorem asked_none {w h : Int} {ps : List Piece} {pl : List Plc} (e : (chaseF w h ps pl).isSome = false) : chaseF w h ps pl = none := by simpa using e
theorem flaG_small {w h : Nat} {G : Grid} (hs : smallG w h G) : ∀ c ∈ flaG w h G, -1 ≤ c ∧ c ≤ 7 := by
  intro c hc
  obtain ⟨k, -, rfl⟩ := List.mem_map.1 hc
  exact hs _ _
/-- A picture out of one row. -/
def picN (w : Nat) : Nat → List Int → List UInt8
  | _, [] => []
  | i, c :: t => sgnC c :: ((if i % w = w - 1 then [10] else []) ++ picN w (i + 1) t)
theorem picN_step {w i : Nat} {l : List Int} {c : Int} (h : l[i]? = some c) : picN w i (l.drop i) = sgnC c :: ((if i % w = w - 1 then [10] else []) ++ picN w (i + 1) (l.drop (i + 1))) := by
  obtain ⟨hl, rfl⟩ := List.getElem?_eq_some_iff.1 h
  rw [List.drop_eq_getElem_cons hl, picN]
theorem picN_row {w : Nat} (k : Nat) (rest : List Int) : ∀ (r : List Int) (j : Nat), j + r.length = w → r ≠ [] → picN w (k * w + j) (r ++ rest) = r.map sgnC ++ [10] ++ picN w ((k + 1) * w) rest
  | [], _, _, hn => absurd rfl hn
  | c :: t, j, hj, _ => by
    have hw : 0 < w := by simp at hj; omega
    have hj2 : j < w := by simp at hj; omega
    have hm : (k * w + j) % w = j := by rw [Nat.mul_comm, Nat.mul_add_mod, Nat.mod_eq_of_lt hj2]
    rw [List.cons_append, picN, hm]
    by_cases ht : t = []
    · subst ht
      have : j = w - 1 := by simp at hj; omega
      rw [if_pos this, show k * w + j + 1 = (k + 1) * w by rw [Nat.add_mul]; omega]
      simp
    · rw [if_neg (by have := List.length_pos_iff.2 ht; simp at hj; omega), show k * w + j + 1 = k * w + (j + 1) by omega, picN_row k rest t (j + 1) (by simp at hj; omega) ht]
      simp
theorem picN_rows {w : Nat} (hw : 0 < w) : ∀ (l : List (List Int)) (k : Nat), (∀ r ∈ l, r.length = w) → picN w (k * w) l.flatten = picF l
  | [], _, _ => rfl
  | r :: t, k, h => by
    have hr := h r (by simp)
    have := picN_row (w := w) k t.flatten r 0 (by omega) (by intro e; rw [e] at hr; simp at hr; omega)
    rw [Nat.add_zero] at this
    rw [List.flatten_cons, this, picN_rows hw t (k + 1) fun x hx => h x (by simp [hx])]
    simp [picF]
theorem picN_flat {w h : Nat} {G : Grid} (hw : 0 < w) : picN w 0 (flaG w h G) = picF (tabG w h G) := by
  rw [flaG_flat]
  have := picN_rows hw (tabG w h G) 0 fun r hr => by
    obtain ⟨y, -, rfl⟩ := List.mem_map.1 hr
    simp
  rwa [Nat.zero_mul] at this
theorem modn {a b : Int} (ha : 0 ≤ a) (hb : 0 < b) : (a % b).toNat = a.toNat % b.toNat := by
  have h1 : ((a.toNat : Nat) : Int) = a := Int.toNat_of_nonneg ha
  have h2 : ((b.toNat : Nat) : Int) = b := Int.toNat_of_nonneg (by omega)
  have h3 : ((a.toNat % b.toNat : Nat) : Int) = a % b := by rw [Int.natCast_emod, h1, h2]
  omega
theorem TurnChase_ok (width : Int) (height : Int) (pieces : List Piece) (placed : List Plc) (hb : ∀ p ∈ placed, p.2.1 ≤ 1000000 ∧ p.2.2.1 ≤ 1000000) : OkA Try.prog 8 [.int .i64 width, .int .i64 height, .isl 2 (rows cPiece pieces), .isl 4 (rows cPlaced placed)] (· = (lb 60 4 cPlaced) (turnA width height pieces placed)) :=
  OkA.unnil 60 4 (fn_intro envOk fieldsOk mixed Try.func8 rfl fun κ X Y L Q m hQ => by
    conv => cbv
    refine r_callF (lbI 1 (cSl 1 cInt)) m.sX (chaseOf_ok width height pieces placed hb) fun v hv1 => ?_
    obtain ⟨v1, ok⟩ := v
    conv => cbv
    rcases Bool.eq_false_or_eq_true ok with rfl | rfl <;> conv => cbv
    · obtain ⟨G, eG, -⟩ := chaseL_yes hv1
      have pl8 := (chaseF_some eG).2.2
      refine r_lenR m.sX fun n1 hn1 mn1 => ?_
      conv => cbv
      refine r_loopF (α := List Plc × Int) m 48 [27, 28, 29] [⟨12, 97, 60, 4, 0⟩] (fun σ => [(12, .osl 97 0), (27, .isl 4 (rows cPlaced placed)), (28, .int .i64 n1), (29, .int .i64 σ.2)]) (fun σ => [(97, 0, .row 60 4 (rows cPlaced σ.1))])
        (fun σ => (0 ≤ σ.2) ∧ (σ.2 ≤ n1) ∧ (σ.1 = (placed.take σ.2.toNat).map turnP) ∧ ((σ.1.length : Int) ≤ σ.2)) (fun σ => (n1 - σ.2).toNat) ([], 0) ?_ ?_ ?_ ?_
      · cbv
      · (try dsimp only); (try simp only [rows_cons, rows_nil]); cbv
      · exact ⟨(by (try dsimp only); first | omega | (simp only [List.length_nil]; omega) | (simp only [List.length_cons, List.length_nil]; omega)), (by (try dsimp only); first | omega | (simp only [List.length_nil]; omega) | (simp only [List.length_cons, List.length_nil]; omega)), (by (try dsimp only) <;> (rfl)), (by (try dsimp only) <;> first | omega | rfl | (simp [*]; done))⟩
      rintro ⟨next, i1⟩ ⟨lo1, hi1, q, ln⟩ E hE F hF
      dsimp only at lo1 hi1 q ln
      conv => cbv
      refine r_lss m.sX (fun h1 => ?_) (fun h1 => ?_) <;> conv => cbv
      · refine r_index m.sX (by omega) (by omega) fun v hpA => ?_
        obtain ⟨pA, pB, pC, pD⟩ := v
        conv => cbv
        have hp := hpA
        have mp := get_mem hp
        have dp := drop_cons hp
        have kp := take_snoc hp
        have jp : (i1 + 1).toNat = Int.toNat i1 + 1 := by omega
        rcases Bool.eq_false_or_eq_true pD with rfl | rfl <;> conv => cbv
        · refine r_append1 ((pA, pC, pB, false)) m.sX rfl (by first | omega | (dsimp only; omega)) (by first | omega | (dsimp only; omega)) fun next_2 hnext_2 => ?_
          conv => cbv
          have lnext_2 : (next_2.length : Int) = next.length + 1 := by rw [hnext_2]; first | done | (simp; done) | (simp; omega)
          refine r_addf m.sX (by omega) (by omega) fun r1 hr1 => ?_
          conv => cbv
          try have tr1 : Int.toNat r1 = Int.toNat i1 + 1 := by omega
          refine hE _ (next_2, r1) ?_ ?_ ⟨(by (try dsimp only); first | omega | (simp only [List.length_nil]; omega) | (simp only [List.length_cons, List.length_nil]; omega)), (by (try dsimp only); first | omega | (simp only [List.length_nil]; omega) | (simp only [List.length_cons, List.length_nil]; omega)), (by (try dsimp only) <;> (rw [tr1, turn_take hpA, ← q]; assumption)), (by (try dsimp only) <;> (omega))⟩ (by first | omega | (dsimp only; omega))
          · cbv
          · cbv
        · refine r_append1 ((pA, pC, pB, true)) m.sX rfl (by first | omega | (dsimp only; omega)) (by first | omega | (dsimp only; omega)) fun next_3 hnext_3 => ?_
          conv => cbv
          have lnext_3 : (next_3.length : Int) = next.length + 1 := by rw [hnext_3]; first | done | (simp; done) | (simp; omega)
          refine r_addf m.sX (by omega) (by omega) fun r2 hr2 => ?_
          conv => cbv
          try have tr2 : Int.toNat r2 = Int.toNat i1 + 1 := by omega
          refine hE _ (next_3, r2) ?_ ?_ ⟨(by (try dsimp only); first | omega | (simp only [List.length_nil]; omega) | (simp only [List.length_cons, List.length_nil]; omega)), (by (try dsimp only); first | omega | (simp only [List.length_nil]; omega) | (simp only [List.length_cons, List.length_nil]; omega)), (by (try dsimp only) <;> (rw [tr2, turn_take hpA, ← q]; assumption)), (by (try dsimp only) <;> (omega))⟩ (by first | omega | (dsimp only; omega))
          · cbv
          · cbv
      · have dz_i1 := drop_end (xs := placed) (i := Int.toNat i1) (by omega)
        have tz_i1 := take_end (xs := placed) (i := Int.toNat i1) (by omega)
        refine hF _ _ ?_
        conv => cbv
        exact hQ (.tup [.fr 60 4 (rows cPlaced next), .bool true]) (Eq.trans (by first | rfl | (simp only [lb, lbI, rows_cons, rows_nil, unnilT, unnil, unnilTI, unnilI]; done) | (simp only [lb, lbI, rows_cons, rows_nil, unnilT, unnil, unnilTI, unnilI]; rfl)) (congrArg ((lb 60 4 cPlaced)) (show (next, true) = turnA width height pieces placed from by rw [turnA, eG, q, tz_i1])))   -- leaf 1
    · have eN := chaseL_no hv1
      try dsimp only at eN
      exact hQ (.tup [.fr 60 4 [], .bool false]) (Eq.trans (by first | rfl | (simp only [lb, lbI, rows_cons, rows_nil, unnilT, unnil, unnilTI, unnilI]; done) | (simp only [lb, lbI, rows_cons, rows_nil, unnilT, unnil, unnilTI, unnilI]; rfl)) (congrArg ((lb 60 4 cPlaced)) (show ([], false) = turnA width height pieces placed from by rw [turnA, eN]))))   -- leaf 2

theorem specTurnChase_ok (width : Int) (height : Int) (pieces : List Piece) (placed : List Plc)  : OkA Try.prog 9 [.int .i64 width, .int .i64 height, .isl 2 (rows cPiece pieces), .isl 4 (rows cPlaced placed)] (· = (lb 60 4 cPlaced) (turnA width height pieces placed)) :=
  OkA.unnil 60 4 (fn_intro envOk fieldsOk mixed Try.func9 rfl fun κ X Y L Q m hQ => by
    conv => cbv
    refine r_callB m.sX (fuAsked_ok width height pieces placed) (fun h1 => ?_) (fun h1 => ?_) <;> conv => cbv
    · obtain ⟨G, eG, -⟩ := asked_some h1
      have pl8 := (chaseF_some eG).2.2
      refine r_lenR m.sX fun n1 hn1 mn1 => ?_
      conv => cbv
      refine r_loopF (α := List Plc × Int) m 40 [19, 20, 21] [⟨10, 81, 60, 4, 0⟩] (fun σ => [(10, .osl 81 0), (19, .isl 4 (rows cPlaced placed)), (20, .int .i64 n1), (21, .int .i64 σ.2)]) (fun σ => [(81, 0, .row 60 4 (rows cPlaced σ.1))])
        (fun σ => (0 ≤ σ.2) ∧ (σ.2 ≤ n1) ∧ (σ.1 = (placed.take σ.2.toNat).map turnP) ∧ ((σ.1.length : Int) ≤ σ.2)) (fun σ => (n1 - σ.2).toNat) ([], 0) ?_ ?_ ?_ ?_
      · cbv
      · (try dsimp only); (try simp only [rows_cons, rows_nil]); cbv
      · exact ⟨(by (try dsimp only); first | omega | (simp only [List.length_nil]; omega) | (simp only [List.length_cons, List.length_nil]; omega)), (by (try dsimp only); first | omega | (simp only [List.length_nil]; omega) | (simp only [List.length_cons, List.length_nil]; omega)), (by (try dsimp only) <;> (rfl)), (by (try dsimp only) <;> first | omega | rfl | (simp [*]; done))⟩
      rintro ⟨out, i1⟩ ⟨lo1, hi1, q, ln⟩ E hE F hF
      dsimp only at lo1 hi1 q ln
      conv => cbv
      refine r_lss m.sX (fun h2 => ?_) (fun h2 => ?_) <;> conv => cbv
      · refine r_index m.sX (by omega) (by omega) fun v hxA => ?_
        obtain ⟨xA, xB, xC, xD⟩ := v
        conv => cbv
        have hx := hxA
        have mx := get_mem hx
        have dx := drop_cons hx
        have kx := take_snoc hx
        have jx : (i1 + 1).toNat = Int.toNat i1 + 1 := by omega
        rcases Bool.eq_false_or_eq_true xD with rfl | rfl <;> conv => cbv
        · refine r_append1 ((xA, xC, xB, false)) m.sX rfl (by first | omega | (dsimp only; omega)) (by first | omega | (dsimp only; omega)) fun out_2 hout_2 => ?_
          conv => cbv
          have lout_2 : (out_2.length : Int) = out.length + 1 := by rw [hout_2]; first | done | (simp; done) | (simp; omega)
          refine r_addf m.sX (by omega) (by omega) fun r1 hr1 => ?_
          conv => cbv
          try have tr1 : Int.toNat r1 = Int.toNat i1 + 1 := by omega
          refine hE _ (out_2, r1) ?_ ?_ ⟨(by (try dsimp only); first | omega | (simp only [List.length_nil]; omega) | (simp only [List.length_cons, List.length_nil]; omega)), (by (try dsimp only); first | omega | (simp only [List.length_nil]; omega) | (simp only [List.length_cons, List.length_nil]; omega)), (by (try dsimp only) <;> (rw [tr1, turn_take hxA, ← q]; assumption)), (by (try dsimp only) <;> (omega))⟩ (by first | omega | (dsimp only; omega))
          · cbv
          · cbv
        · refine r_append1 ((xA, xC, xB, true)) m.sX rfl (by first | omega | (dsimp only; omega)) (by first | omega | (dsimp only; omega)) fun out_3 hout_3 => ?_
          conv => cbv
          have lout_3 : (out_3.length : Int) = out.length + 1 := by rw [hout_3]; first | done | (simp; done) | (simp; omega)
          refine r_addf m.sX (by omega) (by omega) fun r2 hr2 => ?_
          conv => cbv
          try have tr2 : Int.toNat r2 = Int.toNat i1 + 1 := by omega
          refine hE _ (out_3, r2) ?_ ?_ ⟨(by (try dsimp only); first | omega | (simp only [List.length_nil]; omega) | (simp only [List.length_cons, List.length_nil]; omega)), (by (try dsimp only); first | omega | (simp only [List.length_nil]; omega) | (simp only [List.length_cons, List.length_nil]; omega)), (by (try dsimp only) <;> (rw [tr2, turn_take hxA, ← q]; assumption)), (by (try dsimp only) <;> (omega))⟩ (by first | omega | (dsimp only; omega))
          · cbv
          · cbv
      · have dz_i1 := drop_end (xs := placed) (i := Int.toNat i1) (by omega)
        have tz_i1 := take_end (xs := placed) (i := Int.toNat i1) (by omega)
        refine hF _ _ ?_
        conv => cbv
        exact hQ (.tup [.fr 60 4 (rows cPlaced out), .bool true]) (Eq.trans (by first | rfl | (simp only [lb, lbI, rows_cons, rows_nil, unnilT, unnil, unnilTI, unnilI]; done) | (simp only [lb, lbI, rows_cons, rows_nil, unnilT, unnil, unnilTI, unnilI]; rfl)) (congrArg ((lb 60 4 cPlaced)) (show (out, true) = turnA width height pieces placed from by rw [turnA, eG, q, tz_i1])))   -- leaf 1
    · have eN := asked_none h1
      try dsimp only at eN
      exact hQ (.tup [.nil, .bool false]) (Eq.trans (by first | rfl | (simp only [lb, lbI, rows_cons, rows_nil, unnilT, unnil, unnilTI, unnilI]; done) | (simp only [lb, lbI, rows_cons, rows_nil, unnilT, unnil, unnilTI, unnilI]; rfl)) (congrArg ((lb 60 4 cPlaced)) (show ([], false) = turnA width height pieces placed from by rw [turnA, eN]))))   -- leaf 2

theorem FreePlaces_ok (width : Int) (height : Int) (pieces : List Piece) (placed : List Plc) (hb : ∀ p ∈ placed, p.2.1 ≤ 1000000 ∧ p.2.2.1 ≤ 1000000) : OkA Try.prog 10 [.int .i64 width, .int .i64 height, .isl 2 (rows cPiece pieces), .isl 4 (rows cPlaced placed)] (· = ib (frA width height pieces placed)) :=
  fn_intro envOk fieldsOk mixed Try.func10 rfl fun κ X Y L Q m hQ => by
    conv => cbv
    refine r_callF (lbI 1 (cSl 1 cInt)) m.sX (chaseOf_ok width height pieces placed hb) fun v hgrid => ?_
    obtain ⟨grid, ok⟩ := v
    conv => cbv
    rcases Bool.eq_false_or_eq_true ok with rfl | rfl <;> conv => cbv
    · obtain ⟨G, eG, eg, -, bw, -⟩ := chaseL_yes hgrid
      have tz := tab_sizes (w := width.toNat) (h := height.toNat) (G := G) (by omega) (by omega)
      rw [← eg] at tz
      refine r_callF (PV.int .i64) m.sX (freePlaces_ok grid (by first | rfl | assumption | omega | (simp only [List.length_append, List.length_cons, List.length_nil] at *; omega))) fun r1 hr1 => ?_
      conv => cbv
      exact hQ (.tup [.int .i64 r1, .bool true]) (Eq.trans (by first | rfl | (simp only [lb, lbI, rows_cons, rows_nil, unnilT, unnil, unnilTI, unnilI]; done) | (simp only [lb, lbI, rows_cons, rows_nil, unnilT, unnil, unnilTI, unnilI]; rfl)) (congrArg (ib) (show (r1, true) = frA width height pieces placed from by rw [frA, eG, hr1, eg]; rfl)))   -- leaf 1
    · have eN := chaseL_no hgrid
      exact hQ (.tup [.int .i64 0, .bool false]) (Eq.trans (by first | rfl | (simp only [lb, lbI, rows_cons, rows_nil, unnilT, unnil, unnilTI, unnilI]; done) | (simp only [lb, lbI, rows_cons, rows_nil, unnilT, unnil, unnilTI, unnilI]; rfl)) (congrArg (ib) (show (0, false) = frA width height pieces placed from by rw [frA, eN])))   -- leaf 2

theorem IsFilled_ok (width : Int) (height : Int) (pieces : List Piece) (placed : List Plc) (hb : ∀ p ∈ placed, p.2.1 ≤ 1000000 ∧ p.2.2.1 ≤ 1000000) : OkA Try.prog 12 [.int .i64 width, .int .i64 height, .isl 2 (rows cPiece pieces), .isl 4 (rows cPlaced placed)] (· = bb (fillA width height pieces placed)) :=
  fn_intro envOk fieldsOk mixed Try.func12 rfl fun κ X Y L Q m hQ => by
    conv => cbv
    refine r_callF (lbI 1 (cSl 1 cInt)) m.sX (chaseOf_ok width height pieces placed hb) fun v hgrid => ?_
    obtain ⟨grid, ok⟩ := v
    conv => cbv
    rcases Bool.eq_false_or_eq_true ok with rfl | rfl <;> conv => cbv
    · obtain ⟨G, eG, eg, -, bw, -⟩ := chaseL_yes hgrid
      have tz := tab_sizes (w := width.toNat) (h := height.toNat) (G := G) (by omega) (by omega)
      rw [← eg] at tz
      refine r_callF (PV.int .i64) m.sX (freePlaces_ok grid (by first | rfl | assumption | omega | (simp only [List.length_append, List.length_cons, List.length_nil] at *; omega))) fun r1 hr1 => ?_
      conv => cbv
      have fc : freeC width.toNat height.toNat G = r1 := by rw [hr1, eg]; rfl
      refine r_eql m.sX (fun h1 => ?_) (fun h1 => ?_) <;> conv => cbv
      · refine r_lenR m.sX fun n1 hn1 mn1 => ?_
        conv => cbv
        refine r_lenR m.sX fun n2 hn2 mn2 => ?_
        conv => cbv
        refine r_eql m.sX (fun h2 => ?_) (fun h2 => ?_) <;> conv => cbv
        · exact hQ (.tup [.bool true, .bool true]) (Eq.trans (by first | rfl | (simp only [lb, lbI, rows_cons, rows_nil, unnilT, unnil, unnilTI, unnilI]; done) | (simp only [lb, lbI, rows_cons, rows_nil, unnilT, unnil, unnilTI, unnilI]; rfl)) (congrArg (bb) (show (true, true) = fillA width height pieces placed from by rw [fillA, eG]; dsimp only; rw [fc, decide_eq_true h1, decide_eq_true (by omega)]; rfl)))   -- leaf 1
        · exact hQ (.tup [.bool false, .bool true]) (Eq.trans (by first | rfl | (simp only [lb, lbI, rows_cons, rows_nil, unnilT, unnil, unnilTI, unnilI]; done) | (simp only [lb, lbI, rows_cons, rows_nil, unnilT, unnil, unnilTI, unnilI]; rfl)) (congrArg (bb) (show (false, true) = fillA width height pieces placed from by rw [fillA, eG]; dsimp only; rw [fc, decide_eq_true h1, decide_eq_false (by omega)]; rfl)))   -- leaf 2
      · exact hQ (.tup [.bool false, .bool true]) (Eq.trans (by first | rfl | (simp only [lb, lbI, rows_cons, rows_nil, unnilT, unnil, unnilTI, unnilI]; done) | (simp only [lb, lbI, rows_cons, rows_nil, unnilT, unnil, unnilTI, unnilI]; rfl)) (congrArg (bb) (show (false, true) = fillA width height pieces placed from by rw [fillA, eG]; dsimp only; rw [fc, decide_eq_false h1]; rfl)))   -- leaf 3
    · have eN := chaseL_no hgrid
      exact hQ (.tup [.bool false, .bool false]) (Eq.trans (by first | rfl | (simp only [lb, lbI, rows_cons, rows_nil, unnilT, unnil, unnilTI, unnilI]; done) | (simp only [lb, lbI, rows_cons, rows_nil, unnilT, unnil, unnilTI, unnilI]; rfl)) (congrArg (bb) (show (false, false) = fillA width height pieces placed from by rw [fillA, eN])))   -- leaf 4

theorem specFreePlaces_ok (width : Int) (height : Int) (pieces : List Piece) (placed : List Plc)  : OkA Try.prog 11 [.int .i64 width, .int .i64 height, .isl 2 (rows cPiece pieces), .isl 4 (rows cPlaced placed)] (· = ib (frA width height pieces placed)) :=
  fn_intro envOk fieldsOk mixed Try.func11 rfl fun κ X Y L Q m hQ => by
    conv => cbv
    refine r_callB m.sX (fuAsked_ok width height pieces placed) (fun h1 => ?_) (fun h1 => ?_) <;> conv => cbv
    · obtain ⟨G, eG, oc, sg, bw⟩ := asked_some h1
      refine r_callF (lb 3 1 cInt) m.sX (fuGrid_ok width height pieces placed (by first | rfl | assumption | omega | (simp only [List.length_append, List.length_cons, List.length_nil] at *; omega))) fun v hgrid => ?_
      obtain ⟨grid, v1⟩ := v
      conv => cbv
      have eg : grid = flaG width.toNat height.toNat G := by rw [gridL_get eG] at hgrid; exact (Prod.mk.inj hgrid).1
      have mb := Nat.mul_le_mul (show width.toNat ≤ 8 by omega) (show height.toNat ≤ 8 by omega)
      have lg : grid.length ≤ 64 := by rw [eg, flaG_length]; omega
      refine r_lenR m.sX fun n1 hn1 mn1 => ?_
      conv => cbv
      refine r_loopF (α := Int × Int) m 41 [12, 30, 31] [⟨29, 233, 3, 1, 0⟩] (fun σ => [(12, .int .i64 σ.1), (29, .osl 233 0), (30, .int .i64 n1), (31, .int .i64 σ.2)]) (fun σ => [(233, 0, .row 3 1 (rows cInt grid))])
        (fun σ => (0 ≤ σ.2) ∧ (σ.2 ≤ n1) ∧ (σ.1 = freeR (grid.take σ.2.toNat)) ∧ (0 ≤ σ.1 ∧ σ.1 ≤ σ.2)) (fun σ => (n1 - σ.2).toNat) (0, 0) ?_ ?_ ?_ ?_
      · cbv
      · cbv
      · exact ⟨(by (try dsimp only); first | omega | (simp only [List.length_nil]; omega) | (simp only [List.length_cons, List.length_nil]; omega)), (by (try dsimp only); first | omega | (simp only [List.length_nil]; omega) | (simp only [List.length_cons, List.length_nil]; omega)), (by (try dsimp only) <;> (rfl)), (by (try dsimp only) <;> first | omega | rfl | (simp [*]; done))⟩
      rintro ⟨n, i1⟩ ⟨lo1, hi1, q, nb⟩ E hE F hF
      dsimp only at lo1 hi1 q nb
      conv => cbv
      refine r_lss m.sX (fun h2 => ?_) (fun h2 => ?_) <;> conv => cbv
      · refine r_oindex m.sX (by omega) (by omega) ?_
        conv => cbv
        obtain ⟨x, hx⟩ := get_ex (xs := grid) (i := Int.toNat i1) (by omega)
        have mx := get_mem hx
        have dx := drop_cons hx
        have kx := take_snoc hx
        have jx : (i1 + 1).toNat = Int.toNat i1 + 1 := by omega
        have vx := nth_some hx
        have sx := flaG_small sg x (by rw [← eg]; exact List.mem_of_getElem? hx)
        refine r_oload m.sX hx (Nat.le_of_ble_eq_true rfl) ?_
        conv => cbv
        refine r_lss m.sX (fun h3 => ?_) (fun h3 => ?_) <;> conv => cbv
        · refine r_addf m.sX (by omega) (by omega) fun n_2 hn_2 => ?_
          conv => cbv
          refine r_addf m.sX (by omega) (by omega) fun r1 hr1 => ?_
          conv => cbv
          try have tr1 : Int.toNat r1 = Int.toNat i1 + 1 := by omega
          refine hE _ (n_2, r1) ?_ ?_ ⟨(by (try dsimp only); first | omega | (simp only [List.length_nil]; omega) | (simp only [List.length_cons, List.length_nil]; omega)), (by (try dsimp only); first | omega | (simp only [List.length_nil]; omega) | (simp only [List.length_cons, List.length_nil]; omega)), (by (try dsimp only) <;> (rw [tr1, freeR_take hx]; first | (rw [if_pos (by omega)]; omega) | (rw [if_neg (by omega)]; omega))), (by (try dsimp only) <;> first | omega | rfl | (simp [*]; done) | (rw [nb]; simp [*]; done))⟩ (by first | omega | (dsimp only; omega))
          · cbv
          · cbv
        · refine r_addf m.sX (by omega) (by omega) fun r2 hr2 => ?_
          conv => cbv
          try have tr2 : Int.toNat r2 = Int.toNat i1 + 1 := by omega
          refine hE _ (n, r2) ?_ ?_ ⟨(by (try dsimp only); first | omega | (simp only [List.length_nil]; omega) | (simp only [List.length_cons, List.length_nil]; omega)), (by (try dsimp only); first | omega | (simp only [List.length_nil]; omega) | (simp only [List.length_cons, List.length_nil]; omega)), (by (try dsimp only) <;> (rw [tr2, freeR_take hx]; first | (rw [if_pos (by omega)]; omega) | (rw [if_neg (by omega)]; omega))), (by (try dsimp only) <;> first | omega | rfl | (simp [*]; done) | (rw [nb]; simp [*]; done))⟩ (by first | omega | (dsimp only; omega))
          · cbv
          · cbv
      · have dz_i1 := drop_end (xs := grid) (i := Int.toNat i1) (by omega)
        have tz_i1 := take_end (xs := grid) (i := Int.toNat i1) (by omega)
        refine hF _ _ ?_
        conv => cbv
        exact hQ (.tup [.int .i64 n, .bool true]) (Eq.trans (by first | rfl | (simp only [lb, lbI, rows_cons, rows_nil, unnilT, unnil, unnilTI, unnilI]; done) | (simp only [lb, lbI, rows_cons, rows_nil, unnilT, unnil, unnilTI, unnilI]; rfl)) (congrArg (ib) (show (n, true) = frA width height pieces placed from by rw [frA, eG, q, List.take_of_length_le (by omega), eg, freeF])))   -- leaf 1
    · have eN := asked_none h1
      exact hQ (.tup [.int .i64 0, .bool false]) (Eq.trans (by first | rfl | (simp only [lb, lbI, rows_cons, rows_nil, unnilT, unnil, unnilTI, unnilI]; done) | (simp only [lb, lbI, rows_cons, rows_nil, unnilT, unnil, unnilTI, unnilI]; rfl)) (congrArg (ib) (show (0, false) = frA width height pieces placed from by rw [frA, eN])))   -- leaf 2

theorem specIsFilled_ok (width : Int) (height : Int) (pieces : List Piece) (placed : List Plc)  : OkA Try.prog 13 [.int .i64 width, .int .i64 height, .isl 2 (rows cPiece pieces), .isl 4 (rows cPlaced placed)] (· = bb (fillA width height pieces placed)) :=
  fn_intro envOk fieldsOk mixed Try.func13 rfl fun κ X Y L Q m hQ => by
    conv => cbv
    refine r_callB m.sX (fuAsked_ok width height pieces placed) (fun h1 => ?_) (fun h1 => ?_) <;> conv => cbv
    · obtain ⟨G, eG, oc, sg, bw⟩ := asked_some h1
      refine r_callF (lb 3 1 cInt) m.sX (fuGrid_ok width height pieces placed (by first | rfl | assumption | omega | (simp only [List.length_append, List.length_cons, List.length_nil] at *; omega))) fun v hgrid => ?_
      obtain ⟨grid, v1⟩ := v
      conv => cbv
      have eg : grid = flaG width.toNat height.toNat G := by rw [gridL_get eG] at hgrid; exact (Prod.mk.inj hgrid).1
      have fc : freeR grid = freeC width.toNat height.toNat G := by rw [eg, freeF]
      have fh := freeR_has (l := grid) (fun c hc => (flaG_small sg c (by rw [← eg]; exact hc)).1)
      refine r_lenR m.sX fun n1 hn1 mn1 => ?_
      conv => cbv
      refine r_lenR m.sX fun n2 hn2 mn2 => ?_
      conv => cbv
      refine r_eql m.sX (fun h2 => ?_) (fun h2 => ?_) <;> conv => cbv
      · refine .inl (r_callBO m.sX ((l1Has_ok grid (-1)).ok flat_bool) (fun h3 => ?_) (fun h3 => ?_)) <;> conv => cbv
        · exact hQ (.tup [.bool false, .bool true]) (Eq.trans (by first | rfl | (simp only [lb, lbI, rows_cons, rows_nil, unnilT, unnil, unnilTI, unnilI]; done) | (simp only [lb, lbI, rows_cons, rows_nil, unnilT, unnil, unnilTI, unnilI]; rfl)) (congrArg (bb) (show (false, true) = fillA width height pieces placed from by rw [fillA, eG]; dsimp only; rw [← fc, decide_eq_false (fun e => (fh.1 e) (of_decide_eq_true h3))]; rfl)))   -- leaf 1
        · exact hQ (.tup [.bool true, .bool true]) (Eq.trans (by first | rfl | (simp only [lb, lbI, rows_cons, rows_nil, unnilT, unnil, unnilTI, unnilI]; done) | (simp only [lb, lbI, rows_cons, rows_nil, unnilT, unnil, unnilTI, unnilI]; rfl)) (congrArg (bb) (show (true, true) = fillA width height pieces placed from by rw [fillA, eG]; dsimp only; rw [← fc, decide_eq_true (fh.2 (of_decide_eq_false h3)), decide_eq_true (by omega)]; rfl)))   -- leaf 2
      · exact hQ (.tup [.bool false, .bool true]) (Eq.trans (by first | rfl | (simp only [lb, lbI, rows_cons, rows_nil, unnilT, unnil, unnilTI, unnilI]; done) | (simp only [lb, lbI, rows_cons, rows_nil, unnilT, unnil, unnilTI, unnilI]; rfl)) (congrArg (bb) (show (false, true) = fillA width height pieces placed from by rw [fillA, eG]; dsimp only; rw [decide_eq_false (show ¬ placed.length = pieces.length by omega), Bool.and_false])))   -- leaf 3
    · have eN := asked_none h1
      exact hQ (.tup [.bool false, .bool false]) (Eq.trans (by first | rfl | (simp only [lb, lbI, rows_cons, rows_nil, unnilT, unnil, unnilTI, unnilI]; done) | (simp only [lb, lbI, rows_cons, rows_nil, unnilT, unnil, unnilTI, unnilI]; rfl)) (congrArg (bb) (show (false, false) = fillA width height pieces placed from by rw [fillA, eN])))   -- leaf 4

theorem specChasePicture_ok (width : Int) (height : Int) (pieces : List Piece) (placed : List Plc)  : OkA Try.prog 15 [.int .i64 width, .int .i64 height, .isl 2 (rows cPiece pieces), .isl 4 (rows cPlaced placed)] (· = sb (picA width height pieces placed)) :=
  fn_intro envOk fieldsOk mixed Try.func15 rfl fun κ X Y L Q m hQ => by
    conv => cbv
    refine r_callB m.sX (fuAsked_ok width height pieces placed) (fun h1 => ?_) (fun h1 => ?_) <;> conv => cbv
    · obtain ⟨G, eG, oc, sg, bw⟩ := asked_some h1
      refine r_callF (lb 3 1 cInt) m.sX (fuGrid_ok width height pieces placed (by first | rfl | assumption | omega | (simp only [List.length_append, List.length_cons, List.length_nil] at *; omega))) fun v hgrid => ?_
      obtain ⟨grid, v1⟩ := v
      conv => cbv
      have eg : grid = flaG width.toNat height.toNat G := by rw [gridL_get eG] at hgrid; exact (Prod.mk.inj hgrid).1
      have mb := Nat.mul_le_mul (show width.toNat ≤ 8 by omega) (show height.toNat ≤ 8 by omega)
      have lg : grid.length ≤ 64 := by rw [eg, flaG_length]; omega
      refine r_lenR m.sX fun n1 hn1 mn1 => ?_
      conv => cbv
      refine r_loopF (α := List UInt8 × Int) m 54 [0, 12, 30, 31] [⟨29, 233, 3, 1, 0⟩] (fun σ => [(0, .int .i64 width), (12, .str σ.1), (29, .osl 233 0), (30, .int .i64 n1), (31, .int .i64 σ.2)]) (fun σ => [(233, 0, .row 3 1 (rows cInt grid))])
        (fun σ => (0 ≤ σ.2) ∧ (σ.2 ≤ n1) ∧ (picN width.toNat 0 grid = σ.1 ++ picN width.toNat σ.2.toNat (grid.drop σ.2.toNat)) ∧ ((σ.1.length : Int) ≤ 2 * σ.2)) (fun σ => (n1 - σ.2).toNat) (([] : List UInt8), 0) ?_ ?_ ?_ ?_
      · cbv
      · (try dsimp only); (try simp only [rows_cons, rows_nil]); cbv
      · exact ⟨(by (try dsimp only); first | omega | (simp only [List.length_nil]; omega) | (simp only [List.length_cons, List.length_nil]; omega)), (by (try dsimp only); first | omega | (simp only [List.length_nil]; omega) | (simp only [List.length_cons, List.length_nil]; omega)), (by (try dsimp only) <;> (rfl)), (by (try dsimp only) <;> first | omega | rfl | (simp [*]; done))⟩
      rintro ⟨s_, i1⟩ ⟨lo1, hi1, q, ln⟩ E hE F hF
      dsimp only at lo1 hi1 q ln
      conv => cbv
      refine r_lss m.sX (fun h2 => ?_) (fun h2 => ?_) <;> conv => cbv
      · refine r_oindex m.sX (by omega) (by omega) ?_
        conv => cbv
        obtain ⟨n, hn⟩ := get_ex (xs := grid) (i := Int.toNat i1) (by omega)
        have mn := get_mem hn
        have dn := drop_cons hn
        have kn := take_snoc hn
        have jn : (i1 + 1).toNat = Int.toNat i1 + 1 := by omega
        have vn := nth_some hn
        have sx := flaG_small sg n (by rw [← eg]; exact List.mem_of_getElem? hn)
        refine r_oload m.sX hn (Nat.le_of_ble_eq_true rfl) ?_
        conv => cbv
        refine r_lss m.sX (fun h3 => ?_) (fun h3 => ?_) <;> conv => cbv
        · have sn : sgnC n = 46 := if_pos (by omega)
          refine r_scat (u := s_) (v := ([46] : List UInt8)) m.sX (by first | omega | (simp only [List.length_cons, List.length_nil]; omega) | (simp; omega)) fun s__2 hs__2 => ?_   -- s__2 = s_ ++ ([46] : List UInt8)
          have ls__2 : (s__2.length : Int) = s_.length + ([46] : List UInt8).length := by rw [hs__2, List.length_append, Int.natCast_add]
          try simp only [List.length_cons, List.length_nil] at ls__2
          conv => cbv
          refine r_modf m.sX (by omega) (by omega) fun r1 hr1 br1 => ?_
          conv => cbv
          have rm := modn (a := i1) (b := width) (by omega) (by omega)
          rw [← hr1] at rm
          refine r_subf m.sX (by omega) (by omega) fun r2 hr2 => ?_
          conv => cbv
          refine r_eql m.sX (fun h4 => ?_) (fun h4 => ?_) <;> conv => cbv
          · have cc : i1.toNat % width.toNat = width.toNat - 1 := by omega
            refine r_scat (u := s__2) (v := ([10] : List UInt8)) m.sX (by first | omega | (simp only [List.length_cons, List.length_nil]; omega) | (simp; omega)) fun s__3 hs__3 => ?_   -- s__3 = s__2 ++ ([10] : List UInt8)
            have ls__3 : (s__3.length : Int) = s__2.length + ([10] : List UInt8).length := by rw [hs__3, List.length_append, Int.natCast_add]
            try simp only [List.length_cons, List.length_nil] at ls__3
            conv => cbv
            refine r_addf m.sX (by omega) (by omega) fun r3 hr3 => ?_
            conv => cbv
            try have tr3 : Int.toNat r3 = Int.toNat i1 + 1 := by omega
            refine hE _ (s__3, r3) ?_ ?_ ⟨(by (try dsimp only); first | omega | (simp only [List.length_nil]; omega) | (simp only [List.length_cons, List.length_nil]; omega)), (by (try dsimp only); first | omega | (simp only [List.length_nil]; omega) | (simp only [List.length_cons, List.length_nil]; omega)), (by (try dsimp only) <;> (rw [q, tr3, picN_step hn, sn]; first | (rw [if_pos cc, hs__3, hs__2]; simp; done) | (rw [if_neg cc, hs__2]; simp; done) | (rw [if_pos cc, hs__5, hs__4, hv2]; simp; done) | (rw [if_neg cc, hs__4, hv2]; simp; done))), (by (try dsimp only) <;> (omega))⟩ (by first | omega | (dsimp only; omega))
            · cbv
            · cbv
          · have cc : ¬ i1.toNat % width.toNat = width.toNat - 1 := by omega
            refine r_addf m.sX (by omega) (by omega) fun r4 hr4 => ?_
            conv => cbv
            try have tr4 : Int.toNat r4 = Int.toNat i1 + 1 := by omega
            refine hE _ (s__2, r4) ?_ ?_ ⟨(by (try dsimp only); first | omega | (simp only [List.length_nil]; omega) | (simp only [List.length_cons, List.length_nil]; omega)), (by (try dsimp only); first | omega | (simp only [List.length_nil]; omega) | (simp only [List.length_cons, List.length_nil]; omega)), (by (try dsimp only) <;> (rw [q, tr4, picN_step hn, sn]; first | (rw [if_pos cc, hs__3, hs__2]; simp; done) | (rw [if_neg cc, hs__2]; simp; done) | (rw [if_pos cc, hs__5, hs__4, hv2]; simp; done) | (rw [if_neg cc, hs__4, hv2]; simp; done))), (by (try dsimp only) <;> (omega))⟩ (by first | omega | (dsimp only; omega))
            · cbv
            · cbv
        · have sn : sgnC n = UInt8.ofNat (48 + n).toNat := if_neg (by omega)
          refine r_callF .str m.sX (l1Num_small n (by omega)) fun v2 hv2 => ?_
          conv => cbv
          have lv2 : v2.length = 1 := by rw [hv2]; rfl
          refine r_scat (u := s_) (v := v2) m.sX (by first | omega | (simp only [List.length_cons, List.length_nil]; omega) | (simp; omega)) fun s__4 hs__4 => ?_   -- s__4 = s_ ++ v2
          have ls__4 : (s__4.length : Int) = s_.length + v2.length := by rw [hs__4, List.length_append, Int.natCast_add]
          try simp only [List.length_cons, List.length_nil] at ls__4
          conv => cbv
          refine r_modf m.sX (by omega) (by omega) fun r5 hr5 br5 => ?_
          conv => cbv
          have rm := modn (a := i1) (b := width) (by omega) (by omega)
          rw [← hr5] at rm
          refine r_subf m.sX (by omega) (by omega) fun r6 hr6 => ?_
          conv => cbv
          refine r_eql m.sX (fun h5 => ?_) (fun h5 => ?_) <;> conv => cbv
          · have cc : i1.toNat % width.toNat = width.toNat - 1 := by omega
            refine r_scat (u := s__4) (v := ([10] : List UInt8)) m.sX (by first | omega | (simp only [List.length_cons, List.length_nil]; omega) | (simp; omega)) fun s__5 hs__5 => ?_   -- s__5 = s__4 ++ ([10] : List UInt8)
            have ls__5 : (s__5.length : Int) = s__4.length + ([10] : List UInt8).length := by rw [hs__5, List.length_append, Int.natCast_add]
            try simp only [List.length_cons, List.length_nil] at ls__5
            conv => cbv
            refine r_addf m.sX (by omega) (by omega) fun r7 hr7 => ?_
            conv => cbv
            try have tr7 : Int.toNat r7 = Int.toNat i1 + 1 := by omega
            refine hE _ (s__5, r7) ?_ ?_ ⟨(by (try dsimp only); first | omega | (simp only [List.length_nil]; omega) | (simp only [List.length_cons, List.length_nil]; omega)), (by (try dsimp only); first | omega | (simp only [List.length_nil]; omega) | (simp only [List.length_cons, List.length_nil]; omega)), (by (try dsimp only) <;> (rw [q, tr7, picN_step hn, sn]; first | (rw [if_pos cc, hs__3, hs__2]; simp; done) | (rw [if_neg cc, hs__2]; simp; done) | (rw [if_pos cc, hs__5, hs__4, hv2]; simp; done) | (rw [if_neg cc, hs__4, hv2]; simp; done))), (by (try dsimp only) <;> (omega))⟩ (by first | omega | (dsimp only; omega))
            · cbv
            · cbv
          · have cc : ¬ i1.toNat % width.toNat = width.toNat - 1 := by omega
            refine r_addf m.sX (by omega) (by omega) fun r8 hr8 => ?_
            conv => cbv
            try have tr8 : Int.toNat r8 = Int.toNat i1 + 1 := by omega
            refine hE _ (s__4, r8) ?_ ?_ ⟨(by (try dsimp only); first | omega | (simp only [List.length_nil]; omega) | (simp only [List.length_cons, List.length_nil]; omega)), (by (try dsimp only); first | omega | (simp only [List.length_nil]; omega) | (simp only [List.length_cons, List.length_nil]; omega)), (by (try dsimp only) <;> (rw [q, tr8, picN_step hn, sn]; first | (rw [if_pos cc, hs__3, hs__2]; simp; done) | (rw [if_neg cc, hs__2]; simp; done) | (rw [if_pos cc, hs__5, hs__4, hv2]; simp; done) | (rw [if_neg cc, hs__4, hv2]; simp; done))), (by (try dsimp only) <;> (omega))⟩ (by first | omega | (dsimp only; omega))
            · cbv
            · cbv
      · have dz_i1 := drop_end (xs := grid) (i := Int.toNat i1) (by omega)
        have tz_i1 := take_end (xs := grid) (i := Int.toNat i1) (by omega)
        refine hF _ _ ?_
        conv => cbv
        exact hQ (.tup [.str s_, .bool true]) (Eq.trans (by first | rfl | (simp only [lb, lbI, rows_cons, rows_nil, unnilT, unnil, unnilTI, unnilI]; done) | (simp only [lb, lbI, rows_cons, rows_nil, unnilT, unnil, unnilTI, unnilI]; rfl)) (congrArg (sb) (show (s_, true) = picA width height pieces placed from by rw [picA, eG]; dsimp only; rw [← picN_flat (by omega), ← eg, q, List.drop_of_length_le (by omega)]; simp [picN])))   -- leaf 1
    · have eN := asked_none h1
      exact hQ (.tup [.str ([] : List UInt8), .bool false]) (Eq.trans (by first | rfl | (simp only [lb, lbI, rows_cons, rows_nil, unnilT, unnil, unnilTI, unnilI]; done) | (simp only [lb, lbI, rows_cons, rows_nil, unnilT, unnil, unnilTI, unnilI]; rfl)) (congrArg (sb) (show (([] : List UInt8), false) = picA width height pieces placed from by rw [picA, eN])))   -- leaf 2

theorem qPlaced_ok (a : List Plc) (b : List Plc)  : OkA Try.prog 16 [.isl 4 (rows cPlaced a), .isl 4 (rows cPlaced b)] (· = .bool (decide (a = b))) :=
  fn_intro envOk fieldsOk mixed Try.func16 rfl fun κ X Y L Q m hQ => by
    conv => cbv
    refine r_lenR m.sX fun n1 hn1 mn1 => ?_
    conv => cbv
    refine r_lenR m.sX fun n2 hn2 mn2 => ?_
    conv => cbv
    refine r_neq m.sX (fun h1 => ?_) (fun h1 => ?_) <;> conv => cbv
    · exact hQ _ (congrArg PV.bool (by exact (decide_eq_false fun e => by rw [e] at hn1; omega).symm))   -- leaf 1
    · refine r_lenR m.sX fun n3 hn3 mn3 => ?_
      conv => cbv
      refine r_loopF (α := Int) m 26 [0, 1, 12, 13] [] (fun σ => [(0, .isl 4 (rows cPlaced a)), (1, .isl 4 (rows cPlaced b)), (12, .int .i64 n3), (13, .int .i64 σ)]) (fun σ => [])
        (fun σ => (0 ≤ σ) ∧ (σ ≤ n3) ∧ (a.take σ.toNat = b.take σ.toNat)) (fun σ => (n3 - σ).toNat) 0 ?_ ?_ ?_ ?_
      · cbv
      · cbv
      · exact ⟨(by (try dsimp only); first | omega | (simp only [List.length_nil]; omega) | (simp only [List.length_cons, List.length_nil]; omega)), (by (try dsimp only); first | omega | (simp only [List.length_nil]; omega) | (simp only [List.length_cons, List.length_nil]; omega)), (by (try dsimp only) <;> first | omega | rfl | (simp [*]; done))⟩
      rintro i1 ⟨lo1, hi1, q⟩ E hE F hF
      conv => cbv
      refine r_lss m.sX (fun h2 => ?_) (fun h2 => ?_) <;> conv => cbv
      · refine r_draw m (by kernel_rfl) ?_
        conv => cbv
        refine r_index m.sY (by omega) (by omega) fun v hx1A => ?_
        obtain ⟨x1A, x1B, x1C, x1D⟩ := v
        conv => cbv
        have hx1 := hx1A
        have mx1 := get_mem hx1
        have dx1 := drop_cons hx1
        have kx1 := take_snoc hx1
        have jx1 : (i1 + 1).toNat = Int.toNat i1 + 1 := by omega
        refine r_index m.sY (by omega) (by omega) fun v hx2A => ?_
        obtain ⟨x2A, x2B, x2C, x2D⟩ := v
        conv => cbv
        have hx2 := hx2A
        have mx2 := get_mem hx2
        have dx2 := drop_cons hx2
        have kx2 := take_snoc hx2
        have jx2 : (i1 + 1).toNat = Int.toNat i1 + 1 := by omega
        refine r_aeq [.int .i64 0, .int .i64 0, .int .i64 0, .bool false] m.sY (by kernel_rfl) rfl rfl (fun h3 => ?_) (fun h3 => ?_) <;> conv => cbv   -- (x1A, x1B, x1C, x1D) neq (x2A, x2B, x2C, x2D)
        · have e3 : (x1A, x1B, x1C, x1D) = (x2A, x2B, x2C, x2D) := by simpa using h3
          refine r_addf m.sX (by omega) (by omega) fun r1 hr1 => ?_
          conv => cbv
          try have tr1 : Int.toNat r1 = Int.toNat i1 + 1 := by omega
          refine hE _ r1 ?_ ?_ ⟨(by (try dsimp only); first | omega | (simp only [List.length_nil]; omega) | (simp only [List.length_cons, List.length_nil]; omega)), (by (try dsimp only); first | omega | (simp only [List.length_nil]; omega) | (simp only [List.length_cons, List.length_nil]; omega)), (by (try dsimp only) <;> (rw [tr1, List.take_add_one, List.take_add_one, hx1A, hx2A, q, e3]))⟩ (by first | omega | (dsimp only; omega))
          · cbv
          · cbv
        · refine hF _ _ ?_
          conv => cbv
          exact hQ _ (congrArg PV.bool (by exact (decide_eq_false fun e => by rw [e] at hx1A; have z := Option.some.inj (hx1A.symm.trans hx2A); simp only [Prod.mk.injEq] at z; obtain ⟨z1, z2, z3, z4⟩ := z; exact h3 (by rw [z1, z2, z3, z4])).symm))   -- leaf 2
      · have dz_i1 := drop_end (xs := a) (i := Int.toNat i1) (by omega)
        have tz_i1 := take_end (xs := a) (i := Int.toNat i1) (by omega)
        refine hF _ _ ?_
        conv => cbv
        exact hQ _ (congrArg PV.bool (by exact (decide_eq_true (eq_of_takes (by omega) q (by omega))).symm))   -- leaf 3

end Go.Proofs.Ytiaodmfipeoegaa.Ai
