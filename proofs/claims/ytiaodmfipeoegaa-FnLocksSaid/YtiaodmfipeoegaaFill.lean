/- Contracts of the reference's filling of a chase. -/
import Derived.Test.YtiaodmfipeoegaaChase2
import Derived.Test.YtiaodmfipeoegaaFurnEnd
namespace Go.Proofs.Ytiaodmfipeoegaa.Ai
open Go Go.Proofs
set_option linter.unusedSimpArgs false
set_option maxRecDepth 10000
set_option maxHeartbeats 4000000
set_option linter.unusedVariables false
/-- A piece is put at a place of a chase. -/
def putA (ps : List Piece) (w h : Int) (G : Grid) (p : Plc) : List Int × Bool := if roomP ps w.toNat h.toNat G p = true then (flaG w.toNat h.toNat (putP ps G p p.1), true) else ([], false)
theorem putA_no {ps : List Piece} {w h : Int} {G : Grid} {p : Plc} (e : roomP ps w.toNat h.toNat G p = false) : putA ps w h G p = ([], false) := by unfold putA; rw [e]; rfl
theorem putA_yes {ps : List Piece} {w h : Int} {G : Grid} {p : Plc} (e : roomP ps w.toNat h.toNat G p = true) : putA ps w h G p = (flaG w.toNat h.toNat (putP ps G p p.1), true) := by unfold putA; rw [e]; rfl
theorem side_one {q : Piece} {t : Bool} {a b : Int} (h : okP q = true) (e : (a, b) = sideF q t) : (1 ≤ a ∧ a ≤ 8) ∧ 1 ≤ b ∧ b ≤ 8 := by
  have := okP_spec h
  unfold sideF at e
  cases t
  · have e1 := (Prod.mk.inj e).1; have e2 := (Prod.mk.inj e).2; omega
  · have e1 := (Prod.mk.inj e).1; have e2 := (Prod.mk.inj e).2; omega
theorem at_split {a w x y : Int} (hw : 1 ≤ w) (hx : x = a % w) (hy : y = a / w) : a = y * w + x := by
  have := Int.mul_ediv_add_emod a w
  rw [hx, hy, Int.mul_comm]; omega
theorem at_low {a w h y : Int} (hw : 1 ≤ w) (ha : 0 ≤ a ∧ a < w * h) (hy : y = a / w) : 0 ≤ y ∧ y < h := by
  subst hy
  exact ⟨Int.ediv_nonneg ha.1 (by omega), Int.ediv_lt_of_lt_mul (by omega) (by rw [Int.mul_comm]; exact ha.2)⟩
theorem fuPut_ok (grid : List Int) (width : Int) (height : Int) (p : Piece) (turned : Bool) (at_ : Int) (number : Int) (G : Grid) (ps : List Piece) (hg : grid = flaG width.toNat height.toNat G) (hc : (1 ≤ width ∧ width ≤ 8) ∧ 1 ≤ height ∧ height ≤ 8) (ha : 0 ≤ at_ ∧ at_ < width * height) (sg : smallG width.toNat height.toNat G) (hp : nthP ps number = p) (ho : okP p = true) : OkA Try.prog 164 [.isl 1 (rows cInt grid), .int .i64 width, .int .i64 height, .agg (cPiece p), .bool turned, .int .i64 at_, .int .i64 number] (· = (lb 3 1 cInt) (putA ps width height G (number, at_ % width, at_ / width, turned))) := by
  obtain ⟨pA, pB⟩ := p
  try dsimp only at *
  exact OkA.unnil 3 1 (fn_intro envOk fieldsOk mixed Try.func164 rfl fun κ X Y L Q m hQ => by
    have mb := mul_bound (a := width) (A := 8) (b := height) (B := 8) (by omega) (by omega) (by omega) (by omega)
    try dsimp only at mb
    have lg : grid.length ≤ 64 := by rw [hg, flaG_length]; exact Nat.mul_le_mul (show width.toNat ≤ 8 by omega) (show height.toNat ≤ 8 by omega)
    conv => cbv
    refine r_callF ii m.sX (fuSides_ok (pA, pB) turned) fun v hw => ?_
    obtain ⟨w, h_⟩ := v
    conv => cbv
    try dsimp only at hw
    refine r_draw m (by kernel_rfl) ?_
    conv => cbv
    refine r_modf m.sY (by omega) (by omega) fun x hx bx => ?_
    conv => cbv
    first | refine r_divf m.sY (by omega) (by omega) fun y hy by_ => ?_ | refine r_tdivf m.sY (by omega) (by omega) fun y hy by_ => ?_
    conv => cbv
    have es := at_split (by omega) hx hy
    try dsimp only at es
    have ly := at_low (by omega) ha hy
    try dsimp only at ly
    have eP : (number, at_ % width, at_ / width, turned) = (number, x, y, turned) := by rw [hx, hy]
    have sb := side_one ho hw
    try dsimp only at sb
    have sp : (w, h_) = sideP ps (number, x, y, turned) := by rw [sideP, hp]; exact hw
    refine r_addf m.sX (by omega) (by omega) fun r1 hr1 => ?_
    conv => cbv
    refine r_gtr m.sX (fun h1 => ?_) (fun h1 => ?_) <;> conv => cbv
    · exact hQ (.tup [.nil, .bool false]) (Eq.trans (by first | rfl | (simp only [lb, lbI, rows_cons, rows_nil, unnilT, unnil, unnilTI, unnilI]; done) | (simp only [lb, lbI, rows_cons, rows_nil, unnilT, unnil, unnilTI, unnilI]; rfl)) (congrArg ((lb 3 1 cInt)) (show ([], false) = putA ps width height G (number, at_ % width, at_ / width, turned) from by rw [eP, putA_no (room_no (fit_no sp (by dsimp only; omega)))])))   -- leaf 1
    · refine r_addf m.sX (by omega) (by omega) fun r2 hr2 => ?_
      conv => cbv
      refine r_gtr m.sX (fun h2 => ?_) (fun h2 => ?_) <;> conv => cbv
      · exact hQ (.tup [.nil, .bool false]) (Eq.trans (by first | rfl | (simp only [lb, lbI, rows_cons, rows_nil, unnilT, unnil, unnilTI, unnilI]; done) | (simp only [lb, lbI, rows_cons, rows_nil, unnilT, unnil, unnilTI, unnilI]; rfl)) (congrArg ((lb 3 1 cInt)) (show ([], false) = putA ps width height G (number, at_ % width, at_ / width, turned) from by rw [eP, putA_no (room_no (fit_no sp (by dsimp only; omega)))])))   -- leaf 2
      · refine r_callF (fun l => PV.fr _ _ (rows _ l)) m.sX (l1Own_ok grid (by first | rfl | assumption | omega | (simp only [List.length_append, List.length_cons, List.length_nil] at *; omega))) fun out hout => ?_
        conv => cbv
        try dsimp only at hout
        have l0 : out.length = width.toNat * height.toNat := by rw [hout, hg, flaG_length]
        refine r_loopF (α := List Int × Int) m 81 [1, 5, 6, 16, 17, 21] [⟨20, 161, 3, 1, 0⟩] (fun σ => [(1, .int .i64 width), (5, .int .i64 at_), (6, .int .i64 number), (16, .int .i64 w), (17, .int .i64 h_), (20, .osl 161 0), (21, .int .i64 σ.2)]) (fun σ => [(161, 0, .row 3 1 (rows cInt σ.1))])
          (fun σ => (0 ≤ σ.2) ∧ (σ.2 ≤ h_) ∧ (σ.1 = flaG width.toNat height.toNat (partG ps G (number, x, y, turned) number (y + σ.2) x)) ∧ (PassF ps width.toNat height.toNat G (number, x, y, turned) (y + σ.2) x)) (fun σ => (h_ - σ.2).toNat) (out, 0) ?_ ?_ ?_ ?_
        · cbv
        · cbv
        · exact ⟨(by (try dsimp only); first | omega | (simp only [List.length_nil]; omega) | (simp only [List.length_cons, List.length_nil]; omega)), (by (try dsimp only); first | omega | (simp only [List.length_nil]; omega) | (simp only [List.length_cons, List.length_nil]; omega)), (by (try dsimp only) <;> (rw [hout, hg, Int.add_zero]; exact congrArg _ (part_start ps G (number, x, y, turned) number).symm)), (by (try dsimp only) <;> (rw [Int.add_zero]; exact PassF.start ps width.toNat height.toNat G (number, x, y, turned)))⟩
        rintro ⟨out_2, dy⟩ ⟨lo1, hi1, p3, pf3⟩ E hE F hF
        dsimp only at lo1 hi1 p3 pf3
        conv => cbv
        refine r_lss m.sX (fun h3 => ?_) (fun h3 => ?_) <;> conv => cbv
        · refine r_loopF (α := List Int × Int) m 81 [1, 5, 6, 16, 17, 21, 22] [⟨20, 161, 3, 1, 0⟩] (fun σ => [(1, .int .i64 width), (5, .int .i64 at_), (6, .int .i64 number), (16, .int .i64 w), (17, .int .i64 h_), (20, .osl 161 0), (21, .int .i64 dy), (22, .int .i64 σ.2)]) (fun σ => [(161, 0, .row 3 1 (rows cInt σ.1))])
            (fun σ => (0 ≤ σ.2) ∧ (σ.2 ≤ w) ∧ (σ.1 = flaG width.toNat height.toNat (partG ps G (number, x, y, turned) number (y + dy) (x + σ.2))) ∧ (PassF ps width.toNat height.toNat G (number, x, y, turned) (y + dy) (x + σ.2))) (fun σ => (w - σ.2).toNat) (out_2, 0) ?_ ?_ ?_ ?_
          · cbv
          · cbv
          · exact ⟨(by (try dsimp only); first | omega | (simp only [List.length_nil]; omega) | (simp only [List.length_cons, List.length_nil]; omega)), (by (try dsimp only); first | omega | (simp only [List.length_nil]; omega) | (simp only [List.length_cons, List.length_nil]; omega)), (by (try dsimp only) <;> (rw [Int.add_zero]; exact p3)), (by (try dsimp only) <;> (rw [Int.add_zero]; exact pf3))⟩
          rintro ⟨out_3, dx⟩ ⟨lo2, hi2, p4, pf4⟩ E2 hE2 F2 hF2
          dsimp only at lo2 hi2 p4 pf4
          have m8 := mul_bound (a := dy) (A := 8) (b := width) (B := 8) (by omega) (by omega) (by omega) (by omega)
          try dsimp only at m8
          conv => cbv
          refine r_lss m.sX (fun h4 => ?_) (fun h4 => ?_) <;> conv => cbv
          · refine r_mulf m.sX (by first | omega | (subst_vars; omega)) (by first | omega | (subst_vars; omega)) fun r3 hr3 => ?_
            conv => cbv
            refine r_addf m.sX (by omega) (by omega) fun r4 hr4 => ?_
            conv => cbv
            refine r_addf m.sX (by omega) (by omega) fun r5 hr5 => ?_
            conv => cbv
            have ix : r5.toNat = (y + dy).toNat * width.toNat + (x + dx).toNat := flat_ix (by omega) (by omega) (by omega) (by rw [Int.add_mul]; omega)
            have hyv : (y + dy).toNat < height.toNat := by omega
            have hxv : (x + dx).toNat < width.toNat := by omega
            have hyc : (((y + dy).toNat : Nat) : Int) = y + dy := by omega
            have hxc : (((x + dx).toNat : Nat) : Int) = x + dx := by omega
            have ip : inP ps (number, x, y, turned) (y + dy).toNat (x + dx).toNat = true := in_at sp hyc hxc (by dsimp only; omega)
            have il := flat_lt hyv hxv
            try dsimp only at il
            have l6 : out_3.length = width.toNat * height.toNat := by rw [p4, flaG_length]
            refine r_oindex m.sX (by omega) (by omega) ?_
            conv => cbv
            obtain ⟨x1, hx1⟩ := get_ex (xs := out_3) (i := Int.toNat r5) (by omega)
            have mx1 := get_mem hx1
            have vx1 := nth_some hx1
            have ex2 : x1 = G (y + dy).toNat (x + dx).toNat := by rw [p4, ix, flaG_at hyv hxv] at hx1; rw [← Option.some.inj hx1, part_at hyc hxc]
            have sg2 := sg (y + dy).toNat (x + dx).toNat
            try dsimp only at sg2
            refine r_oload m.sX hx1 (Nat.le_of_ble_eq_true rfl) ?_
            conv => cbv
            refine r_geq m.sX (fun h5 => ?_) (fun h5 => ?_) <;> conv => cbv
            · refine hF2 _ _ ?_
              conv => cbv
              refine hF _ _ ?_
              conv => cbv
              exact hQ (.tup [.nil, .bool false]) (Eq.trans (by first | rfl | (simp only [lb, lbI, rows_cons, rows_nil, unnilT, unnil, unnilTI, unnilI]; done) | (simp only [lb, lbI, rows_cons, rows_nil, unnilT, unnil, unnilTI, unnilI]; rfl)) (congrArg ((lb 3 1 cInt)) (show ([], false) = putA ps width height G (number, at_ % width, at_ / width, turned) from by rw [eP, putA_no (room_taken (taken hyv hxv ip (by omega)))])))   -- leaf 3
            · refine r_mulf m.sX (by first | omega | (subst_vars; omega)) (by first | omega | (subst_vars; omega)) fun r6 hr6 => ?_
              conv => cbv
              refine r_addf m.sX (by omega) (by omega) fun r7 hr7 => ?_
              conv => cbv
              refine r_addf m.sX (by omega) (by omega) fun r8 hr8 => ?_
              conv => cbv
              have e58 : r8 = r5 := by omega
              refine r_oindex m.sX (by omega) (by omega) ?_
              conv => cbv
              obtain ⟨y1, hy1⟩ := get_ex (xs := out_3) (i := Int.toNat r8) (by omega)
              refine r_ostore (l := Int.toNat r8) number m.sX hy1 (Nat.le_of_ble_eq_true rfl) rfl fun out_4 hout_4 => ?_
              have lout_4 : (out_4.length : Int) = out_3.length := by rw [hout_4]; first | done | (simp; done) | (simp; omega)
              have l0 : out.length = width.toNat * height.toNat := by rw [hout, hg, flaG_length]
              conv => cbv
              refine r_addf m.sX (by omega) (by omega) fun dx_2 hdx_2 => ?_
              conv => cbv
              try have tdx_2 : Int.toNat dx_2 = Int.toNat dx + 1 := by omega
              refine hE2 _ (out_4, dx_2) ?_ ?_ ⟨(by (try dsimp only); first | omega | (simp only [List.length_nil]; omega) | (simp only [List.length_cons, List.length_nil]; omega)), (by (try dsimp only); first | omega | (simp only [List.length_nil]; omega) | (simp only [List.length_cons, List.length_nil]; omega)), (by (try dsimp only) <;> (rw [hout_4, e58, p4, ix, flaG_set hyv hxv, part_set hyc hxc ip (x2 := x + dx_2) (by omega)])), (by (try dsimp only) <;> (exact pf4.step hyc hxc (by omega) (by omega)))⟩ (by first | omega | (dsimp only; omega))
              · cbv
              · cbv
          · refine hF2 _ _ ?_
            conv => cbv
            refine r_addf m.sX (by omega) (by omega) fun dy_2 hdy_2 => ?_
            conv => cbv
            try have tdy_2 : Int.toNat dy_2 = Int.toNat dy + 1 := by omega
            refine hE _ (out_3, dy_2) ?_ ?_ ⟨(by (try dsimp only); first | omega | (simp only [List.length_nil]; omega) | (simp only [List.length_cons, List.length_nil]; omega)), (by (try dsimp only); first | omega | (simp only [List.length_nil]; omega) | (simp only [List.length_cons, List.length_nil]; omega)), (by (try dsimp only) <;> (rw [p4, part_row (by rw [← sp]; dsimp only; omega) (y2 := y + dy_2) (by omega)])), (by (try dsimp only) <;> (exact pf4.row (by rw [← sp]; dsimp only; omega) (by omega)))⟩ (by first | omega | (dsimp only; omega))
            · cbv
            · cbv
        · refine hF _ _ ?_
          conv => cbv
          exact hQ (.tup [.fr 3 1 (rows cInt out_2), .bool true]) (Eq.trans (by first | rfl | (simp only [lb, lbI, rows_cons, rows_nil, unnilT, unnil, unnilTI, unnilI]; done) | (simp only [lb, lbI, rows_cons, rows_nil, unnilT, unnil, unnilTI, unnilI]; rfl)) (congrArg ((lb 3 1 cInt)) (show (out_2, true) = putA ps width height G (number, at_ % width, at_ / width, turned) from by rw [eP, putA_yes (room_yes (fit_yes sp (by dsimp only; omega)) (pf3.done (by rw [← sp]; dsimp only; omega))), p3, part_end (by rw [← sp]; dsimp only; omega)]))))   -- leaf 4

theorem putA_true {ps : List Piece} {w h : Int} {G : Grid} {p : Plc} {l : List Int} (e : (l, true) = putA ps w h G p) : roomP ps w.toNat h.toNat G p = true ∧ l = flaG w.toNat h.toNat (putP ps G p p.1) := by
  cases hr : roomP ps w.toNat h.toNat G p with
  | false => rw [putA_no hr] at e; cases (Prod.mk.inj e).2
  | true => rw [putA_yes hr] at e; exact ⟨rfl, (Prod.mk.inj e).1⟩
theorem putA_false {ps : List Piece} {w h : Int} {G : Grid} {p : Plc} {l : List Int} (e : (l, false) = putA ps w h G p) : roomP ps w.toNat h.toNat G p = false := by
  cases hr : roomP ps w.toNat h.toNat G p with
  | false => rfl
  | true => rw [putA_yes hr] at e; cases (Prod.mk.inj e).2
theorem put_ex {ps : List Piece} {w h : Nat} {G : Grid} {p : Plc} {n : Int} {l : List Int} (e : l = flaG w h (putP ps G p n)) : ∃ g, g = putP ps G p n ∧ l = flaG w h g := ⟨_, rfl, e⟩
theorem len_of {R : Grid → List Int → List Plc × Bool} (hR : ∀ G u, (R G u).1.length ≤ 1000) {G : Grid} {u : List Int} {l : List Plc} {b : Bool} (e : (l, b) = R G u) : l.length ≤ 1000 := by have := hR G u; rw [← e] at this; exact this
theorem fuFill_body (grid : List Int) (width : Int) (height : Int) (pieces : List Piece) (used : List Int) (G : Grid) (hg : grid = flaG width.toNat height.toNat G) (hc : (1 ≤ width ∧ width ≤ 8) ∧ 1 ≤ height ∧ height ≤ 8) (sg : smallG width.toNat height.toNat G) (ops : okPs pieces = true) (hd : Diff pieces.length used) (R : Grid → List Int → List Plc × Bool) (hR : ∀ G u, (R G u).1.length ≤ 1000) (ih : ∀ (gr : List Int) (G' : Grid) (u : List Int), gr = flaG width.toNat height.toNat G' → smallG width.toNat height.toNat G' → Diff pieces.length u → u.length = used.length + 1 → OkA Try.prog 133 [.isl 1 (rows cInt gr), .int .i64 width, .int .i64 height, .isl 2 (rows cPiece pieces), .isl 1 (rows cInt u)] (· = (lb 60 4 cPlaced) (R G' u))) : OkA Try.prog 133 [.isl 1 (rows cInt grid), .int .i64 width, .int .i64 height, .isl 2 (rows cPiece pieces), .isl 1 (rows cInt used)] (· = (lb 60 4 cPlaced) (fillB R pieces width height G used)) :=
  OkA.unnil 60 4 (fn_intro envOk fieldsOk mixed Try.func133 rfl fun κ X Y L Q m hQ => by
    have ol := (okPs_spec ops).2
    have okp : ∀ q ∈ pieces, okP q = true := fun q hq => (List.all_eq_true.1 (Bool.and_eq_true _ _ |>.mp ops).1 q hq)
    have ul := diff_len _ _ hd
    have mb := mul_bound (a := width) (A := 8) (b := height) (B := 8) (by omega) (by omega) (by omega) (by omega)
    have nm := nat_mul (a := width) (b := height) (by omega) (by omega)
    have lg : (grid.length : Int) = width * height := by rw [hg, flaG_length]; omega
    have lf : (flaG width.toNat height.toNat G).length = grid.length := by rw [hg]
    conv => cbv
    refine r_loopF (α := Int) m 108 [0, 1, 2, 3, 4, 12] [] (fun σ => [(0, .isl 1 (rows cInt grid)), (1, .int .i64 width), (2, .int .i64 height), (3, .isl 2 (rows cPiece pieces)), (4, .isl 1 (rows cInt used)), (12, .int .i64 σ)]) (fun σ => [])
      (fun σ => (0 ≤ σ) ∧ (σ ≤ (grid.length : Int)) ∧ (firstF grid = σ + firstF (grid.drop σ.toNat))) (fun σ => ((grid.length : Int) - σ).toNat) 0 ?_ ?_ ?_ ?_
    · cbv
    · cbv
    · exact ⟨(by (try dsimp only) <;> first | omega | rfl | (simp [*]; done)), (by (try dsimp only) <;> first | omega | rfl | (simp [*]; done)), (by (try dsimp only) <;> ((rw [Int.zero_add]; rfl)))⟩
    rintro at_ ⟨lo, hi, ff⟩ E hE F hF
    conv => cbv
    refine r_lenR m.sX fun n1 hn1 mn1 => ?_
    conv => cbv
    refine r_lss m.sX (fun h1 => ?_) (fun h1 => ?_) <;> conv => cbv
    · refine r_index m.sX (by omega) (by omega) fun x1 hx1 => ?_
      conv => cbv
      have mx1 := get_mem hx1
      have vx1 := nth_some hx1
      refine r_geq m.sX (fun h2 => ?_) (fun h2 => ?_) <;> conv => cbv
      · refine r_addf m.sX (by omega) (by omega) fun at__2 hat__2 => ?_
        conv => cbv
        refine hE _ at__2 ?_ ?_ ⟨(by (try dsimp only) <;> first | omega | rfl | (simp [*]; done) | (rw [lo]; simp [*]; done)), (by (try dsimp only) <;> first | omega | rfl | (simp [*]; done) | (rw [hi]; simp [*]; done)), (by (try dsimp only) <;> (exact firstF_drop (by omega) ff hx1 (by omega) (by omega)))⟩ (by first | omega | (dsimp only; omega))
        · cbv
        · cbv
      · have fs := firstF_stop ff hx1 (by omega)
        rw [hg] at fs
        refine hF _ _ ?_
        conv => cbv
        refine r_lenR m.sX fun n2 hn2 mn2 => ?_
        conv => cbv
        refine r_eql m.sX (fun h3 => ?_) (fun h3 => ?_) <;> conv => cbv
        · exfalso; omega
        · refine r_lenR m.sX fun n3 hn3 mn3 => ?_
          conv => cbv
          have hat : 0 ≤ at_ ∧ at_ < width * height := by omega
          refine r_loopF (α := Int) m 108 [0, 1, 2, 3, 4, 12, 43, 44, 45] [] (fun σ => [(0, .isl 1 (rows cInt grid)), (1, .int .i64 width), (2, .int .i64 height), (3, .isl 2 (rows cPiece pieces)), (4, .isl 1 (rows cInt used)), (12, .int .i64 at_), (43, .isl 2 (rows cPiece pieces)), (44, .int .i64 n3), (45, .int .i64 σ)]) (fun σ => [])
            (fun σ => (0 ≤ σ) ∧ (σ ≤ n3) ∧ ((List.range pieces.length).findSome? (oneG R pieces width height G used at_) = ((List.range pieces.length).drop σ.toNat).findSome? (oneG R pieces width height G used at_))) (fun σ => (n3 - σ).toNat) 0 ?_ ?_ ?_ ?_
          · cbv
          · cbv
          · exact ⟨(by (try dsimp only); first | omega | (simp only [List.length_nil]; omega) | (simp only [List.length_cons, List.length_nil]; omega)), (by (try dsimp only); first | omega | (simp only [List.length_nil]; omega) | (simp only [List.length_cons, List.length_nil]; omega)), (by (try dsimp only) <;> (rfl))⟩
          rintro i1 ⟨lo2, hi2, q⟩ E hE F hF
          conv => cbv
          refine r_lss m.sX (fun h4 => ?_) (fun h4 => ?_) <;> conv => cbv
          · refine r_index m.sX (by omega) (by omega) fun v hpA => ?_
            obtain ⟨pA, pB⟩ := v
            conv => cbv
            have hp := hpA
            have mp := get_mem hp
            have dp := drop_cons hp
            have kp := take_snoc hp
            have jp : (i1 + 1).toNat = Int.toNat i1 + 1 := by omega
            refine r_callB m.sX (l1Has_ok used i1) (fun h5 => ?_) (fun h5 => ?_) <;> conv => cbv
            · have o0 := one_used (F := R) (ps := pieces) (w := width) (h := height) (G := G) (k := at_) lo2 (of_decide_eq_true h5)
              try dsimp only at o0
              refine r_addf m.sX (by omega) (by omega) fun r1 hr1 => ?_
              conv => cbv
              try have tr1 : Int.toNat r1 = Int.toNat i1 + 1 := by omega
              refine hE _ r1 ?_ ?_ ⟨(by (try dsimp only); first | omega | (simp only [List.length_nil]; omega) | (simp only [List.length_cons, List.length_nil]; omega)), (by (try dsimp only); first | omega | (simp only [List.length_nil]; omega) | (simp only [List.length_cons, List.length_nil]; omega)), (by (try dsimp only) <;> (first | (rw [tr1]; exact q.trans (find_next (by omega) o0)) | (rw [tr1]; exact q.trans (find_next (by omega) (one_end (by omega) q3)))))⟩ (by first | omega | (dsimp only; omega))
              · cbv
              · cbv
            · refine r_lenN 2 m.sX rfl (by omega) fun n4 hn4 => ?_
              conv => cbv
              refine r_loopF (α := List Bool × Int) m 108 [0, 1, 2, 3, 4, 12, 13, 43, 44, 45, 54, 55] [⟨14, 113, 0, 0, 0⟩, ⟨53, 425, 4, 1, 0⟩] (fun σ => [(0, .isl 1 (rows cInt grid)), (1, .int .i64 width), (2, .int .i64 height), (3, .isl 2 (rows cPiece pieces)), (4, .isl 1 (rows cInt used)), (12, .int .i64 at_), (13, .int .i64 i1), (14, .optr 113 0 2 0 0), (43, .isl 2 (rows cPiece pieces)), (44, .int .i64 n3), (45, .int .i64 i1), (53, .osl 425 0), (54, .int .i64 n4), (55, .int .i64 σ.2)]) (fun σ => [(113, 0, .box [.int .i64 pA, .int .i64 pB]), (425, 0, .row 4 1 (rows cBool σ.1))])
                (fun σ => (0 ≤ σ.2) ∧ (σ.2 ≤ n4) ∧ (σ.1 = [false, true]) ∧ (oneG R pieces width height G used at_ i1.toNat = ([false, true].drop σ.2.toNat).findSome? (tryG R pieces width height G used at_ i1))) (fun σ => (n4 - σ.2).toNat) ([false, true], 0) ?_ ?_ ?_ ?_
              · cbv
              · (try dsimp only); (try simp only [rows_cons, rows_nil]); cbv
              · exact ⟨(by (try dsimp only); first | omega | (simp only [List.length_nil]; omega) | (simp only [List.length_cons, List.length_nil]; omega)), (by (try dsimp only); first | omega | (simp only [List.length_nil]; omega) | (simp only [List.length_cons, List.length_nil]; omega)), (by (try dsimp only) <;> (rfl)), (by (try dsimp only) <;> (exact one_start lo2 (of_decide_eq_false h5)))⟩
              rintro ⟨ys1, i2⟩ ⟨lo3, hi3, ys, q3⟩ E2 hE2 F2 hF2
              dsimp only at lo3 hi3 ys q3
              have yl : ys1.length = 2 := by rw [ys]; rfl
              conv => cbv
              refine r_lss m.sX (fun h6 => ?_) (fun h6 => ?_) <;> conv => cbv
              · refine r_oindex m.sX (by omega) (by omega) ?_
                conv => cbv
                obtain ⟨turned, hturned⟩ := get_ex (xs := ys1) (i := Int.toNat i2) (by omega)
                have mturned := get_mem hturned
                have dturned := drop_cons hturned
                have kturned := take_snoc hturned
                have jturned : (i2 + 1).toNat = Int.toNat i2 + 1 := by omega
                have ht : ([false, true] : List Bool)[i2.toNat]? = some turned := by rw [← ys]; exact hturned
                refine r_oload m.sX hturned (Nat.le_of_ble_eq_true rfl) ?_
                conv => cbv
                rcases Bool.eq_false_or_eq_true turned with rfl | rfl <;> conv => cbv
                · refine r_eql m.sX (fun h7 => ?_) (fun h7 => ?_) <;> conv => cbv
                  · have t0 := try_square (F := R) (w := width) (h := height) (G := G) (used := used) (k := at_) (nthP_some hpA) h7
                    try dsimp only at t0
                    refine r_addf m.sX (by omega) (by omega) fun r2 hr2 => ?_
                    conv => cbv
                    try have tr2 : Int.toNat r2 = Int.toNat i2 + 1 := by omega
                    refine hE2 _ (ys1, r2) ?_ ?_ ⟨(by (try dsimp only); first | omega | (simp only [List.length_nil]; omega) | (simp only [List.length_cons, List.length_nil]; omega)), (by (try dsimp only); first | omega | (simp only [List.length_nil]; omega) | (simp only [List.length_cons, List.length_nil]; omega)), (by (try dsimp only) <;> (exact ys)), (by (try dsimp only) <;> ((rw [tr2]; exact q3.trans (findL_next ht t0))))⟩ (by first | omega | (dsimp only; omega))
                    · cbv
                    · cbv
                  · refine r_callF (lb 3 1 cInt) m.sX (fuPut_ok grid width height (pA, pB) true at_ i1 G pieces hg hc hat sg (nthP_some (by assumption)) (okp _ (by assumption))) fun v hnext => ?_
                    obtain ⟨next, ok⟩ := v
                    conv => cbv
                    try dsimp only at hnext
                    rcases Bool.eq_false_or_eq_true ok with rfl | rfl <;> conv => cbv
                    · obtain ⟨er, en⟩ := putA_true hnext
                      obtain ⟨G_next, eG, g_next⟩ := put_ex en
                      have s_next : smallG width.toNat height.toNat G_next := by rw [eG]; exact small_put sg _ _ (by dsimp only; omega)
                      refine r_callF (fun l => PV.fr _ _ (rows _ l)) m.sX (l1Own_ok used (by first | rfl | assumption | omega | (simp only [List.length_append, List.length_cons, List.length_nil] at *; omega))) fun v1 hv1 => ?_
                      conv => cbv
                      try dsimp only at hv1
                      have lv1 := congrArg List.length hv1
                      try dsimp only at lv1
                      refine r_append1 (i1) m.sX rfl (by first | omega | (dsimp only; omega)) (by first | omega | (dsimp only; omega)) fun zs1 hzs1 => ?_
                      conv => cbv
                      have lzs1 : (zs1.length : Int) = v1.length + 1 := by rw [hzs1]; first | done | (simp; done) | (simp; omega)
                      have eu : zs1 = used ++ [i1] := by rw [hzs1, hv1]
                      have d_zs1 : Diff pieces.length zs1 := by rw [eu]; exact diff_next hd (by omega) (by omega) (of_decide_eq_false h5)
                      have n_zs1 : zs1.length = used.length + 1 := by rw [eu]; simp
                      refine .inr (r_pcallF (lb 60 4 cPlaced) m.sX (ih next G_next zs1 g_next s_next d_zs1 n_zs1) fun v hrest => ?_)
                      obtain ⟨rest, fine⟩ := v
                      conv => cbv
                      have lrest := len_of hR hrest
                      try dsimp only at lrest
                      rcases Bool.eq_false_or_eq_true fine with rfl | rfl <;> conv => cbv
                      · have t0 := try_hit (h := height) eG eu hrest (by intro e; first | exact Bool.noConfusion e.1 | (refine h7 ?_; have := e.2; rw [nthP_some hpA] at this; exact this)) er
                        try dsimp only at t0
                        refine r_draw m (by kernel_rfl) ?_
                        conv => cbv
                        refine r_modf m.sY (by omega) (by omega) fun r3 hr3 br3 => ?_
                        conv => cbv
                        first | refine r_divf m.sY (by omega) (by omega) fun r4 hr4 br4 => ?_ | refine r_tdivf m.sY (by omega) (by omega) fun r4 hr4 br4 => ?_
                        conv => cbv
                        refine r_appendL cPlaced [(i1, r3, r4, true)] m.sY (by simp only [rows_cons, rows_nil]; rfl) (by first | decide | (simp; omega) | omega) (by first | decide | (simp; omega) | omega) fun zs2 hzs2 => ?_
                        conv => cbv
                        refine hF2 _ _ ?_
                        conv => cbv
                        refine hF _ _ ?_
                        conv => cbv
                        exact hQ (.tup [.fr 60 4 (rows cPlaced zs2), .bool true]) (Eq.trans (by first | rfl | (simp only [lb, lbI, rows_cons, rows_nil, unnilT, unnil, unnilTI, unnilI]; done) | (simp only [lb, lbI, rows_cons, rows_nil, unnilT, unnil, unnilTI, unnilI]; rfl)) (congrArg ((lb 60 4 cPlaced)) (show (zs2, true) = fillB R pieces width height G used from by rw [fillB_some fs (by omega) (q.trans (find_hit (by omega) (q3.trans (findL_hit ht t0)))), hzs2, hr3, hr4]; rfl)))   -- leaf 1
                      · have t0 := try_fine (h := height) eG eu hrest
                        try dsimp only at t0
                        refine r_addf m.sX (by omega) (by omega) fun r5 hr5 => ?_
                        conv => cbv
                        try have tr5 : Int.toNat r5 = Int.toNat i2 + 1 := by omega
                        refine hE2 _ (ys1, r5) ?_ ?_ ⟨(by (try dsimp only); first | omega | (simp only [List.length_nil]; omega) | (simp only [List.length_cons, List.length_nil]; omega)), (by (try dsimp only); first | omega | (simp only [List.length_nil]; omega) | (simp only [List.length_cons, List.length_nil]; omega)), (by (try dsimp only) <;> (exact ys)), (by (try dsimp only) <;> ((rw [tr5]; exact q3.trans (findL_next ht t0))))⟩ (by first | omega | (dsimp only; omega))
                        · cbv
                        · cbv
                    · have t0 := try_room (F := R) (used := used) (putA_false hnext)
                      try dsimp only at t0
                      refine r_addf m.sX (by omega) (by omega) fun r6 hr6 => ?_
                      conv => cbv
                      try have tr6 : Int.toNat r6 = Int.toNat i2 + 1 := by omega
                      refine hE2 _ (ys1, r6) ?_ ?_ ⟨(by (try dsimp only); first | omega | (simp only [List.length_nil]; omega) | (simp only [List.length_cons, List.length_nil]; omega)), (by (try dsimp only); first | omega | (simp only [List.length_nil]; omega) | (simp only [List.length_cons, List.length_nil]; omega)), (by (try dsimp only) <;> (exact ys)), (by (try dsimp only) <;> ((rw [tr6]; exact q3.trans (findL_next ht t0))))⟩ (by first | omega | (dsimp only; omega))
                      · cbv
                      · cbv
                · refine r_callF (lb 3 1 cInt) m.sX (fuPut_ok grid width height (pA, pB) false at_ i1 G pieces hg hc hat sg (nthP_some (by assumption)) (okp _ (by assumption))) fun v hnext_2 => ?_
                  obtain ⟨next_2, ok_2⟩ := v
                  conv => cbv
                  try dsimp only at hnext_2
                  rcases Bool.eq_false_or_eq_true ok_2 with rfl | rfl <;> conv => cbv
                  · obtain ⟨er, en⟩ := putA_true hnext_2
                    obtain ⟨G_next_2, eG, g_next_2⟩ := put_ex en
                    have s_next_2 : smallG width.toNat height.toNat G_next_2 := by rw [eG]; exact small_put sg _ _ (by dsimp only; omega)
                    refine r_callF (fun l => PV.fr _ _ (rows _ l)) m.sX (l1Own_ok used (by first | rfl | assumption | omega | (simp only [List.length_append, List.length_cons, List.length_nil] at *; omega))) fun v2 hv2 => ?_
                    conv => cbv
                    try dsimp only at hv2
                    have lv2 := congrArg List.length hv2
                    try dsimp only at lv2
                    refine r_append1 (i1) m.sX rfl (by first | omega | (dsimp only; omega)) (by first | omega | (dsimp only; omega)) fun zs3 hzs3 => ?_
                    conv => cbv
                    have lzs3 : (zs3.length : Int) = v2.length + 1 := by rw [hzs3]; first | done | (simp; done) | (simp; omega)
                    have eu : zs3 = used ++ [i1] := by rw [hzs3, hv2]
                    have d_zs3 : Diff pieces.length zs3 := by rw [eu]; exact diff_next hd (by omega) (by omega) (of_decide_eq_false h5)
                    have n_zs3 : zs3.length = used.length + 1 := by rw [eu]; simp
                    refine .inr (r_pcallF (lb 60 4 cPlaced) m.sX (ih next_2 G_next_2 zs3 g_next_2 s_next_2 d_zs3 n_zs3) fun v hrest_2 => ?_)
                    obtain ⟨rest_2, fine_2⟩ := v
                    conv => cbv
                    have lrest_2 := len_of hR hrest_2
                    try dsimp only at lrest_2
                    rcases Bool.eq_false_or_eq_true fine_2 with rfl | rfl <;> conv => cbv
                    · have t0 := try_hit (h := height) eG eu hrest_2 (by intro e; first | exact Bool.noConfusion e.1 | (refine h7 ?_; have := e.2; rw [nthP_some hpA] at this; exact this)) er
                      try dsimp only at t0
                      refine r_draw m (by kernel_rfl) ?_
                      conv => cbv
                      refine r_modf m.sY (by omega) (by omega) fun r7 hr7 br7 => ?_
                      conv => cbv
                      first | refine r_divf m.sY (by omega) (by omega) fun r8 hr8 br8 => ?_ | refine r_tdivf m.sY (by omega) (by omega) fun r8 hr8 br8 => ?_
                      conv => cbv
                      refine r_appendL cPlaced [(i1, r7, r8, false)] m.sY (by simp only [rows_cons, rows_nil]; rfl) (by first | decide | (simp; omega) | omega) (by first | decide | (simp; omega) | omega) fun zs4 hzs4 => ?_
                      conv => cbv
                      refine hF2 _ _ ?_
                      conv => cbv
                      refine hF _ _ ?_
                      conv => cbv
                      exact hQ (.tup [.fr 60 4 (rows cPlaced zs4), .bool true]) (Eq.trans (by first | rfl | (simp only [lb, lbI, rows_cons, rows_nil, unnilT, unnil, unnilTI, unnilI]; done) | (simp only [lb, lbI, rows_cons, rows_nil, unnilT, unnil, unnilTI, unnilI]; rfl)) (congrArg ((lb 60 4 cPlaced)) (show (zs4, true) = fillB R pieces width height G used from by rw [fillB_some fs (by omega) (q.trans (find_hit (by omega) (q3.trans (findL_hit ht t0)))), hzs4, hr7, hr8]; rfl)))   -- leaf 2
                    · have t0 := try_fine (h := height) eG eu hrest_2
                      try dsimp only at t0
                      refine r_addf m.sX (by omega) (by omega) fun r9 hr9 => ?_
                      conv => cbv
                      try have tr9 : Int.toNat r9 = Int.toNat i2 + 1 := by omega
                      refine hE2 _ (ys1, r9) ?_ ?_ ⟨(by (try dsimp only); first | omega | (simp only [List.length_nil]; omega) | (simp only [List.length_cons, List.length_nil]; omega)), (by (try dsimp only); first | omega | (simp only [List.length_nil]; omega) | (simp only [List.length_cons, List.length_nil]; omega)), (by (try dsimp only) <;> (exact ys)), (by (try dsimp only) <;> ((rw [tr9]; exact q3.trans (findL_next ht t0))))⟩ (by first | omega | (dsimp only; omega))
                      · cbv
                      · cbv
                  · have t0 := try_room (F := R) (used := used) (putA_false hnext_2)
                    try dsimp only at t0
                    refine r_addf m.sX (by omega) (by omega) fun r10 hr10 => ?_
                    conv => cbv
                    try have tr10 : Int.toNat r10 = Int.toNat i2 + 1 := by omega
                    refine hE2 _ (ys1, r10) ?_ ?_ ⟨(by (try dsimp only); first | omega | (simp only [List.length_nil]; omega) | (simp only [List.length_cons, List.length_nil]; omega)), (by (try dsimp only); first | omega | (simp only [List.length_nil]; omega) | (simp only [List.length_cons, List.length_nil]; omega)), (by (try dsimp only) <;> (exact ys)), (by (try dsimp only) <;> ((rw [tr10]; exact q3.trans (findL_next ht t0))))⟩ (by first | omega | (dsimp only; omega))
                    · cbv
                    · cbv
              · have dz_i2 := drop_end (xs := [false, true]) (i := Int.toNat i2) (by simp only [List.length_cons, List.length_nil]; omega)
                have tz_i2 := take_end (xs := [false, true]) (i := Int.toNat i2) (by simp only [List.length_cons, List.length_nil]; omega)
                refine hF2 _ _ ?_
                conv => cbv
                refine r_addf m.sX (by omega) (by omega) fun r11 hr11 => ?_
                conv => cbv
                try have tr11 : Int.toNat r11 = Int.toNat i1 + 1 := by omega
                refine hE _ r11 ?_ ?_ ⟨(by (try dsimp only); first | omega | (simp only [List.length_nil]; omega) | (simp only [List.length_cons, List.length_nil]; omega)), (by (try dsimp only); first | omega | (simp only [List.length_nil]; omega) | (simp only [List.length_cons, List.length_nil]; omega)), (by (try dsimp only) <;> (first | (rw [tr11]; exact q.trans (find_next (by omega) o0)) | (rw [tr11]; exact q.trans (find_next (by omega) (one_end (by omega) q3)))))⟩ (by first | omega | (dsimp only; omega))
                · cbv
                · cbv
          · have dz_i1 := drop_end (xs := pieces) (i := Int.toNat i1) (by omega)
            have tz_i1 := take_end (xs := pieces) (i := Int.toNat i1) (by omega)
            refine hF _ _ ?_
            conv => cbv
            exact hQ (.tup [.nil, .bool false]) (Eq.trans (by first | rfl | (simp only [lb, lbI, rows_cons, rows_nil, unnilT, unnil, unnilTI, unnilI]; done) | (simp only [lb, lbI, rows_cons, rows_nil, unnilT, unnil, unnilTI, unnilI]; rfl)) (congrArg ((lb 60 4 cPlaced)) (show ([], false) = fillB R pieces width height G used from by rw [fillB_none fs (by omega) (q.trans (find_end (by omega)))])))   -- leaf 3
    · have fs := firstF_end ff (by omega)
      try dsimp only at fs
      rw [hg] at fs
      refine hF _ _ ?_
      conv => cbv
      refine r_lenR m.sX fun n5 hn5 mn5 => ?_
      conv => cbv
      refine r_eql m.sX (fun h8 => ?_) (fun h8 => ?_) <;> conv => cbv
      · refine r_lenR m.sX fun n6 hn6 mn6 => ?_
        conv => cbv
        refine r_lenR m.sX fun n7 hn7 mn7 => ?_
        conv => cbv
        refine r_eql m.sX (fun h9 => ?_) (fun h9 => ?_) <;> conv => cbv
        · exact hQ (.tup [.nil, .bool true]) (Eq.trans (by first | rfl | (simp only [lb, lbI, rows_cons, rows_nil, unnilT, unnil, unnilTI, unnilI]; done) | (simp only [lb, lbI, rows_cons, rows_nil, unnilT, unnil, unnilTI, unnilI]; rfl)) (congrArg ((lb 60 4 cPlaced)) (show ([], true) = fillB R pieces width height G used from by rw [fillB_end (by omega), decide_eq_true (by omega)])))   -- leaf 4
        · exact hQ (.tup [.nil, .bool false]) (Eq.trans (by first | rfl | (simp only [lb, lbI, rows_cons, rows_nil, unnilT, unnil, unnilTI, unnilI]; done) | (simp only [lb, lbI, rows_cons, rows_nil, unnilT, unnil, unnilTI, unnilI]; rfl)) (congrArg ((lb 60 4 cPlaced)) (show ([], false) = fillB R pieces width height G used from by rw [fillB_end (by omega), decide_eq_false (by omega)])))   -- leaf 5
      · exfalso; omega)

theorem fuFill_go {w h : Int} {ps : List Piece} (hc : (1 ≤ w ∧ w ≤ 8) ∧ 1 ≤ h ∧ h ≤ 8) (ops : okPs ps = true) : ∀ (n : Nat) (gr : List Int) (G : Grid) (u : List Int), n ≤ 1000 → gr = flaG w.toNat h.toNat G → smallG w.toNat h.toNat G → Diff ps.length u → ps.length < u.length + n →
    OkA Try.prog 133 [.isl 1 (rows cInt gr), .int .i64 w, .int .i64 h, .isl 2 (rows cPiece ps), .isl 1 (rows cInt u)] (· = (lb 60 4 cPlaced) (fillG ps w h n G u))
  | 0, gr, G, u, _, _, _, hd, hl => by have := diff_len _ _ hd; omega
  | n + 1, gr, G, u, hn, hg, sg, hd, hl =>
    fuFill_body gr w h ps u G hg hc sg ops hd (fillG ps w h n) (fun G u => by have := fill_len (ps := ps) (w := w) (h := h) n G u; omega)
      fun gr' G' u' hg' sg' hd' hl' => fuFill_go hc ops n gr' G' u' (by omega) hg' sg' hd' (by omega)
theorem flat_cPlaced : ∀ x, ∀ c ∈ cPlaced x, flat c := fun x c hc => by simp [cPlaced] at hc; rcases hc with rfl | rfl | rfl | rfl <;> trivial
theorem RepArg.nil_isl {w : World} {I : Nat → Prop} {v : Value} (h : RepArg w I .nil v) (sz : Nat) : RepArg w I (.isl sz []) v := by
  cases h with
  | one h => cases h; exact .one (.isl0 sz none 0 (Nat.zero_le _))
theorem fuFill_nil {w h : Int} {ps : List Piece} (hc : okCh w h ps = true) (gr : List Int) (hg : gr = flaG w.toNat h.toNat noG) :
    OkA Try.prog 133 [.isl 1 (rows cInt gr), .int .i64 w, .int .i64 h, .isl 2 (rows cPiece ps), .nil] (· = (lb 60 4 cPlaced) (fillG ps w h 9 noG [])) := by
  obtain ⟨bw, bh, ops⟩ := okCh_spec hc
  have ol := (okPs_spec ops).2
  have h := fuFill_go ⟨bw, bh⟩ ops 9 gr noG [] (by omega) hg (small_no _ _) (diff_nil _) (by simp; omega)
  refine ⟨h.1, fun w I vs hI ha => h.2 w I vs hI ?_⟩
  rw [rows_nil]
  cases ha with
  | cons a1 ha => cases ha with
    | cons a2 ha => cases ha with
      | cons a3 ha => cases ha with
        | cons a4 ha => cases ha with
          | cons a5 ha => exact .cons a1 (.cons a2 (.cons a3 (.cons a4 (.cons (RepArg.nil_isl a5 1) ha))))
theorem fuFirst_ok (width : Int) (height : Int) (pieces : List Piece) (hc : okCh width height pieces = true) : OkA Try.prog 83 [.int .i64 width, .int .i64 height, .isl 2 (rows cPiece pieces)] (· = (lb 60 4 cPlaced) (firstA width height pieces)) :=
  OkA.unnil 60 4 (fn_intro envOk fieldsOk mixed Try.func83 rfl fun κ X Y L Q m hQ => by
    obtain ⟨bw, bh, ops⟩ := okCh_spec hc
    have ol := (okPs_spec ops).2
    have mb := mul_bound (a := width) (A := 8) (b := height) (B := 8) (by omega) (by omega) (by omega) (by omega)
    conv => cbv
    refine r_callF (PV.int .i64) m.sX (fuArea_ok pieces (by first | rfl | assumption | omega | (simp only [List.length_append, List.length_cons, List.length_nil] at *; omega))) fun r1 hr1 => ?_
    conv => cbv
    refine r_mulf m.sX (by first | omega | (subst_vars; omega)) (by first | omega | (subst_vars; omega)) fun r2 hr2 => ?_
    conv => cbv
    refine r_neq m.sX (fun h1 => ?_) (fun h1 => ?_) <;> conv => cbv
    · exact hQ (.tup [.nil, .bool false]) (Eq.trans (by first | rfl | (simp only [lb, lbI, rows_cons, rows_nil, unnilT, unnil, unnilTI, unnilI]; done) | (simp only [lb, lbI, rows_cons, rows_nil, unnilT, unnil, unnilTI, unnilI]; rfl)) (congrArg ((lb 60 4 cPlaced)) (show ([], false) = firstA width height pieces from by rw [firstA_area (by omega)])))   -- leaf 1
    · refine r_mulf m.sX (by first | omega | (subst_vars; omega)) (by first | omega | (subst_vars; omega)) fun r3 hr3 => ?_
      conv => cbv
      refine r_make cInt 0 m.sX rfl (by omega) (by omega) (by dsimp only; omega) (by omega) fun grid hgrid => ?_
      have lgrid : (grid.length : Int) = r3 := by rw [hgrid]; first | done | (simp; done) | (simp; omega)
      conv => cbv
      refine r_lenR m.sX fun n1 hn1 mn1 => ?_
      conv => cbv
      refine r_loopF (α := List Int × Int) m 67 [0, 1, 2, 27, 28] [⟨8, 65, 3, 1, 0⟩] (fun σ => [(0, .int .i64 width), (1, .int .i64 height), (2, .isl 2 (rows cPiece pieces)), (8, .osl 65 0), (27, .int .i64 n1), (28, .int .i64 σ.2)]) (fun σ => [(65, 0, .row 3 1 (rows cInt σ.1))])
        (fun σ => (0 ≤ σ.2) ∧ (σ.2 ≤ n1) ∧ ((σ.1.length : Int) = n1) ∧ (σ.1 = List.replicate σ.2.toNat (-1) ++ List.replicate (n1.toNat - σ.2.toNat) 0)) (fun σ => (n1 - σ.2).toNat) (grid, 0) ?_ ?_ ?_ ?_
      · cbv
      · cbv
      · exact ⟨(by (try dsimp only); first | omega | (simp only [List.length_nil]; omega) | (simp only [List.length_cons, List.length_nil]; omega)), (by (try dsimp only); first | omega | (simp only [List.length_nil]; omega) | (simp only [List.length_cons, List.length_nil]; omega)), (by (try dsimp only) <;> first | omega | rfl | (simp [*]; done)), (by (try dsimp only) <;> (rw [hgrid, show Int.toNat r3 = Int.toNat n1 by omega]; simp))⟩
      rintro ⟨grid_2, i1⟩ ⟨lo1, hi1, ll, fs⟩ E hE F hF
      dsimp only at lo1 hi1 ll fs
      conv => cbv
      refine r_lss m.sX (fun h2 => ?_) (fun h2 => ?_) <;> conv => cbv
      · refine r_oindex m.sX (by omega) (by omega) ?_
        conv => cbv
        obtain ⟨y1, hy1⟩ := get_ex (xs := grid_2) (i := Int.toNat i1) (by omega)
        refine r_ostore (l := Int.toNat i1) (-1) m.sX hy1 (Nat.le_of_ble_eq_true rfl) rfl fun grid_3 hgrid_3 => ?_
        have lgrid_3 : (grid_3.length : Int) = grid_2.length := by rw [hgrid_3]; first | done | (simp; done) | (simp; omega)
        conv => cbv
        refine r_addf m.sX (by omega) (by omega) fun r4 hr4 => ?_
        conv => cbv
        try have tr4 : Int.toNat r4 = Int.toNat i1 + 1 := by omega
        refine hE _ (grid_3, r4) ?_ ?_ ⟨(by (try dsimp only); first | omega | (simp only [List.length_nil]; omega) | (simp only [List.length_cons, List.length_nil]; omega)), (by (try dsimp only); first | omega | (simp only [List.length_nil]; omega) | (simp only [List.length_cons, List.length_nil]; omega)), (by (try dsimp only) <;> (rw [hgrid_3, List.length_set]; exact ll)), (by (try dsimp only) <;> (rw [hgrid_3, tr4, fillm_step fs (by omega)]))⟩ (by first | omega | (dsimp only; omega))
        · cbv
        · cbv
      · have g0 : grid_2 = flaG width.toNat height.toNat noG := by rw [no_flat, fs, ← nat_mul (by omega) (by omega), ← hr3, show n1.toNat - i1.toNat = 0 by omega, show i1.toNat = r3.toNat by omega]; simp
        have dz_i1 := drop_end (xs := grid) (i := Int.toNat i1) (by omega)
        have tz_i1 := take_end (xs := grid) (i := Int.toNat i1) (by omega)
        refine hF _ _ ?_
        conv => cbv
        refine .inl (r_callFO (lb 60 4 cPlaced) m.sX ((fuFill_nil hc grid_2 g0).ok (flat_lb flat_cPlaced)) fun v hfound => ?_)
        obtain ⟨found, ok⟩ := v
        conv => cbv
        have lfd : found.length ≤ 9 := by have := fill_len (ps := pieces) (w := width) (h := height) 9 noG []; rw [← hfound] at this; exact this
        rcases Bool.eq_false_or_eq_true ok with rfl | rfl <;> conv => cbv
        · refine r_lenR m.sX fun n2 hn2 mn2 => ?_
          conv => cbv
          refine r_loopF (α := List Plc × Int) m 67 [46, 47] [⟨10, 81, 60, 4, 0⟩, ⟨12, 97, 60, 4, 0⟩] (fun σ => [(10, .osl 81 0), (12, .osl 97 0), (46, .int .i64 n2), (47, .int .i64 σ.2)]) (fun σ => [(81, 0, .row 60 4 (rows cPlaced found)), (97, 0, .row 60 4 (rows cPlaced σ.1))])
            (fun σ => (0 ≤ σ.2) ∧ (σ.2 ≤ n2) ∧ (σ.1 = sortP σ.2.toNat found) ∧ ((σ.1.length : Int) ≤ 9 * σ.2)) (fun σ => (n2 - σ.2).toNat) ([], 0) ?_ ?_ ?_ ?_
          · cbv
          · (try dsimp only); (try simp only [rows_cons, rows_nil]); cbv
          · exact ⟨(by (try dsimp only); first | omega | (simp only [List.length_nil]; omega) | (simp only [List.length_cons, List.length_nil]; omega)), (by (try dsimp only); first | omega | (simp only [List.length_nil]; omega) | (simp only [List.length_cons, List.length_nil]; omega)), (by (try dsimp only) <;> (rfl)), (by (try dsimp only) <;> first | omega | rfl | (simp [*]; done))⟩
          rintro ⟨out, i2⟩ ⟨lo2, hi2, q, ln⟩ E hE F hF
          dsimp only at lo2 hi2 q ln
          conv => cbv
          refine r_lss m.sX (fun h3 => ?_) (fun h3 => ?_) <;> conv => cbv
          · refine r_lenR m.sX fun n3 hn3 mn3 => ?_
            conv => cbv
            refine r_loopF (α := List Plc × Int) m 67 [13, 46, 47, 50, 51, 52] [⟨10, 81, 60, 4, 0⟩, ⟨12, 97, 60, 4, 0⟩] (fun σ => [(10, .osl 81 0), (12, .osl 97 0), (13, .int .i64 i2), (46, .int .i64 n2), (47, .int .i64 i2), (50, .osl 81 0), (51, .int .i64 n3), (52, .int .i64 σ.2)]) (fun σ => [(81, 0, .row 60 4 (rows cPlaced found)), (97, 0, .row 60 4 (rows cPlaced σ.1))])
              (fun σ => (0 ≤ σ.2) ∧ (σ.2 ≤ n3) ∧ (σ.1 = sortP i2.toNat found ++ (found.take σ.2.toNat).filter (fun p => decide (p.1 = ((i2.toNat : Nat) : Int)))) ∧ ((σ.1.length : Int) ≤ 9 * i2 + σ.2)) (fun σ => (n3 - σ.2).toNat) (out, 0) ?_ ?_ ?_ ?_
            · cbv
            · cbv
            · exact ⟨(by (try dsimp only); first | omega | (simp only [List.length_nil]; omega) | (simp only [List.length_cons, List.length_nil]; omega)), (by (try dsimp only); first | omega | (simp only [List.length_nil]; omega) | (simp only [List.length_cons, List.length_nil]; omega)), (by (try dsimp only) <;> ((rw [q]; simp))), (by (try dsimp only) <;> first | omega | rfl | (simp [*]; done))⟩
            rintro ⟨out_2, i3⟩ ⟨lo3, hi3, q3, ln3⟩ E2 hE2 F2 hF2
            dsimp only at lo3 hi3 q3 ln3
            conv => cbv
            refine r_lss m.sX (fun h4 => ?_) (fun h4 => ?_) <;> conv => cbv
            · refine r_oindex m.sX (by omega) (by omega) ?_
              conv => cbv
              obtain ⟨⟨xA, xB, xC, xD⟩, hx⟩ := get_ex (xs := found) (i := Int.toNat i3) (by omega)
              have mx := get_mem hx
              have dx := drop_cons hx
              have kx := take_snoc hx
              have jx : (i3 + 1).toNat = Int.toNat i3 + 1 := by omega
              refine r_oload m.sX hx (Nat.le_of_ble_eq_true rfl) ?_
              conv => cbv
              refine r_eql m.sX (fun h5 => ?_) (fun h5 => ?_) <;> conv => cbv
              · refine r_append1 ((xA, xB, xC, xD)) m.sX rfl (by first | omega | (dsimp only; omega)) (by first | omega | (dsimp only; omega)) fun out_3 hout_3 => ?_
                conv => cbv
                have lout_3 : (out_3.length : Int) = out_2.length + 1 := by rw [hout_3]; first | done | (simp; done) | (simp; omega)
                refine r_addf m.sX (by omega) (by omega) fun r5 hr5 => ?_
                conv => cbv
                try have tr5 : Int.toNat r5 = Int.toNat i3 + 1 := by omega
                refine hE2 _ (out_3, r5) ?_ ?_ ⟨(by (try dsimp only); first | omega | (simp only [List.length_nil]; omega) | (simp only [List.length_cons, List.length_nil]; omega)), (by (try dsimp only); first | omega | (simp only [List.length_nil]; omega) | (simp only [List.length_cons, List.length_nil]; omega)), (by (try dsimp only) <;> (first | (rw [hout_3, q3, tr5, filter_yes hx (decide_eq_true (by dsimp only; omega)), List.append_assoc]; done) | (rw [q3, tr5, filter_no hx (decide_eq_false (by dsimp only; omega))]; done))), (by (try dsimp only) <;> first | omega | rfl | (simp [*]; done) | (rw [ln3]; simp [*]; done))⟩ (by first | omega | (dsimp only; omega))
                · cbv
                · cbv
              · refine r_addf m.sX (by omega) (by omega) fun r6 hr6 => ?_
                conv => cbv
                try have tr6 : Int.toNat r6 = Int.toNat i3 + 1 := by omega
                refine hE2 _ (out_2, r6) ?_ ?_ ⟨(by (try dsimp only); first | omega | (simp only [List.length_nil]; omega) | (simp only [List.length_cons, List.length_nil]; omega)), (by (try dsimp only); first | omega | (simp only [List.length_nil]; omega) | (simp only [List.length_cons, List.length_nil]; omega)), (by (try dsimp only) <;> (first | (rw [hout_3, q3, tr6, filter_yes hx (decide_eq_true (by dsimp only; omega)), List.append_assoc]; done) | (rw [q3, tr6, filter_no hx (decide_eq_false (by dsimp only; omega))]; done))), (by (try dsimp only) <;> first | omega | rfl | (simp [*]; done) | (rw [ln3]; simp [*]; done))⟩ (by first | omega | (dsimp only; omega))
                · cbv
                · cbv
            · have dz_i3 := drop_end (xs := found) (i := Int.toNat i3) (by omega)
              have tz_i3 := take_end (xs := found) (i := Int.toNat i3) (by omega)
              refine hF2 _ _ ?_
              conv => cbv
              refine r_addf m.sX (by omega) (by omega) fun r7 hr7 => ?_
              conv => cbv
              try have tr7 : Int.toNat r7 = Int.toNat i2 + 1 := by omega
              refine hE _ (out_2, r7) ?_ ?_ ⟨(by (try dsimp only); first | omega | (simp only [List.length_nil]; omega) | (simp only [List.length_cons, List.length_nil]; omega)), (by (try dsimp only); first | omega | (simp only [List.length_nil]; omega) | (simp only [List.length_cons, List.length_nil]; omega)), (by (try dsimp only) <;> (rw [q3, tr7, sortP_succ, List.take_of_length_le (by omega)])), (by (try dsimp only) <;> first | omega | rfl | (simp [*]; done) | (rw [ln]; simp [*]; done))⟩ (by first | omega | (dsimp only; omega))
              · cbv
              · cbv
          · have dz_i2 := drop_end (xs := pieces) (i := Int.toNat i2) (by omega)
            have tz_i2 := take_end (xs := pieces) (i := Int.toNat i2) (by omega)
            refine hF _ _ ?_
            conv => cbv
            exact hQ (.tup [.fr 60 4 (rows cPlaced out), .bool true]) (Eq.trans (by first | rfl | (simp only [lb, lbI, rows_cons, rows_nil, unnilT, unnil, unnilTI, unnilI]; done) | (simp only [lb, lbI, rows_cons, rows_nil, unnilT, unnil, unnilTI, unnilI]; rfl)) (congrArg ((lb 60 4 cPlaced)) (show (out, true) = firstA width height pieces from by rw [firstA_yes (by omega) hfound, q, show i2.toNat = pieces.length by omega])))   -- leaf 2
        · exact hQ (.tup [.nil, .bool false]) (Eq.trans (by first | rfl | (simp only [lb, lbI, rows_cons, rows_nil, unnilT, unnil, unnilTI, unnilI]; done) | (simp only [lb, lbI, rows_cons, rows_nil, unnilT, unnil, unnilTI, unnilI]; rfl)) (congrArg ((lb 60 4 cPlaced)) (show ([], false) = firstA width height pieces from by rw [firstA_no (by omega) hfound]))))   -- leaf 3

end Go.Proofs.Ytiaodmfipeoegaa.Ai
