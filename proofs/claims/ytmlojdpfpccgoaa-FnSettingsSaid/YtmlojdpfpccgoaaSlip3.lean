/- Contracts of the functions that mend slips. -/
import Derived.Test.YtmlojdpfpccgoaaSlip2
namespace Go.Proofs.Ytmlojdpfpccgoaa.Ai
open Go Go.Proofs
set_option linter.unusedSimpArgs false
set_option maxRecDepth 10000
set_option maxHeartbeats 4000000
set_option linter.unusedVariables false
theorem MendSlips_ok (l : List Box) (slips : List Slip)  : OkA Try.prog 65 [.isl 4 (rows cBox l), .isl 3 (rows cMisput slips)] (· = (lb 83 4 cBox) (mendAns l slips)) :=
  OkA.unnil 83 4 (fn_intro envOk fieldsOk mixed Try.func65 rfl fun κ X Y L Q m hQ => by
    conv => cbv
    refine r_callB m.sX (IsCase_ok l) (fun h1 => ?_) (fun h1 => ?_) <;> conv => cbv
    · have cn := case_len h1
      refine r_callB m.sX (areSlips_ok slips) (fun h2 => ?_) (fun h2 => ?_) <;> conv => cbv
      · have sb := slips_mem h2
        refine r_append0R m.sX (by first | omega | (dsimp only; omega)) (by first | omega | (dsimp only; omega)) fun next hnext => ?_
        conv => cbv
        have lnext : (next.length : Int) = l.length := by rw [hnext]; first | done | (simp; done) | (simp; omega)
        refine r_lenR m.sX fun n1 hn1 mn1 => ?_
        conv => cbv
        refine r_loopF (α := List Box × Int) m 70 [0, 23, 24, 25] [⟨6, 49, 83, 4, 0⟩] (fun σ => [(0, .isl 4 (rows cBox l)), (6, .osl 49 0), (23, .isl 3 (rows cMisput slips)), (24, .int .i64 n1), (25, .int .i64 σ.2)]) (fun σ => [(49, 0, .row 83 4 (rows cBox σ.1))])
          (fun σ => (0 ≤ σ.2) ∧ (σ.2 ≤ n1) ∧ (mendAns l slips = mendR l σ.1 (slips.drop σ.2.toNat)) ∧ (caseB σ.1 = true) ∧ (σ.1.length = l.length)) (fun σ => (n1 - σ.2).toNat) (next, 0) ?_ ?_ ?_ ?_
        · cbv
        · cbv
        · exact ⟨(by (try dsimp only); first | omega | (simp only [List.length_nil]; omega) | (simp only [List.length_cons, List.length_nil]; omega)), (by (try dsimp only); first | omega | (simp only [List.length_nil]; omega) | (simp only [List.length_cons, List.length_nil]; omega)), (by (try dsimp only) <;> (rw [mendAns, h1, h2, hnext]; rfl)), (by (try dsimp only) <;> (rw [hnext]; exact h1)), (by (try dsimp only) <;> (rw [hnext]))⟩
        rintro ⟨next_2, i1⟩ ⟨lo1, hi1, q, cs, ll⟩ E hE F hF
        dsimp only at lo1 hi1 q cs ll
        conv => cbv
        refine r_lss m.sX (fun h3 => ?_) (fun h3 => ?_) <;> conv => cbv
        · refine r_index m.sX (by omega) (by omega) fun v hxA => ?_
          obtain ⟨xA, xB, xC⟩ := v
          conv => cbv
          have hx := hxA
          have mx := get_mem hx
          have dx := drop_cons hx
          have kx := take_snoc hx
          have jx : (i1 + 1).toNat = Int.toNat i1 + 1 := by omega
          have sx := sb _ mx
          try dsimp only at sx
          have md := mendR_drop (l := l) (out := next_2) hx
          try dsimp only at md
          refine r_draw m (by kernel_rfl) ?_
          conv => cbv
          refine r_callFS (PV.int .i64) m.sY (boxAt_ok l xA) trivial fun to_ hto_ => ?_
          conv => cbv
          try dsimp only at hto_
          have tb := findB_lt (c := xA) (l := l)
          try dsimp only at tb
          refine r_callFS (PV.int .i64) m.sY (boxAt_ok l xB) trivial fun from_ hfrom_ => ?_
          conv => cbv
          try dsimp only at hfrom_
          have fb := findB_lt (c := xB) (l := l)
          try dsimp only at fb
          refine r_lss m.sX (fun h4 => ?_) (fun h4 => ?_) <;> conv => cbv
          · refine hF _ _ ?_
            conv => cbv
            exact hQ (.tup [.fr 83 4 [], .bool false]) (Eq.trans (by first | rfl | (simp only [lb, lbI, rows_cons, rows_nil, unnilT, unnil, unnilTI, unnilI]; done) | (simp only [lb, lbI, rows_cons, rows_nil, unnilT, unnil, unnilTI, unnilI]; rfl)) (congrArg ((lb 83 4 cBox)) (show ([], false) = mendAns l slips from by first | (rw [q, md, if_pos (by rw [← hto_]; exact .inl (by assumption))]; done) | (rw [q, md, if_pos (by rw [← hfrom_]; exact .inr (by assumption))]; done) | (rw [q, md, if_neg (by omega), if_neg (by rw [h6]; simp)]; done) | (rw [q, mendR_end (by omega)]; done) | (rw [mendAns, if_neg (by simp [*])]; done))))   -- leaf 1
          · refine r_lss m.sX (fun h5 => ?_) (fun h5 => ?_) <;> conv => cbv
            · refine hF _ _ ?_
              conv => cbv
              exact hQ (.tup [.fr 83 4 [], .bool false]) (Eq.trans (by first | rfl | (simp only [lb, lbI, rows_cons, rows_nil, unnilT, unnil, unnilTI, unnilI]; done) | (simp only [lb, lbI, rows_cons, rows_nil, unnilT, unnil, unnilTI, unnilI]; rfl)) (congrArg ((lb 83 4 cBox)) (show ([], false) = mendAns l slips from by first | (rw [q, md, if_pos (by rw [← hto_]; exact .inl (by assumption))]; done) | (rw [q, md, if_pos (by rw [← hfrom_]; exact .inr (by assumption))]; done) | (rw [q, md, if_neg (by omega), if_neg (by rw [h6]; simp)]; done) | (rw [q, mendR_end (by omega)]; done) | (rw [mendAns, if_neg (by simp [*])]; done))))   -- leaf 2
            · refine r_draw m (by kernel_rfl) ?_
              conv => cbv
              refine r_oindex m.sY (by omega) (by omega) ?_
              conv => cbv
              obtain ⟨⟨x1A, x1B, x1C, x1D⟩, hx1⟩ := get_ex (xs := next_2) (i := Int.toNat from_) (by omega)
              have mx1 := get_mem hx1
              have b1 := okBox_cnt (case_box cs (get_mem hx1))
              try dsimp only at b1
              refine r_oload m.sY hx1 (Nat.le_of_ble_eq_true rfl) ?_
              conv => cbv
              refine r_subf m.sY (by omega) (by omega) fun r1 hr1 => ?_
              conv => cbv
              refine r_oindex m.sY (by omega) (by omega) ?_
              conv => cbv
              obtain ⟨⟨y1A, y1B, y1C, y1D⟩, hy1⟩ := get_ex (xs := next_2) (i := Int.toNat from_) (by omega)
              have ey1 : x1D = y1D := (by have z := Option.some.inj (hx1.symm.trans hy1); simp only [Prod.mk.injEq] at z; exact z.2.2.2)
              refine r_ostore (l := Int.toNat from_) (y1A, y1B, y1C, r1) m.sY hy1 (Nat.le_of_ble_eq_true rfl) rfl fun next_3 hnext_3 => ?_   -- next_3 = next_2.set from_ (y1A, y1B, y1C, r1)
              have lnext_3 : (next_3.length : Int) = next_2.length := by rw [hnext_3]; first | done | (simp; done) | (simp; omega)
              have a1 : next_3 = addC next_2 from_.toNat (-xC) := (by rw [hnext_3, addC_set hy1, hr1, ey1]; rfl)
              conv => cbv
              refine r_draw m (by kernel_rfl) ?_
              conv => cbv
              refine r_oindex m.sY (by omega) (by omega) ?_
              conv => cbv
              obtain ⟨⟨x2A, x2B, x2C, x2D⟩, hx2⟩ := get_ex (xs := next_3) (i := Int.toNat to_) (by omega)
              have mx2 := get_mem hx2
              have b2 := cnt_three (from_.toNat) cs (show next_2[from_.toNat]? = some (x1A, x1B, x1C, x1D) from hx1) a1 (by omega) hx2
              try dsimp only at b2
              refine r_oload m.sY hx2 (Nat.le_of_ble_eq_true rfl) ?_
              conv => cbv
              refine r_addf m.sY (by omega) (by omega) fun r2 hr2 => ?_
              conv => cbv
              refine r_oindex m.sY (by omega) (by omega) ?_
              conv => cbv
              obtain ⟨⟨y2A, y2B, y2C, y2D⟩, hy2⟩ := get_ex (xs := next_3) (i := Int.toNat to_) (by omega)
              have ey2 : x2D = y2D := (by have z := Option.some.inj (hx2.symm.trans hy2); simp only [Prod.mk.injEq] at z; exact z.2.2.2)
              refine r_ostore (l := Int.toNat to_) (y2A, y2B, y2C, r2) m.sY hy2 (Nat.le_of_ble_eq_true rfl) rfl fun next_4 hnext_4 => ?_   -- next_4 = next_3.set to_ (y2A, y2B, y2C, r2)
              have lnext_4 : (next_4.length : Int) = next_3.length := by rw [hnext_4]; first | done | (simp; done) | (simp; omega)
              have a2 : next_4 = moveB l next_2 (xA, xB, xC) := (by rw [hnext_4, moveB, ← hto_, ← hfrom_, ← a1, addC_set hy2, hr2, ey2])
              rw [← hto_, ← hfrom_, ← a2] at md
              conv => cbv
              refine .inl (r_callBO m.sX ((IsCase_ok next_4).ok flat_bool) (fun h6 => ?_) (fun h6 => ?_)) <;> conv => cbv
              · refine r_addf m.sX (by omega) (by omega) fun r3 hr3 => ?_
                conv => cbv
                try have tr3 : Int.toNat r3 = Int.toNat i1 + 1 := by omega
                refine hE _ (next_4, r3) ?_ ?_ ⟨(by (try dsimp only); first | omega | (simp only [List.length_nil]; omega) | (simp only [List.length_cons, List.length_nil]; omega)), (by (try dsimp only); first | omega | (simp only [List.length_nil]; omega) | (simp only [List.length_cons, List.length_nil]; omega)), (by (try dsimp only) <;> (rw [q, md, if_neg (by omega), if_pos (by assumption), tr3])), (by (try dsimp only) <;> first | omega | rfl | (simp [*]; done) | (rw [cs]; simp [*]; done)), (by (try dsimp only) <;> first | omega | rfl | (simp [*]; done) | (rw [ll]; simp [*]; done))⟩ (by first | omega | (dsimp only; omega))
                · cbv
                · cbv
              · refine hF _ _ ?_
                conv => cbv
                exact hQ (.tup [.fr 83 4 [], .bool false]) (Eq.trans (by first | rfl | (simp only [lb, lbI, rows_cons, rows_nil, unnilT, unnil, unnilTI, unnilI]; done) | (simp only [lb, lbI, rows_cons, rows_nil, unnilT, unnil, unnilTI, unnilI]; rfl)) (congrArg ((lb 83 4 cBox)) (show ([], false) = mendAns l slips from by first | (rw [q, md, if_pos (by rw [← hto_]; exact .inl (by assumption))]; done) | (rw [q, md, if_pos (by rw [← hfrom_]; exact .inr (by assumption))]; done) | (rw [q, md, if_neg (by omega), if_neg (by rw [h6]; simp)]; done) | (rw [q, mendR_end (by omega)]; done) | (rw [mendAns, if_neg (by simp [*])]; done))))   -- leaf 3
        · have dz_i1 := drop_end (xs := slips) (i := Int.toNat i1) (by omega)
          have tz_i1 := take_end (xs := slips) (i := Int.toNat i1) (by omega)
          refine hF _ _ ?_
          conv => cbv
          exact hQ (.tup [.fr 83 4 (rows cBox next_2), .bool true]) (Eq.trans (by first | rfl | (simp only [lb, lbI, rows_cons, rows_nil, unnilT, unnil, unnilTI, unnilI]; done) | (simp only [lb, lbI, rows_cons, rows_nil, unnilT, unnil, unnilTI, unnilI]; rfl)) (congrArg ((lb 83 4 cBox)) (show (next_2, true) = mendAns l slips from by first | (rw [q, md, if_pos (by rw [← hto_]; exact .inl (by assumption))]; done) | (rw [q, md, if_pos (by rw [← hfrom_]; exact .inr (by assumption))]; done) | (rw [q, md, if_neg (by omega), if_neg (by rw [h6]; simp)]; done) | (rw [q, mendR_end (by omega)]; done) | (rw [mendAns, if_neg (by simp [*])]; done))))   -- leaf 4
      · exact hQ (.tup [.fr 83 4 [], .bool false]) (Eq.trans (by first | rfl | (simp only [lb, lbI, rows_cons, rows_nil, unnilT, unnil, unnilTI, unnilI]; done) | (simp only [lb, lbI, rows_cons, rows_nil, unnilT, unnil, unnilTI, unnilI]; rfl)) (congrArg ((lb 83 4 cBox)) (show ([], false) = mendAns l slips from by first | (rw [q, md, if_pos (by rw [← hto_]; exact .inl (by assumption))]; done) | (rw [q, md, if_pos (by rw [← hfrom_]; exact .inr (by assumption))]; done) | (rw [q, md, if_neg (by omega), if_neg (by rw [h6]; simp)]; done) | (rw [q, mendR_end (by omega)]; done) | (rw [mendAns, if_neg (by simp [*])]; done))))   -- leaf 5
    · exact hQ (.tup [.fr 83 4 [], .bool false]) (Eq.trans (by first | rfl | (simp only [lb, lbI, rows_cons, rows_nil, unnilT, unnil, unnilTI, unnilI]; done) | (simp only [lb, lbI, rows_cons, rows_nil, unnilT, unnil, unnilTI, unnilI]; rfl)) (congrArg ((lb 83 4 cBox)) (show ([], false) = mendAns l slips from by first | (rw [q, md, if_pos (by rw [← hto_]; exact .inl (by assumption))]; done) | (rw [q, md, if_pos (by rw [← hfrom_]; exact .inr (by assumption))]; done) | (rw [q, md, if_neg (by omega), if_neg (by rw [h6]; simp)]; done) | (rw [q, mendR_end (by omega)]; done) | (rw [mendAns, if_neg (by simp [*])]; done)))))   -- leaf 6

theorem specMendSlips_ok (l : List Box) (slips : List Slip)  : OkA Try.prog 66 [.isl 4 (rows cBox l), .isl 3 (rows cMisput slips)] (· = (lb 83 4 cBox) (mendAns l slips)) :=
  OkA.unnil 83 4 (fn_intro envOk fieldsOk mixed Try.func66 rfl fun κ X Y L Q m hQ => by
    conv => cbv
    refine r_callB m.sX (caGood_ok l) (fun h1 => ?_) (fun h1 => ?_) <;> conv => cbv
    · have cn := case_len h1
      refine r_callB m.sX (diSlips_ok slips) (fun h2 => ?_) (fun h2 => ?_) <;> conv => cbv
      · have sb := slips_mem h2
        refine r_append0R m.sX (by first | omega | (dsimp only; omega)) (by first | omega | (dsimp only; omega)) fun out hout => ?_
        conv => cbv
        have lout : (out.length : Int) = l.length := by rw [hout]; first | done | (simp; done) | (simp; omega)
        refine r_lenR m.sX fun n1 hn1 mn1 => ?_
        conv => cbv
        refine r_loopF (α := List Box × Int) m 67 [22, 23, 24] [⟨6, 49, 83, 4, 0⟩] (fun σ => [(6, .osl 49 0), (22, .isl 3 (rows cMisput slips)), (23, .int .i64 n1), (24, .int .i64 σ.2)]) (fun σ => [(49, 0, .row 83 4 (rows cBox σ.1))])
          (fun σ => (0 ≤ σ.2) ∧ (σ.2 ≤ n1) ∧ (mendAns l slips = mendR l σ.1 (slips.drop σ.2.toNat)) ∧ (caseB σ.1 = true) ∧ (σ.1.length = l.length) ∧ (codesB σ.1 = codesB l)) (fun σ => (n1 - σ.2).toNat) (out, 0) ?_ ?_ ?_ ?_
        · cbv
        · cbv
        · exact ⟨(by (try dsimp only); first | omega | (simp only [List.length_nil]; omega) | (simp only [List.length_cons, List.length_nil]; omega)), (by (try dsimp only); first | omega | (simp only [List.length_nil]; omega) | (simp only [List.length_cons, List.length_nil]; omega)), (by (try dsimp only) <;> (rw [mendAns, h1, h2, hout]; rfl)), (by (try dsimp only) <;> (rw [hout]; exact h1)), (by (try dsimp only) <;> (rw [hout])), (by (try dsimp only) <;> (rw [hout]))⟩
        rintro ⟨out_2, i1⟩ ⟨lo1, hi1, q, cs, ll, co⟩ E hE F hF
        dsimp only at lo1 hi1 q cs ll co
        conv => cbv
        refine r_lss m.sX (fun h3 => ?_) (fun h3 => ?_) <;> conv => cbv
        · refine r_index m.sX (by omega) (by omega) fun v hxA => ?_
          obtain ⟨xA, xB, xC⟩ := v
          conv => cbv
          have hx := hxA
          have mx := get_mem hx
          have dx := drop_cons hx
          have kx := take_snoc hx
          have jx : (i1 + 1).toNat = Int.toNat i1 + 1 := by omega
          have sx := sb _ mx
          try dsimp only at sx
          have md := mendR_drop (l := l) (out := out_2) hx
          try dsimp only at md
          refine r_draw m (by kernel_rfl) ?_
          conv => cbv
          refine .inl (r_callFSO intPV m.sY ((caFind_ok out_2 xB).ok flat_int) trivial fun from_ hfrom_ => ?_)
          conv => cbv
          try dsimp only at hfrom_
          rw [findB_codes out_2 l 0 co] at hfrom_
          have fb := findB_lt (c := xB) (l := l)
          try dsimp only at fb
          refine .inl (r_callFSO intPV m.sY ((caFind_ok out_2 xA).ok flat_int) trivial fun to_ hto_ => ?_)
          conv => cbv
          try dsimp only at hto_
          rw [findB_codes out_2 l 0 co] at hto_
          have tb := findB_lt (c := xA) (l := l)
          try dsimp only at tb
          refine r_lss m.sX (fun h4 => ?_) (fun h4 => ?_) <;> conv => cbv
          · refine hF _ _ ?_
            conv => cbv
            exact hQ (.tup [.nil, .bool false]) (Eq.trans (by first | rfl | (simp only [lb, lbI, rows_cons, rows_nil, unnilT, unnil, unnilTI, unnilI]; done) | (simp only [lb, lbI, rows_cons, rows_nil, unnilT, unnil, unnilTI, unnilI]; rfl)) (congrArg ((lb 83 4 cBox)) (show ([], false) = mendAns l slips from by first | (rw [q, md, if_pos (by rw [← hto_]; exact .inl (by assumption))]; done) | (rw [q, md, if_pos (by rw [← hfrom_]; exact .inr (by assumption))]; done) | (rw [q, md, if_neg (by omega), if_neg (by rw [h6]; simp)]; done) | (rw [q, mendR_end (by omega)]; done) | (rw [mendAns, if_neg (by simp [*])]; done))))   -- leaf 1
          · refine r_lss m.sX (fun h5 => ?_) (fun h5 => ?_) <;> conv => cbv
            · refine hF _ _ ?_
              conv => cbv
              exact hQ (.tup [.nil, .bool false]) (Eq.trans (by first | rfl | (simp only [lb, lbI, rows_cons, rows_nil, unnilT, unnil, unnilTI, unnilI]; done) | (simp only [lb, lbI, rows_cons, rows_nil, unnilT, unnil, unnilTI, unnilI]; rfl)) (congrArg ((lb 83 4 cBox)) (show ([], false) = mendAns l slips from by first | (rw [q, md, if_pos (by rw [← hto_]; exact .inl (by assumption))]; done) | (rw [q, md, if_pos (by rw [← hfrom_]; exact .inr (by assumption))]; done) | (rw [q, md, if_neg (by omega), if_neg (by rw [h6]; simp)]; done) | (rw [q, mendR_end (by omega)]; done) | (rw [mendAns, if_neg (by simp [*])]; done))))   -- leaf 2
            · refine r_draw m (by kernel_rfl) ?_
              conv => cbv
              refine r_oindex m.sY (by omega) (by omega) ?_
              conv => cbv
              obtain ⟨⟨x1A, x1B, x1C, x1D⟩, hx1⟩ := get_ex (xs := out_2) (i := Int.toNat from_) (by omega)
              have mx1 := get_mem hx1
              have b1 := okBox_cnt (case_box cs (get_mem hx1))
              try dsimp only at b1
              refine r_oload m.sY hx1 (Nat.le_of_ble_eq_true rfl) ?_
              conv => cbv
              refine r_subf m.sY (by omega) (by omega) fun r1 hr1 => ?_
              conv => cbv
              refine r_oindex m.sY (by omega) (by omega) ?_
              conv => cbv
              obtain ⟨⟨y1A, y1B, y1C, y1D⟩, hy1⟩ := get_ex (xs := out_2) (i := Int.toNat from_) (by omega)
              have ey1 : x1D = y1D := (by have z := Option.some.inj (hx1.symm.trans hy1); simp only [Prod.mk.injEq] at z; exact z.2.2.2)
              refine r_ostore (l := Int.toNat from_) (y1A, y1B, y1C, r1) m.sY hy1 (Nat.le_of_ble_eq_true rfl) rfl fun out_3 hout_3 => ?_   -- out_3 = out_2.set from_ (y1A, y1B, y1C, r1)
              have lout_3 : (out_3.length : Int) = out_2.length := by rw [hout_3]; first | done | (simp; done) | (simp; omega)
              have a1 : out_3 = addC out_2 from_.toNat (-xC) := (by rw [hout_3, addC_set hy1, hr1, ey1]; rfl)
              conv => cbv
              refine r_draw m (by kernel_rfl) ?_
              conv => cbv
              refine r_oindex m.sY (by omega) (by omega) ?_
              conv => cbv
              obtain ⟨⟨x2A, x2B, x2C, x2D⟩, hx2⟩ := get_ex (xs := out_3) (i := Int.toNat to_) (by omega)
              have mx2 := get_mem hx2
              have b2 := cnt_three (from_.toNat) cs (show out_2[from_.toNat]? = some (x1A, x1B, x1C, x1D) from hx1) a1 (by omega) hx2
              try dsimp only at b2
              refine r_oload m.sY hx2 (Nat.le_of_ble_eq_true rfl) ?_
              conv => cbv
              refine r_addf m.sY (by omega) (by omega) fun r2 hr2 => ?_
              conv => cbv
              refine r_oindex m.sY (by omega) (by omega) ?_
              conv => cbv
              obtain ⟨⟨y2A, y2B, y2C, y2D⟩, hy2⟩ := get_ex (xs := out_3) (i := Int.toNat to_) (by omega)
              have ey2 : x2D = y2D := (by have z := Option.some.inj (hx2.symm.trans hy2); simp only [Prod.mk.injEq] at z; exact z.2.2.2)
              refine r_ostore (l := Int.toNat to_) (y2A, y2B, y2C, r2) m.sY hy2 (Nat.le_of_ble_eq_true rfl) rfl fun out_4 hout_4 => ?_   -- out_4 = out_3.set to_ (y2A, y2B, y2C, r2)
              have lout_4 : (out_4.length : Int) = out_3.length := by rw [hout_4]; first | done | (simp; done) | (simp; omega)
              have a2 : out_4 = moveB l out_2 (xA, xB, xC) := (by rw [hout_4, moveB, ← hto_, ← hfrom_, ← a1, addC_set hy2, hr2, ey2])
              rw [← hto_, ← hfrom_, ← a2] at md
              conv => cbv
              refine .inl (r_callBO m.sX ((caGood_ok out_4).ok flat_bool) (fun h6 => ?_) (fun h6 => ?_)) <;> conv => cbv
              · refine r_addf m.sX (by omega) (by omega) fun r3 hr3 => ?_
                conv => cbv
                try have tr3 : Int.toNat r3 = Int.toNat i1 + 1 := by omega
                refine hE _ (out_4, r3) ?_ ?_ ⟨(by (try dsimp only); first | omega | (simp only [List.length_nil]; omega) | (simp only [List.length_cons, List.length_nil]; omega)), (by (try dsimp only); first | omega | (simp only [List.length_nil]; omega) | (simp only [List.length_cons, List.length_nil]; omega)), (by (try dsimp only) <;> (rw [q, md, if_neg (by omega), if_pos (by assumption), tr3])), (by (try dsimp only) <;> first | omega | rfl | (simp [*]; done) | (rw [cs]; simp [*]; done)), (by (try dsimp only) <;> first | omega | rfl | (simp [*]; done) | (rw [ll]; simp [*]; done)), (by (try dsimp only) <;> (rw [a2, moveB_codes, co]))⟩ (by first | omega | (dsimp only; omega))
                · cbv
                · cbv
              · refine hF _ _ ?_
                conv => cbv
                exact hQ (.tup [.nil, .bool false]) (Eq.trans (by first | rfl | (simp only [lb, lbI, rows_cons, rows_nil, unnilT, unnil, unnilTI, unnilI]; done) | (simp only [lb, lbI, rows_cons, rows_nil, unnilT, unnil, unnilTI, unnilI]; rfl)) (congrArg ((lb 83 4 cBox)) (show ([], false) = mendAns l slips from by first | (rw [q, md, if_pos (by rw [← hto_]; exact .inl (by assumption))]; done) | (rw [q, md, if_pos (by rw [← hfrom_]; exact .inr (by assumption))]; done) | (rw [q, md, if_neg (by omega), if_neg (by rw [h6]; simp)]; done) | (rw [q, mendR_end (by omega)]; done) | (rw [mendAns, if_neg (by simp [*])]; done))))   -- leaf 3
        · have dz_i1 := drop_end (xs := slips) (i := Int.toNat i1) (by omega)
          have tz_i1 := take_end (xs := slips) (i := Int.toNat i1) (by omega)
          refine hF _ _ ?_
          conv => cbv
          exact hQ (.tup [.fr 83 4 (rows cBox out_2), .bool true]) (Eq.trans (by first | rfl | (simp only [lb, lbI, rows_cons, rows_nil, unnilT, unnil, unnilTI, unnilI]; done) | (simp only [lb, lbI, rows_cons, rows_nil, unnilT, unnil, unnilTI, unnilI]; rfl)) (congrArg ((lb 83 4 cBox)) (show (out_2, true) = mendAns l slips from by first | (rw [q, md, if_pos (by rw [← hto_]; exact .inl (by assumption))]; done) | (rw [q, md, if_pos (by rw [← hfrom_]; exact .inr (by assumption))]; done) | (rw [q, md, if_neg (by omega), if_neg (by rw [h6]; simp)]; done) | (rw [q, mendR_end (by omega)]; done) | (rw [mendAns, if_neg (by simp [*])]; done))))   -- leaf 4
      · exact hQ (.tup [.nil, .bool false]) (Eq.trans (by first | rfl | (simp only [lb, lbI, rows_cons, rows_nil, unnilT, unnil, unnilTI, unnilI]; done) | (simp only [lb, lbI, rows_cons, rows_nil, unnilT, unnil, unnilTI, unnilI]; rfl)) (congrArg ((lb 83 4 cBox)) (show ([], false) = mendAns l slips from by first | (rw [q, md, if_pos (by rw [← hto_]; exact .inl (by assumption))]; done) | (rw [q, md, if_pos (by rw [← hfrom_]; exact .inr (by assumption))]; done) | (rw [q, md, if_neg (by omega), if_neg (by rw [h6]; simp)]; done) | (rw [q, mendR_end (by omega)]; done) | (rw [mendAns, if_neg (by simp [*])]; done))))   -- leaf 5
    · exact hQ (.tup [.nil, .bool false]) (Eq.trans (by first | rfl | (simp only [lb, lbI, rows_cons, rows_nil, unnilT, unnil, unnilTI, unnilI]; done) | (simp only [lb, lbI, rows_cons, rows_nil, unnilT, unnil, unnilTI, unnilI]; rfl)) (congrArg ((lb 83 4 cBox)) (show ([], false) = mendAns l slips from by first | (rw [q, md, if_pos (by rw [← hto_]; exact .inl (by assumption))]; done) | (rw [q, md, if_pos (by rw [← hfrom_]; exact .inr (by assumption))]; done) | (rw [q, md, if_neg (by omega), if_neg (by rw [h6]; simp)]; done) | (rw [q, mendR_end (by omega)]; done) | (rw [mendAns, if_neg (by simp [*])]; done)))))   -- leaf 6

end Go.Proofs.Ytmlojdpfpccgoaa.Ai
