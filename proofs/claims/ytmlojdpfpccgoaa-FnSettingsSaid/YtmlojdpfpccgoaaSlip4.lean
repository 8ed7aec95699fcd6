/- Contracts of the functions on settings: how many types, which are lost. mk27b.py turns what pg.py prints (rows of two answers). -/
import Derived.Test.YtmlojdpfpccgoaaLostLaw
namespace Go.Proofs.Ytmlojdpfpccgoaa.Ai
open Go Go.Proofs
set_option linter.unusedSimpArgs false
set_option maxRecDepth 10000
set_option maxHeartbeats 4000000
set_option linter.unusedVariables false
theorem TypesIn_ok (l : List Box)  : OkA Try.prog 73 [.isl 4 (rows cBox l)] (· = ib (typesA l)) :=
  fn_intro envOk fieldsOk mixed Try.func73 rfl fun κ X Y L Q m hQ => by
    conv => cbv
    refine r_callB m.sX (IsCase_ok l) (fun h1 => ?_) (fun h1 => ?_) <;> conv => cbv
    · have cb := cntS_bound h1
      refine r_lenR m.sX fun n1 hn1 mn1 => ?_
      conv => cbv
      refine r_loopF (α := Int × Int) m 22 [4, 10, 11, 12] [] (fun σ => [(4, .int .i64 σ.1), (10, .isl 4 (rows cBox l)), (11, .int .i64 n1), (12, .int .i64 σ.2)]) (fun σ => [])
        (fun σ => (0 ≤ σ.2) ∧ (σ.2 ≤ n1) ∧ (σ.1 = cntS (l.take σ.2.toNat))) (fun σ => (n1 - σ.2).toNat) (0, 0) ?_ ?_ ?_ ?_
      · cbv
      · cbv
      · exact ⟨(by (try dsimp only); first | omega | (simp only [List.length_nil]; omega) | (simp only [List.length_cons, List.length_nil]; omega)), (by (try dsimp only); first | omega | (simp only [List.length_nil]; omega) | (simp only [List.length_cons, List.length_nil]; omega)), (by (try dsimp only) <;> (rfl))⟩
      rintro ⟨n, i1⟩ ⟨lo1, hi1, q⟩ E hE F hF
      dsimp only at lo1 hi1 q
      have b0 := cb i1.toNat
      conv => cbv
      refine r_lss m.sX (fun h2 => ?_) (fun h2 => ?_) <;> conv => cbv
      · refine r_index m.sX (by omega) (by omega) fun v hbA => ?_
        obtain ⟨bA, bB, bC, bD⟩ := v
        conv => cbv
        have hb := hbA
        have mb := get_mem hb
        have db := drop_cons hb
        have kb := take_snoc hb
        have jb : (i1 + 1).toNat = Int.toNat i1 + 1 := by omega
        have b1 := cb (i1.toNat + 1)
        try dsimp only at b1
        rw [cntS_take hb] at b1
        dsimp only at b1
        refine r_addf m.sX (by omega) (by omega) fun n_2 hn_2 => ?_
        conv => cbv
        refine r_addf m.sX (by omega) (by omega) fun r1 hr1 => ?_
        conv => cbv
        try have tr1 : Int.toNat r1 = Int.toNat i1 + 1 := by omega
        refine hE _ (n_2, r1) ?_ ?_ ⟨(by (try dsimp only); first | omega | (simp only [List.length_nil]; omega) | (simp only [List.length_cons, List.length_nil]; omega)), (by (try dsimp only); first | omega | (simp only [List.length_nil]; omega) | (simp only [List.length_cons, List.length_nil]; omega)), (by (try dsimp only) <;> (rw [tr1, cntS_take hb]; dsimp only; omega))⟩ (by first | omega | (dsimp only; omega))
        · cbv
        · cbv
      · have dz_i1 := drop_end (xs := l) (i := Int.toNat i1) (by omega)
        have tz_i1 := take_end (xs := l) (i := Int.toNat i1) (by omega)
        refine hF _ _ ?_
        conv => cbv
        exact hQ (.tup [.int .i64 n, .bool true]) (Eq.trans (by first | rfl | (simp only [lb, lbI, rows_cons, rows_nil, unnilT, unnil, unnilTI, unnilI]; done) | (simp only [lb, lbI, rows_cons, rows_nil, unnilT, unnil, unnilTI, unnilI]; rfl)) (congrArg (ib) (show (n, true) = typesA l from by rw [typesA, if_pos h1, q, tz_i1])))   -- leaf 1
    · exact hQ (.tup [.int .i64 0, .bool false]) (Eq.trans (by first | rfl | (simp only [lb, lbI, rows_cons, rows_nil, unnilT, unnil, unnilTI, unnilI]; done) | (simp only [lb, lbI, rows_cons, rows_nil, unnilT, unnil, unnilTI, unnilI]; rfl)) (congrArg (ib) (show (0, false) = typesA l from by rw [typesA, if_neg (by rw [h1]; simp)])))   -- leaf 2

-- lacks spec.TypesIn
theorem areCodes_ok (l : List Box) (codes : List (List UInt8))  : OkA Try.prog 115 [.isl 4 (rows cBox l), .isl 1 (rows cStr codes)] (· = .bool (askedC l codes)) :=
  fn_intro envOk fieldsOk mixed Try.func115 rfl fun κ X Y L Q m hQ => by
    conv => cbv
    refine r_lenR m.sX fun n1 hn1 mn1 => ?_
    conv => cbv
    refine r_loopF (α := Int) m 25 [0, 1, 7, 8, 9] [] (fun σ => [(0, .isl 4 (rows cBox l)), (1, .isl 1 (rows cStr codes)), (7, .isl 1 (rows cStr codes)), (8, .int .i64 n1), (9, .int .i64 σ)]) (fun σ => [])
      (fun σ => (0 ≤ σ) ∧ (σ ≤ n1) ∧ (codes.all (fun c => decide (0 ≤ findB c l 0)) = (codes.drop σ.toNat).all fun c => decide (0 ≤ findB c l 0))) (fun σ => (n1 - σ).toNat) 0 ?_ ?_ ?_ ?_
    · cbv
    · cbv
    · exact ⟨(by (try dsimp only); first | omega | (simp only [List.length_nil]; omega) | (simp only [List.length_cons, List.length_nil]; omega)), (by (try dsimp only); first | omega | (simp only [List.length_nil]; omega) | (simp only [List.length_cons, List.length_nil]; omega)), (by (try dsimp only) <;> (rfl))⟩
    rintro i1 ⟨lo1, hi1, q⟩ E hE F hF
    conv => cbv
    refine r_lss m.sX (fun h1 => ?_) (fun h1 => ?_) <;> conv => cbv
    · refine r_index m.sX (by omega) (by omega) fun c hc => ?_
      conv => cbv
      have mc := get_mem hc
      have dc := drop_cons hc
      have kc := take_snoc hc
      have jc : (i1 + 1).toNat = Int.toNat i1 + 1 := by omega
      have ad := asked_drop (l := l) hc
      refine r_callF (PV.int .i64) m.sX (boxAt_ok l c) fun r1 hr1 => ?_
      conv => cbv
      refine r_lss m.sX (fun h2 => ?_) (fun h2 => ?_) <;> conv => cbv
      · refine hF _ _ ?_
        conv => cbv
        exact hQ _ (congrArg PV.bool (by rw [askedC, q, ad, decide_eq_false (by omega)]; rfl))   -- leaf 1
      · refine r_addf m.sX (by omega) (by omega) fun r2 hr2 => ?_
        conv => cbv
        try have tr2 : Int.toNat r2 = Int.toNat i1 + 1 := by omega
        refine hE _ r2 ?_ ?_ ⟨(by (try dsimp only); first | omega | (simp only [List.length_nil]; omega) | (simp only [List.length_cons, List.length_nil]; omega)), (by (try dsimp only); first | omega | (simp only [List.length_nil]; omega) | (simp only [List.length_cons, List.length_nil]; omega)), (by (try dsimp only) <;> (rw [q, ad, decide_eq_true (by omega), Bool.true_and, tr2]))⟩ (by first | omega | (dsimp only; omega))
        · cbv
        · cbv
    · have dz_i1 := drop_end (xs := codes) (i := Int.toNat i1) (by omega)
      have tz_i1 := take_end (xs := codes) (i := Int.toNat i1) (by omega)
      refine hF _ _ ?_
      conv => cbv
      refine r_callB m.sX (IsCase_ok l) (fun h3 => ?_) (fun h3 => ?_) <;> conv => cbv
      · refine r_lenR m.sX fun n2 hn2 mn2 => ?_
        conv => cbv
        refine r_leq m.sX (fun h4 => ?_) (fun h4 => ?_) <;> conv => cbv
        · exact hQ _ (congrArg PV.bool (by rw [askedC, q, dz_i1, h3, decide_eq_true (by omega)]; rfl))   -- leaf 2
        · exact hQ _ (congrArg PV.bool (by rw [askedC, q, dz_i1, h3, decide_eq_false (by omega)]; rfl))   -- leaf 3
      · exact hQ _ (congrArg PV.bool (by rw [askedC, h3]; simp))   -- leaf 4

theorem caAsked_ok (l : List Box) (codes : List (List UInt8))  : OkA Try.prog 150 [.isl 4 (rows cBox l), .isl 1 (rows cStr codes)] (· = .bool (askedC l codes)) :=
  fn_intro envOk fieldsOk mixed Try.func150 rfl fun κ X Y L Q m hQ => by
    conv => cbv
    refine r_lenR m.sX fun n1 hn1 mn1 => ?_
    conv => cbv
    refine r_loopF (α := Int) m 25 [0, 1, 7, 8, 9] [] (fun σ => [(0, .isl 4 (rows cBox l)), (1, .isl 1 (rows cStr codes)), (7, .isl 1 (rows cStr codes)), (8, .int .i64 n1), (9, .int .i64 σ)]) (fun σ => [])
      (fun σ => (0 ≤ σ) ∧ (σ ≤ n1) ∧ (codes.all (fun c => decide (0 ≤ findB c l 0)) = (codes.drop σ.toNat).all fun c => decide (0 ≤ findB c l 0))) (fun σ => (n1 - σ).toNat) 0 ?_ ?_ ?_ ?_
    · cbv
    · cbv
    · exact ⟨(by (try dsimp only); first | omega | (simp only [List.length_nil]; omega) | (simp only [List.length_cons, List.length_nil]; omega)), (by (try dsimp only); first | omega | (simp only [List.length_nil]; omega) | (simp only [List.length_cons, List.length_nil]; omega)), (by (try dsimp only) <;> (rfl))⟩
    rintro i1 ⟨lo1, hi1, q⟩ E hE F hF
    conv => cbv
    refine r_lss m.sX (fun h1 => ?_) (fun h1 => ?_) <;> conv => cbv
    · refine r_index m.sX (by omega) (by omega) fun s_ hs_ => ?_
      conv => cbv
      have ms_ := get_mem hs_
      have ds_ := drop_cons hs_
      have ks_ := take_snoc hs_
      have js_ : (i1 + 1).toNat = Int.toNat i1 + 1 := by omega
      have ad := asked_drop (l := l) hs_
      refine r_callF (PV.int .i64) m.sX (caFind_ok l s_) fun r1 hr1 => ?_
      conv => cbv
      refine r_lss m.sX (fun h2 => ?_) (fun h2 => ?_) <;> conv => cbv
      · refine hF _ _ ?_
        conv => cbv
        exact hQ _ (congrArg PV.bool (by rw [askedC, q, ad, decide_eq_false (by omega)]; rfl))   -- leaf 1
      · refine r_addf m.sX (by omega) (by omega) fun r2 hr2 => ?_
        conv => cbv
        try have tr2 : Int.toNat r2 = Int.toNat i1 + 1 := by omega
        refine hE _ r2 ?_ ?_ ⟨(by (try dsimp only); first | omega | (simp only [List.length_nil]; omega) | (simp only [List.length_cons, List.length_nil]; omega)), (by (try dsimp only); first | omega | (simp only [List.length_nil]; omega) | (simp only [List.length_cons, List.length_nil]; omega)), (by (try dsimp only) <;> (rw [q, ad, decide_eq_true (by omega), Bool.true_and, tr2]))⟩ (by first | omega | (dsimp only; omega))
        · cbv
        · cbv
    · have dz_i1 := drop_end (xs := codes) (i := Int.toNat i1) (by omega)
      have tz_i1 := take_end (xs := codes) (i := Int.toNat i1) (by omega)
      refine hF _ _ ?_
      conv => cbv
      refine r_callB m.sX (caGood_ok l) (fun h3 => ?_) (fun h3 => ?_) <;> conv => cbv
      · refine r_lenR m.sX fun n2 hn2 mn2 => ?_
        conv => cbv
        refine r_leq m.sX (fun h4 => ?_) (fun h4 => ?_) <;> conv => cbv
        · exact hQ _ (congrArg PV.bool (by rw [askedC, q, dz_i1, h3, decide_eq_true (by omega)]; rfl))   -- leaf 2
        · exact hQ _ (congrArg PV.bool (by rw [askedC, q, dz_i1, h3, decide_eq_false (by omega)]; rfl))   -- leaf 3
      · exact hQ _ (congrArg PV.bool (by rw [askedC, h3]; simp))   -- leaf 4

theorem IsSetting_ok (s_ : Sett)  : OkA Try.prog 45 [.agg (cSetting s_)] (· = .bool (askedC s_.1 s_.2)) := by
  obtain ⟨s_A, s_B⟩ := s_
  try dsimp only at *
  exact fn_intro envOk fieldsOk mixed Try.func45 rfl fun κ X Y L Q m hQ => by
    conv => cbv
    refine r_callB m.sX (areCodes_ok s_A s_B) (fun h1 => ?_) (fun h1 => ?_) <;> conv => cbv
    · exact hQ _ (congrArg PV.bool (by exact h1.symm))   -- leaf 1
    · exact hQ _ (congrArg PV.bool (by exact h1.symm))   -- leaf 2

theorem diGood_ok (s_ : Sett)  : OkA Try.prog 111 [.agg (cSetting s_)] (· = .bool (askedC s_.1 s_.2)) := by
  obtain ⟨s_A, s_B⟩ := s_
  try dsimp only at *
  exact fn_intro envOk fieldsOk mixed Try.func111 rfl fun κ X Y L Q m hQ => by
    conv => cbv
    refine r_callB m.sX (caAsked_ok s_A s_B) (fun h1 => ?_) (fun h1 => ?_) <;> conv => cbv
    · exact hQ _ (congrArg PV.bool (by exact h1.symm))   -- leaf 1
    · exact hQ _ (congrArg PV.bool (by exact h1.symm))   -- leaf 2

theorem LostTypes_ok (before : List Box) (after : Sett)  : OkA Try.prog 51 [.isl 4 (rows cBox before), .agg (cSetting after)] (· = llbI (lostA before after)) := by
  obtain ⟨afterA, afterB⟩ := after
  try dsimp only at *
  exact OkA.ice2 (fn_intro envOk fieldsOk mixed Try.func51 rfl fun κ X Y L Q m hQ => by
    conv => cbv
    refine r_callB m.sX (IsSetting_ok (afterA, afterB)) (fun h1 => ?_) (fun h1 => ?_) <;> conv => cbv
    · obtain ⟨ak1, ak2, ak3⟩ := askedC_spec h1
      dsimp only at ak2 ak3
      refine r_callB m.sX (areAlike_ok before afterA) (fun h2 => ?_) (fun h2 => ?_) <;> conv => cbv
      · obtain ⟨ca, cb, cc, cl⟩ := alikeB_spec h2
        have cln := case_len ca
        try dsimp only at cln
        refine r_lenR m.sX fun n1 hn1 mn1 => ?_
        conv => cbv
        refine r_loopF (α := List (List UInt8) × List Int × Int) m 72 [28, 29, 30] [⟨3, 25, 0, 0, 0⟩, ⟨7, 57, 9, 1, 0⟩, ⟨8, 65, 3, 1, 0⟩] (fun σ => [(3, .optr 25 0 2 0 0), (7, .osl 57 0), (8, .osl 65 0), (28, .isl 4 (rows cBox before)), (29, .int .i64 n1), (30, .int .i64 σ.2.2)]) (fun σ => [(25, 0, .box [.isl 4 (rows cBox afterA), .isl 1 (rows cStr afterB)]), (57, 0, .row 9 1 (rows cStr σ.1)), (65, 0, .row 3 1 (rows cInt σ.2.1))])
          (fun σ => (0 ≤ σ.2.2) ∧ (σ.2.2 ≤ n1) ∧ (σ.1 = (lostT before afterA afterB σ.2.2.toNat).map Prod.fst) ∧ (σ.2.1 = (lostT before afterA afterB σ.2.2.toNat).map Prod.snd) ∧ ((σ.1.length : Int) ≤ σ.2.2) ∧ ((σ.2.1.length : Int) ≤ σ.2.2)) (fun σ => (n1 - σ.2.2).toNat) ([], [], 0) ?_ ?_ ?_ ?_
        · cbv
        · (try dsimp only); (try simp only [rows_cons, rows_nil]); cbv
        · exact ⟨(by (try dsimp only); first | omega | (simp only [List.length_nil]; omega) | (simp only [List.length_cons, List.length_nil]; omega)), (by (try dsimp only); first | omega | (simp only [List.length_nil]; omega) | (simp only [List.length_cons, List.length_nil]; omega)), (by (try dsimp only) <;> (rfl)), (by (try dsimp only) <;> (rfl)), (by (try dsimp only) <;> first | omega | rfl | (simp [*]; done)), (by (try dsimp only) <;> first | omega | rfl | (simp [*]; done))⟩
        rintro ⟨codes, counts, i1⟩ ⟨lo1, hi1, q, q3, ll, lk⟩ E hE F hF
        dsimp only at lo1 hi1 q q3 ll lk
        conv => cbv
        refine r_lss m.sX (fun h3 => ?_) (fun h3 => ?_) <;> conv => cbv
        · refine r_index m.sX (by omega) (by omega) fun v hxA => ?_
          obtain ⟨xA, xB, xC, xD⟩ := v
          conv => cbv
          have hx := hxA
          have mx := get_mem hx
          have dx := drop_cons hx
          have kx := take_snoc hx
          have jx : (i1 + 1).toNat = Int.toNat i1 + 1 := by omega
          have bx := okBox_cnt (case_box ca mx)
          try dsimp only at bx
          refine r_draw m (by kernel_rfl) ?_
          conv => cbv
          refine r_index m.sY (by omega) (by omega) fun v hx1A => ?_
          obtain ⟨x1A, x1B, x1C, x1D⟩ := v
          conv => cbv
          have hx1 := hx1A
          have mx1 := get_mem hx1
          have dx1 := drop_cons hx1
          have kx1 := take_snoc hx1
          have jx1 : (i1 + 1).toNat = Int.toNat i1 + 1 := by omega
          have bx1 := okBox_cnt (case_box cb mx1)
          try dsimp only at bx1
          refine r_subf m.sY (by omega) (by omega) fun missing hmissing => ?_
          conv => cbv
          refine r_lenR m.sX fun n2 hn2 mn2 => ?_
          conv => cbv
          refine r_loopF (α := Int × Int) m 72 [11, 28, 29, 30, 45, 46, 47] [⟨3, 25, 0, 0, 0⟩, ⟨7, 57, 9, 1, 0⟩, ⟨8, 65, 3, 1, 0⟩, ⟨10, 81, 0, 0, 0⟩] (fun σ => [(3, .optr 25 0 2 0 0), (7, .osl 57 0), (8, .osl 65 0), (10, .optr 81 0 4 0 0), (11, .int .i64 σ.1), (28, .isl 4 (rows cBox before)), (29, .int .i64 n1), (30, .int .i64 i1), (45, .isl 1 (rows cStr afterB)), (46, .int .i64 n2), (47, .int .i64 σ.2)]) (fun σ => [(25, 0, .box [.isl 4 (rows cBox afterA), .isl 1 (rows cStr afterB)]), (57, 0, .row 9 1 (rows cStr codes)), (65, 0, .row 3 1 (rows cInt counts)), (81, 0, .box [.str xA, .int .i64 xB, .int .i64 xC, .int .i64 xD])])
            (fun σ => (0 ≤ σ.2) ∧ (σ.2 ≤ n2) ∧ (σ.1 = missing - cntX xA (afterB.take σ.2.toNat))) (fun σ => (n2 - σ.2).toNat) (missing, 0) ?_ ?_ ?_ ?_
          · cbv
          · cbv
          · exact ⟨(by (try dsimp only); first | omega | (simp only [List.length_nil]; omega) | (simp only [List.length_cons, List.length_nil]; omega)), (by (try dsimp only); first | omega | (simp only [List.length_nil]; omega) | (simp only [List.length_cons, List.length_nil]; omega)), (by (try dsimp only) <;> (simp [cntX]))⟩
          rintro ⟨missing_2, i2⟩ ⟨lo2, hi2, q2⟩ E2 hE2 F2 hF2
          dsimp only at lo2 hi2 q2
          conv => cbv
          refine r_lss m.sX (fun h4 => ?_) (fun h4 => ?_) <;> conv => cbv
          · refine r_index m.sX (by omega) (by omega) fun c hc => ?_
            conv => cbv
            have mc := get_mem hc
            have dc := drop_cons hc
            have kc := take_snoc hc
            have jc : (i2 + 1).toNat = Int.toNat i2 + 1 := by omega
            have ct := cntX_take (c := xA) hc
            try dsimp only at ct
            have cd := cntX_bdT xA afterB i2.toNat
            try dsimp only at cd
            refine r_seql m.sX (fun h5 => ?_) (fun h5 => ?_) <;> conv => cbv
            · refine r_subf m.sX (by omega) (by omega) fun missing_3 hmissing_3 => ?_
              conv => cbv
              refine r_addf m.sX (by omega) (by omega) fun r1 hr1 => ?_
              conv => cbv
              try have tr1 : Int.toNat r1 = Int.toNat i2 + 1 := by omega
              refine hE2 _ (missing_3, r1) ?_ ?_ ⟨(by (try dsimp only); first | omega | (simp only [List.length_nil]; omega) | (simp only [List.length_cons, List.length_nil]; omega)), (by (try dsimp only); first | omega | (simp only [List.length_nil]; omega) | (simp only [List.length_cons, List.length_nil]; omega)), (by (try dsimp only) <;> (first | (rw [tr1, ct, if_pos (by assumption)]; omega) | (rw [tr1, ct, if_neg (by assumption)]; omega)))⟩ (by first | omega | (dsimp only; omega))
              · cbv
              · cbv
            · refine r_addf m.sX (by omega) (by omega) fun r2 hr2 => ?_
              conv => cbv
              try have tr2 : Int.toNat r2 = Int.toNat i2 + 1 := by omega
              refine hE2 _ (missing_2, r2) ?_ ?_ ⟨(by (try dsimp only); first | omega | (simp only [List.length_nil]; omega) | (simp only [List.length_cons, List.length_nil]; omega)), (by (try dsimp only); first | omega | (simp only [List.length_nil]; omega) | (simp only [List.length_cons, List.length_nil]; omega)), (by (try dsimp only) <;> (first | (rw [tr2, ct, if_pos (by assumption)]; omega) | (rw [tr2, ct, if_neg (by assumption)]; omega)))⟩ (by first | omega | (dsimp only; omega))
              · cbv
              · cbv
          · have dz_i2 := drop_end (xs := afterB) (i := Int.toNat i2) (by omega)
            have tz_i2 := take_end (xs := afterB) (i := Int.toNat i2) (by omega)
            refine hF2 _ _ ?_
            conv => cbv
            refine r_gtr m.sX (fun h6 => ?_) (fun h6 => ?_) <;> conv => cbv
            · have le : missing_2 = xD - x1D - cntX xA afterB := (by rw [q2, hmissing, tz_i2])
              refine r_append1 (xA) m.sX rfl (by first | omega | (dsimp only; omega)) (by first | omega | (dsimp only; omega)) fun codes_2 hcodes_2 => ?_
              conv => cbv
              have lcodes_2 : (codes_2.length : Int) = codes.length + 1 := by rw [hcodes_2]; first | done | (simp; done) | (simp; omega)
              refine r_append1 (missing_2) m.sX rfl (by first | omega | (dsimp only; omega)) (by first | omega | (dsimp only; omega)) fun counts_2 hcounts_2 => ?_
              conv => cbv
              have lcounts_2 : (counts_2.length : Int) = counts.length + 1 := by rw [hcounts_2]; first | done | (simp; done) | (simp; omega)
              refine r_addf m.sX (by omega) (by omega) fun r3 hr3 => ?_
              conv => cbv
              try have tr3 : Int.toNat r3 = Int.toNat i1 + 1 := by omega
              refine hE _ (codes_2, counts_2, r3) ?_ ?_ ⟨(by (try dsimp only); first | omega | (simp only [List.length_nil]; omega) | (simp only [List.length_cons, List.length_nil]; omega)), (by (try dsimp only); first | omega | (simp only [List.length_nil]; omega) | (simp only [List.length_cons, List.length_nil]; omega)), (by (try dsimp only) <;> (first | (rw [tr3, lostT_step hx hx1, lost_yes le (by omega), List.map_append, ← q, hcodes_2]; rfl) | (rw [tr3, lostT_step hx hx1, lost_no le (by omega), List.append_nil]; exact q))), (by (try dsimp only) <;> (first | (rw [tr3, lostT_step hx hx1, lost_yes le (by omega), List.map_append, ← q3, hcounts_2]; rfl) | (rw [tr3, lostT_step hx hx1, lost_no le (by omega), List.append_nil]; exact q3))), (by (try dsimp only) <;> first | omega | rfl | (simp [*]; done) | (rw [ll]; simp [*]; done)), (by (try dsimp only) <;> first | omega | rfl | (simp [*]; done) | (rw [lk]; simp [*]; done))⟩ (by first | omega | (dsimp only; omega))
              · cbv
              · cbv
            · have le : missing_2 = xD - x1D - cntX xA afterB := (by rw [q2, hmissing, tz_i2])
              refine r_addf m.sX (by omega) (by omega) fun r4 hr4 => ?_
              conv => cbv
              try have tr4 : Int.toNat r4 = Int.toNat i1 + 1 := by omega
              refine hE _ (codes, counts, r4) ?_ ?_ ⟨(by (try dsimp only); first | omega | (simp only [List.length_nil]; omega) | (simp only [List.length_cons, List.length_nil]; omega)), (by (try dsimp only); first | omega | (simp only [List.length_nil]; omega) | (simp only [List.length_cons, List.length_nil]; omega)), (by (try dsimp only) <;> (first | (rw [tr4, lostT_step hx hx1, lost_yes le (by omega), List.map_append, ← q, hcodes_2]; rfl) | (rw [tr4, lostT_step hx hx1, lost_no le (by omega), List.append_nil]; exact q))), (by (try dsimp only) <;> (first | (rw [tr4, lostT_step hx hx1, lost_yes le (by omega), List.map_append, ← q3, hcounts_2]; rfl) | (rw [tr4, lostT_step hx hx1, lost_no le (by omega), List.append_nil]; exact q3))), (by (try dsimp only) <;> first | omega | rfl | (simp [*]; done) | (rw [ll]; simp [*]; done)), (by (try dsimp only) <;> first | omega | rfl | (simp [*]; done) | (rw [lk]; simp [*]; done))⟩ (by first | omega | (dsimp only; omega))
              · cbv
              · cbv
        · have dz_i1 := drop_end (xs := before) (i := Int.toNat i1) (by omega)
          have tz_i1 := take_end (xs := before) (i := Int.toNat i1) (by omega)
          refine hF _ _ ?_
          conv => cbv
          exact hQ (.tup [.fr 9 1 (rows cStr codes), .fr 3 1 (rows cInt counts), .bool true]) (Eq.trans (by first | rfl | (simp only [llbI, Ai.ice, Ai.unnil2, List.map_cons, List.map_nil, Ai.ice1, unnilI, rows_nil]; done) | (simp only [lb, lbI, rows_cons, rows_nil, unnilT, unnil, unnilTI, unnilI]; done) | (simp only [lb, lbI, rows_cons, rows_nil, unnilT, unnil, unnilTI, unnilI]; rfl)) (congrArg (llbI) (show (codes, counts, true) = lostA before (afterA, afterB) from by rw [lostA, h1, h2, q, q3, show i1.toNat = before.length by omega]; rfl)))   -- leaf 1
      · exact hQ (.tup [.fr 9 1 [], .fr 3 1 [], .bool false]) (Eq.trans (by first | rfl | (simp only [llbI, Ai.ice, Ai.unnil2, List.map_cons, List.map_nil, Ai.ice1, unnilI, rows_nil]; done) | (simp only [lb, lbI, rows_cons, rows_nil, unnilT, unnil, unnilTI, unnilI]; done) | (simp only [lb, lbI, rows_cons, rows_nil, unnilT, unnil, unnilTI, unnilI]; rfl)) (congrArg (llbI) (show ([], [], false) = lostA before (afterA, afterB) from by rw [lostA, h1, h2]; rfl)))   -- leaf 2
    · exact hQ (.tup [.fr 9 1 [], .fr 3 1 [], .bool false]) (Eq.trans (by first | rfl | (simp only [llbI, Ai.ice, Ai.unnil2, List.map_cons, List.map_nil, Ai.ice1, unnilI, rows_nil]; done) | (simp only [lb, lbI, rows_cons, rows_nil, unnilT, unnil, unnilTI, unnilI]; done) | (simp only [lb, lbI, rows_cons, rows_nil, unnilT, unnil, unnilTI, unnilI]; rfl)) (congrArg (llbI) (show ([], [], false) = lostA before (afterA, afterB) from by rw [lostA, h1]; rfl))))   -- leaf 3

theorem specLostTypes_ok (before : List Box) (after : Sett)  : OkA Try.prog 71 [.isl 4 (rows cBox before), .agg (cSetting after)] (· = llbI (lostA before after)) := by
  obtain ⟨afterA, afterB⟩ := after
  try dsimp only at *
  exact OkA.ice2 (fn_intro envOk fieldsOk mixed Try.func71 rfl fun κ X Y L Q m hQ => by
    conv => cbv
    refine r_callB m.sX (caGood_ok before) (fun h1 => ?_) (fun h1 => ?_) <;> conv => cbv
    · refine r_callB m.sX (diGood_ok (afterA, afterB)) (fun h2 => ?_) (fun h2 => ?_) <;> conv => cbv
      · obtain ⟨ak1, ak2, ak3⟩ := askedC_spec h2
        dsimp only at ak2 ak3
        have cln := case_len h1
        try dsimp only at cln
        refine r_callB m.sX (diAlike_ok before afterA (by first | rfl | assumption | omega | (simp only [List.length_append, List.length_cons, List.length_nil] at *; omega))) (fun h3 => ?_) (fun h3 => ?_) <;> conv => cbv
        · have cc : codesB before = codesB afterA := of_decide_eq_true h3
          have cl : before.length = afterA.length := (by have := congrArg List.length cc; simpa [codesB] using this)
          have al : alikeB before afterA = true := (by unfold alikeB; rw [h1, ak2, decide_eq_true cc]; rfl)
          refine r_lenR m.sX fun n1 hn1 mn1 => ?_
          conv => cbv
          refine r_loopF (α := List (List UInt8) × List Int × Int) m 73 [29, 30, 31] [⟨3, 25, 0, 0, 0⟩, ⟨7, 57, 9, 1, 0⟩, ⟨8, 65, 3, 1, 0⟩] (fun σ => [(3, .optr 25 0 2 0 0), (7, .osl 57 0), (8, .osl 65 0), (29, .isl 4 (rows cBox before)), (30, .int .i64 n1), (31, .int .i64 σ.2.2)]) (fun σ => [(25, 0, .box [.isl 4 (rows cBox afterA), .isl 1 (rows cStr afterB)]), (57, 0, .row 9 1 (rows cStr σ.1)), (65, 0, .row 3 1 (rows cInt σ.2.1))])
            (fun σ => (0 ≤ σ.2.2) ∧ (σ.2.2 ≤ n1) ∧ (σ.1 = (lostT before afterA afterB σ.2.2.toNat).map Prod.fst) ∧ (σ.2.1 = (lostT before afterA afterB σ.2.2.toNat).map Prod.snd) ∧ ((σ.1.length : Int) ≤ σ.2.2) ∧ ((σ.2.1.length : Int) ≤ σ.2.2)) (fun σ => (n1 - σ.2.2).toNat) ([], [], 0) ?_ ?_ ?_ ?_
          · cbv
          · (try dsimp only); (try simp only [rows_cons, rows_nil]); cbv
          · exact ⟨(by (try dsimp only); first | omega | (simp only [List.length_nil]; omega) | (simp only [List.length_cons, List.length_nil]; omega)), (by (try dsimp only); first | omega | (simp only [List.length_nil]; omega) | (simp only [List.length_cons, List.length_nil]; omega)), (by (try dsimp only) <;> (rfl)), (by (try dsimp only) <;> (rfl)), (by (try dsimp only) <;> first | omega | rfl | (simp [*]; done)), (by (try dsimp only) <;> first | omega | rfl | (simp [*]; done))⟩
          rintro ⟨codes, missing, i1⟩ ⟨lo1, hi1, q, q3, ll, lk⟩ E hE F hF
          dsimp only at lo1 hi1 q q3 ll lk
          conv => cbv
          refine r_lss m.sX (fun h4 => ?_) (fun h4 => ?_) <;> conv => cbv
          · refine r_index m.sX (by omega) (by omega) fun v hbA => ?_
            obtain ⟨bA, bB, bC, bD⟩ := v
            conv => cbv
            have hb := hbA
            have mb := get_mem hb
            have db := drop_cons hb
            have kb := take_snoc hb
            have jb : (i1 + 1).toNat = Int.toNat i1 + 1 := by omega
            have bx := okBox_cnt (case_box h1 mb)
            try dsimp only at bx
            refine r_draw m (by kernel_rfl) ?_
            conv => cbv
            refine r_index m.sY (by omega) (by omega) fun v hx1A => ?_
            obtain ⟨x1A, x1B, x1C, x1D⟩ := v
            conv => cbv
            have hx1 := hx1A
            have mx1 := get_mem hx1
            have dx1 := drop_cons hx1
            have kx1 := take_snoc hx1
            have jx1 : (i1 + 1).toNat = Int.toNat i1 + 1 := by omega
            have bx1 := okBox_cnt (case_box ak2 mx1)
            try dsimp only at bx1
            refine r_subf m.sY (by omega) (by omega) fun n hn => ?_
            conv => cbv
            refine r_lenR m.sX fun n2 hn2 mn2 => ?_
            conv => cbv
            refine r_loopF (α := Int × Int) m 73 [11, 29, 30, 31, 46, 47, 48] [⟨3, 25, 0, 0, 0⟩, ⟨7, 57, 9, 1, 0⟩, ⟨8, 65, 3, 1, 0⟩, ⟨10, 81, 0, 0, 0⟩] (fun σ => [(3, .optr 25 0 2 0 0), (7, .osl 57 0), (8, .osl 65 0), (10, .optr 81 0 4 0 0), (11, .int .i64 σ.1), (29, .isl 4 (rows cBox before)), (30, .int .i64 n1), (31, .int .i64 i1), (46, .isl 1 (rows cStr afterB)), (47, .int .i64 n2), (48, .int .i64 σ.2)]) (fun σ => [(25, 0, .box [.isl 4 (rows cBox afterA), .isl 1 (rows cStr afterB)]), (57, 0, .row 9 1 (rows cStr codes)), (65, 0, .row 3 1 (rows cInt missing)), (81, 0, .box [.str bA, .int .i64 bB, .int .i64 bC, .int .i64 bD])])
              (fun σ => (0 ≤ σ.2) ∧ (σ.2 ≤ n2) ∧ (σ.1 = n - cntX bA (afterB.take σ.2.toNat))) (fun σ => (n2 - σ.2).toNat) (n, 0) ?_ ?_ ?_ ?_
            · cbv
            · cbv
            · exact ⟨(by (try dsimp only); first | omega | (simp only [List.length_nil]; omega) | (simp only [List.length_cons, List.length_nil]; omega)), (by (try dsimp only); first | omega | (simp only [List.length_nil]; omega) | (simp only [List.length_cons, List.length_nil]; omega)), (by (try dsimp only) <;> (simp [cntX]))⟩
            rintro ⟨n_2, i2⟩ ⟨lo2, hi2, q2⟩ E2 hE2 F2 hF2
            dsimp only at lo2 hi2 q2
            conv => cbv
            refine r_lss m.sX (fun h5 => ?_) (fun h5 => ?_) <;> conv => cbv
            · refine r_index m.sX (by omega) (by omega) fun s_ hs_ => ?_
              conv => cbv
              have ms_ := get_mem hs_
              have ds_ := drop_cons hs_
              have ks_ := take_snoc hs_
              have js_ : (i2 + 1).toNat = Int.toNat i2 + 1 := by omega
              have ct := cntX_take (c := bA) hs_
              try dsimp only at ct
              have cd := cntX_bdT bA afterB i2.toNat
              try dsimp only at cd
              refine r_seql m.sX (fun h6 => ?_) (fun h6 => ?_) <;> conv => cbv
              · refine r_subf m.sX (by omega) (by omega) fun n_3 hn_3 => ?_
                conv => cbv
                refine r_addf m.sX (by omega) (by omega) fun r1 hr1 => ?_
                conv => cbv
                try have tr1 : Int.toNat r1 = Int.toNat i2 + 1 := by omega
                refine hE2 _ (n_3, r1) ?_ ?_ ⟨(by (try dsimp only); first | omega | (simp only [List.length_nil]; omega) | (simp only [List.length_cons, List.length_nil]; omega)), (by (try dsimp only); first | omega | (simp only [List.length_nil]; omega) | (simp only [List.length_cons, List.length_nil]; omega)), (by (try dsimp only) <;> (first | (rw [tr1, ct, if_pos (by assumption)]; omega) | (rw [tr1, ct, if_neg (by assumption)]; omega)))⟩ (by first | omega | (dsimp only; omega))
                · cbv
                · cbv
              · refine r_addf m.sX (by omega) (by omega) fun r2 hr2 => ?_
                conv => cbv
                try have tr2 : Int.toNat r2 = Int.toNat i2 + 1 := by omega
                refine hE2 _ (n_2, r2) ?_ ?_ ⟨(by (try dsimp only); first | omega | (simp only [List.length_nil]; omega) | (simp only [List.length_cons, List.length_nil]; omega)), (by (try dsimp only); first | omega | (simp only [List.length_nil]; omega) | (simp only [List.length_cons, List.length_nil]; omega)), (by (try dsimp only) <;> (first | (rw [tr2, ct, if_pos (by assumption)]; omega) | (rw [tr2, ct, if_neg (by assumption)]; omega)))⟩ (by first | omega | (dsimp only; omega))
                · cbv
                · cbv
            · have dz_i2 := drop_end (xs := afterB) (i := Int.toNat i2) (by omega)
              have tz_i2 := take_end (xs := afterB) (i := Int.toNat i2) (by omega)
              refine hF2 _ _ ?_
              conv => cbv
              refine r_gtr m.sX (fun h7 => ?_) (fun h7 => ?_) <;> conv => cbv
              · have le : n_2 = bD - x1D - cntX bA afterB := (by rw [q2, hn, tz_i2])
                refine r_append1 (bA) m.sX rfl (by first | omega | (dsimp only; omega)) (by first | omega | (dsimp only; omega)) fun codes_2 hcodes_2 => ?_
                conv => cbv
                have lcodes_2 : (codes_2.length : Int) = codes.length + 1 := by rw [hcodes_2]; first | done | (simp; done) | (simp; omega)
                refine r_append1 (n_2) m.sX rfl (by first | omega | (dsimp only; omega)) (by first | omega | (dsimp only; omega)) fun missing_2 hmissing_2 => ?_
                conv => cbv
                have lmissing_2 : (missing_2.length : Int) = missing.length + 1 := by rw [hmissing_2]; first | done | (simp; done) | (simp; omega)
                refine r_addf m.sX (by omega) (by omega) fun r3 hr3 => ?_
                conv => cbv
                try have tr3 : Int.toNat r3 = Int.toNat i1 + 1 := by omega
                refine hE _ (codes_2, missing_2, r3) ?_ ?_ ⟨(by (try dsimp only); first | omega | (simp only [List.length_nil]; omega) | (simp only [List.length_cons, List.length_nil]; omega)), (by (try dsimp only); first | omega | (simp only [List.length_nil]; omega) | (simp only [List.length_cons, List.length_nil]; omega)), (by (try dsimp only) <;> (first | (rw [tr3, lostT_step hb hx1, lost_yes le (by omega), List.map_append, ← q, hcodes_2]; rfl) | (rw [tr3, lostT_step hb hx1, lost_no le (by omega), List.append_nil]; exact q))), (by (try dsimp only) <;> (first | (rw [tr3, lostT_step hb hx1, lost_yes le (by omega), List.map_append, ← q3, hmissing_2]; rfl) | (rw [tr3, lostT_step hb hx1, lost_no le (by omega), List.append_nil]; exact q3))), (by (try dsimp only) <;> first | omega | rfl | (simp [*]; done) | (rw [ll]; simp [*]; done)), (by (try dsimp only) <;> first | omega | rfl | (simp [*]; done) | (rw [lk]; simp [*]; done))⟩ (by first | omega | (dsimp only; omega))
                · cbv
                · cbv
              · have le : n_2 = bD - x1D - cntX bA afterB := (by rw [q2, hn, tz_i2])
                refine r_addf m.sX (by omega) (by omega) fun r4 hr4 => ?_
                conv => cbv
                try have tr4 : Int.toNat r4 = Int.toNat i1 + 1 := by omega
                refine hE _ (codes, missing, r4) ?_ ?_ ⟨(by (try dsimp only); first | omega | (simp only [List.length_nil]; omega) | (simp only [List.length_cons, List.length_nil]; omega)), (by (try dsimp only); first | omega | (simp only [List.length_nil]; omega) | (simp only [List.length_cons, List.length_nil]; omega)), (by (try dsimp only) <;> (first | (rw [tr4, lostT_step hb hx1, lost_yes le (by omega), List.map_append, ← q, hcodes_2]; rfl) | (rw [tr4, lostT_step hb hx1, lost_no le (by omega), List.append_nil]; exact q))), (by (try dsimp only) <;> (first | (rw [tr4, lostT_step hb hx1, lost_yes le (by omega), List.map_append, ← q3, hmissing_2]; rfl) | (rw [tr4, lostT_step hb hx1, lost_no le (by omega), List.append_nil]; exact q3))), (by (try dsimp only) <;> first | omega | rfl | (simp [*]; done) | (rw [ll]; simp [*]; done)), (by (try dsimp only) <;> first | omega | rfl | (simp [*]; done) | (rw [lk]; simp [*]; done))⟩ (by first | omega | (dsimp only; omega))
                · cbv
                · cbv
          · have dz_i1 := drop_end (xs := before) (i := Int.toNat i1) (by omega)
            have tz_i1 := take_end (xs := before) (i := Int.toNat i1) (by omega)
            refine hF _ _ ?_
            conv => cbv
            exact hQ (.tup [.fr 9 1 (rows cStr codes), .fr 3 1 (rows cInt missing), .bool true]) (Eq.trans (by first | rfl | (simp only [llbI, Ai.ice, Ai.unnil2, List.map_cons, List.map_nil, Ai.ice1, unnilI, rows_nil]; done) | (simp only [lb, lbI, rows_cons, rows_nil, unnilT, unnil, unnilTI, unnilI]; done) | (simp only [lb, lbI, rows_cons, rows_nil, unnilT, unnil, unnilTI, unnilI]; rfl)) (congrArg (llbI) (show (codes, missing, true) = lostA before (afterA, afterB) from by rw [lostA, h2, al, q, q3, show i1.toNat = before.length by omega]; rfl)))   -- leaf 1
        · exact hQ (.tup [.nil, .nil, .bool false]) (Eq.trans (by first | rfl | (simp only [llbI, Ai.ice, Ai.unnil2, List.map_cons, List.map_nil, Ai.ice1, unnilI, rows_nil]; done) | (simp only [lb, lbI, rows_cons, rows_nil, unnilT, unnil, unnilTI, unnilI]; done) | (simp only [lb, lbI, rows_cons, rows_nil, unnilT, unnil, unnilTI, unnilI]; rfl)) (congrArg (llbI) (show ([], [], false) = lostA before (afterA, afterB) from by rw [lostA, alikeB, h3]; simp)))   -- leaf 2
      · exact hQ (.tup [.nil, .nil, .bool false]) (Eq.trans (by first | rfl | (simp only [llbI, Ai.ice, Ai.unnil2, List.map_cons, List.map_nil, Ai.ice1, unnilI, rows_nil]; done) | (simp only [lb, lbI, rows_cons, rows_nil, unnilT, unnil, unnilTI, unnilI]; done) | (simp only [lb, lbI, rows_cons, rows_nil, unnilT, unnil, unnilTI, unnilI]; rfl)) (congrArg (llbI) (show ([], [], false) = lostA before (afterA, afterB) from by rw [lostA, h2]; rfl)))   -- leaf 3
    · exact hQ (.tup [.nil, .nil, .bool false]) (Eq.trans (by first | rfl | (simp only [llbI, Ai.ice, Ai.unnil2, List.map_cons, List.map_nil, Ai.ice1, unnilI, rows_nil]; done) | (simp only [lb, lbI, rows_cons, rows_nil, unnilT, unnil, unnilTI, unnilI]; done) | (simp only [lb, lbI, rows_cons, rows_nil, unnilT, unnil, unnilTI, unnilI]; rfl)) (congrArg (llbI) (show ([], [], false) = lostA before (afterA, afterB) from by rw [lostA, alikeB, h1]; simp))))   -- leaf 4

end Go.Proofs.Ytmlojdpfpccgoaa.Ai
