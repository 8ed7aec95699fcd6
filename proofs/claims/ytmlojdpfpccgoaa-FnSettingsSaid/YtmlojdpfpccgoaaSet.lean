/- Contracts of the functions that set words and distribute types. mk28.py turns what pg.py prints (answers are structs with rows of their own). -/
import Derived.Test.YtmlojdpfpccgoaaSetLaw
import Derived.Test.YtmlojdpfpccgoaaSlip4
import Derived.Test.YtmlojdpfpccgoaaSlip3
import Derived.Test.YtmlojdpfpccgoaaBill
import Derived.Test.YtmlojdpfpccgoaaOwn
namespace Go.Proofs.Ytmlojdpfpccgoaa.Ai
open Go Go.Proofs
set_option linter.unusedSimpArgs false
set_option maxRecDepth 10000
set_option maxHeartbeats 4000000
set_option linter.unusedVariables false
noncomputable def cSetO (s : Sett) : List PV := [.fr 83 4 (rows cBox s.1), .fr 9 1 (rows cStr s.2)]
noncomputable def sbO (p : Sett × Bool) : PV := .tup [.agg (cSetO p.1), .bool p.2]
noncomputable def sbI (p : Sett × Bool) : PV := .tup [.agg (cSetting p.1), .bool p.2]
theorem ice_sbO (p : Sett × Bool) : Ai.ice (sbO p) = sbI p := rfl
theorem found_set {l : List Box} {c : List UInt8} (h : 0 ≤ findB c l 0) : findB c l 0 < l.length := by
  have := findB_lt (c := c) (l := l); omega
theorem changed_ok (l : List Box) (codes : List (List UInt8)) (by_ : Int) (hn : -1 ≤ by_ ∧ by_ ≤ 1) : OkA Try.prog 153 [.isl 4 (rows cBox l), .isl 1 (rows cStr codes), .int .i64 by_] (· = (lb 83 4 cBox) (changedA l codes by_)) :=
  OkA.unnil 83 4 (fn_intro envOk fieldsOk mixed Try.func153 rfl fun κ X Y L Q m hQ => by
    conv => cbv
    refine r_callB m.sX (areCodes_ok l codes) (fun h1 => ?_) (fun h1 => ?_) <;> conv => cbv
    · obtain ⟨ak1, ak2, ak3⟩ := askedC_spec h1
      have cn := case_len ak2
      refine r_append0R m.sX (by first | omega | (dsimp only; omega)) (by first | omega | (dsimp only; omega)) fun next hnext => ?_
      conv => cbv
      have lnext : (next.length : Int) = l.length := by rw [hnext]; first | done | (simp; done) | (simp; omega)
      refine r_lenR m.sX fun n1 hn1 mn1 => ?_
      conv => cbv
      refine r_loopF (α := List Box × Int) m 42 [0, 2, 19, 20, 21] [⟨8, 65, 83, 4, 0⟩] (fun σ => [(0, .isl 4 (rows cBox l)), (2, .int .i64 by_), (8, .osl 65 0), (19, .isl 1 (rows cStr codes)), (20, .int .i64 n1), (21, .int .i64 σ.2)]) (fun σ => [(65, 0, .row 83 4 (rows cBox σ.1))])
        (fun σ => (0 ≤ σ.2) ∧ (σ.2 ≤ n1) ∧ (σ.1 = moveC l by_ (codes.take σ.2.toNat)) ∧ (σ.1.length = l.length)) (fun σ => (n1 - σ.2).toNat) (next, 0) ?_ ?_ ?_ ?_
      · cbv
      · cbv
      · exact ⟨(by (try dsimp only); first | omega | (simp only [List.length_nil]; omega) | (simp only [List.length_cons, List.length_nil]; omega)), (by (try dsimp only); first | omega | (simp only [List.length_nil]; omega) | (simp only [List.length_cons, List.length_nil]; omega)), (by (try dsimp only) <;> (rw [hnext]; rfl)), (by (try dsimp only) <;> (rw [hnext]))⟩
      rintro ⟨next_2, i1⟩ ⟨lo1, hi1, q, ll⟩ E hE F hF
      dsimp only at lo1 hi1 q ll
      conv => cbv
      refine r_lss m.sX (fun h2 => ?_) (fun h2 => ?_) <;> conv => cbv
      · refine r_index m.sX (by omega) (by omega) fun c hc => ?_
        conv => cbv
        have mc := get_mem hc
        have dc := drop_cons hc
        have kc := take_snoc hc
        have jc : (i1 + 1).toNat = Int.toNat i1 + 1 := by omega
        have fb := ak1 _ mc
        have fl := found_set fb
        have bd := moveC_bd hn ak2 (codes.take i1.toNat)
        rw [← q] at bd
        have tl : (codes.take i1.toNat).length ≤ 60 := by rw [List.length_take]; omega
        refine r_callF (PV.int .i64) m.sX (boxAt_ok l c) fun r1 hr1 => ?_
        conv => cbv
        refine r_oindex m.sX (by omega) (by omega) ?_
        conv => cbv
        obtain ⟨⟨x1A, x1B, x1C, x1D⟩, hx1⟩ := get_ex (xs := next_2) (i := Int.toNat r1) (by omega)
        have mx1 := get_mem hx1
        have b1 := bd _ mx1
        try dsimp only at b1
        refine r_oload m.sX hx1 (Nat.le_of_ble_eq_true rfl) ?_
        conv => cbv
        refine r_addf m.sX (by omega) (by omega) fun r2 hr2 => ?_
        conv => cbv
        refine r_oindex m.sX (by omega) (by omega) ?_
        conv => cbv
        obtain ⟨⟨y1A, y1B, y1C, y1D⟩, hy1⟩ := get_ex (xs := next_2) (i := Int.toNat r1) (by omega)
        have ey1 : x1D = y1D := (by have z := Option.some.inj (hx1.symm.trans hy1); simp only [Prod.mk.injEq] at z; exact z.2.2.2)
        refine r_ostore (l := Int.toNat r1) (y1A, y1B, y1C, r2) m.sX hy1 (Nat.le_of_ble_eq_true rfl) rfl fun next_3 hnext_3 => ?_   -- next_3 = next_2.set r1 (y1A, y1B, y1C, r2)
        have lnext_3 : (next_3.length : Int) = next_2.length := by rw [hnext_3]; first | done | (simp; done) | (simp; omega)
        conv => cbv
        refine r_addf m.sX (by omega) (by omega) fun r3 hr3 => ?_
        conv => cbv
        try have tr3 : Int.toNat r3 = Int.toNat i1 + 1 := by omega
        refine hE _ (next_3, r3) ?_ ?_ ⟨(by (try dsimp only); first | omega | (simp only [List.length_nil]; omega) | (simp only [List.length_cons, List.length_nil]; omega)), (by (try dsimp only); first | omega | (simp only [List.length_nil]; omega) | (simp only [List.length_cons, List.length_nil]; omega)), (by (try dsimp only) <;> (rw [tr3, moveC_take hc, ← q, ← hr1, addC_set hy1, hnext_3, hr2, ey1])), (by (try dsimp only) <;> first | omega | rfl | (simp [*]; done) | (rw [ll]; simp [*]; done))⟩ (by first | omega | (dsimp only; omega))
        · cbv
        · cbv
      · have dz_i1 := drop_end (xs := codes) (i := Int.toNat i1) (by omega)
        have tz_i1 := take_end (xs := codes) (i := Int.toNat i1) (by omega)
        refine hF _ _ ?_
        conv => cbv
        refine .inl (r_callBO m.sX ((IsCase_ok next_2).ok flat_bool) (fun h3 => ?_) (fun h3 => ?_)) <;> conv => cbv
        · exact hQ (.tup [.fr 83 4 (rows cBox next_2), .bool true]) (Eq.trans (by first | rfl | (simp only [lb, lbI, rows_cons, rows_nil, unnilT, unnil, unnilTI, unnilI]; done) | (simp only [lb, lbI, rows_cons, rows_nil, unnilT, unnil, unnilTI, unnilI]; rfl)) (congrArg ((lb 83 4 cBox)) (show (next_2, true) = changedA l codes by_ from by rw [changedA, h1, ← tz_i1, ← q, h3]; rfl)))   -- leaf 1
        · exact hQ (.tup [.fr 83 4 [], .bool false]) (Eq.trans (by first | rfl | (simp only [lb, lbI, rows_cons, rows_nil, unnilT, unnil, unnilTI, unnilI]; done) | (simp only [lb, lbI, rows_cons, rows_nil, unnilT, unnil, unnilTI, unnilI]; rfl)) (congrArg ((lb 83 4 cBox)) (show ([], false) = changedA l codes by_ from by rw [changedA, h1, ← tz_i1, ← q, h3]; rfl)))   -- leaf 2
    · exact hQ (.tup [.fr 83 4 [], .bool false]) (Eq.trans (by first | rfl | (simp only [lb, lbI, rows_cons, rows_nil, unnilT, unnil, unnilTI, unnilI]; done) | (simp only [lb, lbI, rows_cons, rows_nil, unnilT, unnil, unnilTI, unnilI]; rfl)) (congrArg ((lb 83 4 cBox)) (show ([], false) = changedA l codes by_ from by rw [changedA, h1]; rfl))))   -- leaf 3

theorem TakeTypes_ok (l : List Box) (codes : List (List UInt8))  : OkA Try.prog 148 [.isl 4 (rows cBox l), .isl 1 (rows cStr codes)] (· = (lb 83 4 cBox) (changedA l codes (-1))) :=
  OkA.unnil 83 4 (fn_intro envOk fieldsOk mixed Try.func148 rfl fun κ X Y L Q m hQ => by
    conv => cbv
    refine r_callF (lb 83 4 cBox) m.sX (changed_ok l codes (-1) (by first | rfl | assumption | omega | (simp only [List.length_append, List.length_cons, List.length_nil] at *; omega))) fun v hv1 => ?_
    obtain ⟨v1, v2⟩ := v
    conv => cbv
    exact hQ (.tup [.fr 83 4 (rows cBox v1), .bool v2]) (Eq.trans (by first | rfl | (simp only [lb, lbI, rows_cons, rows_nil, unnilT, unnil, unnilTI, unnilI]; done) | (simp only [lb, lbI, rows_cons, rows_nil, unnilT, unnil, unnilTI, unnilI]; rfl)) (congrArg ((lb 83 4 cBox)) (show (v1, v2) = changedA l codes (-1) from by first | rfl | omega | (simp [*]; done) | (subst_vars; simp [*]; done)))))   -- leaf 1

theorem PutTypes_ok (l : List Box) (codes : List (List UInt8))  : OkA Try.prog 118 [.isl 4 (rows cBox l), .isl 1 (rows cStr codes)] (· = (lb 83 4 cBox) (changedA l codes 1)) :=
  OkA.unnil 83 4 (fn_intro envOk fieldsOk mixed Try.func118 rfl fun κ X Y L Q m hQ => by
    conv => cbv
    refine r_callF (lb 83 4 cBox) m.sX (changed_ok l codes 1 (by first | rfl | assumption | omega | (simp only [List.length_append, List.length_cons, List.length_nil] at *; omega))) fun v hv1 => ?_
    obtain ⟨v1, v2⟩ := v
    conv => cbv
    exact hQ (.tup [.fr 83 4 (rows cBox v1), .bool v2]) (Eq.trans (by first | rfl | (simp only [lb, lbI, rows_cons, rows_nil, unnilT, unnil, unnilTI, unnilI]; done) | (simp only [lb, lbI, rows_cons, rows_nil, unnilT, unnil, unnilTI, unnilI]; rfl)) (congrArg ((lb 83 4 cBox)) (show (v1, v2) = changedA l codes 1 from by first | rfl | omega | (simp [*]; done) | (subst_vars; simp [*]; done)))))   -- leaf 1

theorem caMove_ok (l : List Box) (codes : List (List UInt8)) (by_ : Int) (hn : -1 ≤ by_ ∧ by_ ≤ 1) (ha : askedC l codes = true) : OkA Try.prog 119 [.isl 4 (rows cBox l), .isl 1 (rows cStr codes), .int .i64 by_] (· = (lb 83 4 cBox) (changedA l codes by_)) :=
  OkA.unnil 83 4 (fn_intro envOk fieldsOk mixed Try.func119 rfl fun κ X Y L Q m hQ => by
    obtain ⟨ak1, ak2, ak3⟩ := askedC_spec ha
    have cn := case_len ak2
    conv => cbv
    refine r_append0R m.sX (by first | omega | (dsimp only; omega)) (by first | omega | (dsimp only; omega)) fun out hout => ?_
    conv => cbv
    have lout : (out.length : Int) = l.length := by rw [hout]; first | done | (simp; done) | (simp; omega)
    refine r_lenR m.sX fun n1 hn1 mn1 => ?_
    conv => cbv
    refine r_loopF (α := List Box × Int) m 36 [2, 14, 15, 16] [⟨8, 65, 83, 4, 0⟩] (fun σ => [(2, .int .i64 by_), (8, .osl 65 0), (14, .isl 1 (rows cStr codes)), (15, .int .i64 n1), (16, .int .i64 σ.2)]) (fun σ => [(65, 0, .row 83 4 (rows cBox σ.1))])
      (fun σ => (0 ≤ σ.2) ∧ (σ.2 ≤ n1) ∧ (σ.1 = moveC l by_ (codes.take σ.2.toNat)) ∧ (σ.1.length = l.length)) (fun σ => (n1 - σ.2).toNat) (out, 0) ?_ ?_ ?_ ?_
    · cbv
    · cbv
    · exact ⟨(by (try dsimp only); first | omega | (simp only [List.length_nil]; omega) | (simp only [List.length_cons, List.length_nil]; omega)), (by (try dsimp only); first | omega | (simp only [List.length_nil]; omega) | (simp only [List.length_cons, List.length_nil]; omega)), (by (try dsimp only) <;> (rw [hout]; rfl)), (by (try dsimp only) <;> (rw [hout]))⟩
    rintro ⟨out_2, i1⟩ ⟨lo1, hi1, q, ll⟩ E hE F hF
    dsimp only at lo1 hi1 q ll
    conv => cbv
    refine r_lss m.sX (fun h1 => ?_) (fun h1 => ?_) <;> conv => cbv
    · refine r_index m.sX (by omega) (by omega) fun s_ hs_ => ?_
      conv => cbv
      have ms_ := get_mem hs_
      have ds_ := drop_cons hs_
      have ks_ := take_snoc hs_
      have js_ : (i1 + 1).toNat = Int.toNat i1 + 1 := by omega
      have fb := ak1 _ ms_
      have fl := found_set fb
      have bd := moveC_bd hn ak2 (codes.take i1.toNat)
      rw [← q] at bd
      have tl : (codes.take i1.toNat).length ≤ 60 := by rw [List.length_take]; omega
      refine .inl (r_callFO intPV m.sX ((caFind_ok out_2 s_).ok flat_int) fun r1 hr1 => ?_)
      conv => cbv
      rw [q, findB_moved] at hr1
      refine r_oindex m.sX (by omega) (by omega) ?_
      conv => cbv
      obtain ⟨⟨x1A, x1B, x1C, x1D⟩, hx1⟩ := get_ex (xs := out_2) (i := Int.toNat r1) (by omega)
      have mx1 := get_mem hx1
      have b1 := bd _ mx1
      try dsimp only at b1
      refine r_oload m.sX hx1 (Nat.le_of_ble_eq_true rfl) ?_
      conv => cbv
      refine r_addf m.sX (by omega) (by omega) fun r2 hr2 => ?_
      conv => cbv
      refine r_oindex m.sX (by omega) (by omega) ?_
      conv => cbv
      obtain ⟨⟨y1A, y1B, y1C, y1D⟩, hy1⟩ := get_ex (xs := out_2) (i := Int.toNat r1) (by omega)
      have ey1 : x1D = y1D := (by have z := Option.some.inj (hx1.symm.trans hy1); simp only [Prod.mk.injEq] at z; exact z.2.2.2)
      refine r_ostore (l := Int.toNat r1) (y1A, y1B, y1C, r2) m.sX hy1 (Nat.le_of_ble_eq_true rfl) rfl fun out_3 hout_3 => ?_   -- out_3 = out_2.set r1 (y1A, y1B, y1C, r2)
      have lout_3 : (out_3.length : Int) = out_2.length := by rw [hout_3]; first | done | (simp; done) | (simp; omega)
      conv => cbv
      refine r_addf m.sX (by omega) (by omega) fun r3 hr3 => ?_
      conv => cbv
      try have tr3 : Int.toNat r3 = Int.toNat i1 + 1 := by omega
      refine hE _ (out_3, r3) ?_ ?_ ⟨(by (try dsimp only); first | omega | (simp only [List.length_nil]; omega) | (simp only [List.length_cons, List.length_nil]; omega)), (by (try dsimp only); first | omega | (simp only [List.length_nil]; omega) | (simp only [List.length_cons, List.length_nil]; omega)), (by (try dsimp only) <;> (rw [tr3, moveC_take hs_, ← q, ← hr1, addC_set hy1, hout_3, hr2, ey1])), (by (try dsimp only) <;> first | omega | rfl | (simp [*]; done) | (rw [ll]; simp [*]; done))⟩ (by first | omega | (dsimp only; omega))
      · cbv
      · cbv
    · have dz_i1 := drop_end (xs := codes) (i := Int.toNat i1) (by omega)
      have tz_i1 := take_end (xs := codes) (i := Int.toNat i1) (by omega)
      refine hF _ _ ?_
      conv => cbv
      refine .inl (r_callBO m.sX ((caGood_ok out_2).ok flat_bool) (fun h2 => ?_) (fun h2 => ?_)) <;> conv => cbv
      · exact hQ (.tup [.fr 83 4 (rows cBox out_2), .bool true]) (Eq.trans (by first | rfl | (simp only [lb, lbI, rows_cons, rows_nil, unnilT, unnil, unnilTI, unnilI]; done) | (simp only [lb, lbI, rows_cons, rows_nil, unnilT, unnil, unnilTI, unnilI]; rfl)) (congrArg ((lb 83 4 cBox)) (show (out_2, true) = changedA l codes by_ from by rw [changedA, ha, ← tz_i1, ← q, h2]; rfl)))   -- leaf 1
      · exact hQ (.tup [.nil, .bool false]) (Eq.trans (by first | rfl | (simp only [lb, lbI, rows_cons, rows_nil, unnilT, unnil, unnilTI, unnilI]; done) | (simp only [lb, lbI, rows_cons, rows_nil, unnilT, unnil, unnilTI, unnilI]; rfl)) (congrArg ((lb 83 4 cBox)) (show ([], false) = changedA l codes by_ from by rw [changedA, ha, ← tz_i1, ← q, h2]; rfl))))   -- leaf 2

theorem l1OwnS_ok (l : List (List UInt8)) (hl : l.length ≤ 1000000) : OkA Try.prog 123 [.isl 1 (rows cStr l)] (· = .fr 9 1 (rows cStr (l))) :=
  OkA.unnil 9 1 (fn_intro envOk fieldsOk mixed Try.func123 rfl fun κ X Y L Q m hQ => by
    conv => cbv
    refine r_append0R m.sX (by first | omega | (dsimp only; omega)) (by first | omega | (dsimp only; omega)) fun zs1 hzs1 => ?_
    conv => cbv
    have lzs1 : (zs1.length : Int) = l.length := by rw [hzs1]; first | done | (simp; done) | (simp; omega)
    exact hQ (.fr 9 1 (rows cStr zs1)) (Eq.trans (by first | rfl | (simp only [lb, lbI, rows_cons, rows_nil, unnilT, unnil, unnilTI, unnilI]; done) | (simp only [lb, lbI, rows_cons, rows_nil, unnilT, unnil, unnilTI, unnilI]; rfl)) (congrArg (fun l => PV.fr 9 1 (rows cStr l)) (show zs1 = l from by first | rfl | omega | (simp [*]; done) | (subst_vars; simp [*]; done)))))   -- leaf 1

theorem setWord_ok (f : List FSort) (s_ : Sett) (word : List UInt8) (hc : CodesOk f) (hw : word.length ≤ 16) (hs : s_.2.length ≤ 1000) : OkA Try.prog 109 [.isl 2 (rows cSort f), .agg (cSetting s_), .str word] (· = sbO (setSA f s_ word)) := by
  obtain ⟨s_A, s_B⟩ := s_
  try dsimp only at *
  exact OkA.unnilS [(83, 4), (9, 1)] (fn_introO envOk fieldsOk mixed Try.func109 rfl fun κ X Y L Q m hQ => by
    conv => cbv
    refine r_callF (lb 3 1 cInt) m.sX (sortsOf_ok f word (by first | rfl | assumption | omega | (simp only [List.length_append, List.length_cons, List.length_nil] at *; omega)) (by first | rfl | assumption | omega | (simp only [List.length_append, List.length_cons, List.length_nil] at *; omega))) fun v hlist => ?_
    obtain ⟨list, ok⟩ := v
    conv => cbv
    try dsimp only at hlist
    have wi := (wordI_in hc word)
    try dsimp only at wi
    rw [← setW_wordI hlist] at wi
    refine r_lenR m.sX fun n1 hn1 mn1 => ?_
    conv => cbv
    refine r_loopF (α := List (List UInt8) × Int) m 64 [0, 9, 23, 24] [⟨4, 33, 0, 0, 0⟩, ⟨6, 49, 0, 0, 0⟩, ⟨10, 81, 9, 1, 0⟩, ⟨22, 177, 3, 1, 0⟩] (fun σ => [(0, .isl 2 (rows cSort f)), (4, .optr 33 0 2 0 0), (6, .optr 49 0 2 0 0), (9, .bool ok), (10, .osl 81 0), (22, .osl 177 0), (23, .int .i64 n1), (24, .int .i64 σ.2)]) (fun σ => [(33, 0, .box [.isl 4 (rows cBox s_A), .isl 1 (rows cStr s_B)]), (49, 0, .box [.nil, .nil]), (81, 0, .row 9 1 (rows cStr σ.1)), (177, 0, .row 3 1 (rows cInt list))])
      (fun σ => (0 ≤ σ.2) ∧ (σ.2 ≤ n1) ∧ (σ.1 = codesF f (list.take σ.2.toNat)) ∧ ((σ.1.length : Int) = σ.2)) (fun σ => (n1 - σ.2).toNat) ([], 0) ?_ ?_ ?_ ?_
    · cbv
    · (try dsimp only); (try simp only [rows_cons, rows_nil]); cbv
    · exact ⟨(by (try dsimp only); first | omega | (simp only [List.length_nil]; omega) | (simp only [List.length_cons, List.length_nil]; omega)), (by (try dsimp only); first | omega | (simp only [List.length_nil]; omega) | (simp only [List.length_cons, List.length_nil]; omega)), (by (try dsimp only) <;> (rfl)), (by (try dsimp only) <;> first | omega | rfl | (simp [*]; done))⟩
    rintro ⟨codes, i1⟩ ⟨lo1, hi1, q, ln⟩ E hE F hF
    dsimp only at lo1 hi1 q ln
    conv => cbv
    refine r_lss m.sX (fun h1 => ?_) (fun h1 => ?_) <;> conv => cbv
    · refine r_oindex m.sX (by omega) (by omega) ?_
      conv => cbv
      obtain ⟨i, hi⟩ := get_ex (xs := list) (i := Int.toNat i1) (by omega)
      have mi := get_mem hi
      have di := drop_cons hi
      have ki := take_snoc hi
      have ji : (i1 + 1).toNat = Int.toNat i1 + 1 := by omega
      have vi := nth_some hi
      have ib := wi.1 i mi
      try dsimp only at ib
      refine r_oload m.sX hi (Nat.le_of_ble_eq_true rfl) ?_
      conv => cbv
      refine r_index m.sX (by omega) (by omega) fun v hx1A => ?_
      obtain ⟨x1A, x1B⟩ := v
      conv => cbv
      have hx1 := hx1A
      have mx1 := get_mem hx1
      have cf := codeF_some hx1
      try dsimp only at cf
      refine r_append1 (x1A) m.sX rfl (by first | omega | (dsimp only; omega)) (by first | omega | (dsimp only; omega)) fun codes_2 hcodes_2 => ?_
      conv => cbv
      have lcodes_2 : (codes_2.length : Int) = codes.length + 1 := by rw [hcodes_2]; first | done | (simp; done) | (simp; omega)
      refine r_addf m.sX (by omega) (by omega) fun r1 hr1 => ?_
      conv => cbv
      try have tr1 : Int.toNat r1 = Int.toNat i1 + 1 := by omega
      refine hE _ (codes_2, r1) ?_ ?_ ⟨(by (try dsimp only); first | omega | (simp only [List.length_nil]; omega) | (simp only [List.length_cons, List.length_nil]; omega)), (by (try dsimp only); first | omega | (simp only [List.length_nil]; omega) | (simp only [List.length_cons, List.length_nil]; omega)), (by (try dsimp only) <;> (rw [tr1, codesF_take hi, ← q, cf, hcodes_2])), (by (try dsimp only) <;> first | omega | rfl | (simp [*]; done) | (rw [ln]; simp [*]; done))⟩ (by first | omega | (dsimp only; omega))
      · cbv
      · cbv
    · have dz_i1 := drop_end (xs := list) (i := Int.toNat i1) (by omega)
      have tz_i1 := take_end (xs := list) (i := Int.toNat i1) (by omega)
      refine hF _ _ ?_
      conv => cbv
      rcases Bool.eq_false_or_eq_true ok with rfl | rfl <;> conv => cbv
      · have eC : codes = codesF f list := by rw [q, tz_i1]
        refine .inl (r_callFO (lb 83 4 cBox) m.sX ((TakeTypes_ok s_A codes).ok (flat_lb flat_cBox)) fun v hboxes => ?_)
        obtain ⟨boxes, ok_2⟩ := v
        conv => cbv
        try dsimp only at hboxes
        refine r_append0R m.sX (by first | omega | (dsimp only; omega)) (by first | omega | (dsimp only; omega)) fun zs1 hzs1 => ?_
        conv => cbv
        have lzs1 : (zs1.length : Int) = s_B.length := by rw [hzs1]; first | done | (simp; done) | (simp; omega)
        refine r_append m.sX (by first | omega | (dsimp only; omega)) (by first | omega | (dsimp only; omega)) fun zs2 hzs2 => ?_
        conv => cbv
        have lzs2 : (zs2.length : Int) = zs1.length + codes.length := by rw [hzs2]; first | done | (simp; done) | (simp; omega)
        rcases Bool.eq_false_or_eq_true ok_2 with rfl | rfl <;> conv => cbv
        · have eC : codes = codesF f list := by rw [q, tz_i1]
          refine .inl (r_callBO m.sX ((IsSetting_ok (boxes, zs2)).ok flat_bool) (fun h2 => ?_) (fun h2 => ?_)) <;> conv => cbv
          · exact hQ (.tup [.agg [.fr 83 4 (rows cBox boxes), .fr 9 1 (rows cStr zs2)], .bool true]) (Eq.trans (by first | rfl | (simp only [sbO, cSetO, Ai.unnilS, unnilC, unnil, rows_nil]; done) | (simp only [lb, lbI, rows_cons, rows_nil, unnilT, unnil, unnilTI, unnilI]; done) | (simp only [lb, lbI, rows_cons, rows_nil, unnilT, unnil, unnilTI, unnilI]; rfl)) (congrArg (sbO) (show ((boxes, zs2), true) = setSA f (s_A, s_B) word from by exact setSA_yes hlist eC hboxes (by rw [hzs2, hzs1]) h2)))   -- leaf 1
          · exact hQ (.tup [.agg [.nil, .nil], .bool false]) (Eq.trans (by first | rfl | (simp only [sbO, cSetO, Ai.unnilS, unnilC, unnil, rows_nil]; done) | (simp only [lb, lbI, rows_cons, rows_nil, unnilT, unnil, unnilTI, unnilI]; done) | (simp only [lb, lbI, rows_cons, rows_nil, unnilT, unnil, unnilTI, unnilI]; rfl)) (congrArg (sbO) (show (([], []), false) = setSA f (s_A, s_B) word from by exact setSA_no3 hlist eC hboxes (by rw [hzs2, hzs1]) h2)))   -- leaf 2
        · exact hQ (.tup [.agg [.nil, .nil], .bool false]) (Eq.trans (by first | rfl | (simp only [sbO, cSetO, Ai.unnilS, unnilC, unnil, rows_nil]; done) | (simp only [lb, lbI, rows_cons, rows_nil, unnilT, unnil, unnilTI, unnilI]; done) | (simp only [lb, lbI, rows_cons, rows_nil, unnilT, unnil, unnilTI, unnilI]; rfl)) (congrArg (sbO) (show (([], []), false) = setSA f (s_A, s_B) word from by exact setSA_no2 hlist eC hboxes)))   -- leaf 3
      · exact hQ (.tup [.agg [.nil, .nil], .bool false]) (Eq.trans (by first | rfl | (simp only [sbO, cSetO, Ai.unnilS, unnilC, unnil, rows_nil]; done) | (simp only [lb, lbI, rows_cons, rows_nil, unnilT, unnil, unnilTI, unnilI]; done) | (simp only [lb, lbI, rows_cons, rows_nil, unnilT, unnil, unnilTI, unnilI]; rfl)) (congrArg (sbO) (show (([], []), false) = setSA f (s_A, s_B) word from by exact setSA_no1 hlist))))   -- leaf 4

theorem diSet_ok (f : List FSort) (s_ : Sett) (word : List UInt8) (hc : CodesOk f) (hw : word.length ≤ 16) (hs : s_.2.length ≤ 1000) : OkA Try.prog 113 [.isl 2 (rows cSort f), .agg (cSetting s_), .str word] (· = sbO (setSA f s_ word)) := by
  obtain ⟨s_A, s_B⟩ := s_
  try dsimp only at *
  exact OkA.unnilS [(83, 4), (9, 1)] (fn_introO envOk fieldsOk mixed Try.func113 rfl fun κ X Y L Q m hQ => by
    conv => cbv
    refine r_callF (lb 3 1 cInt) m.sX (tySet_ok f word (by first | rfl | assumption | omega | (simp only [List.length_append, List.length_cons, List.length_nil] at *; omega)) (by first | rfl | assumption | omega | (simp only [List.length_append, List.length_cons, List.length_nil] at *; omega))) fun v hsorts => ?_
    obtain ⟨sorts, ok⟩ := v
    conv => cbv
    try dsimp only at hsorts
    have wi := (wordI_in hc word)
    try dsimp only at wi
    rw [← setW_wordI hsorts] at wi
    rcases Bool.eq_false_or_eq_true ok with rfl | rfl <;> conv => cbv
    · refine r_lenR m.sX fun n1 hn1 mn1 => ?_
      conv => cbv
      refine r_loopF (α := List (List UInt8) × Int) m 69 [0, 26, 27] [⟨4, 33, 0, 0, 0⟩, ⟨6, 49, 0, 0, 0⟩, ⟨10, 81, 9, 1, 0⟩, ⟨25, 201, 3, 1, 0⟩] (fun σ => [(0, .isl 2 (rows cSort f)), (4, .optr 33 0 2 0 0), (6, .optr 49 0 2 0 0), (10, .osl 81 0), (25, .osl 201 0), (26, .int .i64 n1), (27, .int .i64 σ.2)]) (fun σ => [(33, 0, .box [.isl 4 (rows cBox s_A), .isl 1 (rows cStr s_B)]), (49, 0, .box [.nil, .nil]), (81, 0, .row 9 1 (rows cStr σ.1)), (201, 0, .row 3 1 (rows cInt sorts))])
        (fun σ => (0 ≤ σ.2) ∧ (σ.2 ≤ n1) ∧ (σ.1 = codesF f (sorts.take σ.2.toNat)) ∧ ((σ.1.length : Int) = σ.2)) (fun σ => (n1 - σ.2).toNat) ([], 0) ?_ ?_ ?_ ?_
      · cbv
      · (try dsimp only); (try simp only [rows_cons, rows_nil]); cbv
      · exact ⟨(by (try dsimp only); first | omega | (simp only [List.length_nil]; omega) | (simp only [List.length_cons, List.length_nil]; omega)), (by (try dsimp only); first | omega | (simp only [List.length_nil]; omega) | (simp only [List.length_cons, List.length_nil]; omega)), (by (try dsimp only) <;> (rfl)), (by (try dsimp only) <;> first | omega | rfl | (simp [*]; done))⟩
      rintro ⟨codes, i1⟩ ⟨lo1, hi1, q, ln⟩ E hE F hF
      dsimp only at lo1 hi1 q ln
      conv => cbv
      refine r_lss m.sX (fun h1 => ?_) (fun h1 => ?_) <;> conv => cbv
      · refine r_oindex m.sX (by omega) (by omega) ?_
        conv => cbv
        obtain ⟨i, hi⟩ := get_ex (xs := sorts) (i := Int.toNat i1) (by omega)
        have mi := get_mem hi
        have di := drop_cons hi
        have ki := take_snoc hi
        have ji : (i1 + 1).toNat = Int.toNat i1 + 1 := by omega
        have vi := nth_some hi
        have ib := wi.1 i mi
        try dsimp only at ib
        refine r_oload m.sX hi (Nat.le_of_ble_eq_true rfl) ?_
        conv => cbv
        refine r_index m.sX (by omega) (by omega) fun v hx1A => ?_
        obtain ⟨x1A, x1B⟩ := v
        conv => cbv
        have hx1 := hx1A
        have mx1 := get_mem hx1
        have cf := codeF_some hx1
        try dsimp only at cf
        refine r_append1 (x1A) m.sX rfl (by first | omega | (dsimp only; omega)) (by first | omega | (dsimp only; omega)) fun codes_2 hcodes_2 => ?_
        conv => cbv
        have lcodes_2 : (codes_2.length : Int) = codes.length + 1 := by rw [hcodes_2]; first | done | (simp; done) | (simp; omega)
        refine r_addf m.sX (by omega) (by omega) fun r1 hr1 => ?_
        conv => cbv
        try have tr1 : Int.toNat r1 = Int.toNat i1 + 1 := by omega
        refine hE _ (codes_2, r1) ?_ ?_ ⟨(by (try dsimp only); first | omega | (simp only [List.length_nil]; omega) | (simp only [List.length_cons, List.length_nil]; omega)), (by (try dsimp only); first | omega | (simp only [List.length_nil]; omega) | (simp only [List.length_cons, List.length_nil]; omega)), (by (try dsimp only) <;> (rw [tr1, codesF_take hi, ← q, cf, hcodes_2])), (by (try dsimp only) <;> first | omega | rfl | (simp [*]; done) | (rw [ln]; simp [*]; done))⟩ (by first | omega | (dsimp only; omega))
        · cbv
        · cbv
      · have dz_i1 := drop_end (xs := sorts) (i := Int.toNat i1) (by omega)
        have tz_i1 := take_end (xs := sorts) (i := Int.toNat i1) (by omega)
        refine hF _ _ ?_
        conv => cbv
        refine .inl (r_callBO m.sX ((caAsked_ok s_A codes).ok flat_bool) (fun h2 => ?_) (fun h2 => ?_)) <;> conv => cbv
        · have eC : codes = codesF f sorts := by rw [q, tz_i1]
          refine .inl (r_callFO (lb 83 4 cBox) m.sX ((caMove_ok s_A codes (-1) (by first | rfl | assumption | omega | (simp only [List.length_append, List.length_cons, List.length_nil] at *; omega)) (by first | rfl | assumption | omega | (simp only [List.length_append, List.length_cons, List.length_nil] at *; omega))).ok (flat_lb flat_cBox)) fun v hboxes => ?_)
          obtain ⟨boxes, fine⟩ := v
          conv => cbv
          try dsimp only at hboxes
          refine r_callF (fun l => PV.fr _ _ (rows _ l)) m.sX (l1OwnS_ok s_B (by first | rfl | assumption | omega | (simp only [List.length_append, List.length_cons, List.length_nil] at *; omega))) fun v1 hv1 => ?_
          conv => cbv
          try dsimp only at hv1
          have lv1 : v1.length = s_B.length := by rw [hv1]
          refine r_append m.sX (by first | omega | (dsimp only; omega)) (by first | omega | (dsimp only; omega)) fun zs1 hzs1 => ?_
          conv => cbv
          have lzs1 : (zs1.length : Int) = v1.length + codes.length := by rw [hzs1]; first | done | (simp; done) | (simp; omega)
          rcases Bool.eq_false_or_eq_true fine with rfl | rfl <;> conv => cbv
          · refine .inl (r_callBO m.sX ((diGood_ok (boxes, zs1)).ok flat_bool) (fun h3 => ?_) (fun h3 => ?_)) <;> conv => cbv
            · exact hQ (.tup [.agg [.fr 83 4 (rows cBox boxes), .fr 9 1 (rows cStr zs1)], .bool true]) (Eq.trans (by first | rfl | (simp only [sbO, cSetO, Ai.unnilS, unnilC, unnil, rows_nil]; done) | (simp only [lb, lbI, rows_cons, rows_nil, unnilT, unnil, unnilTI, unnilI]; done) | (simp only [lb, lbI, rows_cons, rows_nil, unnilT, unnil, unnilTI, unnilI]; rfl)) (congrArg (sbO) (show ((boxes, zs1), true) = setSA f (s_A, s_B) word from by exact setSA_yes hsorts eC hboxes (by rw [hzs1, hv1]) h3)))   -- leaf 1
            · exact hQ (.tup [.agg [.nil, .nil], .bool false]) (Eq.trans (by first | rfl | (simp only [sbO, cSetO, Ai.unnilS, unnilC, unnil, rows_nil]; done) | (simp only [lb, lbI, rows_cons, rows_nil, unnilT, unnil, unnilTI, unnilI]; done) | (simp only [lb, lbI, rows_cons, rows_nil, unnilT, unnil, unnilTI, unnilI]; rfl)) (congrArg (sbO) (show (([], []), false) = setSA f (s_A, s_B) word from by exact setSA_no3 hsorts eC hboxes (by rw [hzs1, hv1]) h3)))   -- leaf 2
          · exact hQ (.tup [.agg [.nil, .nil], .bool false]) (Eq.trans (by first | rfl | (simp only [sbO, cSetO, Ai.unnilS, unnilC, unnil, rows_nil]; done) | (simp only [lb, lbI, rows_cons, rows_nil, unnilT, unnil, unnilTI, unnilI]; done) | (simp only [lb, lbI, rows_cons, rows_nil, unnilT, unnil, unnilTI, unnilI]; rfl)) (congrArg (sbO) (show (([], []), false) = setSA f (s_A, s_B) word from by exact setSA_no2 hsorts eC hboxes)))   -- leaf 3
        · have eC : codes = codesF f sorts := by rw [q, tz_i1]
          exact hQ (.tup [.agg [.nil, .nil], .bool false]) (Eq.trans (by first | rfl | (simp only [sbO, cSetO, Ai.unnilS, unnilC, unnil, rows_nil]; done) | (simp only [lb, lbI, rows_cons, rows_nil, unnilT, unnil, unnilTI, unnilI]; done) | (simp only [lb, lbI, rows_cons, rows_nil, unnilT, unnil, unnilTI, unnilI]; rfl)) (congrArg (sbO) (show (([], []), false) = setSA f (s_A, s_B) word from by exact setSA_no4 hsorts eC h2)))   -- leaf 4
    · exact hQ (.tup [.agg [.nil, .nil], .bool false]) (Eq.trans (by first | rfl | (simp only [sbO, cSetO, Ai.unnilS, unnilC, unnil, rows_nil]; done) | (simp only [lb, lbI, rows_cons, rows_nil, unnilT, unnil, unnilTI, unnilI]; done) | (simp only [lb, lbI, rows_cons, rows_nil, unnilT, unnil, unnilTI, unnilI]; rfl)) (congrArg (sbO) (show (([], []), false) = setSA f (s_A, s_B) word from by exact setSA_no1 hsorts))))   -- leaf 5

theorem diSetI_ok (f : List FSort) (s_ : Sett) (word : List UInt8) (hc : CodesOk f) (hw : word.length ≤ 16) (hs : s_.2.length ≤ 1000) : OkA Try.prog 113 [.isl 2 (rows cSort f), .agg (cSetting s_), .str word] (· = sbI (setSA f s_ word)) := (diSet_ok f s_ word hc hw hs).ice
theorem setWordI_ok (f : List FSort) (s_ : Sett) (word : List UInt8) (hc : CodesOk f) (hw : word.length ≤ 16) (hs : s_.2.length ≤ 1000) : OkA Try.prog 109 [.isl 2 (rows cSort f), .agg (cSetting s_), .str word] (· = sbI (setSA f s_ word)) := (setWord_ok f s_ word hc hw hs).ice
end Go.Proofs.Ytmlojdpfpccgoaa.Ai
