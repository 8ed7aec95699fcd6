/- Contracts of the functions on spaces. -/
import Derived.Test.YtbamclepgabciaaDoorPay
namespace Go.Proofs.YtbamclepgabciaaDoor.Ai
open Go Go.Proofs
set_option linter.unusedSimpArgs false
set_option maxRecDepth 10000
set_option maxHeartbeats 4000000
set_option linter.unusedVariables false

theorem AreSpaces_ok (kinds : List Int)  : OkA Tryd.prog 149 [.isl 1 (rows cInt kinds)] (· = .bool (okK kinds)) :=
  fn_intro envOk fieldsOk mixed Tryd.func149 rfl fun κ X Y L Q m hQ => by
    conv => cbv
    refine r_lenR m.sX fun n1 hn1 mn1 => ?_
    conv => cbv
    refine r_callB m.sX (within_ok n1 1 6) (fun h1 => ?_) (fun h1 => ?_) <;> conv => cbv
    · refine r_callB m.sX (increases_ok kinds 1 54) (fun h2 => ?_) (fun h2 => ?_) <;> conv => cbv
      · exact hQ _ (congrArg PV.bool (by first | rfl | omega | (simp [okK, *]; done) | (subst_vars; simp [okK, *]; done)))   -- leaf 1
      · exact hQ _ (congrArg PV.bool (by first | rfl | omega | (simp [okK, *]; done) | (subst_vars; simp [okK, *]; done)))   -- leaf 2
    · exact hQ _ (congrArg PV.bool (by first | rfl | omega | (simp [okK, *]; done) | (subst_vars; simp [okK, *]; done)))   -- leaf 3

theorem isFill_ok (kinds : List Int) (n : Int)  : OkA Tryd.prog 125 [.isl 1 (rows cInt kinds), .int .i64 n] (· = .bool (okF kinds n)) :=
  fn_intro envOk fieldsOk mixed Tryd.func125 rfl fun κ X Y L Q m hQ => by
    conv => cbv
    refine r_callB m.sX (AreSpaces_ok kinds) (fun h1 => ?_) (fun h1 => ?_) <;> conv => cbv
    · refine r_callB m.sX (within_ok n 0 400) (fun h2 => ?_) (fun h2 => ?_) <;> conv => cbv
      · exact hQ _ (congrArg PV.bool (by first | rfl | omega | (simp [okF, *]; done) | (subst_vars; simp [okF, *]; done)))   -- leaf 1
      · exact hQ _ (congrArg PV.bool (by first | rfl | omega | (simp [okF, *]; done) | (subst_vars; simp [okF, *]; done)))   -- leaf 2
    · exact hQ _ (congrArg PV.bool (by first | rfl | omega | (simp [okF, *]; done) | (subst_vars; simp [okF, *]; done)))   -- leaf 3

theorem plenty_ok (kinds : List Int) (hl : kinds.length ≤ 1000) : OkA Tryd.prog 131 [.isl 1 (rows cInt kinds)] (· = .fr 3 1 (rows cInt (List.replicate kinds.length 400))) :=
  OkA.unnil 3 1 (fn_intro envOk fieldsOk mixed Tryd.func131 rfl fun κ X Y L Q m hQ => by
    conv => cbv
    refine r_lenR m.sX fun n1 hn1 mn1 => ?_
    conv => cbv
    refine r_loopF (α := List Int × Int) m 14 [6, 7] [⟨3, 25, 3, 1, 0⟩] (fun σ => [(3, .osl 25 0), (6, .int .i64 n1), (7, .int .i64 σ.2)]) (fun σ => [(25, 0, .row 3 1 (rows cInt σ.1))])
      (fun σ => (0 ≤ σ.2) ∧ (σ.2 ≤ n1) ∧ (σ.1 = List.replicate σ.2.toNat 400) ∧ ((σ.1.length : Int) = σ.2)) (fun σ => (n1 - σ.2).toNat) ([], 0) ?_ ?_ ?_ ?_
    · cbv
    · (try dsimp only); simp only [rows_cons, rows_nil]; cbv
    · exact ⟨(by (try dsimp only); first | omega | (simp only [List.length_nil]; omega)), (by (try dsimp only); first | omega | (simp only [List.length_nil]; omega)), (by (try dsimp only) <;> first | omega | rfl | (simp [*]; done)), (by (try dsimp only) <;> first | omega | rfl | (simp [*]; done))⟩
    rintro ⟨stock, i1⟩ ⟨lo1, hi1, q, ln⟩ E hE F hF
    dsimp only at lo1 hi1 q ln
    conv => cbv
    refine r_lss m.sX (fun h1 => ?_) (fun h1 => ?_) <;> conv => cbv
    · refine r_append1 (400) m.sX rfl (by first | omega | (dsimp only; omega)) (by first | omega | (dsimp only; omega)) fun stock_2 hstock_2 => ?_
      conv => cbv
      have lstock_2 : (stock_2.length : Int) = stock.length + 1 := by rw [hstock_2]; first | done | (simp; done) | (simp; omega)
      refine r_addf m.sX (by omega) (by omega) fun r1 hr1 => ?_
      conv => cbv
      have tr1 : Int.toNat r1 = Int.toNat i1 + 1 := by omega
      refine hE _ (stock_2, r1) ?_ ?_ ⟨(by (try dsimp only); first | omega | (simp only [List.length_nil]; omega)), (by (try dsimp only); first | omega | (simp only [List.length_nil]; omega)), (by (try dsimp only) <;> (rw [hstock_2, q, tr1, List.replicate_succ'])), (by (try dsimp only) <;> first | omega | rfl | (simp [*]; done) | (rw [ln]; simp [*]; done))⟩ (by first | omega | (dsimp only; omega))
      · cbv
      · cbv
    · have dz_i1 := drop_end (xs := kinds) (i := Int.toNat i1) (by omega)
      have tz_i1 := take_end (xs := kinds) (i := Int.toNat i1) (by omega)
      refine hF _ _ ?_
      conv => cbv
      exact hQ (.fr 3 1 (rows cInt stock)) (Eq.trans (by first | rfl | (simp only [lb, lbI, rows_cons, rows_nil, unnilT, unnil, unnilTI, unnilI]; done) | (simp only [lb, lbI, rows_cons, rows_nil, unnilT, unnil, unnilTI, unnilI]; rfl)) (congrArg (fun l => PV.fr 3 1 (rows cInt l)) (show stock = List.replicate kinds.length 400 from by rw [q, show Int.toNat i1 = kinds.length by omega]))))   -- leaf 1

theorem CanFill_ok (kinds : List Int) (n : Int)  : OkA Tryd.prog 61 [.isl 1 (rows cInt kinds), .int .i64 n] (· = bb (canF kinds n)) :=
  fn_intro envOk fieldsOk mixed Tryd.func61 rfl fun κ X Y L Q m hQ => by
    conv => cbv
    refine r_callB m.sX (isFill_ok kinds n) (fun h1 => ?_) (fun h1 => ?_) <;> conv => cbv
    · obtain ⟨b1, b2, b3⟩ := okF_spec h1
      refine r_callF (fun l => PV.fr _ _ (rows _ l)) m.sX (plenty_ok kinds (by first | rfl | assumption | omega | (simp only [List.length_append, List.length_cons, List.length_nil] at *; omega))) fun v1 hv1 => ?_
      conv => cbv
      have bs : ∀ k ∈ v1, 0 ≤ k ∧ k ≤ 10000 := fun k hk => by rw [hv1] at hk; have := (List.mem_replicate.1 hk).2; omega
      have bl : v1.length = kinds.length := by rw [hv1]; simp
      have bk2 : ∀ k ∈ kinds, 1 ≤ k ∧ k ≤ 10000 := fun k hk => by have := b2 k hk; omega
      have ep : pre kinds v1 kinds.length = prF kinds := by rw [hv1]; rfl
      refine .inr (r_pcallF (fun l => PV.fr _ _ (rows _ l)) m.sX (fewest_ok kinds v1 n (by first | rfl | assumption | omega | (simp only [List.length_append, List.length_cons, List.length_nil] at *; omega)) (by first | rfl | assumption | omega | (simp only [List.length_append, List.length_cons, List.length_nil] at *; omega)) (by first | rfl | assumption | omega | (simp only [List.length_append, List.length_cons, List.length_nil] at *; omega)) (by first | rfl | assumption | omega | (simp only [List.length_append, List.length_cons, List.length_nil] at *; omega)) (by first | rfl | assumption | omega | (simp only [List.length_append, List.length_cons, List.length_nil] at *; omega))) fun v2 hv2 => ?_)
      conv => cbv
      have l2 : (v2.length : Int) = kinds.length + 1 := by rw [hv2, tabC]; simp
      refine r_lenR m.sX fun n1 hn1 mn1 => ?_
      conv => cbv
      refine r_oindex m.sX (by omega) (by omega) ?_
      conv => cbv
      obtain ⟨x1, hx1⟩ := get_ex (xs := v2) (i := Int.toNat n1) (by omega)
      have mx1 := get_mem hx1
      have ex1 : x1 = rowC (prF kinds) n := by rw [hv2, show Int.toNat n1 = kinds.length by omega] at hx1; rw [← ep]; exact (Option.some.inj ((tabC_get (by omega)).symm.trans hx1)).symm
      have l1 : (x1.length : Int) = n + 1 := by rw [ex1, rowC_length]; omega
      refine r_oload m.sX hx1 (Nat.le_of_ble_eq_true rfl) ?_
      conv => cbv
      refine r_index m.sX (by omega) (by omega) fun x2 hx2 => ?_
      conv => cbv
      have mx2 := get_mem hx2
      have vx2 := nth_some hx2
      have ex2 : x2 = fewC (prF kinds) n := by rw [← vx2, ex1, rowC_nth (by omega), Int.toNat_of_nonneg b3.1]
      refine r_geq m.sX (fun h2 => ?_) (fun h2 => ?_) <;> conv => cbv
      · exact hQ (.tup [.bool true, .bool true]) (Eq.trans (by first | rfl | (simp only [lb, lbI, rows_cons, rows_nil, unnilT, unnil, unnilTI, unnilI]; done) | (simp only [lb, lbI, rows_cons, rows_nil, unnilT, unnil, unnilTI, unnilI]; rfl)) (congrArg (bb) (show (true, true) = canF kinds n from by rw [canF, h1, decide_eq_true (by omega)]; rfl)))   -- leaf 1
      · exact hQ (.tup [.bool false, .bool true]) (Eq.trans (by first | rfl | (simp only [lb, lbI, rows_cons, rows_nil, unnilT, unnil, unnilTI, unnilI]; done) | (simp only [lb, lbI, rows_cons, rows_nil, unnilT, unnil, unnilTI, unnilI]; rfl)) (congrArg (bb) (show (false, true) = canF kinds n from by rw [canF, h1, decide_eq_false (by omega)]; rfl)))   -- leaf 2
    · exact hQ (.tup [.bool false, .bool false]) (Eq.trans (by first | rfl | (simp only [lb, lbI, rows_cons, rows_nil, unnilT, unnil, unnilTI, unnilI]; done) | (simp only [lb, lbI, rows_cons, rows_nil, unnilT, unnil, unnilTI, unnilI]; rfl)) (congrArg (bb) (show (false, false) = canF kinds n from by rw [canF, h1]; rfl)))   -- leaf 3

theorem wsKinds_ok (kinds : List Int)  : OkA Tryd.prog 121 [.isl 1 (rows cInt kinds)] (· = .bool (okK kinds)) :=
  fn_intro envOk fieldsOk mixed Tryd.func121 rfl fun κ X Y L Q m hQ => by
    conv => cbv
    refine r_lenR m.sX fun n1 hn1 mn1 => ?_
    conv => cbv
    refine r_callB m.sX (l1In_ok n1 1 6) (fun h1 => ?_) (fun h1 => ?_) <;> conv => cbv
    · refine r_callB m.sX (l1Rising_ok kinds 1 54) (fun h2 => ?_) (fun h2 => ?_) <;> conv => cbv
      · exact hQ _ (congrArg PV.bool (by first | rfl | omega | (simp [okK, *]; done) | (subst_vars; simp [okK, *]; done)))   -- leaf 1
      · exact hQ _ (congrArg PV.bool (by first | rfl | omega | (simp [okK, *]; done) | (subst_vars; simp [okK, *]; done)))   -- leaf 2
    · exact hQ _ (congrArg PV.bool (by first | rfl | omega | (simp [okK, *]; done) | (subst_vars; simp [okK, *]; done)))   -- leaf 3

theorem wsAsked_ok (kinds : List Int) (n : Int)  : OkA Tryd.prog 128 [.isl 1 (rows cInt kinds), .int .i64 n] (· = .bool (okF kinds n)) :=
  fn_intro envOk fieldsOk mixed Tryd.func128 rfl fun κ X Y L Q m hQ => by
    conv => cbv
    refine r_callB m.sX (wsKinds_ok kinds) (fun h1 => ?_) (fun h1 => ?_) <;> conv => cbv
    · refine r_callB m.sX (l1In_ok n 0 400) (fun h2 => ?_) (fun h2 => ?_) <;> conv => cbv
      · exact hQ _ (congrArg PV.bool (by first | rfl | omega | (simp [okF, *]; done) | (subst_vars; simp [okF, *]; done)))   -- leaf 1
      · exact hQ _ (congrArg PV.bool (by first | rfl | omega | (simp [okF, *]; done) | (subst_vars; simp [okF, *]; done)))   -- leaf 2
    · exact hQ _ (congrArg PV.bool (by first | rfl | omega | (simp [okF, *]; done) | (subst_vars; simp [okF, *]; done)))   -- leaf 3

theorem wsFew_ok (kinds : List Int) (n : Int) (hks : ∀ k ∈ kinds, 1 ≤ k ∧ k ≤ 54) (hn : 0 ≤ n ∧ n ≤ 400) (hl : kinds.length ≤ 1000) : OkA Tryd.prog 132 [.isl 1 (rows cInt kinds), .int .i64 n] (· = .fr 3 1 (rows cInt (rowP kinds n))) :=
  OkA.unnil 3 1 (fn_intro envOk fieldsOk mixed Tryd.func132 rfl fun κ X Y L Q m hQ => by
    have bk : ∀ k ∈ kinds, 1 ≤ k := fun k hm => (hks k hm).1
    conv => cbv
    refine r_addf m.sX (by omega) (by omega) fun r1 hr1 => ?_
    conv => cbv
    refine r_make cInt 0 m.sX rfl (by omega) (by omega) (by dsimp only; omega) (by omega) fun out hout => ?_   -- out = replicate r1
    have lout : (out.length : Int) = r1 := by rw [hout]; first | done | (simp; done) | (simp; omega)
    conv => cbv
    refine r_loopF (α := List Int × Int) m 71 [0, 1, 6] [⟨5, 41, 3, 1, 0⟩] (fun σ => [(0, .isl 1 (rows cInt kinds)), (1, .int .i64 n), (5, .osl 41 0), (6, .int .i64 σ.2)]) (fun σ => [(41, 0, .row 3 1 (rows cInt σ.1))])
      (fun σ => (1 ≤ σ.2 ∧ σ.2 ≤ n + 1) ∧ (σ.1 = rowP kinds (σ.2 - 1) ++ List.replicate (n + 1 - σ.2).toNat 0)) (fun σ => (n + 1 - σ.2).toNat) (out, 1) ?_ ?_ ?_ ?_
    · cbv
    · cbv
    · exact ⟨(by (try dsimp only) <;> first | omega | rfl | (simp [*]; done)), (by (try dsimp only) <;> (rw [hout, show Int.toNat r1 = Int.toNat n + 1 by omega, List.replicate_succ, show n + 1 - 1 = n by omega]; exact rowP_first bk _))⟩
    rintro ⟨out_2, x⟩ ⟨k1, q⟩ E hE F hF
    dsimp only at k1 q
    have l1 : (out_2.length : Int) = n + 1 := by rw [q]; simp only [List.length_append, rowP_length, List.length_replicate]; omega
    conv => cbv
    refine r_leq m.sX (fun h1 => ?_) (fun h1 => ?_) <;> conv => cbv
    · refine r_oindex m.sX (by omega) (by omega) ?_
      conv => cbv
      obtain ⟨y1, hy1⟩ := get_ex (xs := out_2) (i := Int.toNat x) (by omega)
      refine r_ostore (l := Int.toNat x) (-1) m.sX hy1 (Nat.le_of_ble_eq_true rfl) rfl fun out_3 hout_3 => ?_   -- out_3 = out_2.set x -1
      have lout_3 : (out_3.length : Int) = out_2.length := by rw [hout_3]; first | done | (simp; done) | (simp; omega)
      have e3 : out_3 = rowP kinds (x - 1) ++ -1 :: List.replicate (n - x).toNat 0 := by rw [hout_3, q]; exact rowP_mid (by omega) (by omega)
      have n3 : nth out_3 (Int.toNat x) = -1 := by rw [e3]; exact nth_mid (by rw [rowP_length]; omega)
      conv => cbv
      refine r_lenR m.sX fun n1 hn1 mn1 => ?_
      conv => cbv
      refine r_loopF (α := List Int × Int) m 71 [0, 1, 6, 20, 21, 22] [⟨5, 41, 3, 1, 0⟩] (fun σ => [(0, .isl 1 (rows cInt kinds)), (1, .int .i64 n), (5, .osl 41 0), (6, .int .i64 x), (20, .isl 1 (rows cInt kinds)), (21, .int .i64 n1), (22, .int .i64 σ.2)]) (fun σ => [(41, 0, .row 3 1 (rows cInt σ.1))])
        (fun σ => (0 ≤ σ.2) ∧ (σ.2 ≤ n1) ∧ (σ.1 = rowP kinds (x - 1) ++ nth σ.1 (Int.toNat x) :: List.replicate (n - x).toNat 0) ∧ (IsMin (Last kinds (kinds.take σ.2.toNat) x) (nth σ.1 (Int.toNat x)))) (fun σ => (n1 - σ.2).toNat) (out_3, 0) ?_ ?_ ?_ ?_
      · cbv
      · cbv
      · exact ⟨(by (try dsimp only); first | omega | (simp only [List.length_nil]; omega)), (by (try dsimp only); first | omega | (simp only [List.length_nil]; omega)), (by (try dsimp only) <;> (rw [n3]; exact e3)), (by (try dsimp only) <;> (rw [n3]; exact last_nil _ _))⟩
      rintro ⟨out_4, i1⟩ ⟨lo2, hi2, e, c⟩ E2 hE2 F2 hF2
      dsimp only at lo2 hi2 e c
      have l4 : (out_4.length : Int) = n + 1 := by rw [e]; simp only [List.length_append, rowP_length, List.length_cons, List.length_replicate]; omega
      have cb := c.ge
      conv => cbv
      refine r_lss m.sX (fun h2 => ?_) (fun h2 => ?_) <;> conv => cbv
      · refine r_index m.sX (by omega) (by omega) fun k hk => ?_
        conv => cbv
        have mk := get_mem hk
        have dk := drop_cons hk
        have kk := take_snoc hk
        have jk : (i1 + 1).toNat = Int.toNat i1 + 1 := by omega
        have vk := nth_some hk
        have bq := hks _ mk
        have bf := fewP_bound bk (n := x - k)
        have low : ∀ (j : Nat), (j : Int) < x → nth out_4 j = fewP kinds j := fun j hj => by rw [e, nth_left (by rw [rowP_length]; omega), rowP_nth (by omega)]
        refine r_draw m (by kernel_rfl) ?_
        conv => cbv
        refine r_leq m.sY (fun h3 => ?_) (fun h3 => ?_) <;> conv => cbv
        · refine r_subf m.sY (by omega) (by omega) fun r2 hr2 => ?_
          conv => cbv
          refine r_oindex m.sY (by omega) (by omega) ?_
          conv => cbv
          obtain ⟨x1, hx1⟩ := get_ex (xs := out_4) (i := Int.toNat r2) (by omega)
          have mx1 := get_mem hx1
          have vx1 := nth_some hx1
          have e1 : x1 = fewP kinds (x - k) := by rw [← vx1, low _ (by omega), Int.toNat_of_nonneg (by omega), hr2]
          refine r_oload m.sY hx1 (Nat.le_of_ble_eq_true rfl) ?_
          conv => cbv
          refine r_geq m.sY (fun h4 => ?_) (fun h4 => ?_) <;> conv => cbv
          · refine r_oindex m.sY (by omega) (by omega) ?_
            conv => cbv
            obtain ⟨x2, hx2⟩ := get_ex (xs := out_4) (i := Int.toNat x) (by omega)
            have mx2 := get_mem hx2
            have vx2 := nth_some hx2
            refine r_oload m.sY hx2 (Nat.le_of_ble_eq_true rfl) ?_
            conv => cbv
            refine r_lss m.sY (fun h5 => ?_) (fun h5 => ?_) <;> conv => cbv
            · refine r_subf m.sX (by omega) (by omega) fun r3 hr3 => ?_
              conv => cbv
              refine r_oindex m.sX (by omega) (by omega) ?_
              conv => cbv
              obtain ⟨x3, hx3⟩ := get_ex (xs := out_4) (i := Int.toNat r3) (by omega)
              have mx3 := get_mem hx3
              have vx3 := nth_some hx3
              have e1' : x3 = fewP kinds (x - k) := by rw [← vx3, low _ (by omega), Int.toNat_of_nonneg (by omega), hr3]
              refine r_oload m.sX hx3 (Nat.le_of_ble_eq_true rfl) ?_
              conv => cbv
              refine r_addf m.sX (by omega) (by omega) fun r4 hr4 => ?_
              conv => cbv
              refine r_oindex m.sX (by omega) (by omega) ?_
              conv => cbv
              obtain ⟨y2, hy2⟩ := get_ex (xs := out_4) (i := Int.toNat x) (by omega)
              refine r_ostore (l := Int.toNat x) r4 m.sX hy2 (Nat.le_of_ble_eq_true rfl) rfl fun out_5 hout_5 => ?_   -- out_5 = out_4.set x r4
              have lout_5 : (out_5.length : Int) = out_4.length := by rw [hout_5]; first | done | (simp; done) | (simp; omega)
              have e5 : out_5 = rowP kinds (x - 1) ++ r4 :: List.replicate (n - x).toNat 0 := by rw [hout_5]; exact (congrArg (fun z => List.set z (Int.toNat x) r4) e).trans (set_mid (by rw [rowP_length]; omega))
              have n5 : nth out_5 (Int.toNat x) = r4 := by rw [e5]; exact nth_mid (by rw [rowP_length]; omega)
              conv => cbv
              refine r_addf m.sX (by omega) (by omega) fun r5 hr5 => ?_
              conv => cbv
              have tr5 : Int.toNat r5 = Int.toNat i1 + 1 := by omega
              refine hE2 _ (out_5, r5) ?_ ?_ ⟨(by (try dsimp only); first | omega | (simp only [List.length_nil]; omega)), (by (try dsimp only); first | omega | (simp only [List.length_nil]; omega)), (by (try dsimp only) <;> (first | exact e | (rw [n5]; exact e5))), (by (try dsimp only) <;> (rw [tr5, kk]; first | exact last_skip c (by omega) | (have ct := last_take c (show 0 ≤ fewP kinds (x - k) by omega); first | (rw [if_pos (by omega)] at ct; rw [n5]; refine cast ?_ ct; congr 1; omega) | (rw [if_neg (by omega)] at ct; exact ct))))⟩ (by first | omega | (dsimp only; omega))
              · cbv
              · cbv
            · refine r_subf m.sY (by omega) (by omega) fun r6 hr6 => ?_
              conv => cbv
              refine r_oindex m.sY (by omega) (by omega) ?_
              conv => cbv
              obtain ⟨x4, hx4⟩ := get_ex (xs := out_4) (i := Int.toNat r6) (by omega)
              have mx4 := get_mem hx4
              have vx4 := nth_some hx4
              have e1' : x4 = fewP kinds (x - k) := by rw [← vx4, low _ (by omega), Int.toNat_of_nonneg (by omega), hr6]
              refine r_oload m.sY hx4 (Nat.le_of_ble_eq_true rfl) ?_
              conv => cbv
              refine r_addf m.sY (by omega) (by omega) fun r7 hr7 => ?_
              conv => cbv
              refine r_oindex m.sY (by omega) (by omega) ?_
              conv => cbv
              obtain ⟨x5, hx5⟩ := get_ex (xs := out_4) (i := Int.toNat x) (by omega)
              have mx5 := get_mem hx5
              have vx5 := nth_some hx5
              refine r_oload m.sY hx5 (Nat.le_of_ble_eq_true rfl) ?_
              conv => cbv
              refine r_lss m.sY (fun h6 => ?_) (fun h6 => ?_) <;> conv => cbv
              · refine r_subf m.sX (by omega) (by omega) fun r8 hr8 => ?_
                conv => cbv
                refine r_oindex m.sX (by omega) (by omega) ?_
                conv => cbv
                obtain ⟨x6, hx6⟩ := get_ex (xs := out_4) (i := Int.toNat r8) (by omega)
                have mx6 := get_mem hx6
                have vx6 := nth_some hx6
                have e1'' : x6 = fewP kinds (x - k) := by rw [← vx6, low _ (by omega), Int.toNat_of_nonneg (by omega), hr8]
                refine r_oload m.sX hx6 (Nat.le_of_ble_eq_true rfl) ?_
                conv => cbv
                refine r_addf m.sX (by omega) (by omega) fun r9 hr9 => ?_
                conv => cbv
                refine r_oindex m.sX (by omega) (by omega) ?_
                conv => cbv
                obtain ⟨y3, hy3⟩ := get_ex (xs := out_4) (i := Int.toNat x) (by omega)
                refine r_ostore (l := Int.toNat x) r9 m.sX hy3 (Nat.le_of_ble_eq_true rfl) rfl fun out_6 hout_6 => ?_   -- out_6 = out_4.set x r9
                have lout_6 : (out_6.length : Int) = out_4.length := by rw [hout_6]; first | done | (simp; done) | (simp; omega)
                have e5 : out_6 = rowP kinds (x - 1) ++ r9 :: List.replicate (n - x).toNat 0 := by rw [hout_6]; exact (congrArg (fun z => List.set z (Int.toNat x) r9) e).trans (set_mid (by rw [rowP_length]; omega))
                have n5 : nth out_6 (Int.toNat x) = r9 := by rw [e5]; exact nth_mid (by rw [rowP_length]; omega)
                conv => cbv
                refine r_addf m.sX (by omega) (by omega) fun r10 hr10 => ?_
                conv => cbv
                have tr10 : Int.toNat r10 = Int.toNat i1 + 1 := by omega
                refine hE2 _ (out_6, r10) ?_ ?_ ⟨(by (try dsimp only); first | omega | (simp only [List.length_nil]; omega)), (by (try dsimp only); first | omega | (simp only [List.length_nil]; omega)), (by (try dsimp only) <;> (first | exact e | (rw [n5]; exact e5))), (by (try dsimp only) <;> (rw [tr10, kk]; first | exact last_skip c (by omega) | (have ct := last_take c (show 0 ≤ fewP kinds (x - k) by omega); first | (rw [if_pos (by omega)] at ct; rw [n5]; refine cast ?_ ct; congr 1; omega) | (rw [if_neg (by omega)] at ct; exact ct))))⟩ (by first | omega | (dsimp only; omega))
                · cbv
                · cbv
              · refine r_addf m.sX (by omega) (by omega) fun r11 hr11 => ?_
                conv => cbv
                have tr11 : Int.toNat r11 = Int.toNat i1 + 1 := by omega
                refine hE2 _ (out_4, r11) ?_ ?_ ⟨(by (try dsimp only); first | omega | (simp only [List.length_nil]; omega)), (by (try dsimp only); first | omega | (simp only [List.length_nil]; omega)), (by (try dsimp only) <;> (first | exact e | (rw [n5]; exact e5))), (by (try dsimp only) <;> (rw [tr11, kk]; first | exact last_skip c (by omega) | (have ct := last_take c (show 0 ≤ fewP kinds (x - k) by omega); first | (rw [if_pos (by omega)] at ct; rw [n5]; refine cast ?_ ct; congr 1; omega) | (rw [if_neg (by omega)] at ct; exact ct))))⟩ (by first | omega | (dsimp only; omega))
                · cbv
                · cbv
          · refine r_addf m.sX (by omega) (by omega) fun r12 hr12 => ?_
            conv => cbv
            have tr12 : Int.toNat r12 = Int.toNat i1 + 1 := by omega
            refine hE2 _ (out_4, r12) ?_ ?_ ⟨(by (try dsimp only); first | omega | (simp only [List.length_nil]; omega)), (by (try dsimp only); first | omega | (simp only [List.length_nil]; omega)), (by (try dsimp only) <;> (first | exact e | (rw [n5]; exact e5))), (by (try dsimp only) <;> (rw [tr12, kk]; first | exact last_skip c (by omega) | (have ct := last_take c (show 0 ≤ fewP kinds (x - k) by omega); first | (rw [if_pos (by omega)] at ct; rw [n5]; refine cast ?_ ct; congr 1; omega) | (rw [if_neg (by omega)] at ct; exact ct))))⟩ (by first | omega | (dsimp only; omega))
            · cbv
            · cbv
        · have ng : fewP kinds (x - k) = -1 := fewP_neg bk (by omega)
          refine r_addf m.sX (by omega) (by omega) fun r13 hr13 => ?_
          conv => cbv
          have tr13 : Int.toNat r13 = Int.toNat i1 + 1 := by omega
          refine hE2 _ (out_4, r13) ?_ ?_ ⟨(by (try dsimp only); first | omega | (simp only [List.length_nil]; omega)), (by (try dsimp only); first | omega | (simp only [List.length_nil]; omega)), (by (try dsimp only) <;> (first | exact e | (rw [n5]; exact e5))), (by (try dsimp only) <;> (rw [tr13, kk]; first | exact last_skip c (by omega) | (have ct := last_take c (show 0 ≤ fewP kinds (x - k) by omega); first | (rw [if_pos (by omega)] at ct; rw [n5]; refine cast ?_ ct; congr 1; omega) | (rw [if_neg (by omega)] at ct; exact ct))))⟩ (by first | omega | (dsimp only; omega))
          · cbv
          · cbv
      · have dz_i1 := drop_end (xs := kinds) (i := Int.toNat i1) (by omega)
        have tz_i1 := take_end (xs := kinds) (i := Int.toNat i1) (by omega)
        refine hF2 _ _ ?_
        conv => cbv
        refine r_addf m.sX (by omega) (by omega) fun x_2 hx_2 => ?_
        conv => cbv
        refine hE _ (out_4, x_2) ?_ ?_ ⟨(by (try dsimp only) <;> first | omega | rfl | (simp [*]; done) | (rw [k1]; simp [*]; done)), (by (try dsimp only) <;> (rw [show n + 1 - x_2 = n - x by omega]; exact e.trans (rowP_next (by omega) hx_2 (fewP_last bk k1.1 (by rw [tz_i1] at c; exact c)))))⟩ (by first | omega | (dsimp only; omega))
        · cbv
        · cbv
    · refine hF _ _ ?_
      conv => cbv
      exact hQ (.fr 3 1 (rows cInt out_2)) (Eq.trans (by first | rfl | (simp only [lb, lbI, rows_cons, rows_nil, unnilT, unnil, unnilTI, unnilI]; done) | (simp only [lb, lbI, rows_cons, rows_nil, unnilT, unnil, unnilTI, unnilI]; rfl)) (congrArg (fun l => PV.fr 3 1 (rows cInt l)) (show out_2 = rowP kinds n from by rw [q, show x = n + 1 by omega, show n + 1 - 1 = n by omega, show Int.toNat (n + 1 - (n + 1)) = 0 by omega]; simp))))   -- leaf 1

theorem specCanFill_ok (kinds : List Int) (n : Int)  : OkA Tryd.prog 62 [.isl 1 (rows cInt kinds), .int .i64 n] (· = bb (canF kinds n)) :=
  fn_intro envOk fieldsOk mixed Tryd.func62 rfl fun κ X Y L Q m hQ => by
    conv => cbv
    refine r_callB m.sX (wsAsked_ok kinds n) (fun h1 => ?_) (fun h1 => ?_) <;> conv => cbv
    · obtain ⟨b1, b2, b3⟩ := okF_spec h1
      have bk : ∀ k ∈ kinds, 1 ≤ k := fun k hk => (b2 k hk).1
      have ef := fewC_prF bk b3.2
      refine r_callF (fun l => PV.fr _ _ (rows _ l)) m.sX (wsFew_ok kinds n (by first | rfl | assumption | omega | (simp only [List.length_append, List.length_cons, List.length_nil] at *; omega)) (by first | rfl | assumption | omega | (simp only [List.length_append, List.length_cons, List.length_nil] at *; omega)) (by first | rfl | assumption | omega | (simp only [List.length_append, List.length_cons, List.length_nil] at *; omega))) fun v1 hv1 => ?_
      conv => cbv
      have l1 : (v1.length : Int) = n + 1 := by rw [hv1, rowP_length]; omega
      refine r_oindex m.sX (by omega) (by omega) ?_
      conv => cbv
      obtain ⟨x1, hx1⟩ := get_ex (xs := v1) (i := Int.toNat n) (by omega)
      have mx1 := get_mem hx1
      have vx1 := nth_some hx1
      have e1 : x1 = fewP kinds n := by rw [← vx1, hv1, rowP_nth (by omega), Int.toNat_of_nonneg b3.1]
      refine r_oload m.sX hx1 (Nat.le_of_ble_eq_true rfl) ?_
      conv => cbv
      refine r_geq m.sX (fun h2 => ?_) (fun h2 => ?_) <;> conv => cbv
      · exact hQ (.tup [.bool true, .bool true]) (Eq.trans (by first | rfl | (simp only [lb, lbI, rows_cons, rows_nil, unnilT, unnil, unnilTI, unnilI]; done) | (simp only [lb, lbI, rows_cons, rows_nil, unnilT, unnil, unnilTI, unnilI]; rfl)) (congrArg (bb) (show (true, true) = canF kinds n from by rw [canF, h1, decide_eq_true (by omega)]; rfl)))   -- leaf 1
      · exact hQ (.tup [.bool false, .bool true]) (Eq.trans (by first | rfl | (simp only [lb, lbI, rows_cons, rows_nil, unnilT, unnil, unnilTI, unnilI]; done) | (simp only [lb, lbI, rows_cons, rows_nil, unnilT, unnil, unnilTI, unnilI]; rfl)) (congrArg (bb) (show (false, true) = canF kinds n from by rw [canF, h1, decide_eq_false (by omega)]; rfl)))   -- leaf 2
    · exact hQ (.tup [.bool false, .bool false]) (Eq.trans (by first | rfl | (simp only [lb, lbI, rows_cons, rows_nil, unnilT, unnil, unnilTI, unnilI]; done) | (simp only [lb, lbI, rows_cons, rows_nil, unnilT, unnil, unnilTI, unnilI]; rfl)) (congrArg (bb) (show (false, false) = canF kinds n from by rw [canF, h1]; rfl)))   -- leaf 3

end Go.Proofs.YtbamclepgabciaaDoor.Ai
