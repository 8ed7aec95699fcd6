/- The reference's filling out of a stock: its table is a tree. -/
import Derived.Test.YtbamclepgabciaaDoorStk
import Derived.Test.YtbamclepgabciaaDoorAiNest
import Derived.Test.YtbamclepgabciaaDoorLit
namespace Go.Proofs.YtbamclepgabciaaDoor.Ai
open Go Go.Proofs
set_option linter.unusedSimpArgs false
set_option maxRecDepth 10000
set_option maxHeartbeats 4000000
set_option linter.unusedVariables false
/-- Whether fewer than c of a kind may do. -/
def CanI (l : List (Int × Int)) (w s x c : Int) (b : Bool) : Prop := b = true ↔ ∃ m, 0 ≤ m ∧ m < c ∧ m ≤ s ∧ 0 ≤ fewC l (x - m * w)
theorem wsStock_ok (kinds : List Int) (stock : List Int) (n : Int) (bl : (kinds.length : Int) ≤ 6) (b2 : ∀ k ∈ kinds, 1 ≤ k ∧ k ≤ 54) (b3 : 0 ≤ n ∧ n ≤ 400) (s1_ : ∀ c ∈ stock, 0 ≤ c ∧ c ≤ 400) (s2_ : stock.length = kinds.length) : OkA Tryd.prog 130 [.isl 1 (rows cInt kinds), .isl 1 (rows cInt stock), .int .i64 n] (· = (lb 3 1 cInt) (stkW kinds stock n)) :=
  OkA.unnil 3 1 (fn_intro (nestIn_ok 140 envOk) (nestIn_fields 140 fieldsOk) mixed Tryd.func130 rfl fun κ X Y L Q m hQ => by
    have bp : ∀ i, ∀ p ∈ pre kinds stock i, 1 ≤ p.1 := fun i p hp => (b2 p.1 (pre_mem hp).1).1
    conv => cbv
    refine r_addf m.sX (by omega) (by omega) fun r1 hr1 => ?_
    conv => cbv
    refine r_make cBool false m.sX rfl (by omega) (by omega) (by dsimp only; omega) (by omega) fun zs1 hzs1 => ?_   -- zs1 = replicate r1
    have lzs1 : (zs1.length : Int) = r1 := by rw [hzs1]; first | done | (simp; done) | (simp; omega)
    conv => cbv
    refine r_oindexN 1 m.sX rfl (by omega) (by omega) ?_   -- [zs1][0]
    conv => cbv
    have hx1 : ([zs1] : List (List Bool))[Int.toNat 0]? = some zs1 := rfl
    refine r_oloadL cRunB [zs1] m.sX (by simp only [rows_cons, rows_nil]; rfl) hx1 (Nat.le_of_ble_eq_true rfl) ?_
    conv => cbv
    refine r_oloadL cRunB [zs1] m.sX (by simp only [rows_cons, rows_nil]; rfl) hx1 (Nat.le_of_ble_eq_true rfl) ?_
    conv => cbv
    refine r_oindex m.sX (by omega) (by omega) ?_
    conv => cbv
    refine r_oloadL cRunB [zs1] m.sX (by simp only [rows_cons, rows_nil]; rfl) hx1 (Nat.le_of_ble_eq_true rfl) ?_
    conv => cbv
    obtain ⟨z0, hz0⟩ := get_ex (xs := zs1) (i := 0) (by omega)
    refine r_ostore (l := 0) true m.sX hz0 (Nat.le_of_ble_eq_true rfl) rfl fun zs2 hzs2 => ?_
    conv => cbv
    refine r_ostoreL cRunB [zs1] (l := Int.toNat 0) zs2 m.sX (by simp only [rows_cons, rows_nil]; rfl) hx1 (Nat.le_of_ble_eq_true rfl) rfl fun can0_ hcan0_ => ?_
    conv => cbv
    have can0 : can0_ = tabB kinds stock n (Int.toNat 0) := by rw [hcan0_]; show [zs2] = [rowB (pre kinds stock 0) n]; rw [hzs2, hzs1, show Int.toNat r1 = Int.toNat (n + 1) by omega]; exact congrArg (fun z => [z]) (rowB_first b3.1)
    refine r_lenR m.sX fun n1 hn1 mn1 => ?_
    conv => cbv
    refine r_loopF (α := List (List Bool) × Int) m 140 [0, 1, 2, 25, 26, 27] [⟨8, 65, 48 + 1000000, 1, 0⟩] (fun σ => [(0, .isl 1 (rows cInt kinds)), (1, .isl 1 (rows cInt stock)), (2, .int .i64 n), (8, .osl 65 0), (25, .isl 1 (rows cInt kinds)), (26, .int .i64 n1), (27, .int .i64 σ.2)]) (fun σ => [(65, 0, .tree 48 1 (rows cRunB σ.1))])
      (fun σ => (0 ≤ σ.2) ∧ (σ.2 ≤ n1) ∧ (σ.1 = tabB kinds stock n σ.2.toNat)) (fun σ => (n1 - σ.2).toNat) (can0_, 0) ?_ ?_ ?_ ?_
    · cbv
    · (try dsimp only); (try simp only [rows_cons, rows_nil]); cbv
    · exact ⟨(by (try dsimp only); first | omega | (simp only [List.length_nil]; omega) | (simp only [List.length_cons, List.length_nil]; omega)), (by (try dsimp only); first | omega | (simp only [List.length_nil]; omega) | (simp only [List.length_cons, List.length_nil]; omega)), (by (try dsimp only) <;> (exact can0))⟩
    rintro ⟨can, i1⟩ ⟨lo1, hi1, q⟩ E hE F hF
    dsimp only at lo1 hi1 q
    have cl : (can.length : Int) = i1 + 1 := by rw [q, tabB_length]; omega
    conv => cbv
    refine r_lss m.sX (fun h1 => ?_) (fun h1 => ?_) <;> conv => cbv
    · refine r_index m.sX (by omega) (by omega) fun w hw => ?_
      conv => cbv
      have mw := get_mem hw
      have dw := drop_cons hw
      have kw := take_snoc hw
      have jw : (i1 + 1).toNat = Int.toNat i1 + 1 := by omega
      have vw := nth_some hw
      obtain ⟨sw, hsw⟩ := get_ex (xs := stock) (i := Int.toNat i1) (by omega)
      have ww := b2 _ mw
      have ss := s1_ _ (get_mem hsw)
      have lk := bp (Int.toNat i1)
      refine r_addf m.sX (by omega) (by omega) fun r2 hr2 => ?_
      conv => cbv
      refine r_make cBool false m.sX rfl (by omega) (by omega) (by dsimp only; omega) (by omega) fun next hnext => ?_   -- next = replicate r2
      have lnext : (next.length : Int) = r2 := by rw [hnext]; first | done | (simp; done) | (simp; omega)
      conv => cbv
      refine r_loopF (α := List Bool × Int) m 140 [0, 1, 2, 9, 10, 12, 25, 26, 27] [⟨8, 65, 48 + 1000000, 1, 0⟩, ⟨11, 89, 4, 1, 0⟩] (fun σ => [(0, .isl 1 (rows cInt kinds)), (1, .isl 1 (rows cInt stock)), (2, .int .i64 n), (8, .osl 65 0), (9, .int .i64 i1), (10, .int .i64 w), (11, .osl 89 0), (12, .int .i64 σ.2), (25, .isl 1 (rows cInt kinds)), (26, .int .i64 n1), (27, .int .i64 i1)]) (fun σ => [(65, 0, .tree 48 1 (rows cRunB can)), (89, 0, .row 4 1 (rows cBool σ.1))])
        (fun σ => (0 ≤ σ.2 ∧ σ.2 ≤ n + 1) ∧ (σ.1 = rowB (pre kinds stock (Int.toNat i1 + 1)) (σ.2 - 1) ++ List.replicate (n + 1 - σ.2).toNat false)) (fun σ => (n + 1 - σ.2).toNat) (next, 0) ?_ ?_ ?_ ?_
      · cbv
      · cbv
      · exact ⟨(by (try dsimp only) <;> first | omega | rfl | (simp [*]; done)), (by (try dsimp only) <;> (rw [hnext, show Int.toNat r2 = Int.toNat (n + 1 - 0) by omega]; exact rowB_zeros _ _))⟩
      rintro ⟨next_2, x⟩ ⟨k2, q2⟩ E2 hE2 F2 hF2
      dsimp only at k2 q2
      have l2 : (next_2.length : Int) = n + 1 := by rw [q2]; simp only [List.length_append, rowB_length, List.length_replicate]; omega
      conv => cbv
      refine r_leq m.sX (fun h2 => ?_) (fun h2 => ?_) <;> conv => cbv
      · refine r_loopF (α := List Bool × Int) m 140 [0, 1, 2, 9, 10, 12, 13, 25, 26, 27] [⟨8, 65, 48 + 1000000, 1, 0⟩, ⟨11, 89, 4, 1, 0⟩] (fun σ => [(0, .isl 1 (rows cInt kinds)), (1, .isl 1 (rows cInt stock)), (2, .int .i64 n), (8, .osl 65 0), (9, .int .i64 i1), (10, .int .i64 w), (11, .osl 89 0), (12, .int .i64 x), (13, .int .i64 σ.2), (25, .isl 1 (rows cInt kinds)), (26, .int .i64 n1), (27, .int .i64 i1)]) (fun σ => [(65, 0, .tree 48 1 (rows cRunB can)), (89, 0, .row 4 1 (rows cBool σ.1))])
          (fun σ => (0 ≤ σ.2 ∧ σ.2 ≤ x + 1) ∧ (∃ b, σ.1 = rowB (pre kinds stock (Int.toNat i1 + 1)) (x - 1) ++ b :: List.replicate (n - x).toNat false ∧ CanI (pre kinds stock (Int.toNat i1)) w sw x σ.2 b)) (fun σ => (x + 1 - σ.2).toNat) (next_2, 0) ?_ ?_ ?_ ?_
        · cbv
        · cbv
        · exact ⟨(by (try dsimp only) <;> first | omega | rfl | (simp [*]; done)), (by (try dsimp only) <;> (exact ⟨false, by rw [q2]; exact rowB_open (by omega), by unfold CanI; simp; intro m m1 m2; omega⟩))⟩
        rintro ⟨next_3, count⟩ ⟨k3, e3⟩ E3 hE3 F3 hF3
        dsimp only at k3 e3
        obtain ⟨b, e4, c4⟩ := e3
        have l3 : (next_3.length : Int) = n + 1 := by rw [e4]; simp only [List.length_append, rowB_length, List.length_cons, List.length_replicate]; omega
        have rl : (rowB (pre kinds stock (Int.toNat i1 + 1)) (x - 1)).length = Int.toNat x := by rw [rowB_length]; omega
        have g1 := mul_bound k3.1 (show count ≤ 401 by omega) (show 0 ≤ w by omega) ww.2
        conv => cbv
        refine r_index m.sX (by omega) (by omega) fun x3 hx3 => ?_
        conv => cbv
        have mx3 := get_mem hx3
        have dx3 := drop_cons hx3
        have kx3 := take_snoc hx3
        have jx3 : (i1 + 1).toNat = Int.toNat i1 + 1 := by omega
        have vx3 := nth_some hx3
        have es := Option.some.inj (hsw.symm.trans hx3)
        refine r_leq m.sX (fun h3 => ?_) (fun h3 => ?_) <;> conv => cbv
        · refine r_mulf m.sX (by first | omega | (subst_vars; omega)) (by first | omega | (subst_vars; omega)) fun r3 hr3 => ?_
          conv => cbv
          refine r_leq m.sX (fun h4 => ?_) (fun h4 => ?_) <;> conv => cbv
          · have g2 : count * 1 ≤ count * w := Int.mul_le_mul_of_nonneg_left ww.1 k3.1
            refine r_oindex m.sX (by omega) (by omega) ?_
            conv => cbv
            obtain ⟨x4, hx4⟩ := get_ex (xs := next_3) (i := Int.toNat x) (by omega)
            have mx4 := get_mem hx4
            have eb : x4 = b := by rw [e4] at hx4; exact Option.some.inj (hx4.symm.trans (mid_at rl))
            refine r_oload m.sX hx4 (Nat.le_of_ble_eq_true rfl) ?_
            conv => cbv
            rcases Bool.eq_false_or_eq_true x4 with rfl | rfl <;> conv => cbv
            · refine r_oindex m.sX (by omega) (by omega) ?_
              conv => cbv
              obtain ⟨y1, hy1⟩ := get_ex (xs := next_3) (i := Int.toNat x) (by omega)
              refine r_ostore (l := Int.toNat x) true m.sX hy1 (Nat.le_of_ble_eq_true rfl) rfl fun next_4 hnext_4 => ?_   -- next_4 = next_3.set x true
              have lnext_4 : (next_4.length : Int) = next_3.length := by rw [hnext_4]; first | done | (simp; done) | (simp; omega)
              have e7 := (congrArg (fun z => List.set z (Int.toNat x) true) e4).trans (mid_set rl)
              conv => cbv
              refine r_addf m.sX (by omega) (by omega) fun count_2 hcount_2 => ?_
              conv => cbv
              refine hE3 _ (next_4, count_2) ?_ ?_ ⟨(by (try dsimp only) <;> first | omega | rfl | (simp [*]; done) | (rw [k3]; simp [*]; done)), (by (try dsimp only) <;> (first | exact ⟨true, hnext_4.trans e7, Iff.intro (fun _ => can_keep hcount_2 (c4.1 eb.symm)) (fun _ => rfl)⟩ | exact ⟨x6, hnext_5.trans e7, can_more eb.symm c4 (by rw [e6]; exact decide_eq_true_iff) k3.1 (by omega) hcount_2⟩))⟩ (by first | omega | (dsimp only; omega))
              · cbv
              · cbv
            · refine r_oindex m.sX (by omega) (by omega) ?_
              conv => cbv
              obtain ⟨x5, hx5⟩ := get_ex (xs := can) (i := Int.toNat i1) (by omega)
              have mx5 := get_mem hx5
              have dx5 := drop_cons hx5
              have kx5 := take_snoc hx5
              have jx5 : (i1 + 1).toNat = Int.toNat i1 + 1 := by omega
              have ex5 : x5 = rowB (pre kinds stock (Int.toNat i1)) n := by rw [q] at hx5; exact Option.some.inj (hx5.symm.trans (tabB_at (Nat.le_refl _)))
              have l5_ : (x5.length : Int) = n + 1 := by rw [ex5, rowB_length]; omega
              refine r_oload m.sX hx5 (Nat.le_of_ble_eq_true rfl) ?_
              conv => cbv
              refine r_mulf m.sX (by first | omega | (subst_vars; omega)) (by first | omega | (subst_vars; omega)) fun r4 hr4 => ?_
              conv => cbv
              refine r_subf m.sX (by omega) (by omega) fun r5 hr5 => ?_
              conv => cbv
              refine r_oload m.sX hx5 (Nat.le_of_ble_eq_true rfl) ?_
              conv => cbv
              refine r_oindex m.sX (by omega) (by omega) ?_
              conv => cbv
              refine r_oload m.sX hx5 (Nat.le_of_ble_eq_true rfl) ?_
              conv => cbv
              obtain ⟨x6, hx6⟩ := get_ex (xs := x5) (i := Int.toNat r5) (by omega)
              refine r_oload (x := x6) m.sX hx6 (Nat.le_of_ble_eq_true rfl) ?_
              conv => cbv
              have mx6 := get_mem hx6
              have e6 : x6 = decide (0 ≤ fewC (pre kinds stock (Int.toNat i1)) (x - count * w)) := by rw [ex5, rowB_at (by omega), Int.toNat_of_nonneg (by omega), hr5, hr4] at hx6; exact (Option.some.inj hx6).symm
              refine r_oindex m.sX (by omega) (by omega) ?_
              conv => cbv
              obtain ⟨y2, hy2⟩ := get_ex (xs := next_3) (i := Int.toNat x) (by omega)
              refine r_ostore (l := Int.toNat x) x6 m.sX hy2 (Nat.le_of_ble_eq_true rfl) rfl fun next_5 hnext_5 => ?_   -- next_5 = next_3.set x x6
              have lnext_5 : (next_5.length : Int) = next_3.length := by rw [hnext_5]; first | done | (simp; done) | (simp; omega)
              have e7 := (congrArg (fun z => List.set z (Int.toNat x) x6) e4).trans (mid_set rl)
              conv => cbv
              refine r_addf m.sX (by omega) (by omega) fun count_3 hcount_3 => ?_
              conv => cbv
              refine hE3 _ (next_5, count_3) ?_ ?_ ⟨(by (try dsimp only) <;> first | omega | rfl | (simp [*]; done) | (rw [k3]; simp [*]; done)), (by (try dsimp only) <;> (first | exact ⟨true, hnext_4.trans e7, Iff.intro (fun _ => can_keep hcount_3 (c4.1 eb.symm)) (fun _ => rfl)⟩ | exact ⟨x6, hnext_5.trans e7, can_more eb.symm c4 (by rw [e6]; exact decide_eq_true_iff) k3.1 (by omega) hcount_3⟩))⟩ (by first | omega | (dsimp only; omega))
              · cbv
              · cbv
          · refine hF3 _ _ ?_
            conv => cbv
            refine r_addf m.sX (by omega) (by omega) fun x_2 hx_2 => ?_
            conv => cbv
            refine hE2 _ (next_3, x_2) ?_ ?_ ⟨(by (try dsimp only) <;> first | omega | rfl | (simp [*]; done) | (rw [k2]; simp [*]; done)), (by (try dsimp only) <;> (have eb := can_end hw hsw lk ww.1 (by omega) c4; rw [show n + 1 - x_2 = n - x by omega]; exact e4.trans (rowB_next k2.1 hx_2 eb)))⟩ (by first | omega | (dsimp only; omega))
            · cbv
            · cbv
        · refine hF3 _ _ ?_
          conv => cbv
          refine r_addf m.sX (by omega) (by omega) fun x_3 hx_3 => ?_
          conv => cbv
          refine hE2 _ (next_3, x_3) ?_ ?_ ⟨(by (try dsimp only) <;> first | omega | rfl | (simp [*]; done) | (rw [k2]; simp [*]; done)), (by (try dsimp only) <;> (have eb := can_end hw hsw lk ww.1 (by omega) c4; rw [show n + 1 - x_3 = n - x by omega]; exact e4.trans (rowB_next k2.1 hx_3 eb)))⟩ (by first | omega | (dsimp only; omega))
          · cbv
          · cbv
      · refine hF2 _ _ ?_
        conv => cbv
        refine r_append1 (next_2) m.sX rfl (by dsimp only; omega) (by omega) fun can_2 hcan_2 => ?_
        conv => cbv
        have lcan_2 : (can_2.length : Int) = can.length + 1 := by rw [hcan_2]; first | done | (simp; done) | (simp; omega)
        refine r_addf m.sX (by omega) (by omega) fun r6 hr6 => ?_
        conv => cbv
        try have tr6 : Int.toNat r6 = Int.toNat i1 + 1 := by omega
        refine hE _ (can_2, r6) ?_ ?_ ⟨(by (try dsimp only); first | omega | (simp only [List.length_nil]; omega) | (simp only [List.length_cons, List.length_nil]; omega)), (by (try dsimp only); first | omega | (simp only [List.length_nil]; omega) | (simp only [List.length_cons, List.length_nil]; omega)), (by (try dsimp only) <;> (rw [hcan_2, q, q2, show x = n + 1 by omega, show n + 1 - 1 = n by omega, show Int.toNat (n + 1 - (n + 1)) = 0 by omega, List.replicate_zero, List.append_nil, tr6]; exact tabB_next _ _ _ _))⟩ (by first | omega | (dsimp only; omega))
        · cbv
        · cbv
    · have dz_i1 := drop_end (xs := kinds) (i := Int.toNat i1) (by omega)
      have tz_i1 := take_end (xs := kinds) (i := Int.toNat i1) (by omega)
      refine hF _ _ ?_
      conv => cbv
      refine r_lenR m.sX fun n2 hn2 mn2 => ?_
      conv => cbv
      refine r_oindex m.sX (by omega) (by omega) ?_
      conv => cbv
      obtain ⟨x7, hx7⟩ := get_ex (xs := can) (i := Int.toNat n2) (by omega)
      have mx7 := get_mem hx7
      have ex7 : x7 = rowB (pre kinds stock kinds.length) n := by rw [q] at hx7; exact Option.some.inj (hx7.symm.trans ((congrArg (fun z => (tabB kinds stock n (Int.toNat i1))[z]?) (show Int.toNat n2 = kinds.length by omega)).trans (tabB_at (by omega))))
      have l7_ : (x7.length : Int) = n + 1 := by rw [ex7, rowB_length]; omega
      refine r_oload m.sX hx7 (Nat.le_of_ble_eq_true rfl) ?_
      conv => cbv
      refine r_oload m.sX hx7 (Nat.le_of_ble_eq_true rfl) ?_
      conv => cbv
      refine r_oindex m.sX (by omega) (by omega) ?_
      conv => cbv
      refine r_oload m.sX hx7 (Nat.le_of_ble_eq_true rfl) ?_
      conv => cbv
      obtain ⟨x8, hx8⟩ := get_ex (xs := x7) (i := Int.toNat n) (by omega)
      refine r_oload (x := x8) m.sX hx8 (Nat.le_of_ble_eq_true rfl) ?_
      conv => cbv
      have mx8 := get_mem hx8
      have e8 : x8 = decide (0 ≤ fewC (pre kinds stock kinds.length) n) := by rw [ex7, rowB_at (by omega), Int.toNat_of_nonneg (by omega)] at hx8; exact (Option.some.inj hx8).symm
      rcases Bool.eq_false_or_eq_true x8 with rfl | rfl <;> conv => cbv
      · have f0 : 0 ≤ fewC (pre kinds stock kinds.length) n := of_decide_eq_true e8.symm
        refine r_lenR m.sX fun n3 hn3 mn3 => ?_
        conv => cbv
        refine r_make cInt 0 m.sX rfl (by omega) (by omega) (by dsimp only; omega) (by omega) fun out hout => ?_   -- out = replicate n3
        have lout : (out.length : Int) = n3 := by rw [hout]; first | done | (simp; done) | (simp; omega)
        conv => cbv
        refine r_lenR m.sX fun n4 hn4 mn4 => ?_
        conv => cbv
        refine r_subf m.sX (by omega) (by omega) fun k hk => ?_
        conv => cbv
        refine r_loopF (α := Int × List Int × Int) m 140 [0, 1, 2, 15] [⟨8, 65, 48 + 1000000, 1, 0⟩, ⟨14, 113, 3, 1, 0⟩] (fun σ => [(0, .isl 1 (rows cInt kinds)), (1, .isl 1 (rows cInt stock)), (2, .int .i64 σ.1), (8, .osl 65 0), (14, .osl 113 0), (15, .int .i64 σ.2.2)]) (fun σ => [(65, 0, .tree 48 1 (rows cRunB can)), (113, 0, .row 3 1 (rows cInt σ.2.1))])
          (fun σ => (-1 ≤ σ.2.2 ∧ σ.2.2 ≤ (kinds.length : Int) - 1) ∧ (0 ≤ σ.1 ∧ σ.1 ≤ n) ∧ (0 ≤ fewC (pre kinds stock (σ.2.2 + 1).toNat) σ.1) ∧ ((σ.2.1.length : Int) = kinds.length) ∧ (∃ D, σ.2.1 = List.replicate (σ.2.2 + 1).toNat 0 ++ D ∧ (topC (pre kinds stock kinds.length) n).reverse = (topC (pre kinds stock (σ.2.2 + 1).toNat) σ.1).reverse ++ D)) (fun σ => (σ.2.2 + 1).toNat) (n, out, k) ?_ ?_ ?_ ?_
        · cbv
        · cbv
        · exact ⟨(by (try dsimp only) <;> first | omega | rfl | (simp [*]; done)), (by (try dsimp only) <;> first | omega | rfl | (simp [*]; done)), (by (try dsimp only) <;> (rw [show Int.toNat (k + 1) = kinds.length by omega]; exact f0)), (by (try dsimp only) <;> first | omega | rfl | (simp [*]; done)), (by (try dsimp only) <;> (exact ⟨[], by rw [hout, show Int.toNat (k + 1) = Int.toNat n3 by omega, List.append_nil], by rw [show Int.toNat (k + 1) = kinds.length by omega, List.append_nil]⟩))⟩
        rintro ⟨n_2, out_2, k_2⟩ ⟨k1, nb, f, ln, q4⟩ E hE F hF
        dsimp only at k1 nb f ln q4
        conv => cbv
        refine r_geq m.sX (fun h5 => ?_) (fun h5 => ?_) <;> conv => cbv
        · refine r_draw m (by kernel_rfl) ?_
          conv => cbv
          refine r_index m.sY (by omega) (by omega) fun x9 hx9 => ?_
          conv => cbv
          have mx9 := get_mem hx9
          have vx9 := nth_some hx9
          have w9 := s1_ _ mx9
          refine r_index m.sY (by omega) (by omega) fun x10 hx10 => ?_
          conv => cbv
          have mx10 := get_mem hx10
          have vx10 := nth_some hx10
          have w10 := b2 _ mx10
          first | refine r_divf m.sY (by omega) (by omega) fun r7 hr7 br7 => ?_ | refine r_tdivf m.sY (by omega) (by omega) fun r7 hr7 br7 => ?_
          conv => cbv
          have ep : pre kinds stock (Int.toNat (k_2 + 1)) = (x10, x9) :: pre kinds stock (Int.toNat k_2) := by rw [show Int.toNat (k_2 + 1) = Int.toNat k_2 + 1 by omega]; exact pre_succ hx10 hx9
          have f' := f
          rw [ep] at f'
          obtain ⟨mz, a0z, b0z, c0z⟩ := top_ex (bp _) w10.1 f'
          refine r_callFS (PV.int .i64) m.sY (l1Least_ok x9 r7) trivial fun count_4 hcount_4 => ?_
          conv => cbv
          refine r_loopF (α := Int) m 140 [0, 1, 2, 15, 16] [⟨8, 65, 48 + 1000000, 1, 0⟩, ⟨14, 113, 3, 1, 0⟩] (fun σ => [(0, .isl 1 (rows cInt kinds)), (1, .isl 1 (rows cInt stock)), (2, .int .i64 n_2), (8, .osl 65 0), (14, .osl 113 0), (15, .int .i64 k_2), (16, .int .i64 σ)]) (fun σ => [(65, 0, .tree 48 1 (rows cRunB can)), (113, 0, .row 3 1 (rows cInt out_2))])
            (fun σ => (mz ≤ σ ∧ σ ≤ count_4) ∧ (∀ j, σ < j → j ≤ count_4 → topB (pre kinds stock (Int.toNat k_2)) x10 n_2 j = false)) (fun σ => σ.toNat) count_4 ?_ ?_ ?_ ?_
          · cbv
          · cbv
          · exact ⟨(by (try dsimp only) <;> (rw [hcount_4, hr7]; exact ⟨b0z, Int.le_refl _⟩)), (by (try dsimp only) <;> (intro j j1 j2; omega))⟩
          rintro count_5 ⟨k5, uq⟩ E2 hE2 F2 hF2
          have g1 : count_5 * x10 ≤ n_2 := (Int.le_ediv_iff_mul_le (by omega)).1 (by omega)
          have g0 : 0 ≤ count_5 * x10 := Int.mul_nonneg (by omega) (by omega)
          conv => cbv
          refine r_draw m (by kernel_rfl) ?_
          conv => cbv
          refine r_oindex m.sY (by omega) (by omega) ?_
          conv => cbv
          obtain ⟨x11, hx11⟩ := get_ex (xs := can) (i := Int.toNat k_2) (by omega)
          have mx11 := get_mem hx11
          have ex11 : x11 = rowB (pre kinds stock (Int.toNat k_2)) n := by rw [q] at hx11; exact Option.some.inj (hx11.symm.trans (tabB_at (by omega)))
          have l11_ : (x11.length : Int) = n + 1 := by rw [ex11, rowB_length]; omega
          refine r_oload m.sY hx11 (Nat.le_of_ble_eq_true rfl) ?_
          conv => cbv
          refine r_index m.sY (by omega) (by omega) fun x12 hx12 => ?_
          conv => cbv
          have mx12 := get_mem hx12
          have vx12 := nth_some hx12
          obtain rfl : x10 = x12 := Option.some.inj (hx10.symm.trans hx12)
          refine r_mulf m.sY (by first | omega | (subst_vars; omega)) (by first | omega | (subst_vars; omega)) fun r8 hr8 => ?_
          conv => cbv
          refine r_subf m.sY (by omega) (by omega) fun r9 hr9 => ?_
          conv => cbv
          refine r_oload m.sY hx11 (Nat.le_of_ble_eq_true rfl) ?_
          conv => cbv
          refine r_oindex m.sY (by omega) (by omega) ?_
          conv => cbv
          refine r_oload m.sY hx11 (Nat.le_of_ble_eq_true rfl) ?_
          conv => cbv
          obtain ⟨x13, hx13⟩ := get_ex (xs := x11) (i := Int.toNat r9) (by omega)
          refine r_oload (x := x13) m.sY hx13 (Nat.le_of_ble_eq_true rfl) ?_
          conv => cbv
          have mx13 := get_mem hx13
          have e13 : x13 = topB (pre kinds stock (Int.toNat k_2)) x10 n_2 count_5 := by rw [ex11, rowB_at (by omega), Int.toNat_of_nonneg (by omega), hr9, hr8] at hx13; exact (Option.some.inj hx13).symm
          rcases Bool.eq_false_or_eq_true x13 with rfl | rfl <;> conv => cbv
          · have dn : down (topB (pre kinds stock (Int.toNat k_2)) x10 n_2) (min x9 (n_2 / x10)).toNat = count_5 := down_eq (by omega) (by omega) (.inl e13.symm) (fun j j1 j2 => uq j j1 (by omega))
            obtain ⟨D, q1, q2⟩ := q4
            rw [show Int.toNat (k_2 + 1) = Int.toNat k_2 + 1 by omega] at q1 q2
            obtain ⟨t1, t2⟩ := top_step hx10 hx9 (bp _) q1 q2 dn.symm
            have f2 : 0 ≤ fewC (pre kinds stock (Int.toNat k_2)) (n_2 - count_5 * x10) := of_decide_eq_true e13.symm
            refine hF2 _ _ ?_
            conv => cbv
            refine r_oindex m.sX (by omega) (by omega) ?_
            conv => cbv
            obtain ⟨y3, hy3⟩ := get_ex (xs := out_2) (i := Int.toNat k_2) (by omega)
            refine r_ostore (l := Int.toNat k_2) count_5 m.sX hy3 (Nat.le_of_ble_eq_true rfl) rfl fun out_3 hout_3 => ?_   -- out_3 = out_2.set k_2 count_5
            have lout_3 : (out_3.length : Int) = out_2.length := by rw [hout_3]; first | done | (simp; done) | (simp; omega)
            conv => cbv
            refine r_index m.sX (by omega) (by omega) fun x14 hx14 => ?_
            conv => cbv
            have mx14 := get_mem hx14
            have vx14 := nth_some hx14
            obtain rfl : x10 = x14 := Option.some.inj (hx10.symm.trans hx14)
            refine r_mulf m.sX (by first | omega | (subst_vars; omega)) (by first | omega | (subst_vars; omega)) fun r10 hr10 => ?_
            conv => cbv
            refine r_subf m.sX (by omega) (by omega) fun n_3 hn_3 => ?_
            conv => cbv
            refine r_subf m.sX (by omega) (by omega) fun k_3 hk_3 => ?_
            conv => cbv
            refine hE _ (n_3, out_3, k_3) ?_ ?_ ⟨(by (try dsimp only) <;> first | omega | rfl | (simp [*]; done) | (rw [k1]; simp [*]; done)), (by (try dsimp only) <;> first | omega | rfl | (simp [*]; done) | (rw [nb]; simp [*]; done)), (by (try dsimp only) <;> (rw [show Int.toNat (k_3 + 1) = Int.toNat k_2 by omega, hn_3, hr10]; exact f2)), (by (try dsimp only) <;> first | omega | rfl | (simp [*]; done) | (rw [ln]; simp [*]; done)), (by (try dsimp only) <;> (exact ⟨count_5 :: D, by rw [hout_3, t1, show Int.toNat (k_3 + 1) = Int.toNat k_2 by omega], by rw [t2, show Int.toNat (k_3 + 1) = Int.toNat k_2 by omega, hn_3, hr10]⟩))⟩ (by first | omega | (dsimp only; omega))
            · cbv
            · cbv
          · have nz : mz ≠ count_5 := by intro e; rw [e, ← e13] at c0z; cases c0z
            refine r_subf m.sX (by omega) (by omega) fun count_6 hcount_6 => ?_
            conv => cbv
            refine hE2 _ count_6 ?_ ?_ ⟨(by (try dsimp only) <;> first | omega | rfl | (simp [*]; done) | (rw [k5]; simp [*]; done)), (by (try dsimp only) <;> (intro j j1 j2; rcases Int.lt_or_le count_5 j with j3 | j3; exact uq j j3 j2; rw [show j = count_5 by omega]; exact e13.symm))⟩ (by first | omega | (dsimp only; omega))
            · cbv
            · cbv
        · refine hF _ _ ?_
          conv => cbv
          exact hQ (.tup [.fr 3 1 (rows cInt out_2), .bool true]) (Eq.trans (by first | rfl | (simp only [lb, lbI, rows_cons, rows_nil, unnilT, unnil, unnilTI, unnilI]; done) | (simp only [lb, lbI, rows_cons, rows_nil, unnilT, unnil, unnilTI, unnilI]; rfl)) (congrArg ((lb 3 1 cInt)) (show (out_2, true) = stkW kinds stock n from by obtain ⟨D, q1, q2⟩ := q4; rw [stkW, if_pos f0, q1, q2, show Int.toNat (k_2 + 1) = 0 by omega]; simp [pre, topC])))   -- leaf 1
      · have f0 : ¬ 0 ≤ fewC (pre kinds stock kinds.length) n := of_decide_eq_false e8.symm
        exact hQ (.tup [.nil, .bool false]) (Eq.trans (by first | rfl | (simp only [lb, lbI, rows_cons, rows_nil, unnilT, unnil, unnilTI, unnilI]; done) | (simp only [lb, lbI, rows_cons, rows_nil, unnilT, unnil, unnilTI, unnilI]; rfl)) (congrArg ((lb 3 1 cInt)) (show ([], false) = stkW kinds stock n from by rw [stkW, if_neg f0]))))   -- leaf 2

end Go.Proofs.YtbamclepgabciaaDoor.Ai
