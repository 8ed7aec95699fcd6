/- The contract of the reference's clean pages. -/
import Derived.Test.YtnanackogloioaaPage2
namespace Go.Proofs.Ytnanackogloioaa.Ai
open Go Go.Proofs
set_option maxRecDepth 10000
set_option maxHeartbeats 4000000
set_option linter.unusedVariables false

theorem specCleanPages_ok (l : List SLine) (depth : Int) (hp : ∀ x ∈ l, -1000 ≤ x.2.2 ∧ x.2.2 ≤ 1000) (hl : (l.length : Int) ≤ 1000) : OkA Try.prog 53 [.isl 3 (rows cSetLine l), .int .i64 depth] (· = (lb 3 1 cInt) (cleanF l depth)) :=
  OkA.unnil 3 1 (fn_intro envOk fieldsOk mixed Try.func53 rfl fun κ X Y L Q m hQ => by
    conv => cbv
    refine r_callB m.sX (pgAsked_ok l depth (by first | rfl | assumption | omega | (simp only [List.length_append, List.length_cons, List.length_nil] at *; omega)) (by first | rfl | assumption | omega | (simp only [List.length_append, List.length_cons, List.length_nil] at *; omega))) (fun h1 => ?_) (fun h1 => ?_) <;> conv => cbv
    · obtain ⟨os, oh, ol, od, og⟩ := okPg_spec h1
      refine r_draw m (by kernel_rfl) ?_
      conv => cbv
      refine r_lenRS m.sY (by omega) fun n1 hn1 => ?_
      conv => cbv
      refine r_addf m.sY (by omega) (by omega) fun r1 hr1 => ?_
      conv => cbv
      refine r_make cInt 0 m.sY rfl (by omega) (by omega) (by dsimp only; omega) (by omega) fun few hfew => ?_   -- few = replicate r1
      have lfew : (few.length : Int) = r1 := by rw [hfew]; first | done | (simp; done) | (simp; omega)
      conv => cbv
      refine r_lenRS m.sY (by omega) fun n2 hn2 => ?_
      conv => cbv
      refine r_addf m.sY (by omega) (by omega) fun r2 hr2 => ?_
      conv => cbv
      refine r_make cInt 0 m.sY rfl (by omega) (by omega) (by dsimp only; omega) (by omega) fun next hnext => ?_   -- next = replicate r2
      have lnext : (next.length : Int) = r2 := by rw [hnext]; first | done | (simp; done) | (simp; omega)
      conv => cbv
      refine r_lenR m.sX fun n3 hn3 mn3 => ?_
      conv => cbv
      refine r_subf m.sX (by omega) (by omega) fun i hi => ?_
      conv => cbv
      refine r_loopF (α := List Int × List Int × Int) m 121 [0, 1, 8] [⟨6, 49, 3, 1, 0⟩, ⟨7, 57, 3, 1, 0⟩] (fun σ => [(0, .isl 3 (rows cSetLine l)), (1, .int .i64 depth), (6, .osl 49 0), (7, .osl 57 0), (8, .int .i64 σ.2.2)]) (fun σ => [(49, 0, .row 3 1 (rows cInt σ.1)), (57, 0, .row 3 1 (rows cInt σ.2.1))])
        (fun σ => (-1 ≤ σ.2.2 ∧ σ.2.2 < l.length) ∧ (σ.1 = List.replicate (σ.2.2 + 1).toNat 0 ++ tailF (fewG l depth) (σ.2.2 + 1) l.length) ∧ (σ.2.1 = List.replicate (σ.2.2 + 1).toNat 0 ++ tailF (nxF l depth) (σ.2.2 + 1) l.length)) (fun σ => (σ.2.2 + 1).toNat) (few, next, i) ?_ ?_ ?_ ?_
      · cbv
      · cbv
      · exact ⟨(by (try dsimp only) <;> first | omega | rfl | (simp [*]; done)), (by (try dsimp only) <;> (rw [hfew, show i + 1 = (l.length : Int) by omega, tailF_end, fewG_end, show Int.toNat r1 = Int.toNat (l.length : Int) + 1 by omega, List.replicate_succ'])), (by (try dsimp only) <;> (rw [hnext, show i + 1 = (l.length : Int) by omega, tailF_end, nxF_end, show Int.toNat r2 = Int.toNat (l.length : Int) + 1 by omega, List.replicate_succ']))⟩
      rintro ⟨few_2, next_2, i_2⟩ ⟨k1, q, qn⟩ E hE F hF
      dsimp only at k1 q qn
      have l1 : (few_2.length : Int) = l.length + 1 := by rw [q]; simp only [List.length_append, tailF_length, List.length_replicate]; omega
      have l2 : (next_2.length : Int) = l.length + 1 := by rw [qn]; simp only [List.length_append, tailF_length, List.length_replicate]; omega
      conv => cbv
      refine r_geq m.sX (fun h2 => ?_) (fun h2 => ?_) <;> conv => cbv
      · have tn : Int.toNat (i_2 + 1) = Int.toNat i_2 + 1 := by omega
        refine r_oindex m.sX (by omega) (by omega) ?_
        conv => cbv
        obtain ⟨y1, hy1⟩ := get_ex (xs := few_2) (i := Int.toNat i_2) (by omega)
        refine r_ostore (l := Int.toNat i_2) (-1) m.sX hy1 (Nat.le_of_ble_eq_true rfl) rfl fun few_3 hfew_3 => ?_   -- few_3 = few_2.set i_2 -1
        have lfew_3 : (few_3.length : Int) = few_2.length := by rw [hfew_3]; first | done | (simp; done) | (simp; omega)
        have e3 : few_3 = List.replicate (Int.toNat i_2) 0 ++ -1 :: tailF (fewG l depth) (i_2 + 1) l.length := by rw [hfew_3, q, tn, List.replicate_succ', List.append_assoc]; exact set_mid (by simp)
        have n3 : nth few_3 (Int.toNat i_2) = -1 := by rw [e3]; exact nth_mid (by simp)
        have em : next_2 = List.replicate (Int.toNat i_2) 0 ++ 0 :: tailF (nxF l depth) (i_2 + 1) l.length := by rw [qn, tn, List.replicate_succ', List.append_assoc]; rfl
        have m3 : nth next_2 (Int.toNat i_2) = 0 := by rw [em]; exact nth_mid (by simp)
        clear tn hn1 hr1 hn2 hr2 hn3 mn3 hi lfew lnext hfew hnext lfew_3 hfew_3 l1 l2 q qn
        conv => cbv
        refine r_lenR m.sX fun j hj mj => ?_
        conv => cbv
        refine r_loopF (α := List Int × List Int × Int) m 121 [0, 1, 8, 9] [⟨6, 49, 3, 1, 0⟩, ⟨7, 57, 3, 1, 0⟩] (fun σ => [(0, .isl 3 (rows cSetLine l)), (1, .int .i64 depth), (6, .osl 49 0), (7, .osl 57 0), (8, .int .i64 i_2), (9, .int .i64 σ.2.2)]) (fun σ => [(49, 0, .row 3 1 (rows cInt σ.1)), (57, 0, .row 3 1 (rows cInt σ.2.1))])
          (fun σ => (i_2 ≤ σ.2.2 ∧ σ.2.2 ≤ l.length) ∧ (σ.1 = List.replicate (Int.toNat i_2) 0 ++ nth σ.1 (Int.toNat i_2) :: tailF (fewG l depth) (i_2 + 1) l.length) ∧ (σ.2.1 = List.replicate (Int.toNat i_2) 0 ++ nth σ.2.1 (Int.toNat i_2) :: tailF (nxF l depth) (i_2 + 1) l.length) ∧ (SpMin l depth i_2 σ.2.2 (nth σ.1 (Int.toNat i_2)) (nth σ.2.1 (Int.toNat i_2)))) (fun σ => σ.2.2.toNat) (few_3, next_2, j) ?_ ?_ ?_ ?_
        · cbv
        · cbv
        · exact ⟨(by (try dsimp only) <;> first | omega | rfl | (simp [*]; done)), (by (try dsimp only) <;> (rw [n3]; exact e3)), (by (try dsimp only) <;> (rw [m3]; exact em)), (by (try dsimp only) <;> (rw [n3, m3]; exact spMin_first (by omega)))⟩
        rintro ⟨few_4, next_3, j_2⟩ ⟨k2, e, en, c⟩ E2 hE2 F2 hF2
        dsimp only at k2 e en c
        have l4 : (few_4.length : Int) = l.length + 1 := by rw [e]; simp only [List.length_append, tailF_length, List.length_cons, List.length_replicate]; omega
        have l5 : (next_3.length : Int) = l.length + 1 := by rw [en]; simp only [List.length_append, tailF_length, List.length_cons, List.length_replicate]; omega
        have cb := c.ge
        clear hj mj n3 m3 e3 em
        conv => cbv
        refine r_gtr m.sX (fun h3 => ?_) (fun h3 => ?_) <;> conv => cbv
        · have fb := fewG_bound (l := l) (d := depth) (show 0 ≤ j_2 by omega) k2.2
          have at_j : nth few_4 (Int.toNat j_2) = fewG l depth j_2 := by rw [e, tailF_nth' (by simp; omega) (by omega) (by omega), Int.toNat_of_nonneg (by omega)]
          refine r_islice (i := i_2) (j := j_2) m.sX (by omega) (by omega) (by omega) fun zs1 hzs1 => ?_   -- zs1 = l[i_2:j_2]
          have lzs1 : (zs1.length : Int) = j_2 - i_2 := by rw [hzs1]; first | done | (simp; done) | (simp; omega)
          have zs := cut_mem (i := i_2.toNat) (j := j_2.toNat) os
          rw [← hzs1] at zs
          conv => cbv
          refine r_callF (PV.int .i64) m.sX (pgDeep_ok zs1 (by first | rfl | assumption | omega | (simp only [List.length_append, List.length_cons, List.length_nil] at *; omega)) (by first | rfl | assumption | omega | (simp only [List.length_append, List.length_cons, List.length_nil] at *; omega))) fun r3 hr3 => ?_
          conv => cbv
          refine r_gtr m.sX (fun h4 => ?_) (fun h4 => ?_) <;> conv => cbv
          · have eb : edgeB l depth i_2 j_2 = false := edge_deep (by rw [← hzs1, ← hr3]; omega)
            refine r_subf m.sX (by omega) (by omega) fun j_3 hj_3 => ?_
            conv => cbv
            refine hE2 _ (few_4, next_3, j_3) ?_ ?_ ⟨(by (try dsimp only) <;> first | omega | rfl | (simp [*]; done) | (rw [k2]; simp [*]; done)), (by (try dsimp only) <;> (first | exact e | (rw [n5]; exact e5))), (by (try dsimp only) <;> (first | exact en | (rw [m5]; exact f5))), (by (try dsimp only) <;> (first | exact spMin_skip c (by omega) (.inl eb) | exact spMin_skip c (by omega) (.inr (by omega)) | (rw [n5, m5]; exact spMin_take c (by omega) (by omega) et (by omega) (by omega) (by omega)) | exact spMin_keep c (by omega) (by omega) et (by omega) (by omega)))⟩ (by first | omega | (dsimp only; omega))
            · cbv
            · cbv
          · have ed : deepS ((l.take j_2.toNat).drop i_2.toNat) ≤ depth := by rw [← hzs1, ← hr3]; omega
            refine r_oindex m.sX (by omega) (by omega) ?_
            conv => cbv
            obtain ⟨x1, hx1⟩ := get_ex (xs := few_4) (i := Int.toNat j_2) (by omega)
            have mx1 := get_mem hx1
            have vx1 := nth_some hx1
            refine r_oload m.sX hx1 (Nat.le_of_ble_eq_true rfl) ?_
            conv => cbv
            refine r_lss m.sX (fun h5 => ?_) (fun h5 => ?_) <;> conv => cbv
            · refine r_subf m.sX (by omega) (by omega) fun j_4 hj_4 => ?_
              conv => cbv
              refine hE2 _ (few_4, next_3, j_4) ?_ ?_ ⟨(by (try dsimp only) <;> first | omega | rfl | (simp [*]; done) | (rw [k2]; simp [*]; done)), (by (try dsimp only) <;> (first | exact e | (rw [n5]; exact e5))), (by (try dsimp only) <;> (first | exact en | (rw [m5]; exact f5))), (by (try dsimp only) <;> (first | exact spMin_skip c (by omega) (.inl eb) | exact spMin_skip c (by omega) (.inr (by omega)) | (rw [n5, m5]; exact spMin_take c (by omega) (by omega) et (by omega) (by omega) (by omega)) | exact spMin_keep c (by omega) (by omega) et (by omega) (by omega)))⟩ (by first | omega | (dsimp only; omega))
              · cbv
              · cbv
            · refine r_lenR m.sX fun n4 hn4 mn4 => ?_
              conv => cbv
              refine r_lss m.sX (fun h6 => ?_) (fun h6 => ?_) <;> conv => cbv
              · refine r_subf m.sX (by omega) (by omega) fun r4 hr4 => ?_
                conv => cbv
                refine r_callB m.sX (pgFirst_ok l r4 (by first | rfl | assumption | omega | (simp only [List.length_append, List.length_cons, List.length_nil] at *; omega)) (by first | rfl | assumption | omega | (simp only [List.length_append, List.length_cons, List.length_nil] at *; omega))) (fun h7 => ?_) (fun h7 => ?_) <;> conv => cbv
                · have eb : edgeB l depth i_2 j_2 = false := edge_orphan (by omega) (by rw [show r4 + 1 = j_2 by omega] at h7; exact h7)
                  refine r_subf m.sX (by omega) (by omega) fun j_5 hj_5 => ?_
                  conv => cbv
                  refine hE2 _ (few_4, next_3, j_5) ?_ ?_ ⟨(by (try dsimp only) <;> first | omega | rfl | (simp [*]; done) | (rw [k2]; simp [*]; done)), (by (try dsimp only) <;> (first | exact e | (rw [n5]; exact e5))), (by (try dsimp only) <;> (first | exact en | (rw [m5]; exact f5))), (by (try dsimp only) <;> (first | exact spMin_skip c (by omega) (.inl eb) | exact spMin_skip c (by omega) (.inr (by omega)) | (rw [n5, m5]; exact spMin_take c (by omega) (by omega) et (by omega) (by omega) (by omega)) | exact spMin_keep c (by omega) (by omega) et (by omega) (by omega)))⟩ (by first | omega | (dsimp only; omega))
                  · cbv
                  · cbv
                · refine r_callB m.sX (pgLast_ok l j_2 (by first | rfl | assumption | omega | (simp only [List.length_append, List.length_cons, List.length_nil] at *; omega)) (by first | rfl | assumption | omega | (simp only [List.length_append, List.length_cons, List.length_nil] at *; omega))) (fun h8 => ?_) (fun h8 => ?_) <;> conv => cbv
                  · have eb : edgeB l depth i_2 j_2 = false := edge_widow (by omega) h8
                    refine r_subf m.sX (by omega) (by omega) fun j_6 hj_6 => ?_
                    conv => cbv
                    refine hE2 _ (few_4, next_3, j_6) ?_ ?_ ⟨(by (try dsimp only) <;> first | omega | rfl | (simp [*]; done) | (rw [k2]; simp [*]; done)), (by (try dsimp only) <;> (first | exact e | (rw [n5]; exact e5))), (by (try dsimp only) <;> (first | exact en | (rw [m5]; exact f5))), (by (try dsimp only) <;> (first | exact spMin_skip c (by omega) (.inl eb) | exact spMin_skip c (by omega) (.inr (by omega)) | (rw [n5, m5]; exact spMin_take c (by omega) (by omega) et (by omega) (by omega) (by omega)) | exact spMin_keep c (by omega) (by omega) et (by omega) (by omega)))⟩ (by first | omega | (dsimp only; omega))
                    · cbv
                    · cbv
                  · have et : edgeB l depth i_2 j_2 = true := edge_of ed fun _ => ⟨by rw [show r4 + 1 = j_2 by omega] at h7; exact h7, h8⟩
                    refine r_draw m (by kernel_rfl) ?_
                    conv => cbv
                    refine r_oindex m.sY (by omega) (by omega) ?_
                    conv => cbv
                    obtain ⟨x2, hx2⟩ := get_ex (xs := few_4) (i := Int.toNat i_2) (by omega)
                    have mx2 := get_mem hx2
                    have vx2 := nth_some hx2
                    refine r_oload m.sY hx2 (Nat.le_of_ble_eq_true rfl) ?_
                    conv => cbv
                    refine r_lss m.sY (fun h9 => ?_) (fun h9 => ?_) <;> conv => cbv
                    · refine r_oindex m.sX (by omega) (by omega) ?_
                      conv => cbv
                      obtain ⟨x3, hx3⟩ := get_ex (xs := few_4) (i := Int.toNat j_2) (by omega)
                      have mx3 := get_mem hx3
                      have vx3 := nth_some hx3
                      refine r_oload m.sX hx3 (Nat.le_of_ble_eq_true rfl) ?_
                      conv => cbv
                      refine r_addf m.sX (by omega) (by omega) fun r5 hr5 => ?_
                      conv => cbv
                      refine r_oindex m.sX (by omega) (by omega) ?_
                      conv => cbv
                      obtain ⟨y2, hy2⟩ := get_ex (xs := few_4) (i := Int.toNat i_2) (by omega)
                      refine r_ostore (l := Int.toNat i_2) r5 m.sX hy2 (Nat.le_of_ble_eq_true rfl) rfl fun few_5 hfew_5 => ?_   -- few_5 = few_4.set i_2 r5
                      have lfew_5 : (few_5.length : Int) = few_4.length := by rw [hfew_5]; first | done | (simp; done) | (simp; omega)
                      have e5 : few_5 = List.replicate (Int.toNat i_2) 0 ++ r5 :: tailF (fewG l depth) (i_2 + 1) l.length := by rw [hfew_5]; exact (congrArg (fun z => List.set z (Int.toNat i_2) r5) e).trans (set_mid (by simp))
                      have n5 : nth few_5 (Int.toNat i_2) = r5 := by rw [e5]; exact nth_mid (by simp)
                      conv => cbv
                      refine r_oindex m.sX (by omega) (by omega) ?_
                      conv => cbv
                      obtain ⟨y3, hy3⟩ := get_ex (xs := next_3) (i := Int.toNat i_2) (by omega)
                      refine r_ostore (l := Int.toNat i_2) j_2 m.sX hy3 (Nat.le_of_ble_eq_true rfl) rfl fun next_4 hnext_4 => ?_   -- next_4 = next_3.set i_2 j_2
                      have lnext_4 : (next_4.length : Int) = next_3.length := by rw [hnext_4]; first | done | (simp; done) | (simp; omega)
                      have f5 : next_4 = List.replicate (Int.toNat i_2) 0 ++ j_2 :: tailF (nxF l depth) (i_2 + 1) l.length := by rw [hnext_4]; exact (congrArg (fun z => List.set z (Int.toNat i_2) j_2) en).trans (set_mid (by simp))
                      have m5 : nth next_4 (Int.toNat i_2) = j_2 := by rw [f5]; exact nth_mid (by simp)
                      conv => cbv
                      refine r_subf m.sX (by omega) (by omega) fun j_7 hj_7 => ?_
                      conv => cbv
                      refine hE2 _ (few_5, next_4, j_7) ?_ ?_ ⟨(by (try dsimp only) <;> first | omega | rfl | (simp [*]; done) | (rw [k2]; simp [*]; done)), (by (try dsimp only) <;> (first | exact e | (rw [n5]; exact e5))), (by (try dsimp only) <;> (first | exact en | (rw [m5]; exact f5))), (by (try dsimp only) <;> (first | exact spMin_skip c (by omega) (.inl eb) | exact spMin_skip c (by omega) (.inr (by omega)) | (rw [n5, m5]; exact spMin_take c (by omega) (by omega) et (by omega) (by omega) (by omega)) | exact spMin_keep c (by omega) (by omega) et (by omega) (by omega)))⟩ (by first | omega | (dsimp only; omega))
                      · cbv
                      · cbv
                    · refine r_oindex m.sY (by omega) (by omega) ?_
                      conv => cbv
                      obtain ⟨x4, hx4⟩ := get_ex (xs := few_4) (i := Int.toNat j_2) (by omega)
                      have mx4 := get_mem hx4
                      have vx4 := nth_some hx4
                      refine r_oload m.sY hx4 (Nat.le_of_ble_eq_true rfl) ?_
                      conv => cbv
                      refine r_addf m.sY (by omega) (by omega) fun r6 hr6 => ?_
                      conv => cbv
                      refine r_oindex m.sY (by omega) (by omega) ?_
                      conv => cbv
                      obtain ⟨x5, hx5⟩ := get_ex (xs := few_4) (i := Int.toNat i_2) (by omega)
                      have mx5 := get_mem hx5
                      have vx5 := nth_some hx5
                      refine r_oload m.sY hx5 (Nat.le_of_ble_eq_true rfl) ?_
                      conv => cbv
                      refine r_lss m.sY (fun h10 => ?_) (fun h10 => ?_) <;> conv => cbv
                      · refine r_oindex m.sX (by omega) (by omega) ?_
                        conv => cbv
                        obtain ⟨x6, hx6⟩ := get_ex (xs := few_4) (i := Int.toNat j_2) (by omega)
                        have mx6 := get_mem hx6
                        have vx6 := nth_some hx6
                        refine r_oload m.sX hx6 (Nat.le_of_ble_eq_true rfl) ?_
                        conv => cbv
                        refine r_addf m.sX (by omega) (by omega) fun r7 hr7 => ?_
                        conv => cbv
                        refine r_oindex m.sX (by omega) (by omega) ?_
                        conv => cbv
                        obtain ⟨y4, hy4⟩ := get_ex (xs := few_4) (i := Int.toNat i_2) (by omega)
                        refine r_ostore (l := Int.toNat i_2) r7 m.sX hy4 (Nat.le_of_ble_eq_true rfl) rfl fun few_6 hfew_6 => ?_   -- few_6 = few_4.set i_2 r7
                        have lfew_6 : (few_6.length : Int) = few_4.length := by rw [hfew_6]; first | done | (simp; done) | (simp; omega)
                        have e5 : few_6 = List.replicate (Int.toNat i_2) 0 ++ r7 :: tailF (fewG l depth) (i_2 + 1) l.length := by rw [hfew_6]; exact (congrArg (fun z => List.set z (Int.toNat i_2) r7) e).trans (set_mid (by simp))
                        have n5 : nth few_6 (Int.toNat i_2) = r7 := by rw [e5]; exact nth_mid (by simp)
                        conv => cbv
                        refine r_oindex m.sX (by omega) (by omega) ?_
                        conv => cbv
                        obtain ⟨y5, hy5⟩ := get_ex (xs := next_3) (i := Int.toNat i_2) (by omega)
                        refine r_ostore (l := Int.toNat i_2) j_2 m.sX hy5 (Nat.le_of_ble_eq_true rfl) rfl fun next_5 hnext_5 => ?_   -- next_5 = next_3.set i_2 j_2
                        have lnext_5 : (next_5.length : Int) = next_3.length := by rw [hnext_5]; first | done | (simp; done) | (simp; omega)
                        have f5 : next_5 = List.replicate (Int.toNat i_2) 0 ++ j_2 :: tailF (nxF l depth) (i_2 + 1) l.length := by rw [hnext_5]; exact (congrArg (fun z => List.set z (Int.toNat i_2) j_2) en).trans (set_mid (by simp))
                        have m5 : nth next_5 (Int.toNat i_2) = j_2 := by rw [f5]; exact nth_mid (by simp)
                        conv => cbv
                        refine r_subf m.sX (by omega) (by omega) fun j_8 hj_8 => ?_
                        conv => cbv
                        refine hE2 _ (few_6, next_5, j_8) ?_ ?_ ⟨(by (try dsimp only) <;> first | omega | rfl | (simp [*]; done) | (rw [k2]; simp [*]; done)), (by (try dsimp only) <;> (first | exact e | (rw [n5]; exact e5))), (by (try dsimp only) <;> (first | exact en | (rw [m5]; exact f5))), (by (try dsimp only) <;> (first | exact spMin_skip c (by omega) (.inl eb) | exact spMin_skip c (by omega) (.inr (by omega)) | (rw [n5, m5]; exact spMin_take c (by omega) (by omega) et (by omega) (by omega) (by omega)) | exact spMin_keep c (by omega) (by omega) et (by omega) (by omega)))⟩ (by first | omega | (dsimp only; omega))
                        · cbv
                        · cbv
                      · refine r_subf m.sX (by omega) (by omega) fun j_9 hj_9 => ?_
                        conv => cbv
                        refine hE2 _ (few_4, next_3, j_9) ?_ ?_ ⟨(by (try dsimp only) <;> first | omega | rfl | (simp [*]; done) | (rw [k2]; simp [*]; done)), (by (try dsimp only) <;> (first | exact e | (rw [n5]; exact e5))), (by (try dsimp only) <;> (first | exact en | (rw [m5]; exact f5))), (by (try dsimp only) <;> (first | exact spMin_skip c (by omega) (.inl eb) | exact spMin_skip c (by omega) (.inr (by omega)) | (rw [n5, m5]; exact spMin_take c (by omega) (by omega) et (by omega) (by omega) (by omega)) | exact spMin_keep c (by omega) (by omega) et (by omega) (by omega)))⟩ (by first | omega | (dsimp only; omega))
                        · cbv
                        · cbv
              · have et : edgeB l depth i_2 j_2 = true := edge_of ed fun h => by omega
                refine r_draw m (by kernel_rfl) ?_
                conv => cbv
                refine r_oindex m.sY (by omega) (by omega) ?_
                conv => cbv
                obtain ⟨x7, hx7⟩ := get_ex (xs := few_4) (i := Int.toNat i_2) (by omega)
                have mx7 := get_mem hx7
                have vx7 := nth_some hx7
                refine r_oload m.sY hx7 (Nat.le_of_ble_eq_true rfl) ?_
                conv => cbv
                refine r_lss m.sY (fun h11 => ?_) (fun h11 => ?_) <;> conv => cbv
                · refine r_oindex m.sX (by omega) (by omega) ?_
                  conv => cbv
                  obtain ⟨x8, hx8⟩ := get_ex (xs := few_4) (i := Int.toNat j_2) (by omega)
                  have mx8 := get_mem hx8
                  have vx8 := nth_some hx8
                  refine r_oload m.sX hx8 (Nat.le_of_ble_eq_true rfl) ?_
                  conv => cbv
                  refine r_addf m.sX (by omega) (by omega) fun r8 hr8 => ?_
                  conv => cbv
                  refine r_oindex m.sX (by omega) (by omega) ?_
                  conv => cbv
                  obtain ⟨y6, hy6⟩ := get_ex (xs := few_4) (i := Int.toNat i_2) (by omega)
                  refine r_ostore (l := Int.toNat i_2) r8 m.sX hy6 (Nat.le_of_ble_eq_true rfl) rfl fun few_7 hfew_7 => ?_   -- few_7 = few_4.set i_2 r8
                  have lfew_7 : (few_7.length : Int) = few_4.length := by rw [hfew_7]; first | done | (simp; done) | (simp; omega)
                  have e5 : few_7 = List.replicate (Int.toNat i_2) 0 ++ r8 :: tailF (fewG l depth) (i_2 + 1) l.length := by rw [hfew_7]; exact (congrArg (fun z => List.set z (Int.toNat i_2) r8) e).trans (set_mid (by simp))
                  have n5 : nth few_7 (Int.toNat i_2) = r8 := by rw [e5]; exact nth_mid (by simp)
                  conv => cbv
                  refine r_oindex m.sX (by omega) (by omega) ?_
                  conv => cbv
                  obtain ⟨y7, hy7⟩ := get_ex (xs := next_3) (i := Int.toNat i_2) (by omega)
                  refine r_ostore (l := Int.toNat i_2) j_2 m.sX hy7 (Nat.le_of_ble_eq_true rfl) rfl fun next_6 hnext_6 => ?_   -- next_6 = next_3.set i_2 j_2
                  have lnext_6 : (next_6.length : Int) = next_3.length := by rw [hnext_6]; first | done | (simp; done) | (simp; omega)
                  have f5 : next_6 = List.replicate (Int.toNat i_2) 0 ++ j_2 :: tailF (nxF l depth) (i_2 + 1) l.length := by rw [hnext_6]; exact (congrArg (fun z => List.set z (Int.toNat i_2) j_2) en).trans (set_mid (by simp))
                  have m5 : nth next_6 (Int.toNat i_2) = j_2 := by rw [f5]; exact nth_mid (by simp)
                  conv => cbv
                  refine r_subf m.sX (by omega) (by omega) fun j_10 hj_10 => ?_
                  conv => cbv
                  refine hE2 _ (few_7, next_6, j_10) ?_ ?_ ⟨(by (try dsimp only) <;> first | omega | rfl | (simp [*]; done) | (rw [k2]; simp [*]; done)), (by (try dsimp only) <;> (first | exact e | (rw [n5]; exact e5))), (by (try dsimp only) <;> (first | exact en | (rw [m5]; exact f5))), (by (try dsimp only) <;> (first | exact spMin_skip c (by omega) (.inl eb) | exact spMin_skip c (by omega) (.inr (by omega)) | (rw [n5, m5]; exact spMin_take c (by omega) (by omega) et (by omega) (by omega) (by omega)) | exact spMin_keep c (by omega) (by omega) et (by omega) (by omega)))⟩ (by first | omega | (dsimp only; omega))
                  · cbv
                  · cbv
                · refine r_oindex m.sY (by omega) (by omega) ?_
                  conv => cbv
                  obtain ⟨x9, hx9⟩ := get_ex (xs := few_4) (i := Int.toNat j_2) (by omega)
                  have mx9 := get_mem hx9
                  have vx9 := nth_some hx9
                  refine r_oload m.sY hx9 (Nat.le_of_ble_eq_true rfl) ?_
                  conv => cbv
                  refine r_addf m.sY (by omega) (by omega) fun r9 hr9 => ?_
                  conv => cbv
                  refine r_oindex m.sY (by omega) (by omega) ?_
                  conv => cbv
                  obtain ⟨x10, hx10⟩ := get_ex (xs := few_4) (i := Int.toNat i_2) (by omega)
                  have mx10 := get_mem hx10
                  have vx10 := nth_some hx10
                  refine r_oload m.sY hx10 (Nat.le_of_ble_eq_true rfl) ?_
                  conv => cbv
                  refine r_lss m.sY (fun h12 => ?_) (fun h12 => ?_) <;> conv => cbv
                  · refine r_oindex m.sX (by omega) (by omega) ?_
                    conv => cbv
                    obtain ⟨x11, hx11⟩ := get_ex (xs := few_4) (i := Int.toNat j_2) (by omega)
                    have mx11 := get_mem hx11
                    have vx11 := nth_some hx11
                    refine r_oload m.sX hx11 (Nat.le_of_ble_eq_true rfl) ?_
                    conv => cbv
                    refine r_addf m.sX (by omega) (by omega) fun r10 hr10 => ?_
                    conv => cbv
                    refine r_oindex m.sX (by omega) (by omega) ?_
                    conv => cbv
                    obtain ⟨y8, hy8⟩ := get_ex (xs := few_4) (i := Int.toNat i_2) (by omega)
                    refine r_ostore (l := Int.toNat i_2) r10 m.sX hy8 (Nat.le_of_ble_eq_true rfl) rfl fun few_8 hfew_8 => ?_   -- few_8 = few_4.set i_2 r10
                    have lfew_8 : (few_8.length : Int) = few_4.length := by rw [hfew_8]; first | done | (simp; done) | (simp; omega)
                    have e5 : few_8 = List.replicate (Int.toNat i_2) 0 ++ r10 :: tailF (fewG l depth) (i_2 + 1) l.length := by rw [hfew_8]; exact (congrArg (fun z => List.set z (Int.toNat i_2) r10) e).trans (set_mid (by simp))
                    have n5 : nth few_8 (Int.toNat i_2) = r10 := by rw [e5]; exact nth_mid (by simp)
                    conv => cbv
                    refine r_oindex m.sX (by omega) (by omega) ?_
                    conv => cbv
                    obtain ⟨y9, hy9⟩ := get_ex (xs := next_3) (i := Int.toNat i_2) (by omega)
                    refine r_ostore (l := Int.toNat i_2) j_2 m.sX hy9 (Nat.le_of_ble_eq_true rfl) rfl fun next_7 hnext_7 => ?_   -- next_7 = next_3.set i_2 j_2
                    have lnext_7 : (next_7.length : Int) = next_3.length := by rw [hnext_7]; first | done | (simp; done) | (simp; omega)
                    have f5 : next_7 = List.replicate (Int.toNat i_2) 0 ++ j_2 :: tailF (nxF l depth) (i_2 + 1) l.length := by rw [hnext_7]; exact (congrArg (fun z => List.set z (Int.toNat i_2) j_2) en).trans (set_mid (by simp))
                    have m5 : nth next_7 (Int.toNat i_2) = j_2 := by rw [f5]; exact nth_mid (by simp)
                    conv => cbv
                    refine r_subf m.sX (by omega) (by omega) fun j_11 hj_11 => ?_
                    conv => cbv
                    refine hE2 _ (few_8, next_7, j_11) ?_ ?_ ⟨(by (try dsimp only) <;> first | omega | rfl | (simp [*]; done) | (rw [k2]; simp [*]; done)), (by (try dsimp only) <;> (first | exact e | (rw [n5]; exact e5))), (by (try dsimp only) <;> (first | exact en | (rw [m5]; exact f5))), (by (try dsimp only) <;> (first | exact spMin_skip c (by omega) (.inl eb) | exact spMin_skip c (by omega) (.inr (by omega)) | (rw [n5, m5]; exact spMin_take c (by omega) (by omega) et (by omega) (by omega) (by omega)) | exact spMin_keep c (by omega) (by omega) et (by omega) (by omega)))⟩ (by first | omega | (dsimp only; omega))
                    · cbv
                    · cbv
                  · refine r_subf m.sX (by omega) (by omega) fun j_12 hj_12 => ?_
                    conv => cbv
                    refine hE2 _ (few_4, next_3, j_12) ?_ ?_ ⟨(by (try dsimp only) <;> first | omega | rfl | (simp [*]; done) | (rw [k2]; simp [*]; done)), (by (try dsimp only) <;> (first | exact e | (rw [n5]; exact e5))), (by (try dsimp only) <;> (first | exact en | (rw [m5]; exact f5))), (by (try dsimp only) <;> (first | exact spMin_skip c (by omega) (.inl eb) | exact spMin_skip c (by omega) (.inr (by omega)) | (rw [n5, m5]; exact spMin_take c (by omega) (by omega) et (by omega) (by omega) (by omega)) | exact spMin_keep c (by omega) (by omega) et (by omega) (by omega)))⟩ (by first | omega | (dsimp only; omega))
                    · cbv
                    · cbv
        · refine hF2 _ _ ?_
          conv => cbv
          refine r_subf m.sX (by omega) (by omega) fun i_3 hi_3 => ?_
          conv => cbv
          refine hE _ (few_4, next_3, i_3) ?_ ?_ ⟨(by (try dsimp only) <;> first | omega | rfl | (simp [*]; done) | (rw [k1]; simp [*]; done)), (by (try dsimp only) <;> (rw [show i_3 + 1 = i_2 by omega, tailF_cons (by omega), ← (spMin_end c h2 (by omega) (by omega)).1]; exact e)), (by (try dsimp only) <;> (rw [show i_3 + 1 = i_2 by omega, tailF_cons (by omega), ← (spMin_end c h2 (by omega) (by omega)).2]; exact en))⟩ (by first | omega | (dsimp only; omega))
          · cbv
          · cbv
      · have ef : few_2 = tailF (fewG l depth) 0 l.length := by rw [q, show i_2 + 1 = 0 by omega]; rfl
        have ex : next_2 = tailF (nxF l depth) 0 l.length := by rw [qn, show i_2 + 1 = 0 by omega]; rfl
        have lk : ∀ (j : Nat), (j : Int) ≤ l.length → nth next_2 j = nxF l depth j := fun j hj => by rw [ex]; exact tailF_nth (xs := []) rfl (by omega) hj
        refine hF _ _ ?_
        conv => cbv
        refine r_oindex m.sX (by omega) (by omega) ?_
        conv => cbv
        obtain ⟨x12, hx12⟩ := get_ex (xs := few_2) (i := Int.toNat 0) (by omega)
        have mx12 := get_mem hx12
        have vx12 := nth_some hx12
        have e7 : x12 = fewG l depth 0 := by rw [← vx12, ef]; exact tailF_nth (xs := []) (j := 0) rfl (by omega) (by omega)
        refine r_oload m.sX hx12 (Nat.le_of_ble_eq_true rfl) ?_
        conv => cbv
        refine r_lss m.sX (fun h13 => ?_) (fun h13 => ?_) <;> conv => cbv
        · exact hQ (.tup [.nil, .bool false]) (Eq.trans (by first | rfl | (simp only [lb, lbI, rows_cons, rows_nil, unnilT, unnil, unnilTI, unnilI]; done) | (simp only [lb, lbI, rows_cons, rows_nil, unnilT, unnil, unnilTI, unnilI]; rfl)) (congrArg ((lb 3 1 cInt)) (show ([], false) = cleanF l depth from by rw [cleanF, h1, decide_eq_false (by omega)]; rfl)))   -- leaf 1
        · have z0 : 0 ≤ fewG l depth 0 := by omega
          refine r_loopF (α := List Int × Int) m 121 [0, 11] [⟨7, 57, 3, 1, 0⟩, ⟨10, 81, 3, 1, 0⟩] (fun σ => [(0, .isl 3 (rows cSetLine l)), (7, .osl 57 0), (10, .osl 81 0), (11, .int .i64 σ.2)]) (fun σ => [(57, 0, .row 3 1 (rows cInt next_2)), (81, 0, .row 3 1 (rows cInt σ.1))])
            (fun σ => (0 ≤ σ.2 ∧ σ.2 ≤ l.length) ∧ (0 ≤ fewG l depth σ.2) ∧ (chainF (edgeB l depth) l.length 0 = σ.1 ++ chainF (edgeB l depth) l.length σ.2) ∧ ((σ.1.length : Int) ≤ σ.2)) (fun σ => ((l.length : Int) - σ.2).toNat) ([], 0) ?_ ?_ ?_ ?_
          · cbv
          · (try dsimp only); simp only [rows_cons, rows_nil]; cbv
          · exact ⟨(by (try dsimp only) <;> first | omega | rfl | (simp [*]; done)), (by (try dsimp only) <;> (exact z0)), (by (try dsimp only) <;> (rfl)), (by (try dsimp only) <;> first | omega | rfl | (simp [*]; done))⟩
          rintro ⟨out, i_4⟩ ⟨k3, f, ch, ln⟩ E hE F hF
          dsimp only at k3 f ch ln
          conv => cbv
          refine r_lenR m.sX fun n5 hn5 mn5 => ?_
          conv => cbv
          refine r_lss m.sX (fun h14 => ?_) (fun h14 => ?_) <;> conv => cbv
          · have nf := nextG_spec (d := depth) (i := i_4) k3.1 (by omega) f
            refine r_oindex m.sX (by omega) (by omega) ?_
            conv => cbv
            obtain ⟨x13, hx13⟩ := get_ex (xs := next_2) (i := Int.toNat i_4) (by omega)
            have mx13 := get_mem hx13
            have vx13 := nth_some hx13
            have e8 : x13 = nextF (edgeB l depth) l.length i_4 := by rw [← vx13, lk _ (by omega), Int.toNat_of_nonneg k3.1, nxF, if_pos ⟨by omega, f⟩]
            refine r_oload m.sX hx13 (Nat.le_of_ble_eq_true rfl) ?_
            conv => cbv
            refine r_append1 (x13) m.sX rfl (by first | omega | (dsimp only; omega)) (by first | omega | (dsimp only; omega)) fun out_2 hout_2 => ?_
            conv => cbv
            have lout_2 : (out_2.length : Int) = out.length + 1 := by rw [hout_2]; first | done | (simp; done) | (simp; omega)
            refine r_oindex m.sX (by omega) (by omega) ?_
            conv => cbv
            obtain ⟨i_5, hi_5⟩ := get_ex (xs := next_2) (i := Int.toNat i_4) (by omega)
            have mi_5 := get_mem hi_5
            have vi_5 := nth_some hi_5
            have e9 : i_5 = nextF (edgeB l depth) l.length i_4 := by rw [← vi_5, lk _ (by omega), Int.toNat_of_nonneg k3.1, nxF, if_pos ⟨by omega, f⟩]
            refine r_oload m.sX hi_5 (Nat.le_of_ble_eq_true rfl) ?_
            conv => cbv
            refine hE _ (out_2, i_5) ?_ ?_ ⟨(by (try dsimp only) <;> first | omega | rfl | (simp [*]; done) | (rw [k3]; simp [*]; done)), (by (try dsimp only) <;> (rw [e9]; exact nf.2.2.1)), (by (try dsimp only) <;> (rw [ch, chainF_step k3.1 (by omega) f, hout_2, e8, e9]; simp)), (by (try dsimp only) <;> first | omega | rfl | (simp [*]; done) | (rw [ln]; simp [*]; done))⟩ (by first | omega | (dsimp only; omega))
            · cbv
            · cbv
          · refine hF _ _ ?_
            conv => cbv
            exact hQ (.tup [.fr 3 1 (rows cInt out), .bool true]) (Eq.trans (by first | rfl | (simp only [lb, lbI, rows_cons, rows_nil, unnilT, unnil, unnilTI, unnilI]; done) | (simp only [lb, lbI, rows_cons, rows_nil, unnilT, unnil, unnilTI, unnilI]; rfl)) (congrArg ((lb 3 1 cInt)) (show (out, true) = cleanF l depth from by rw [cleanF, h1, decide_eq_true z0, ch, chainF_end (by omega), List.append_nil]; rfl)))   -- leaf 2
    · exact hQ (.tup [.nil, .bool false]) (Eq.trans (by first | rfl | (simp only [lb, lbI, rows_cons, rows_nil, unnilT, unnil, unnilTI, unnilI]; done) | (simp only [lb, lbI, rows_cons, rows_nil, unnilT, unnil, unnilTI, unnilI]; rfl)) (congrArg ((lb 3 1 cInt)) (show ([], false) = cleanF l depth from by rw [cleanF, h1]; rfl))))   -- leaf 3

end Go.Proofs.Ytnanackogloioaa.Ai
