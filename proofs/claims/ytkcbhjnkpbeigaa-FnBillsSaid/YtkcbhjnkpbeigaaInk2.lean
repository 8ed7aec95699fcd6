/- Contracts of the functions on inked lines: runs. -/
import Derived.Test.YtkcbhjnkpbeigaaInk
namespace Go.Proofs.Ytkcbhjnkpbeigaa.Ai
open Go Go.Proofs
set_option maxRecDepth 10000
set_option maxHeartbeats 4000000
set_option linter.unusedVariables false

theorem InkRuns_ok (x : Inked)  : OkA Try.prog 43 [.agg (cInked x)] (· = (lb 3 1 cInt) (runsA x)) := by
  obtain ⟨xA, xB⟩ := x
  try dsimp only at *
  exact OkA.unnil 3 1 (fn_intro envOk fieldsOk mixed Try.func43 rfl fun κ X Y L Q m hQ => by
    conv => cbv
    refine r_callB m.sX (IsInked_ok (xA, xB)) (fun h1 => ?_) (fun h1 => ?_) <;> conv => cbv
    · have xo := okInked_spec h1
      try dsimp only at xo
      have xl := xo.len
      try dsimp only at xl
      have xf := xo.few
      try dsimp only at xf
      refine r_loopF (α := List Int × Int × Int × Int) m 64 [5, 6, 7] [⟨1, 9, 0, 0, 0⟩, ⟨4, 33, 3, 1, 0⟩] (fun σ => [(1, .optr 9 0 2 0 0), (4, .osl 33 0), (5, .int .i64 σ.2.1), (6, .int .u8 σ.2.2.1), (7, .int .i64 σ.2.2.2)]) (fun σ => [(9, 0, .box [.str xA, .str xB]), (33, 0, .row 3 1 (rows cInt σ.1))])
        (fun σ => (0 ≤ σ.2.2.2) ∧ (σ.2.2.2 ≤ (xA.length : Int)) ∧ (∀ z ∈ σ.1, 0 ≤ z ∧ z ≤ σ.2.2.2) ∧ (0 ≤ σ.2.1 ∧ σ.2.1 ≤ σ.2.2.2) ∧ ((σ.1.length : Int) ≤ σ.2.2.2) ∧ (runG xA xB [] 0 0 = runG (xA.drop σ.2.2.2.toNat) (xB.drop σ.2.2.2.toNat) σ.1 σ.2.1 σ.2.2.1) ∧ (σ.2.2.1 ≠ 0 → 1 ≤ (σ.1.length : Int))) (fun σ => ((xA.length : Int) - σ.2.2.2).toNat) ([], 0, 0, 0) ?_ ?_ ?_ ?_
      · cbv
      · (try dsimp only); simp only [rows_cons, rows_nil]; cbv
      · exact ⟨(by (try dsimp only); first | omega | (simp only [List.length_nil]; omega)), (by (try dsimp only); first | omega | (simp only [List.length_nil]; omega)), (by (try dsimp only) <;> (intro z hz; cases hz)), (by (try dsimp only) <;> first | omega | rfl | (simp [*]; done)), (by (try dsimp only) <;> first | omega | rfl | (simp [*]; done)), (by (try dsimp only) <;> (rfl)), (by (try dsimp only) <;> (intro w_; exact absurd rfl w_))⟩
      rintro ⟨runs, blanks, last, i⟩ ⟨lo1, hi1, rb, bb, rl, q, w⟩ E hE F hF
      dsimp only at lo1 hi1 rb bb rl q w
      conv => cbv
      refine r_slen (u := xA) m.sX fun n1 hn1 mn1 => ?_   -- n1 = length of xA
      conv => cbv
      refine r_lss m.sX (fun h2 => ?_) (fun h2 => ?_) <;> conv => cbv
      · refine r_sidx (u := xA) (i := i) m.sX (by omega) (by first | omega | (simp only [List.length_cons, List.length_nil]; omega) | (simp; omega)) fun x1 hx1 c1 hc1 bc1 => ?_   -- x1 = xA[i]
        obtain ⟨k0, hk0⟩ := get_ex (xs := xB) (i := i.toNat) (by omega)
        have kt := ink_two xo.ink hx1 hk0
        try dsimp only at kt
        have dx1 := drop_cons hx1
        have kx1 := take_snoc hx1
        have jx1 : (i + 1).toNat = Int.toNat i + 1 := by omega
        conv => cbv
        refine r_eql m.sX (fun h3 => ?_) (fun h3 => ?_) <;> conv => cbv
        · refine r_eql m.sX (fun h4 => ?_) (fun h4 => ?_) <;> conv => cbv
          · refine r_addf m.sX (by omega) (by omega) fun blanks_2 hblanks_2 => ?_
            conv => cbv
            refine r_addf m.sX (by omega) (by omega) fun i_2 hi_2 => ?_
            conv => cbv
            have ti_2 : Int.toNat i_2 = Int.toNat i + 1 := by omega
            refine hE _ (runs, blanks_2, last, i_2) ?_ ?_ ⟨(by (try dsimp only); first | omega | (simp only [List.length_nil]; omega)), (by (try dsimp only); first | omega | (simp only [List.length_nil]; omega)), (by (try dsimp only) <;> (intro z hz; first | (exfalso; omega) | (have := rb z hz; omega) | (rw [hruns] at hz; rcases List.mem_or_eq_of_mem_set hz with hz | rfl; have := rb z hz; omega; omega) | (rw [hruns] at hz; rcases List.mem_append.1 hz with hz | hz; have := rb z hz; omega; rw [List.mem_singleton.1 hz]; omega))), (by (try dsimp only) <;> (omega)), (by (try dsimp only) <;> (omega)), (by (try dsimp only) <;> (first | (exfalso; omega) | rw [q, runG_drop _ _ _ hx1 hk0, if_pos (by omega), ti_2, hblanks_2] | rw [q, runG_drop _ _ _ hx1 hk0, if_neg (by omega), if_pos (by omega), ti_2, hruns, bump_eq (by omega) hx3 hr2] | rw [q, runG_drop _ _ _ hx1 hk0, if_neg (by omega), if_pos (by omega), ti_2, hruns, bump_eq (by omega) hx10 hr9] | rw [q, runG_drop _ _ _ hx1 hk0, if_neg (by omega), if_neg (by omega), ti_2, hruns, hr10, ck])), (by (try dsimp only) <;> (first | exact w | (intro w_; omega)))⟩ (by first | omega | (dsimp only; omega))
            · cbv
            · cbv
          · have w1 := w h4
            try dsimp only at w1
            refine r_sidx (u := xA) (i := i) m.sX (by omega) (by first | omega | (simp only [List.length_cons, List.length_nil]; omega) | (simp; omega)) fun x2 hx2 c2 hc2 bc2 => ?_   -- x2 = xA[i]
            obtain rfl := Option.some.inj (hx1.symm.trans hx2)
            obtain rfl := hc1.trans hc2.symm
            conv => cbv
            refine r_eql m.sX (fun h5 => ?_) (fun h5 => ?_) <;> conv => cbv
            · refine r_lenR m.sX fun n2 hn2 mn2 => ?_
              conv => cbv
              refine r_subf m.sX (by omega) (by omega) fun r1 hr1 => ?_
              conv => cbv
              refine r_oindex m.sX (by omega) (by omega) ?_
              conv => cbv
              obtain ⟨x3, hx3⟩ := get_ex (xs := runs) (i := Int.toNat r1) (by omega)
              have mx3 := get_mem hx3
              have vx3 := nth_some hx3
              have xb := rb _ mx3
              try dsimp only at xb
              refine r_oload m.sX hx3 (Nat.le_of_ble_eq_true rfl) ?_
              conv => cbv
              refine r_addf m.sX (by omega) (by omega) fun r2 hr2 => ?_
              conv => cbv
              refine r_oindex m.sX (by omega) (by omega) ?_
              conv => cbv
              obtain ⟨y1, hy1⟩ := get_ex (xs := runs) (i := Int.toNat r1) (by omega)
              refine r_ostore (l := Int.toNat r1) r2 m.sX hy1 (Nat.le_of_ble_eq_true rfl) rfl fun runs_2 hruns_2 => ?_   -- runs_2 = runs.set r1 r2
              have lruns_2 : (runs_2.length : Int) = runs.length := by rw [hruns_2]; first | done | (simp; done) | (simp; omega)
              conv => cbv
              refine r_addf m.sX (by omega) (by omega) fun i_3 hi_3 => ?_
              conv => cbv
              have ti_3 : Int.toNat i_3 = Int.toNat i + 1 := by omega
              refine hE _ (runs_2, blanks, last, i_3) ?_ ?_ ⟨(by (try dsimp only); first | omega | (simp only [List.length_nil]; omega)), (by (try dsimp only); first | omega | (simp only [List.length_nil]; omega)), (by (try dsimp only) <;> (intro z hz; first | (exfalso; omega) | (have := rb z hz; omega) | (rw [hruns_2] at hz; rcases List.mem_or_eq_of_mem_set hz with hz | rfl; have := rb z hz; omega; omega) | (rw [hruns_2] at hz; rcases List.mem_append.1 hz with hz | hz; have := rb z hz; omega; rw [List.mem_singleton.1 hz]; omega))), (by (try dsimp only) <;> (omega)), (by (try dsimp only) <;> (omega)), (by (try dsimp only) <;> (first | (exfalso; omega) | rw [q, runG_drop _ _ _ hx1 hk0, if_pos (by omega), ti_3, hblanks_2] | rw [q, runG_drop _ _ _ hx1 hk0, if_neg (by omega), if_pos (by omega), ti_3, hruns_2, bump_eq (by omega) hx3 hr2] | rw [q, runG_drop _ _ _ hx1 hk0, if_neg (by omega), if_pos (by omega), ti_3, hruns_2, bump_eq (by omega) hx10 hr9] | rw [q, runG_drop _ _ _ hx1 hk0, if_neg (by omega), if_neg (by omega), ti_3, hruns_2, hr10, ck])), (by (try dsimp only) <;> (first | exact w | (intro w_; omega)))⟩ (by first | omega | (dsimp only; omega))
              · cbv
              · cbv
            · refine r_sidx (u := xB) (i := i) m.sX (by omega) (by first | omega | (simp only [List.length_cons, List.length_nil]; omega) | (simp; omega)) fun x4 hx4 c3 hc3 bc3 => ?_   -- x4 = xB[i]
              have dx4 := drop_cons hx4
              have kx4 := take_snoc hx4
              have jx4 : (i + 1).toNat = Int.toNat i + 1 := by omega
              conv => cbv
              refine r_eql m.sX (fun h6 => ?_) (fun h6 => ?_) <;> conv => cbv
              · refine r_lenR m.sX fun n3 hn3 mn3 => ?_
                conv => cbv
                refine r_subf m.sX (by omega) (by omega) fun r3 hr3 => ?_
                conv => cbv
                refine r_oindex m.sX (by omega) (by omega) ?_
                conv => cbv
                obtain ⟨x5, hx5⟩ := get_ex (xs := runs) (i := Int.toNat r3) (by omega)
                have mx5 := get_mem hx5
                have vx5 := nth_some hx5
                have xb := rb _ mx5
                try dsimp only at xb
                refine r_oload m.sX hx5 (Nat.le_of_ble_eq_true rfl) ?_
                conv => cbv
                refine r_addf m.sX (by omega) (by omega) fun r4 hr4 => ?_
                conv => cbv
                refine r_oindex m.sX (by omega) (by omega) ?_
                conv => cbv
                obtain ⟨y2, hy2⟩ := get_ex (xs := runs) (i := Int.toNat r3) (by omega)
                refine r_ostore (l := Int.toNat r3) r4 m.sX hy2 (Nat.le_of_ble_eq_true rfl) rfl fun runs_3 hruns_3 => ?_   -- runs_3 = runs.set r3 r4
                have lruns_3 : (runs_3.length : Int) = runs.length := by rw [hruns_3]; first | done | (simp; done) | (simp; omega)
                conv => cbv
                refine r_addf m.sX (by omega) (by omega) fun i_4 hi_4 => ?_
                conv => cbv
                have ti_4 : Int.toNat i_4 = Int.toNat i + 1 := by omega
                refine hE _ (runs_3, blanks, last, i_4) ?_ ?_ ⟨(by (try dsimp only); first | omega | (simp only [List.length_nil]; omega)), (by (try dsimp only); first | omega | (simp only [List.length_nil]; omega)), (by (try dsimp only) <;> (intro z hz; first | (exfalso; omega) | (have := rb z hz; omega) | (rw [hruns_3] at hz; rcases List.mem_or_eq_of_mem_set hz with hz | rfl; have := rb z hz; omega; omega) | (rw [hruns_3] at hz; rcases List.mem_append.1 hz with hz | hz; have := rb z hz; omega; rw [List.mem_singleton.1 hz]; omega))), (by (try dsimp only) <;> (omega)), (by (try dsimp only) <;> (omega)), (by (try dsimp only) <;> (first | (exfalso; omega) | rw [q, runG_drop _ _ _ hx1 hk0, if_pos (by omega), ti_4, hblanks_2] | rw [q, runG_drop _ _ _ hx1 hk0, if_neg (by omega), if_pos (by omega), ti_4, hruns_3, bump_eq (by omega) hx3 hr2] | rw [q, runG_drop _ _ _ hx1 hk0, if_neg (by omega), if_pos (by omega), ti_4, hruns_3, bump_eq (by omega) hx10 hr9] | rw [q, runG_drop _ _ _ hx1 hk0, if_neg (by omega), if_neg (by omega), ti_4, hruns_3, hr10, ck])), (by (try dsimp only) <;> (first | exact w | (intro w_; omega)))⟩ (by first | omega | (dsimp only; omega))
                · cbv
                · cbv
              · refine r_addf m.sX (by omega) (by omega) fun r5 hr5 => ?_
                conv => cbv
                refine r_append1 (r5) m.sX rfl (by first | omega | (dsimp only; omega)) (by first | omega | (dsimp only; omega)) fun runs_4 hruns_4 => ?_
                conv => cbv
                have lruns_4 : (runs_4.length : Int) = runs.length + 1 := by rw [hruns_4]; first | done | (simp; done) | (simp; omega)
                refine r_sidx (u := xB) (i := i) m.sX (by omega) (by first | omega | (simp only [List.length_cons, List.length_nil]; omega) | (simp; omega)) fun x6 hx6 c4 hc4 bc4 => ?_   -- x6 = xB[i]
                obtain rfl := Option.some.inj (hx4.symm.trans hx6)
                obtain rfl := hc3.trans hc4.symm
                conv => cbv
                refine r_addf m.sX (by omega) (by omega) fun i_5 hi_5 => ?_
                conv => cbv
                have ti_5 : Int.toNat i_5 = Int.toNat i + 1 := by omega
                refine hE _ (runs_4, 0, c3, i_5) ?_ ?_ ⟨(by (try dsimp only); first | omega | (simp only [List.length_nil]; omega)), (by (try dsimp only); first | omega | (simp only [List.length_nil]; omega)), (by (try dsimp only) <;> (intro z hz; first | (exfalso; omega) | (have := rb z hz; omega) | (rw [hruns_4] at hz; rcases List.mem_or_eq_of_mem_set hz with hz | rfl; have := rb z hz; omega; omega) | (rw [hruns_4] at hz; rcases List.mem_append.1 hz with hz | hz; have := rb z hz; omega; rw [List.mem_singleton.1 hz]; omega))), (by (try dsimp only) <;> (omega)), (by (try dsimp only) <;> (omega)), (by (try dsimp only) <;> (first | (exfalso; omega) | rw [q, runG_drop _ _ _ hx1 hk0, if_pos (by omega), ti_5, hblanks_2] | rw [q, runG_drop _ _ _ hx1 hk0, if_neg (by omega), if_pos (by omega), ti_5, hruns_4, bump_eq (by omega) hx3 hr2] | rw [q, runG_drop _ _ _ hx1 hk0, if_neg (by omega), if_pos (by omega), ti_5, hruns_4, bump_eq (by omega) hx10 hr9] | rw [q, runG_drop _ _ _ hx1 hk0, if_neg (by omega), if_neg (by omega), ti_5, hruns_4, hr10, ck])), (by (try dsimp only) <;> (first | exact w | (intro w_; omega)))⟩ (by first | omega | (dsimp only; omega))
                · cbv
                · cbv
        · refine r_sidx (u := xA) (i := i) m.sX (by omega) (by first | omega | (simp only [List.length_cons, List.length_nil]; omega) | (simp; omega)) fun x7 hx7 c5 hc5 bc5 => ?_   -- x7 = xA[i]
          obtain rfl := Option.some.inj (hx1.symm.trans hx7)
          obtain rfl := hc1.trans hc5.symm
          conv => cbv
          refine r_eql m.sX (fun h7 => ?_) (fun h7 => ?_) <;> conv => cbv
          · have w3 : 1 ≤ (runs.length : Int) := by omega
            refine r_lenR m.sX fun n4 hn4 mn4 => ?_
            conv => cbv
            refine r_subf m.sX (by omega) (by omega) fun r6 hr6 => ?_
            conv => cbv
            refine r_oindex m.sX (by omega) (by omega) ?_
            conv => cbv
            obtain ⟨x8, hx8⟩ := get_ex (xs := runs) (i := Int.toNat r6) (by omega)
            have mx8 := get_mem hx8
            have vx8 := nth_some hx8
            have xb := rb _ mx8
            try dsimp only at xb
            refine r_oload m.sX hx8 (Nat.le_of_ble_eq_true rfl) ?_
            conv => cbv
            refine r_addf m.sX (by omega) (by omega) fun r7 hr7 => ?_
            conv => cbv
            refine r_oindex m.sX (by omega) (by omega) ?_
            conv => cbv
            obtain ⟨y3, hy3⟩ := get_ex (xs := runs) (i := Int.toNat r6) (by omega)
            refine r_ostore (l := Int.toNat r6) r7 m.sX hy3 (Nat.le_of_ble_eq_true rfl) rfl fun runs_5 hruns_5 => ?_   -- runs_5 = runs.set r6 r7
            have lruns_5 : (runs_5.length : Int) = runs.length := by rw [hruns_5]; first | done | (simp; done) | (simp; omega)
            conv => cbv
            refine r_addf m.sX (by omega) (by omega) fun i_6 hi_6 => ?_
            conv => cbv
            have ti_6 : Int.toNat i_6 = Int.toNat i + 1 := by omega
            refine hE _ (runs_5, blanks, last, i_6) ?_ ?_ ⟨(by (try dsimp only); first | omega | (simp only [List.length_nil]; omega)), (by (try dsimp only); first | omega | (simp only [List.length_nil]; omega)), (by (try dsimp only) <;> (intro z hz; first | (exfalso; omega) | (have := rb z hz; omega) | (rw [hruns_5] at hz; rcases List.mem_or_eq_of_mem_set hz with hz | rfl; have := rb z hz; omega; omega) | (rw [hruns_5] at hz; rcases List.mem_append.1 hz with hz | hz; have := rb z hz; omega; rw [List.mem_singleton.1 hz]; omega))), (by (try dsimp only) <;> (omega)), (by (try dsimp only) <;> (omega)), (by (try dsimp only) <;> (first | (exfalso; omega) | rw [q, runG_drop _ _ _ hx1 hk0, if_pos (by omega), ti_6, hblanks_2] | rw [q, runG_drop _ _ _ hx1 hk0, if_neg (by omega), if_pos (by omega), ti_6, hruns_5, bump_eq (by omega) hx3 hr2] | rw [q, runG_drop _ _ _ hx1 hk0, if_neg (by omega), if_pos (by omega), ti_6, hruns_5, bump_eq (by omega) hx10 hr9] | rw [q, runG_drop _ _ _ hx1 hk0, if_neg (by omega), if_neg (by omega), ti_6, hruns_5, hr10, ck])), (by (try dsimp only) <;> (first | exact w | (intro w_; omega)))⟩ (by first | omega | (dsimp only; omega))
            · cbv
            · cbv
          · refine r_sidx (u := xB) (i := i) m.sX (by omega) (by first | omega | (simp only [List.length_cons, List.length_nil]; omega) | (simp; omega)) fun x9 hx9 c6 hc6 bc6 => ?_   -- x9 = xB[i]
            have ck : c6 = (k0.toNat : Int) := by rw [hc6, Option.some.inj (hx9.symm.trans hk0)]
            have dx9 := drop_cons hx9
            have kx9 := take_snoc hx9
            have jx9 : (i + 1).toNat = Int.toNat i + 1 := by omega
            conv => cbv
            refine r_eql m.sX (fun h8 => ?_) (fun h8 => ?_) <;> conv => cbv
            · have w2 := w (by omega)
              try dsimp only at w2
              refine r_lenR m.sX fun n5 hn5 mn5 => ?_
              conv => cbv
              refine r_subf m.sX (by omega) (by omega) fun r8 hr8 => ?_
              conv => cbv
              refine r_oindex m.sX (by omega) (by omega) ?_
              conv => cbv
              obtain ⟨x10, hx10⟩ := get_ex (xs := runs) (i := Int.toNat r8) (by omega)
              have mx10 := get_mem hx10
              have vx10 := nth_some hx10
              have xb := rb _ mx10
              try dsimp only at xb
              refine r_oload m.sX hx10 (Nat.le_of_ble_eq_true rfl) ?_
              conv => cbv
              refine r_addf m.sX (by omega) (by omega) fun r9 hr9 => ?_
              conv => cbv
              refine r_oindex m.sX (by omega) (by omega) ?_
              conv => cbv
              obtain ⟨y4, hy4⟩ := get_ex (xs := runs) (i := Int.toNat r8) (by omega)
              refine r_ostore (l := Int.toNat r8) r9 m.sX hy4 (Nat.le_of_ble_eq_true rfl) rfl fun runs_6 hruns_6 => ?_   -- runs_6 = runs.set r8 r9
              have lruns_6 : (runs_6.length : Int) = runs.length := by rw [hruns_6]; first | done | (simp; done) | (simp; omega)
              conv => cbv
              refine r_addf m.sX (by omega) (by omega) fun i_7 hi_7 => ?_
              conv => cbv
              have ti_7 : Int.toNat i_7 = Int.toNat i + 1 := by omega
              refine hE _ (runs_6, blanks, last, i_7) ?_ ?_ ⟨(by (try dsimp only); first | omega | (simp only [List.length_nil]; omega)), (by (try dsimp only); first | omega | (simp only [List.length_nil]; omega)), (by (try dsimp only) <;> (intro z hz; first | (exfalso; omega) | (have := rb z hz; omega) | (rw [hruns_6] at hz; rcases List.mem_or_eq_of_mem_set hz with hz | rfl; have := rb z hz; omega; omega) | (rw [hruns_6] at hz; rcases List.mem_append.1 hz with hz | hz; have := rb z hz; omega; rw [List.mem_singleton.1 hz]; omega))), (by (try dsimp only) <;> (omega)), (by (try dsimp only) <;> (omega)), (by (try dsimp only) <;> (first | (exfalso; omega) | rw [q, runG_drop _ _ _ hx1 hk0, if_pos (by omega), ti_7, hblanks_2] | rw [q, runG_drop _ _ _ hx1 hk0, if_neg (by omega), if_pos (by omega), ti_7, hruns_6, bump_eq (by omega) hx3 hr2] | rw [q, runG_drop _ _ _ hx1 hk0, if_neg (by omega), if_pos (by omega), ti_7, hruns_6, bump_eq (by omega) hx10 hr9] | rw [q, runG_drop _ _ _ hx1 hk0, if_neg (by omega), if_neg (by omega), ti_7, hruns_6, hr10, ck])), (by (try dsimp only) <;> (first | exact w | (intro w_; omega)))⟩ (by first | omega | (dsimp only; omega))
              · cbv
              · cbv
            · refine r_addf m.sX (by omega) (by omega) fun r10 hr10 => ?_
              conv => cbv
              refine r_append1 (r10) m.sX rfl (by first | omega | (dsimp only; omega)) (by first | omega | (dsimp only; omega)) fun runs_7 hruns_7 => ?_
              conv => cbv
              have lruns_7 : (runs_7.length : Int) = runs.length + 1 := by rw [hruns_7]; first | done | (simp; done) | (simp; omega)
              refine r_sidx (u := xB) (i := i) m.sX (by omega) (by first | omega | (simp only [List.length_cons, List.length_nil]; omega) | (simp; omega)) fun x11 hx11 c7 hc7 bc7 => ?_   -- x11 = xB[i]
              obtain rfl := Option.some.inj (hx9.symm.trans hx11)
              obtain rfl := hc6.trans hc7.symm
              conv => cbv
              refine r_addf m.sX (by omega) (by omega) fun i_8 hi_8 => ?_
              conv => cbv
              have ti_8 : Int.toNat i_8 = Int.toNat i + 1 := by omega
              refine hE _ (runs_7, 0, c6, i_8) ?_ ?_ ⟨(by (try dsimp only); first | omega | (simp only [List.length_nil]; omega)), (by (try dsimp only); first | omega | (simp only [List.length_nil]; omega)), (by (try dsimp only) <;> (intro z hz; first | (exfalso; omega) | (have := rb z hz; omega) | (rw [hruns_7] at hz; rcases List.mem_or_eq_of_mem_set hz with hz | rfl; have := rb z hz; omega; omega) | (rw [hruns_7] at hz; rcases List.mem_append.1 hz with hz | hz; have := rb z hz; omega; rw [List.mem_singleton.1 hz]; omega))), (by (try dsimp only) <;> (omega)), (by (try dsimp only) <;> (omega)), (by (try dsimp only) <;> (first | (exfalso; omega) | rw [q, runG_drop _ _ _ hx1 hk0, if_pos (by omega), ti_8, hblanks_2] | rw [q, runG_drop _ _ _ hx1 hk0, if_neg (by omega), if_pos (by omega), ti_8, hruns_7, bump_eq (by omega) hx3 hr2] | rw [q, runG_drop _ _ _ hx1 hk0, if_neg (by omega), if_pos (by omega), ti_8, hruns_7, bump_eq (by omega) hx10 hr9] | rw [q, runG_drop _ _ _ hx1 hk0, if_neg (by omega), if_neg (by omega), ti_8, hruns_7, hr10, ck])), (by (try dsimp only) <;> (first | exact w | (intro w_; omega)))⟩ (by first | omega | (dsimp only; omega))
              · cbv
              · cbv
      · refine hF _ _ ?_
        conv => cbv
        exact hQ (.tup [.fr 3 1 (rows cInt runs), .bool true]) (Eq.trans (by first | rfl | (simp only [lb, lbI, rows_cons, rows_nil, unnilT, unnil, unnilTI, unnilI]; done) | (simp only [lb, lbI, rows_cons, rows_nil, unnilT, unnil, unnilTI, unnilI]; rfl)) (congrArg ((lb 3 1 cInt)) (show (runs, true) = runsA (xA, xB) from by rw [runsA, if_pos h1, q, runG_end _ _ _ (.inl (by omega))])))   -- leaf 1
    · exact hQ (.tup [.fr 3 1 [], .bool false]) (Eq.trans (by first | rfl | (simp only [lb, lbI, rows_cons, rows_nil, unnilT, unnil, unnilTI, unnilI]; done) | (simp only [lb, lbI, rows_cons, rows_nil, unnilT, unnil, unnilTI, unnilI]; rfl)) (congrArg ((lb 3 1 cInt)) (show ([], false) = runsA (xA, xB) from by rw [runsA, h1]; rfl))))   -- leaf 2

theorem specBlankUnits_ok (f : List FSort) (x : Inked) (ink : List UInt8)  : OkA Try.prog 41 [.isl 2 (rows cSort f), .agg (cInked x), .str ink] (· = ib (blankA f x ink)) := by
  obtain ⟨xA, xB⟩ := x
  try dsimp only at *
  exact fn_intro envOk fieldsOk mixed Try.func41 rfl fun κ X Y L Q m hQ => by
    conv => cbv
    refine r_callB m.sX (tyFont_ok f) (fun h1 => ?_) (fun h1 => ?_) <;> conv => cbv
    · have fo := okFont_sets h1
      try dsimp only at fo
      refine r_callB m.sX (coGood_ok (xA, xB)) (fun h2 => ?_) (fun h2 => ?_) <;> conv => cbv
      · have xo := okInked_spec h2
        try dsimp only at xo
        have xl := xo.len
        try dsimp only at xl
        have xf := xo.few
        try dsimp only at xf
        refine r_callB m.sX (coInk_ok ink) (fun h3 => ?_) (fun h3 => ?_) <;> conv => cbv
        · have io := isInk_head h3
          try dsimp only at io
          refine r_loopF (α := Int × Nat) m 61 [0, 2, 8] [⟨4, 33, 0, 0, 0⟩, ⟨26, 209, 0, 0, 0⟩] (fun σ => [(0, .isl 2 (rows cSort f)), (2, .str ink), (4, .optr 33 0 2 0 0), (8, .int .i64 σ.1), (26, .optr 209 0 0 0 0)]) (fun σ => [(33, 0, .box [.str xA, .str xB]), (209, 0, .iter xA σ.2)])
            (fun σ => (σ.2 ≤ xA.length) ∧ (blG f (ink.headD 0) xA xB 0 = blG f (ink.headD 0) (xA.drop σ.2) (xB.drop σ.2) σ.1) ∧ (0 ≤ σ.1 ∧ σ.1 ≤ 54 * (σ.2 : Int))) (fun σ => xA.length - σ.2) (0, 0) ?_ ?_ ?_ ?_
          · cbv
          · cbv
          · exact ⟨(by (try dsimp only); first | omega | (simp only [List.length_nil]; omega)), (by (try dsimp only) <;> (rfl)), (by (try dsimp only) <;> first | omega | rfl | (simp [*]; done))⟩
          rintro ⟨sum, p1⟩ ⟨lp1, q, ub⟩ E hE F hF
          dsimp only at lp1 q ub
          conv => cbv
          refine r_snext (u := xA) (p := p1) m.sX (fun hp1 => ?_) (fun x1 hx1 => ⟨by exact plain_low xo.plain hx1, fun i1 c1 hi1 hc1 => ?_⟩) <;> conv => cbv
          · have dz_p1 := drop_end (xs := xA) (i := p1) (by omega)
            have tz_p1 := take_end (xs := xA) (i := p1) (by omega)
            refine hF _ _ ?_
            conv => cbv
            exact hQ (.tup [.int .i64 sum, .bool true]) (Eq.trans (by first | rfl | (simp only [lb, lbI, rows_cons, rows_nil, unnilT, unnil, unnilTI, unnilI]; done) | (simp only [lb, lbI, rows_cons, rows_nil, unnilT, unnil, unnilTI, unnilI]; rfl)) (congrArg (ib) (show (sum, true) = blankA f (xA, xB) ink from by rw [blankA, if_pos (by rw [h1, h2, h3]; rfl), q, blG_end _ _ _ (.inl (by omega))])))   -- leaf 1
          · have ltx1 := (List.getElem?_eq_some_iff.1 hx1).1
            have ti1 : Int.toNat i1 = p1 := by omega
            have gx1 : xA[Int.toNat i1]? = some x1 := by rw [ti1]; exact hx1
            have dx1 := drop_cons hx1
            have kx1 := take_snoc hx1
            have mx1 := get_mem hx1
            have bc1 : 0 ≤ c1 ∧ c1 ≤ 255 := by have := x1.toNat_lt; omega
            have hx1_g := gx1
            obtain ⟨k0, hk0⟩ := get_ex (xs := xB) (i := p1) (by omega)
            refine r_sidx (u := xA) (i := i1) m.sX (by omega) (by first | omega | (simp only [List.length_cons, List.length_nil]; omega) | (simp; omega)) fun x2 hx2 c2 hc2 bc2 => ?_   -- x2 = xA[i1]
            obtain rfl := Option.some.inj (hx1_g.symm.trans hx2)
            obtain rfl := hc1.trans hc2.symm
            conv => cbv
            refine r_eql m.sX (fun h4 => ?_) (fun h4 => ?_) <;> conv => cbv
            · refine hE _ (sum, p1 + 1) ?_ ?_ ⟨(by (try dsimp only); first | omega | (simp only [List.length_nil]; omega)), (by (try dsimp only) <;> (first | rw [q, blG_drop _ _ _ hx1 hk0, if_pos (by omega)] | rw [q, blG_drop _ _ _ hx1 hk0, if_neg (by omega), ← hk, if_neg (by omega), if_neg ne, sv, hsum_2] | rw [q, blG_drop _ _ _ hx1 hk0, if_neg (by omega), ← hk, if_neg (by omega), if_pos eq_])), (by (try dsimp only) <;> (omega))⟩ (by first | omega | (dsimp only; omega))
              · cbv
              · cbv
            · refine r_addf m.sX (by omega) (by omega) fun r1 hr1 => ?_
              conv => cbv
              refine r_sslice (u := xA) (i := i1) (j := r1) m.sX (by omega) (by omega) (by first | omega | (simp only [List.length_cons, List.length_nil]; omega) | (simp; omega)) fun s1 hs1 => ?_   -- s1 = xA[i1:r1]
              have ls1 : (s1.length : Int) = r1 - i1 := by rw [hs1]; first | done | (simp; done) | (simp; omega)
              try have ws1 := slice_one hx1_g (by omega) (by omega) hs1
              conv => cbv
              refine r_callF (PV.int .i64) m.sX (tyFind_ok f s1) fun k hk => ?_
              conv => cbv
              try dsimp only at hk
              rw [ws1] at hk
              have kb := idxF_in [x1] f
              try dsimp only at kb
              rw [← hk] at kb
              refine r_lss m.sX (fun h5 => ?_) (fun h5 => ?_) <;> conv => cbv
              · refine hF _ _ ?_
                conv => cbv
                exact hQ (.tup [.int .i64 0, .bool false]) (Eq.trans (by first | rfl | (simp only [lb, lbI, rows_cons, rows_nil, unnilT, unnil, unnilTI, unnilI]; done) | (simp only [lb, lbI, rows_cons, rows_nil, unnilT, unnil, unnilTI, unnilI]; rfl)) (congrArg (ib) (show (0, false) = blankA f (xA, xB) ink from by rw [blankA, if_pos (by rw [h1, h2, h3]; rfl), q, blG_drop _ _ _ hx1 hk0, if_neg (by omega), ← hk, if_pos h5])))   -- leaf 2
              · refine r_addf m.sX (by omega) (by omega) fun r2 hr2 => ?_
                conv => cbv
                refine r_sslice (u := xB) (i := i1) (j := r2) m.sX (by omega) (by omega) (by first | omega | (simp only [List.length_cons, List.length_nil]; omega) | (simp; omega)) fun s2 hs2 => ?_   -- s2 = xB[i1:r2]
                have w2 : s2 = [k0] := slice_one (i := i1) (by rw [ti1]; exact hk0) (by omega) (by omega) hs2
                have ls2 : (s2.length : Int) = r2 - i1 := by rw [hs2]; first | done | (simp; done) | (simp; omega)
                conv => cbv
                refine r_sneq m.sX (fun h6 => ?_) (fun h6 => ?_) <;> conv => cbv
                · have ne : ¬ (k0 = ink.headD 0) := fun e => h6 (by rw [w2, e]; exact io.1.symm)
                  refine r_index m.sX (by omega) (by omega) fun v hx3A => ?_
                  obtain ⟨x3A, x3B⟩ := v
                  conv => cbv
                  have hx3 := hx3A
                  have mx3 := get_mem hx3
                  have sv : setAt f k = x3B := setAt_some hx3
                  have xb := fo.1 _ mx3
                  try dsimp only at xb
                  refine r_addf m.sX (by omega) (by omega) fun sum_2 hsum_2 => ?_
                  conv => cbv
                  refine hE _ (sum_2, p1 + 1) ?_ ?_ ⟨(by (try dsimp only); first | omega | (simp only [List.length_nil]; omega)), (by (try dsimp only) <;> (first | rw [q, blG_drop _ _ _ hx1 hk0, if_pos (by omega)] | rw [q, blG_drop _ _ _ hx1 hk0, if_neg (by omega), ← hk, if_neg (by omega), if_neg ne, sv, hsum_2] | rw [q, blG_drop _ _ _ hx1 hk0, if_neg (by omega), ← hk, if_neg (by omega), if_pos eq_])), (by (try dsimp only) <;> (omega))⟩ (by first | omega | (dsimp only; omega))
                  · cbv
                  · cbv
                · have eq_ : k0 = ink.headD 0 := (List.cons.inj (w2.symm.trans (h6.trans io.1))).1
                  refine hE _ (sum, p1 + 1) ?_ ?_ ⟨(by (try dsimp only); first | omega | (simp only [List.length_nil]; omega)), (by (try dsimp only) <;> (first | rw [q, blG_drop _ _ _ hx1 hk0, if_pos (by omega)] | rw [q, blG_drop _ _ _ hx1 hk0, if_neg (by omega), ← hk, if_neg (by omega), if_neg ne, sv, hsum_2] | rw [q, blG_drop _ _ _ hx1 hk0, if_neg (by omega), ← hk, if_neg (by omega), if_pos eq_])), (by (try dsimp only) <;> (omega))⟩ (by first | omega | (dsimp only; omega))
                  · cbv
                  · cbv
        · exact hQ (.tup [.int .i64 0, .bool false]) (Eq.trans (by first | rfl | (simp only [lb, lbI, rows_cons, rows_nil, unnilT, unnil, unnilTI, unnilI]; done) | (simp only [lb, lbI, rows_cons, rows_nil, unnilT, unnil, unnilTI, unnilI]; rfl)) (congrArg (ib) (show (0, false) = blankA f (xA, xB) ink from by rw [blankA, h1, h2, h3]; rfl)))   -- leaf 3
      · exact hQ (.tup [.int .i64 0, .bool false]) (Eq.trans (by first | rfl | (simp only [lb, lbI, rows_cons, rows_nil, unnilT, unnil, unnilTI, unnilI]; done) | (simp only [lb, lbI, rows_cons, rows_nil, unnilT, unnil, unnilTI, unnilI]; rfl)) (congrArg (ib) (show (0, false) = blankA f (xA, xB) ink from by rw [blankA, h1, h2]; rfl)))   -- leaf 4
    · exact hQ (.tup [.int .i64 0, .bool false]) (Eq.trans (by first | rfl | (simp only [lb, lbI, rows_cons, rows_nil, unnilT, unnil, unnilTI, unnilI]; done) | (simp only [lb, lbI, rows_cons, rows_nil, unnilT, unnil, unnilTI, unnilI]; rfl)) (congrArg (ib) (show (0, false) = blankA f (xA, xB) ink from by rw [blankA, h1]; rfl)))   -- leaf 5

theorem specInkRuns_ok (x : Inked)  : OkA Try.prog 44 [.agg (cInked x)] (· = (lb 3 1 cInt) (runsA x)) := by
  obtain ⟨xA, xB⟩ := x
  try dsimp only at *
  exact OkA.unnil 3 1 (fn_intro envOk fieldsOk mixed Try.func44 rfl fun κ X Y L Q m hQ => by
    conv => cbv
    refine r_callB m.sX (coGood_ok (xA, xB)) (fun h1 => ?_) (fun h1 => ?_) <;> conv => cbv
    · have xo := okInked_spec h1
      try dsimp only at xo
      have xl := xo.len
      try dsimp only at xl
      have xf := xo.few
      try dsimp only at xf
      refine r_loopF (α := List Int × List UInt8 × Int × Nat) m 65 [5, 6] [⟨1, 9, 0, 0, 0⟩, ⟨4, 33, 3, 1, 0⟩, ⟨13, 105, 0, 0, 0⟩] (fun σ => [(1, .optr 9 0 2 0 0), (4, .osl 33 0), (5, .str σ.2.1), (6, .int .i64 σ.2.2.1), (13, .optr 105 0 0 0 0)]) (fun σ => [(9, 0, .box [.str xA, .str xB]), (33, 0, .row 3 1 (rows cInt σ.1)), (105, 0, .iter xA σ.2.2.2)])
        (fun σ => (σ.2.2.2 ≤ xA.length) ∧ (∀ z ∈ σ.1, 0 ≤ z ∧ z ≤ (σ.2.2.2 : Int)) ∧ (0 ≤ σ.2.2.1 ∧ σ.2.2.1 ≤ (σ.2.2.2 : Int)) ∧ ((σ.1.length : Int) ≤ (σ.2.2.2 : Int)) ∧ (runG xA xB [] 0 0 = runG (xA.drop σ.2.2.2) (xB.drop σ.2.2.2) σ.1 σ.2.2.1 (inkN σ.2.1)) ∧ (inkK σ.2.1) ∧ (σ.2.1 ≠ [] → 1 ≤ (σ.1.length : Int))) (fun σ => xA.length - σ.2.2.2) ([], ([] : List UInt8), 0, 0) ?_ ?_ ?_ ?_
      · cbv
      · (try dsimp only); simp only [rows_cons, rows_nil]; cbv
      · exact ⟨(by (try dsimp only); first | omega | (simp only [List.length_nil]; omega)), (by (try dsimp only) <;> (intro z hz; cases hz)), (by (try dsimp only) <;> first | omega | rfl | (simp [*]; done)), (by (try dsimp only) <;> first | omega | rfl | (simp [*]; done)), (by (try dsimp only) <;> (rfl)), (by (try dsimp only) <;> (exact .inl rfl)), (by (try dsimp only) <;> (intro w_; exact absurd rfl w_))⟩
      rintro ⟨out, ink, before, p1⟩ ⟨lp1, rb, bb, rl, q, kk, w⟩ E hE F hF
      dsimp only at lp1 rb bb rl q kk w
      conv => cbv
      refine r_snext (u := xA) (p := p1) m.sX (fun hp1 => ?_) (fun x1 hx1 => ⟨by exact plain_low xo.plain hx1, fun i1 c1 hi1 hc1 => ?_⟩) <;> conv => cbv
      · have dz_p1 := drop_end (xs := xA) (i := p1) (by omega)
        have tz_p1 := take_end (xs := xA) (i := p1) (by omega)
        refine hF _ _ ?_
        conv => cbv
        exact hQ (.tup [.fr 3 1 (rows cInt out), .bool true]) (Eq.trans (by first | rfl | (simp only [lb, lbI, rows_cons, rows_nil, unnilT, unnil, unnilTI, unnilI]; done) | (simp only [lb, lbI, rows_cons, rows_nil, unnilT, unnil, unnilTI, unnilI]; rfl)) (congrArg ((lb 3 1 cInt)) (show (out, true) = runsA (xA, xB) from by rw [runsA, if_pos h1, q, runG_end _ _ _ (.inl (by omega))])))   -- leaf 1
      · have ltx1 := (List.getElem?_eq_some_iff.1 hx1).1
        have ti1 : Int.toNat i1 = p1 := by omega
        have gx1 : xA[Int.toNat i1]? = some x1 := by rw [ti1]; exact hx1
        have dx1 := drop_cons hx1
        have kx1 := take_snoc hx1
        have mx1 := get_mem hx1
        have bc1 : 0 ≤ c1 ∧ c1 ≤ 255 := by have := x1.toNat_lt; omega
        have hx1_g := gx1
        obtain ⟨k0, hk0⟩ := get_ex (xs := xB) (i := p1) (by omega)
        have kt := ink_two xo.ink hx1 hk0
        try dsimp only at kt
        refine r_sidx (u := xA) (i := i1) m.sX (by omega) (by first | omega | (simp only [List.length_cons, List.length_nil]; omega) | (simp; omega)) fun x2 hx2 c2 hc2 bc2 => ?_   -- x2 = xA[i1]
        obtain rfl := Option.some.inj (hx1_g.symm.trans hx2)
        obtain rfl := hc1.trans hc2.symm
        conv => cbv
        refine r_eql m.sX (fun h2 => ?_) (fun h2 => ?_) <;> conv => cbv
        · refine r_seql m.sX (fun h3 => ?_) (fun h3 => ?_) <;> conv => cbv
          · have z0 : inkN ink = 0 := by rw [h3]; rfl
            refine r_addf m.sX (by omega) (by omega) fun before_2 hbefore_2 => ?_
            conv => cbv
            refine hE _ (out, ink, before_2, p1 + 1) ?_ ?_ ⟨(by (try dsimp only); first | omega | (simp only [List.length_nil]; omega)), (by (try dsimp only) <;> (intro z hz; first | (exfalso; omega) | (have := rb z hz; omega) | (rw [hout] at hz; rcases List.mem_or_eq_of_mem_set hz with hz | rfl; have := rb z hz; omega; omega) | (rw [hout] at hz; rcases List.mem_append.1 hz with hz | hz; have := rb z hz; omega; rw [List.mem_singleton.1 hz]; omega))), (by (try dsimp only) <;> (omega)), (by (try dsimp only) <;> (omega)), (by (try dsimp only) <;> (first | (exfalso; omega) | rw [q, runG_drop _ _ _ hx1 hk0, if_pos (by omega), hbefore_2] | rw [q, runG_drop _ _ _ hx1 hk0, if_neg (by omega), if_pos (by omega), hout, bump_eq (by omega) hx4 hr2] | rw [q, runG_drop _ _ _ hx1 hk0, if_neg (by omega), if_pos (by omega), hout, bump_eq (by omega) hx8 hr12] | (rw [q, runG_drop _ _ _ hx1 hk0, if_neg (by omega), if_neg (by omega), hout, hr14, u3, Int.add_comm 1 before]; rfl))), (by (try dsimp only) <;> (first | exact kk | (exact .inr ⟨k0, u3, by omega⟩) | (exfalso; omega))), (by (try dsimp only) <;> (first | exact w | (intro w_; omega)))⟩ (by first | omega | (dsimp only; omega))
            · cbv
            · cbv
          · have z0 : inkN ink ≠ 0 := inkN_ne kk h3
            have w1 := w h3
            try dsimp only at w1
            refine r_sidx (u := xA) (i := i1) m.sX (by omega) (by first | omega | (simp only [List.length_cons, List.length_nil]; omega) | (simp; omega)) fun x3 hx3 c3 hc3 bc3 => ?_   -- x3 = xA[i1]
            obtain rfl := Option.some.inj (hx1_g.symm.trans hx3)
            obtain rfl := hc1.trans hc3.symm
            conv => cbv
            refine r_eql m.sX (fun h4 => ?_) (fun h4 => ?_) <;> conv => cbv
            · refine r_lenR m.sX fun n1 hn1 mn1 => ?_
              conv => cbv
              refine r_subf m.sX (by omega) (by omega) fun r1 hr1 => ?_
              conv => cbv
              refine r_oindex m.sX (by omega) (by omega) ?_
              conv => cbv
              obtain ⟨x4, hx4⟩ := get_ex (xs := out) (i := Int.toNat r1) (by omega)
              have mx4 := get_mem hx4
              have vx4 := nth_some hx4
              have xb := rb _ mx4
              try dsimp only at xb
              refine r_oload m.sX hx4 (Nat.le_of_ble_eq_true rfl) ?_
              conv => cbv
              refine r_addf m.sX (by omega) (by omega) fun r2 hr2 => ?_
              conv => cbv
              refine r_oindex m.sX (by omega) (by omega) ?_
              conv => cbv
              obtain ⟨y1, hy1⟩ := get_ex (xs := out) (i := Int.toNat r1) (by omega)
              refine r_ostore (l := Int.toNat r1) r2 m.sX hy1 (Nat.le_of_ble_eq_true rfl) rfl fun out_2 hout_2 => ?_   -- out_2 = out.set r1 r2
              have lout_2 : (out_2.length : Int) = out.length := by rw [hout_2]; first | done | (simp; done) | (simp; omega)
              conv => cbv
              refine hE _ (out_2, ink, before, p1 + 1) ?_ ?_ ⟨(by (try dsimp only); first | omega | (simp only [List.length_nil]; omega)), (by (try dsimp only) <;> (intro z hz; first | (exfalso; omega) | (have := rb z hz; omega) | (rw [hout_2] at hz; rcases List.mem_or_eq_of_mem_set hz with hz | rfl; have := rb z hz; omega; omega) | (rw [hout_2] at hz; rcases List.mem_append.1 hz with hz | hz; have := rb z hz; omega; rw [List.mem_singleton.1 hz]; omega))), (by (try dsimp only) <;> (omega)), (by (try dsimp only) <;> (omega)), (by (try dsimp only) <;> (first | (exfalso; omega) | rw [q, runG_drop _ _ _ hx1 hk0, if_pos (by omega), hbefore_2] | rw [q, runG_drop _ _ _ hx1 hk0, if_neg (by omega), if_pos (by omega), hout_2, bump_eq (by omega) hx4 hr2] | rw [q, runG_drop _ _ _ hx1 hk0, if_neg (by omega), if_pos (by omega), hout_2, bump_eq (by omega) hx8 hr12] | (rw [q, runG_drop _ _ _ hx1 hk0, if_neg (by omega), if_neg (by omega), hout_2, hr14, u3, Int.add_comm 1 before]; rfl))), (by (try dsimp only) <;> (first | exact kk | (exact .inr ⟨k0, u3, by omega⟩) | (exfalso; omega))), (by (try dsimp only) <;> (first | exact w | (intro w_; omega)))⟩ (by first | omega | (dsimp only; omega))
              · cbv
              · cbv
            · refine r_addf m.sX (by omega) (by omega) fun r3 hr3 => ?_
              conv => cbv
              refine r_sslice (u := xB) (i := i1) (j := r3) m.sX (by omega) (by omega) (by first | omega | (simp only [List.length_cons, List.length_nil]; omega) | (simp; omega)) fun s1 hs1 => ?_   -- s1 = xB[i1:r3]
              have u1 : s1 = [k0] := slice_one (i := i1) (by rw [ti1]; exact hk0) (by omega) (by omega) hs1
              have ls1 : (s1.length : Int) = r3 - i1 := by rw [hs1]; first | done | (simp; done) | (simp; omega)
              conv => cbv
              refine r_seql m.sX (fun h5 => ?_) (fun h5 => ?_) <;> conv => cbv
              · refine r_lenR m.sX fun n2 hn2 mn2 => ?_
                conv => cbv
                refine r_subf m.sX (by omega) (by omega) fun r4 hr4 => ?_
                conv => cbv
                refine r_oindex m.sX (by omega) (by omega) ?_
                conv => cbv
                obtain ⟨x5, hx5⟩ := get_ex (xs := out) (i := Int.toNat r4) (by omega)
                have mx5 := get_mem hx5
                have vx5 := nth_some hx5
                have xb := rb _ mx5
                try dsimp only at xb
                refine r_oload m.sX hx5 (Nat.le_of_ble_eq_true rfl) ?_
                conv => cbv
                refine r_addf m.sX (by omega) (by omega) fun r5 hr5 => ?_
                conv => cbv
                refine r_oindex m.sX (by omega) (by omega) ?_
                conv => cbv
                obtain ⟨y2, hy2⟩ := get_ex (xs := out) (i := Int.toNat r4) (by omega)
                refine r_ostore (l := Int.toNat r4) r5 m.sX hy2 (Nat.le_of_ble_eq_true rfl) rfl fun out_3 hout_3 => ?_   -- out_3 = out.set r4 r5
                have lout_3 : (out_3.length : Int) = out.length := by rw [hout_3]; first | done | (simp; done) | (simp; omega)
                conv => cbv
                refine hE _ (out_3, ink, before, p1 + 1) ?_ ?_ ⟨(by (try dsimp only); first | omega | (simp only [List.length_nil]; omega)), (by (try dsimp only) <;> (intro z hz; first | (exfalso; omega) | (have := rb z hz; omega) | (rw [hout_3] at hz; rcases List.mem_or_eq_of_mem_set hz with hz | rfl; have := rb z hz; omega; omega) | (rw [hout_3] at hz; rcases List.mem_append.1 hz with hz | hz; have := rb z hz; omega; rw [List.mem_singleton.1 hz]; omega))), (by (try dsimp only) <;> (omega)), (by (try dsimp only) <;> (omega)), (by (try dsimp only) <;> (first | (exfalso; omega) | rw [q, runG_drop _ _ _ hx1 hk0, if_pos (by omega), hbefore_2] | rw [q, runG_drop _ _ _ hx1 hk0, if_neg (by omega), if_pos (by omega), hout_3, bump_eq (by omega) hx4 hr2] | rw [q, runG_drop _ _ _ hx1 hk0, if_neg (by omega), if_pos (by omega), hout_3, bump_eq (by omega) hx8 hr12] | (rw [q, runG_drop _ _ _ hx1 hk0, if_neg (by omega), if_neg (by omega), hout_3, hr14, u3, Int.add_comm 1 before]; rfl))), (by (try dsimp only) <;> (first | exact kk | (exact .inr ⟨k0, u3, by omega⟩) | (exfalso; omega))), (by (try dsimp only) <;> (first | exact w | (intro w_; omega)))⟩ (by first | omega | (dsimp only; omega))
                · cbv
                · cbv
              · refine r_addf m.sX (by omega) (by omega) fun r6 hr6 => ?_
                conv => cbv
                refine r_sslice (u := xB) (i := i1) (j := r6) m.sX (by omega) (by omega) (by first | omega | (simp only [List.length_cons, List.length_nil]; omega) | (simp; omega)) fun ink_2 hink_2 => ?_   -- ink_2 = xB[i1:r6]
                have link_2 : (ink_2.length : Int) = r6 - i1 := by rw [hink_2]; first | done | (simp; done) | (simp; omega)
                conv => cbv
                refine r_addf m.sX (by omega) (by omega) fun r7 hr7 => ?_
                conv => cbv
                refine r_append1 (r7) m.sX rfl (by first | omega | (dsimp only; omega)) (by first | omega | (dsimp only; omega)) fun out_4 hout_4 => ?_
                conv => cbv
                have lout_4 : (out_4.length : Int) = out.length + 1 := by rw [hout_4]; first | done | (simp; done) | (simp; omega)
                refine hE _ (out_4, ink_2, 0, p1 + 1) ?_ ?_ ⟨(by (try dsimp only); first | omega | (simp only [List.length_nil]; omega)), (by (try dsimp only) <;> (intro z hz; first | (exfalso; omega) | (have := rb z hz; omega) | (rw [hout_4] at hz; rcases List.mem_or_eq_of_mem_set hz with hz | rfl; have := rb z hz; omega; omega) | (rw [hout_4] at hz; rcases List.mem_append.1 hz with hz | hz; have := rb z hz; omega; rw [List.mem_singleton.1 hz]; omega))), (by (try dsimp only) <;> (omega)), (by (try dsimp only) <;> (omega)), (by (try dsimp only) <;> (first | (exfalso; omega) | rw [q, runG_drop _ _ _ hx1 hk0, if_pos (by omega), hbefore_2] | rw [q, runG_drop _ _ _ hx1 hk0, if_neg (by omega), if_pos (by omega), hout_4, bump_eq (by omega) hx4 hr2] | rw [q, runG_drop _ _ _ hx1 hk0, if_neg (by omega), if_pos (by omega), hout_4, bump_eq (by omega) hx8 hr12] | (rw [q, runG_drop _ _ _ hx1 hk0, if_neg (by omega), if_neg (by omega), hout_4, hr14, u3, Int.add_comm 1 before]; rfl))), (by (try dsimp only) <;> (first | exact kk | (exact .inr ⟨k0, u3, by omega⟩) | (exfalso; omega))), (by (try dsimp only) <;> (first | exact w | (intro w_; omega)))⟩ (by first | omega | (dsimp only; omega))
                · cbv
                · cbv
        · refine r_sidx (u := xA) (i := i1) m.sX (by omega) (by first | omega | (simp only [List.length_cons, List.length_nil]; omega) | (simp; omega)) fun x6 hx6 c4 hc4 bc4 => ?_   -- x6 = xA[i1]
          obtain rfl := Option.some.inj (hx1_g.symm.trans hx6)
          obtain rfl := hc1.trans hc4.symm
          conv => cbv
          refine r_eql m.sX (fun h6 => ?_) (fun h6 => ?_) <;> conv => cbv
          · have w3 : 1 ≤ (out.length : Int) := by omega
            refine r_lenR m.sX fun n3 hn3 mn3 => ?_
            conv => cbv
            refine r_subf m.sX (by omega) (by omega) fun r8 hr8 => ?_
            conv => cbv
            refine r_oindex m.sX (by omega) (by omega) ?_
            conv => cbv
            obtain ⟨x7, hx7⟩ := get_ex (xs := out) (i := Int.toNat r8) (by omega)
            have mx7 := get_mem hx7
            have vx7 := nth_some hx7
            have xb := rb _ mx7
            try dsimp only at xb
            refine r_oload m.sX hx7 (Nat.le_of_ble_eq_true rfl) ?_
            conv => cbv
            refine r_addf m.sX (by omega) (by omega) fun r9 hr9 => ?_
            conv => cbv
            refine r_oindex m.sX (by omega) (by omega) ?_
            conv => cbv
            obtain ⟨y3, hy3⟩ := get_ex (xs := out) (i := Int.toNat r8) (by omega)
            refine r_ostore (l := Int.toNat r8) r9 m.sX hy3 (Nat.le_of_ble_eq_true rfl) rfl fun out_5 hout_5 => ?_   -- out_5 = out.set r8 r9
            have lout_5 : (out_5.length : Int) = out.length := by rw [hout_5]; first | done | (simp; done) | (simp; omega)
            conv => cbv
            refine hE _ (out_5, ink, before, p1 + 1) ?_ ?_ ⟨(by (try dsimp only); first | omega | (simp only [List.length_nil]; omega)), (by (try dsimp only) <;> (intro z hz; first | (exfalso; omega) | (have := rb z hz; omega) | (rw [hout_5] at hz; rcases List.mem_or_eq_of_mem_set hz with hz | rfl; have := rb z hz; omega; omega) | (rw [hout_5] at hz; rcases List.mem_append.1 hz with hz | hz; have := rb z hz; omega; rw [List.mem_singleton.1 hz]; omega))), (by (try dsimp only) <;> (omega)), (by (try dsimp only) <;> (omega)), (by (try dsimp only) <;> (first | (exfalso; omega) | rw [q, runG_drop _ _ _ hx1 hk0, if_pos (by omega), hbefore_2] | rw [q, runG_drop _ _ _ hx1 hk0, if_neg (by omega), if_pos (by omega), hout_5, bump_eq (by omega) hx4 hr2] | rw [q, runG_drop _ _ _ hx1 hk0, if_neg (by omega), if_pos (by omega), hout_5, bump_eq (by omega) hx8 hr12] | (rw [q, runG_drop _ _ _ hx1 hk0, if_neg (by omega), if_neg (by omega), hout_5, hr14, u3, Int.add_comm 1 before]; rfl))), (by (try dsimp only) <;> (first | exact kk | (exact .inr ⟨k0, u3, by omega⟩) | (exfalso; omega))), (by (try dsimp only) <;> (first | exact w | (intro w_; omega)))⟩ (by first | omega | (dsimp only; omega))
            · cbv
            · cbv
          · refine r_addf m.sX (by omega) (by omega) fun r10 hr10 => ?_
            conv => cbv
            refine r_sslice (u := xB) (i := i1) (j := r10) m.sX (by omega) (by omega) (by first | omega | (simp only [List.length_cons, List.length_nil]; omega) | (simp; omega)) fun s2 hs2 => ?_   -- s2 = xB[i1:r10]
            have u2 : s2 = [k0] := slice_one (i := i1) (by rw [ti1]; exact hk0) (by omega) (by omega) hs2
            have ls2 : (s2.length : Int) = r10 - i1 := by rw [hs2]; first | done | (simp; done) | (simp; omega)
            conv => cbv
            refine r_seql m.sX (fun h7 => ?_) (fun h7 => ?_) <;> conv => cbv
            · have z2 : (k0.toNat : Int) = inkN ink := inkN_same u2 h7
              have w2 := w (by rw [← h7, u2]; exact List.cons_ne_nil _ _)
              try dsimp only at w2
              refine r_lenR m.sX fun n4 hn4 mn4 => ?_
              conv => cbv
              refine r_subf m.sX (by omega) (by omega) fun r11 hr11 => ?_
              conv => cbv
              refine r_oindex m.sX (by omega) (by omega) ?_
              conv => cbv
              obtain ⟨x8, hx8⟩ := get_ex (xs := out) (i := Int.toNat r11) (by omega)
              have mx8 := get_mem hx8
              have vx8 := nth_some hx8
              have xb := rb _ mx8
              try dsimp only at xb
              refine r_oload m.sX hx8 (Nat.le_of_ble_eq_true rfl) ?_
              conv => cbv
              refine r_addf m.sX (by omega) (by omega) fun r12 hr12 => ?_
              conv => cbv
              refine r_oindex m.sX (by omega) (by omega) ?_
              conv => cbv
              obtain ⟨y4, hy4⟩ := get_ex (xs := out) (i := Int.toNat r11) (by omega)
              refine r_ostore (l := Int.toNat r11) r12 m.sX hy4 (Nat.le_of_ble_eq_true rfl) rfl fun out_6 hout_6 => ?_   -- out_6 = out.set r11 r12
              have lout_6 : (out_6.length : Int) = out.length := by rw [hout_6]; first | done | (simp; done) | (simp; omega)
              conv => cbv
              refine hE _ (out_6, ink, before, p1 + 1) ?_ ?_ ⟨(by (try dsimp only); first | omega | (simp only [List.length_nil]; omega)), (by (try dsimp only) <;> (intro z hz; first | (exfalso; omega) | (have := rb z hz; omega) | (rw [hout_6] at hz; rcases List.mem_or_eq_of_mem_set hz with hz | rfl; have := rb z hz; omega; omega) | (rw [hout_6] at hz; rcases List.mem_append.1 hz with hz | hz; have := rb z hz; omega; rw [List.mem_singleton.1 hz]; omega))), (by (try dsimp only) <;> (omega)), (by (try dsimp only) <;> (omega)), (by (try dsimp only) <;> (first | (exfalso; omega) | rw [q, runG_drop _ _ _ hx1 hk0, if_pos (by omega), hbefore_2] | rw [q, runG_drop _ _ _ hx1 hk0, if_neg (by omega), if_pos (by omega), hout_6, bump_eq (by omega) hx4 hr2] | rw [q, runG_drop _ _ _ hx1 hk0, if_neg (by omega), if_pos (by omega), hout_6, bump_eq (by omega) hx8 hr12] | (rw [q, runG_drop _ _ _ hx1 hk0, if_neg (by omega), if_neg (by omega), hout_6, hr14, u3, Int.add_comm 1 before]; rfl))), (by (try dsimp only) <;> (first | exact kk | (exact .inr ⟨k0, u3, by omega⟩) | (exfalso; omega))), (by (try dsimp only) <;> (first | exact w | (intro w_; omega)))⟩ (by first | omega | (dsimp only; omega))
              · cbv
              · cbv
            · have z2 : (k0.toNat : Int) ≠ inkN ink := inkN_other kk u2 (by omega) h7
              refine r_addf m.sX (by omega) (by omega) fun r13 hr13 => ?_
              conv => cbv
              refine r_sslice (u := xB) (i := i1) (j := r13) m.sX (by omega) (by omega) (by first | omega | (simp only [List.length_cons, List.length_nil]; omega) | (simp; omega)) fun ink_3 hink_3 => ?_   -- ink_3 = xB[i1:r13]
              have u3 : ink_3 = [k0] := slice_one (i := i1) (by rw [ti1]; exact hk0) (by omega) (by omega) hink_3
              have link_3 : (ink_3.length : Int) = r13 - i1 := by rw [hink_3]; first | done | (simp; done) | (simp; omega)
              conv => cbv
              refine r_addf m.sX (by omega) (by omega) fun r14 hr14 => ?_
              conv => cbv
              refine r_append1 (r14) m.sX rfl (by first | omega | (dsimp only; omega)) (by first | omega | (dsimp only; omega)) fun out_7 hout_7 => ?_
              conv => cbv
              have lout_7 : (out_7.length : Int) = out.length + 1 := by rw [hout_7]; first | done | (simp; done) | (simp; omega)
              refine hE _ (out_7, ink_3, 0, p1 + 1) ?_ ?_ ⟨(by (try dsimp only); first | omega | (simp only [List.length_nil]; omega)), (by (try dsimp only) <;> (intro z hz; first | (exfalso; omega) | (have := rb z hz; omega) | (rw [hout_7] at hz; rcases List.mem_or_eq_of_mem_set hz with hz | rfl; have := rb z hz; omega; omega) | (rw [hout_7] at hz; rcases List.mem_append.1 hz with hz | hz; have := rb z hz; omega; rw [List.mem_singleton.1 hz]; omega))), (by (try dsimp only) <;> (omega)), (by (try dsimp only) <;> (omega)), (by (try dsimp only) <;> (first | (exfalso; omega) | rw [q, runG_drop _ _ _ hx1 hk0, if_pos (by omega), hbefore_2] | rw [q, runG_drop _ _ _ hx1 hk0, if_neg (by omega), if_pos (by omega), hout_7, bump_eq (by omega) hx4 hr2] | rw [q, runG_drop _ _ _ hx1 hk0, if_neg (by omega), if_pos (by omega), hout_7, bump_eq (by omega) hx8 hr12] | (rw [q, runG_drop _ _ _ hx1 hk0, if_neg (by omega), if_neg (by omega), hout_7, hr14, u3, Int.add_comm 1 before]; rfl))), (by (try dsimp only) <;> (first | exact kk | (exact .inr ⟨k0, u3, by omega⟩) | (exfalso; omega))), (by (try dsimp only) <;> (first | exact w | (intro w_; omega)))⟩ (by first | omega | (dsimp only; omega))
              · cbv
              · cbv
    · exact hQ (.tup [.nil, .bool false]) (Eq.trans (by first | rfl | (simp only [lb, lbI, rows_cons, rows_nil, unnilT, unnil, unnilTI, unnilI]; done) | (simp only [lb, lbI, rows_cons, rows_nil, unnilT, unnil, unnilTI, unnilI]; rfl)) (congrArg ((lb 3 1 cInt)) (show ([], false) = runsA (xA, xB) from by rw [runsA, h1]; rfl))))   -- leaf 2

end Go.Proofs.Ytkcbhjnkpbeigaa.Ai
