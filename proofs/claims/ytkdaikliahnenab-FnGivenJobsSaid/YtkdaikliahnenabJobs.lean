/- Contracts behind the exact law on jobs that are given. -/
import Derived.Test.YtkdaikliahnenabGive
namespace Go.Proofs.Ytkdaikliahnenab.Ai
open Go Go.Proofs
set_option maxRecDepth 10000
set_option maxHeartbeats 4000000
set_option linter.unusedVariables false
theorem giveAns_no {l : List Craft} {ps : List (List Int)} {js : List Int} (h : jobsOk l ps js = false) : ([], false) = giveAns l ps js := by
  rw [giveAns, h]; rfl
theorem giveAns_yes {l : List Craft} {ps : List (List Int)} {js out : List Int} (h : jobsOk l ps js = true) (e : out = greedF ps js []) : (out, true) = giveAns l ps js := by
  rw [giveAns, h, e]; rfl
theorem jobsOk_all {l : List Craft} {ps : List (List Int)} {js : List Int} (h1 : goodP l ps = true) (h2 : (js.length : Int) ≤ 6) (h3 : allIn js 0 ((l.length : Int) - 1) = true) : jobsOk l ps js = true := by
  unfold jobsOk
  rw [h1, decide_eq_true h2]
  exact h3
theorem jobsOk_no1 {l : List Craft} {ps : List (List Int)} {js : List Int} (h1 : goodP l ps = false) : jobsOk l ps js = false := by
  unfold jobsOk
  rw [h1]; rfl
theorem jobsOk_no2 {l : List Craft} {ps : List (List Int)} {js : List Int} (h2 : 6 < (js.length : Int)) : jobsOk l ps js = false := by
  unfold jobsOk
  rw [decide_eq_false (by omega), Bool.and_false, Bool.false_and]
theorem jobsOk_no3 {l : List Craft} {ps : List (List Int)} {js : List Int} (h3 : allIn js 0 ((l.length : Int) - 1) = false) : jobsOk l ps js = false := by
  unfold jobsOk
  rw [show (js.all fun i => inB i 0 ((l.length : Int) - 1)) = false from h3, Bool.and_false]
theorem specGiveJobs_ok (l : List Craft) (people : List (List Int)) (jobs : List Int)  : OkA Try.prog 53 [.isl 2 (rows cCraft l), .isl 1 (rows (cSl 1 cInt) people), .isl 1 (rows cInt jobs)] (· = (lb 3 1 cInt) (giveAns l people jobs)) :=
  OkA.unnil 3 1 (fn_intro envOk fieldsOk mixed Try.func53 rfl fun κ X Y L Q m hQ => by
    conv => cbv
    refine r_callB m.sX (apPeople_ok l people) (fun h1 => ?_) (fun h1 => ?_) <;> conv => cbv
    · have pl := goodP_le h1
      refine r_lenR m.sX fun n1 hn1 mn1 => ?_
      conv => cbv
      refine r_gtr m.sX (fun h2 => ?_) (fun h2 => ?_) <;> conv => cbv
      · exact hQ (.tup [.nil, .bool false]) (Eq.trans (by first | rfl | (simp only [lb, lbI, rows_cons, rows_nil, unnilT, unnil, unnilTI, unnilI]; done) | (simp only [lb, lbI, rows_cons, rows_nil, unnilT, unnil, unnilTI, unnilI]; rfl)) (congrArg ((lb 3 1 cInt)) (show ([], false) = giveAns l people jobs from by first | (exact giveAns_yes (jobsOk_all h1 (by omega) (by rw [← show r1 = (l.length : Int) - 1 by omega]; exact h3)) (by rw [← q, dz_i1]; simp [greedF])) | (exact giveAns_no (jobsOk_no1 h1)) | (exact giveAns_no (jobsOk_no2 (by omega))) | (exact giveAns_no (jobsOk_no3 (by rw [← show r1 = (l.length : Int) - 1 by omega]; exact h3))))))   -- leaf 1
      · refine r_lenR m.sX fun n2 hn2 mn2 => ?_
        conv => cbv
        refine r_subf m.sX (by omega) (by omega) fun r1 hr1 => ?_
        conv => cbv
        refine r_callB m.sX (l1All_ok jobs 0 r1) (fun h3 => ?_) (fun h3 => ?_) <;> conv => cbv
        · refine r_lenR m.sX fun n3 hn3 mn3 => ?_
          conv => cbv
          refine r_loopF (α := List Int × List Int × Int) m 92 [1, 2, 33, 34, 35] [⟨8, 65, 3, 1, 0⟩, ⟨9, 73, 3, 1, 0⟩] (fun σ => [(1, .isl 1 (rows (cSl 1 cInt) people)), (2, .isl 1 (rows cInt jobs)), (8, .osl 65 0), (9, .osl 73 0), (33, .isl 1 (rows cInt jobs)), (34, .int .i64 n3), (35, .int .i64 σ.2.2)]) (fun σ => [(65, 0, .row 3 1 (rows cInt σ.1)), (73, 0, .row 3 1 (rows cInt σ.2.1))])
            (fun σ => (0 ≤ σ.2.2) ∧ (σ.2.2 ≤ n3) ∧ ((σ.2.1.length : Int) ≤ σ.2.2) ∧ ((σ.1.length : Int) = σ.2.2) ∧ (σ.1 ++ greedF people (jobs.drop σ.2.2.toNat) σ.2.1 = greedF people jobs [])) (fun σ => (n3 - σ.2.2).toNat) ([], [], 0) ?_ ?_ ?_ ?_
          · cbv
          · (try dsimp only); simp only [rows_cons, rows_nil]; cbv
          · exact ⟨(by (try dsimp only); first | omega | (simp only [List.length_nil]; omega)), (by (try dsimp only); first | omega | (simp only [List.length_nil]; omega)), (by (try dsimp only) <;> first | omega | rfl | (simp [*]; done)), (by (try dsimp only) <;> first | omega | rfl | (simp [*]; done)), (by (try dsimp only) <;> (rfl))⟩
          rintro ⟨out, busy, i1⟩ ⟨lo1, hi1, bl, ol, q⟩ E hE F hF
          dsimp only at lo1 hi1 bl ol q
          conv => cbv
          refine r_lss m.sX (fun h4 => ?_) (fun h4 => ?_) <;> conv => cbv
          · refine r_index m.sX (by omega) (by omega) fun job hjob => ?_
            conv => cbv
            have mjob := get_mem hjob
            have djob := drop_cons hjob
            have kjob := take_snoc hjob
            have jjob : (i1 + 1).toNat = Int.toNat i1 + 1 := by omega
            have vjob := nth_some hjob
            rw [djob, greedF] at q
            refine r_islice' (i := i1) m.sX (by omega) (by omega) fun zs1 hzs1 => ?_   -- zs1 = jobs[i1:None]
            have lzs1 : (zs1.length : Int) = jobs.length - i1 := by rw [hzs1]; first | done | (simp; done) | (simp; omega)
            have jz : zs1 = job :: jobs.drop (i1.toNat + 1) := (by rw [hzs1, djob])
            conv => cbv
            refine .inl (r_callFO intPV m.sX ((apMost_ok people zs1 busy (by omega) (by omega) (by omega)).ok flat_int) fun most hmost => ?_)
            conv => cbv
            have hm : most = mostF people (job :: jobs.drop (i1.toNat + 1)) busy := (by rw [hmost, jz])
            refine r_callF (fun l => PV.fr _ _ (rows _ l)) m.sX (apWho_ok people job (by omega)) fun v1 hv1 => ?_
            conv => cbv
            refine r_lenR m.sX fun n4 hn4 mn4 => ?_
            conv => cbv
            refine r_loopF (α := Int × Int) m 92 [1, 2, 10, 12, 13, 33, 34, 35, 49, 50] [⟨8, 65, 3, 1, 0⟩, ⟨9, 73, 3, 1, 0⟩, ⟨48, 385, 3, 1, 0⟩] (fun σ => [(1, .isl 1 (rows (cSl 1 cInt) people)), (2, .isl 1 (rows cInt jobs)), (8, .osl 65 0), (9, .osl 73 0), (10, .int .i64 i1), (12, .int .i64 most), (13, .int .i64 σ.1), (33, .isl 1 (rows cInt jobs)), (34, .int .i64 n3), (35, .int .i64 i1), (48, .osl 385 0), (49, .int .i64 n4), (50, .int .i64 σ.2)]) (fun σ => [(65, 0, .row 3 1 (rows cInt out)), (73, 0, .row 3 1 (rows cInt busy)), (385, 0, .row 3 1 (rows cInt v1))])
              (fun σ => (0 ≤ σ.2) ∧ (σ.2 ≤ n4) ∧ (-1 ≤ σ.1) ∧ ((σ.1 < 0 → firstG people (jobs.drop (i1.toNat + 1)) busy most v1 = firstG people (jobs.drop (i1.toNat + 1)) busy most (v1.drop σ.2.toNat)) ∧ (0 ≤ σ.1 → firstG people (jobs.drop (i1.toNat + 1)) busy most v1 = σ.1))) (fun σ => (n4 - σ.2).toNat) (-1, 0) ?_ ?_ ?_ ?_
            · cbv
            · cbv
            · exact ⟨(by (try dsimp only); first | omega | (simp only [List.length_nil]; omega)), (by (try dsimp only); first | omega | (simp only [List.length_nil]; omega)), (by (try dsimp only) <;> first | omega | rfl | (simp [*]; done)), (by (try dsimp only) <;> (exact ⟨fun _ => rfl, fun h => absurd h (by omega)⟩))⟩
            rintro ⟨who, i2⟩ ⟨lo2, hi2, wl, q2⟩ E2 hE2 F2 hF2
            dsimp only at lo2 hi2 wl q2
            conv => cbv
            refine r_lss m.sX (fun h5 => ?_) (fun h5 => ?_) <;> conv => cbv
            · refine r_oindex m.sX (by omega) (by omega) ?_
              conv => cbv
              obtain ⟨i, hi⟩ := get_ex (xs := v1) (i := Int.toNat i2) (by omega)
              have mi := get_mem hi
              have di := drop_cons hi
              have ki := take_snoc hi
              have ji : (i2 + 1).toNat = Int.toNat i2 + 1 := by omega
              have vi := nth_some hi
              have i0 := (whoF_in i (by rw [← hv1]; exact mi)).1
              refine r_oload m.sX hi (Nat.le_of_ble_eq_true rfl) ?_
              conv => cbv
              refine r_draw m (by kernel_rfl) ?_
              conv => cbv
              refine r_lss m.sY (fun h6 => ?_) (fun h6 => ?_) <;> conv => cbv
              · have qa := q2.1 h6
                rw [di, firstG] at qa
                refine .inl (r_callBSO m.sY ((l1Has_ok busy i).ok flat_bool) (fun h7 => ?_) (fun h7 => ?_)) <;> conv => cbv
                · refine r_addf m.sX (by omega) (by omega) fun r2 hr2 => ?_
                  conv => cbv
                  try have tr2 : Int.toNat r2 = Int.toNat i2 + 1 := by omega
                  refine hE2 _ (who, r2) ?_ ?_ ⟨(by (try dsimp only); first | omega | (simp only [List.length_nil]; omega)), (by (try dsimp only); first | omega | (simp only [List.length_nil]; omega)), (by (try dsimp only) <;> first | omega | rfl | (simp [*]; done) | (rw [wl]; simp [*]; done)), (by (try dsimp only) <;> (first | (exact ⟨fun h => absurd h (by omega), fun _ => by rw [qa, if_pos ⟨h7, by omega⟩]⟩) | (exact ⟨fun _ => by rw [qa, if_neg (fun hh => Bool.noConfusion (h7.symm.trans hh.1)), tr2], q2.2⟩) | (exact ⟨fun _ => by rw [qa, if_neg (fun hh => absurd hh.2 (by omega)), tr2], q2.2⟩) | (exact ⟨fun h => absurd h (by omega), q2.2⟩)))⟩ (by first | omega | (dsimp only; omega))
                  · cbv
                  · cbv
                · refine r_addf m.sY (by omega) (by omega) fun r3 hr3 => ?_
                  conv => cbv
                  refine r_islice' (i := r3) m.sY (by omega) (by omega) fun zs2 hzs2 => ?_   -- zs2 = jobs[r3:None]
                  have lzs2 : (zs2.length : Int) = jobs.length - r3 := by rw [hzs2]; first | done | (simp; done) | (simp; omega)
                  conv => cbv
                  refine .inl (r_callFSO (fun l => PV.fr _ _ (rows _ l)) m.sY ((l1Own_ok busy (by omega)).ok (flat_fr flat_cInt)) trivial fun v2 hv2 => ?_)
                  conv => cbv
                  have lv2 : v2.length = busy.length := (by rw [hv2])
                  refine r_append1 (i) m.sY rfl (by first | omega | (dsimp only; omega)) (by first | omega | (dsimp only; omega)) fun zs3 hzs3 => ?_
                  conv => cbv
                  have lzs3 : (zs3.length : Int) = v2.length + 1 := by rw [hzs3]; first | done | (simp; done) | (simp; omega)
                  refine .inl (r_callFSO intPV m.sY ((apMost_ok people zs2 zs3 (by omega) (by omega) (by omega)).ok flat_int) trivial fun r4 hr4 => ?_)
                  conv => cbv
                  have r4e : r4 = mostF people (jobs.drop (i1.toNat + 1)) (busy ++ [i]) := (by rw [hr4, hzs3, hv2, hzs2, show r3.toNat = i1.toNat + 1 by omega])
                  have r4b := mostF_in people zs2 zs3
                  rw [← hr4] at r4b
                  refine r_addf m.sY (by omega) (by omega) fun r5 hr5 => ?_
                  conv => cbv
                  refine r_eql m.sY (fun h8 => ?_) (fun h8 => ?_) <;> conv => cbv
                  · refine r_addf m.sX (by omega) (by omega) fun r6 hr6 => ?_
                    conv => cbv
                    try have tr6 : Int.toNat r6 = Int.toNat i2 + 1 := by omega
                    refine hE2 _ (i, r6) ?_ ?_ ⟨(by (try dsimp only); first | omega | (simp only [List.length_nil]; omega)), (by (try dsimp only); first | omega | (simp only [List.length_nil]; omega)), (by (try dsimp only) <;> first | omega | rfl | (simp [*]; done) | (rw [wl]; simp [*]; done)), (by (try dsimp only) <;> (first | (exact ⟨fun h => absurd h (by omega), fun _ => by rw [qa, if_pos ⟨h7, by omega⟩]⟩) | (exact ⟨fun _ => by rw [qa, if_neg (fun hh => Bool.noConfusion (h7.symm.trans hh.1)), tr6], q2.2⟩) | (exact ⟨fun _ => by rw [qa, if_neg (fun hh => absurd hh.2 (by omega)), tr6], q2.2⟩) | (exact ⟨fun h => absurd h (by omega), q2.2⟩)))⟩ (by first | omega | (dsimp only; omega))
                    · cbv
                    · cbv
                  · refine r_addf m.sX (by omega) (by omega) fun r7 hr7 => ?_
                    conv => cbv
                    try have tr7 : Int.toNat r7 = Int.toNat i2 + 1 := by omega
                    refine hE2 _ (who, r7) ?_ ?_ ⟨(by (try dsimp only); first | omega | (simp only [List.length_nil]; omega)), (by (try dsimp only); first | omega | (simp only [List.length_nil]; omega)), (by (try dsimp only) <;> first | omega | rfl | (simp [*]; done) | (rw [wl]; simp [*]; done)), (by (try dsimp only) <;> (first | (exact ⟨fun h => absurd h (by omega), fun _ => by rw [qa, if_pos ⟨h7, by omega⟩]⟩) | (exact ⟨fun _ => by rw [qa, if_neg (fun hh => Bool.noConfusion (h7.symm.trans hh.1)), tr7], q2.2⟩) | (exact ⟨fun _ => by rw [qa, if_neg (fun hh => absurd hh.2 (by omega)), tr7], q2.2⟩) | (exact ⟨fun h => absurd h (by omega), q2.2⟩)))⟩ (by first | omega | (dsimp only; omega))
                    · cbv
                    · cbv
              · refine r_addf m.sX (by omega) (by omega) fun r8 hr8 => ?_
                conv => cbv
                try have tr8 : Int.toNat r8 = Int.toNat i2 + 1 := by omega
                refine hE2 _ (who, r8) ?_ ?_ ⟨(by (try dsimp only); first | omega | (simp only [List.length_nil]; omega)), (by (try dsimp only); first | omega | (simp only [List.length_nil]; omega)), (by (try dsimp only) <;> first | omega | rfl | (simp [*]; done) | (rw [wl]; simp [*]; done)), (by (try dsimp only) <;> (first | (exact ⟨fun h => absurd h (by omega), fun _ => by rw [qa, if_pos ⟨h7, by omega⟩]⟩) | (exact ⟨fun _ => by rw [qa, if_neg (fun hh => Bool.noConfusion (h7.symm.trans hh.1)), tr8], q2.2⟩) | (exact ⟨fun _ => by rw [qa, if_neg (fun hh => absurd hh.2 (by omega)), tr8], q2.2⟩) | (exact ⟨fun h => absurd h (by omega), q2.2⟩)))⟩ (by first | omega | (dsimp only; omega))
                · cbv
                · cbv
            · have dz_i2 := drop_end (xs := v1) (i := Int.toNat i2) (by omega)
              have tz_i2 := take_end (xs := v1) (i := Int.toNat i2) (by omega)
              refine hF2 _ _ ?_
              conv => cbv
              refine r_append1 (who) m.sX rfl (by first | omega | (dsimp only; omega)) (by first | omega | (dsimp only; omega)) fun out_2 hout_2 => ?_
              conv => cbv
              have lout_2 : (out_2.length : Int) = out.length + 1 := by rw [hout_2]; first | done | (simp; done) | (simp; omega)
              have pk : pickF people job (jobs.drop (i1.toNat + 1)) busy = who := (by unfold pickF; rw [← hv1, ← hm]; by_cases e : 0 ≤ who; exact q2.2 e; rw [q2.1 (by omega), dz_i2]; show (-1 : Int) = who; omega)
              rw [pk] at q
              refine r_geq m.sX (fun h9 => ?_) (fun h9 => ?_) <;> conv => cbv
              · refine r_append1 (who) m.sX rfl (by first | omega | (dsimp only; omega)) (by first | omega | (dsimp only; omega)) fun busy_2 hbusy_2 => ?_
                conv => cbv
                have lbusy_2 : (busy_2.length : Int) = busy.length + 1 := by rw [hbusy_2]; first | done | (simp; done) | (simp; omega)
                refine r_addf m.sX (by omega) (by omega) fun r9 hr9 => ?_
                conv => cbv
                try have tr9 : Int.toNat r9 = Int.toNat i1 + 1 := by omega
                refine hE _ (out_2, busy_2, r9) ?_ ?_ ⟨(by (try dsimp only); first | omega | (simp only [List.length_nil]; omega)), (by (try dsimp only); first | omega | (simp only [List.length_nil]; omega)), (by (try dsimp only) <;> first | omega | rfl | (simp [*]; done) | (rw [bl]; simp [*]; done)), (by (try dsimp only) <;> first | omega | rfl | (simp [*]; done) | (rw [ol]; simp [*]; done)), (by (try dsimp only) <;> (first | (rw [← q, hout_2, hbusy_2, tr9]; simp; done) | (rw [← q, hout_2, tr9, greedF_congr _ (busy_neg (fun _ _ => rfl) (show who < 0 by omega))]; simp; done)))⟩ (by first | omega | (dsimp only; omega))
                · cbv
                · cbv
              · refine r_addf m.sX (by omega) (by omega) fun r10 hr10 => ?_
                conv => cbv
                try have tr10 : Int.toNat r10 = Int.toNat i1 + 1 := by omega
                refine hE _ (out_2, busy, r10) ?_ ?_ ⟨(by (try dsimp only); first | omega | (simp only [List.length_nil]; omega)), (by (try dsimp only); first | omega | (simp only [List.length_nil]; omega)), (by (try dsimp only) <;> first | omega | rfl | (simp [*]; done) | (rw [bl]; simp [*]; done)), (by (try dsimp only) <;> first | omega | rfl | (simp [*]; done) | (rw [ol]; simp [*]; done)), (by (try dsimp only) <;> (first | (rw [← q, hout_2, hbusy_2, tr10]; simp; done) | (rw [← q, hout_2, tr10, greedF_congr _ (busy_neg (fun _ _ => rfl) (show who < 0 by omega))]; simp; done)))⟩ (by first | omega | (dsimp only; omega))
                · cbv
                · cbv
          · have dz_i1 := drop_end (xs := jobs) (i := Int.toNat i1) (by omega)
            have tz_i1 := take_end (xs := jobs) (i := Int.toNat i1) (by omega)
            refine hF _ _ ?_
            conv => cbv
            exact hQ (.tup [.fr 3 1 (rows cInt out), .bool true]) (Eq.trans (by first | rfl | (simp only [lb, lbI, rows_cons, rows_nil, unnilT, unnil, unnilTI, unnilI]; done) | (simp only [lb, lbI, rows_cons, rows_nil, unnilT, unnil, unnilTI, unnilI]; rfl)) (congrArg ((lb 3 1 cInt)) (show (out, true) = giveAns l people jobs from by first | (exact giveAns_yes (jobsOk_all h1 (by omega) (by rw [← show r1 = (l.length : Int) - 1 by omega]; exact h3)) (by rw [← q, dz_i1]; simp [greedF])) | (exact giveAns_no (jobsOk_no1 h1)) | (exact giveAns_no (jobsOk_no2 (by omega))) | (exact giveAns_no (jobsOk_no3 (by rw [← show r1 = (l.length : Int) - 1 by omega]; exact h3))))))   -- leaf 2
        · exact hQ (.tup [.nil, .bool false]) (Eq.trans (by first | rfl | (simp only [lb, lbI, rows_cons, rows_nil, unnilT, unnil, unnilTI, unnilI]; done) | (simp only [lb, lbI, rows_cons, rows_nil, unnilT, unnil, unnilTI, unnilI]; rfl)) (congrArg ((lb 3 1 cInt)) (show ([], false) = giveAns l people jobs from by first | (exact giveAns_yes (jobsOk_all h1 (by omega) (by rw [← show r1 = (l.length : Int) - 1 by omega]; exact h3)) (by rw [← q, dz_i1]; simp [greedF])) | (exact giveAns_no (jobsOk_no1 h1)) | (exact giveAns_no (jobsOk_no2 (by omega))) | (exact giveAns_no (jobsOk_no3 (by rw [← show r1 = (l.length : Int) - 1 by omega]; exact h3))))))   -- leaf 3
    · exact hQ (.tup [.nil, .bool false]) (Eq.trans (by first | rfl | (simp only [lb, lbI, rows_cons, rows_nil, unnilT, unnil, unnilTI, unnilI]; done) | (simp only [lb, lbI, rows_cons, rows_nil, unnilT, unnil, unnilTI, unnilI]; rfl)) (congrArg ((lb 3 1 cInt)) (show ([], false) = giveAns l people jobs from by first | (exact giveAns_yes (jobsOk_all h1 (by omega) (by rw [← show r1 = (l.length : Int) - 1 by omega]; exact h3)) (by rw [← q, dz_i1]; simp [greedF])) | (exact giveAns_no (jobsOk_no1 h1)) | (exact giveAns_no (jobsOk_no2 (by omega))) | (exact giveAns_no (jobsOk_no3 (by rw [← show r1 = (l.length : Int) - 1 by omega]; exact h3)))))))   -- leaf 4

theorem GiveJobs_ok (l : List Craft) (people : List (List Int)) (jobs : List Int)  : OkA Try.prog 52 [.isl 2 (rows cCraft l), .isl 1 (rows (cSl 1 cInt) people), .isl 1 (rows cInt jobs)] (· = (lb 3 1 cInt) (giveAns l people jobs)) :=
  OkA.unnil 3 1 (fn_intro envOk fieldsOk mixed Try.func52 rfl fun κ X Y L Q m hQ => by
    conv => cbv
    refine r_lenR m.sX fun n1 hn1 mn1 => ?_
    conv => cbv
    refine r_loopF (α := Int) m 42 [0, 1, 2, 12, 13, 14] [] (fun σ => [(0, .isl 2 (rows cCraft l)), (1, .isl 1 (rows (cSl 1 cInt) people)), (2, .isl 1 (rows cInt jobs)), (12, .isl 1 (rows cInt jobs)), (13, .int .i64 n1), (14, .int .i64 σ)]) (fun σ => [])
      (fun σ => (0 ≤ σ) ∧ (σ ≤ n1) ∧ (allIn jobs 0 ((l.length : Int) - 1) = allIn (jobs.drop σ.toNat) 0 ((l.length : Int) - 1))) (fun σ => (n1 - σ).toNat) 0 ?_ ?_ ?_ ?_
    · cbv
    · cbv
    · exact ⟨(by (try dsimp only); first | omega | (simp only [List.length_nil]; omega)), (by (try dsimp only); first | omega | (simp only [List.length_nil]; omega)), (by (try dsimp only) <;> (rfl))⟩
    rintro i1 ⟨lo1, hi1, q⟩ E hE F hF
    conv => cbv
    refine r_lss m.sX (fun h1 => ?_) (fun h1 => ?_) <;> conv => cbv
    · refine r_index m.sX (by omega) (by omega) fun i hi => ?_
      conv => cbv
      have mi := get_mem hi
      have di := drop_cons hi
      have ki := take_snoc hi
      have ji : (i1 + 1).toNat = Int.toNat i1 + 1 := by omega
      have vi := nth_some hi
      rw [di, allIn_cons] at q
      refine r_callB m.sX (isCraft_ok l i) (fun h2 => ?_) (fun h2 => ?_) <;> conv => cbv
      · refine r_addf m.sX (by omega) (by omega) fun r1 hr1 => ?_
        conv => cbv
        try have tr1 : Int.toNat r1 = Int.toNat i1 + 1 := by omega
        refine hE _ r1 ?_ ?_ ⟨(by (try dsimp only); first | omega | (simp only [List.length_nil]; omega)), (by (try dsimp only); first | omega | (simp only [List.length_nil]; omega)), (by (try dsimp only) <;> (rw [q, h2, tr1, Bool.true_and]))⟩ (by first | omega | (dsimp only; omega))
        · cbv
        · cbv
      · refine hF _ _ ?_
        conv => cbv
        exact hQ (.tup [.fr 3 1 [], .bool false]) (Eq.trans (by first | rfl | (simp only [lb, lbI, rows_cons, rows_nil, unnilT, unnil, unnilTI, unnilI]; done) | (simp only [lb, lbI, rows_cons, rows_nil, unnilT, unnil, unnilTI, unnilI]; rfl)) (congrArg ((lb 3 1 cInt)) (show ([], false) = giveAns l people jobs from by first | (exact giveAns_no (jobsOk_no3 (by rw [q, h2, Bool.false_and]))) | (exact giveAns_no (jobsOk_no2 (by omega))) | (exact giveAns_no (jobsOk_no1 h3)) | (exact giveAns_yes (jobsOk_all h3 (by omega) (by rw [q, dz_i1]; rfl)) (congrArg Prod.fst hlist)))))   -- leaf 1
    · have dz_i1 := drop_end (xs := jobs) (i := Int.toNat i1) (by omega)
      have tz_i1 := take_end (xs := jobs) (i := Int.toNat i1) (by omega)
      refine hF _ _ ?_
      conv => cbv
      refine r_callB m.sX (arePeople_ok l people) (fun h3 => ?_) (fun h3 => ?_) <;> conv => cbv
      · have pl := goodP_le h3
        refine r_lenR m.sX fun n2 hn2 mn2 => ?_
        conv => cbv
        refine r_gtr m.sX (fun h4 => ?_) (fun h4 => ?_) <;> conv => cbv
        · exact hQ (.tup [.fr 3 1 [], .bool false]) (Eq.trans (by first | rfl | (simp only [lb, lbI, rows_cons, rows_nil, unnilT, unnil, unnilTI, unnilI]; done) | (simp only [lb, lbI, rows_cons, rows_nil, unnilT, unnil, unnilTI, unnilI]; rfl)) (congrArg ((lb 3 1 cInt)) (show ([], false) = giveAns l people jobs from by first | (exact giveAns_no (jobsOk_no3 (by rw [q, h2, Bool.false_and]))) | (exact giveAns_no (jobsOk_no2 (by omega))) | (exact giveAns_no (jobsOk_no1 h3)) | (exact giveAns_yes (jobsOk_all h3 (by omega) (by rw [q, dz_i1]; rfl)) (congrArg Prod.fst hlist)))))   -- leaf 2
        · refine .inl (r_callFO (li 3 1 cInt) m.sX ((giveAll_ok people jobs (by omega) (by omega)).ok (flat_li flat_cInt)) fun v hlist => ?_)
          obtain ⟨list, v1⟩ := v
          conv => cbv
          exact hQ (.tup [.fr 3 1 (rows cInt list), .bool true]) (Eq.trans (by first | rfl | (simp only [lb, lbI, rows_cons, rows_nil, unnilT, unnil, unnilTI, unnilI]; done) | (simp only [lb, lbI, rows_cons, rows_nil, unnilT, unnil, unnilTI, unnilI]; rfl)) (congrArg ((lb 3 1 cInt)) (show (list, true) = giveAns l people jobs from by first | (exact giveAns_no (jobsOk_no3 (by rw [q, h2, Bool.false_and]))) | (exact giveAns_no (jobsOk_no2 (by omega))) | (exact giveAns_no (jobsOk_no1 h3)) | (exact giveAns_yes (jobsOk_all h3 (by omega) (by rw [q, dz_i1]; rfl)) (congrArg Prod.fst hlist)))))   -- leaf 3
      · exact hQ (.tup [.fr 3 1 [], .bool false]) (Eq.trans (by first | rfl | (simp only [lb, lbI, rows_cons, rows_nil, unnilT, unnil, unnilTI, unnilI]; done) | (simp only [lb, lbI, rows_cons, rows_nil, unnilT, unnil, unnilTI, unnilI]; rfl)) (congrArg ((lb 3 1 cInt)) (show ([], false) = giveAns l people jobs from by first | (exact giveAns_no (jobsOk_no3 (by rw [q, h2, Bool.false_and]))) | (exact giveAns_no (jobsOk_no2 (by omega))) | (exact giveAns_no (jobsOk_no1 h3)) | (exact giveAns_yes (jobsOk_all h3 (by omega) (by rw [q, dz_i1]; rfl)) (congrArg Prod.fst hlist))))))   -- leaf 4

end Go.Proofs.Ytkdaikliahnenab.Ai
