/- Contract of the search for who does which job: one step. -/
import Derived.Test.YtkdaikliahnenabMost
namespace Go.Proofs.Ytkdaikliahnenab.Ai
open Go Go.Proofs
set_option maxRecDepth 10000
set_option maxHeartbeats 4000000
set_option linter.unusedVariables false
noncomputable def li {α : Type} (e n : Nat) (f : α → List PV) (v : List α × Int) : PV := .tup [.fr e n (rows f v.1), .int .i64 v.2]
theorem flat_li {α : Type} {e n : Nat} {f : α → List PV} (hf : ∀ x, ∀ c ∈ f x, flat c) {v : List α × Int} : ∀ r, r = li e n f v → flatR r := fun r h => by
  subst h
  intro x hx
  simp only [List.mem_cons, List.not_mem_nil, or_false] at hx
  rcases hx with rfl | rfl
  · exact flat_rows hf v.1
  · trivial
theorem give_end {ps : List (List Int)} {jobs given R best : List Int} {x most c : Int} (jd : jobs.drop given.length = x :: R) (q1 : scanF ps R given (whoF ps x ++ [-1]) (-2) (-1) = (c, most)) (q2 : most ≠ -1 → best = lstF ps R given c) :
    (best, most) = (given ++ greedF ps (jobs.drop given.length) given, mostF ps (jobs.drop given.length) given) := by
  rw [scan_all] at q1
  obtain ⟨rfl, rfl⟩ := Prod.mk.inj q1
  have h0 := (mostF_in ps (x :: R) given).1
  rw [q2 (by omega), jd, greedF, lstF, List.append_assoc]
  rfl
theorem giveStep_ok (people : List (List Int)) (jobs : List Int) (given : List Int) (hp : people.length ≤ 1000000) (hj : jobs.length ≤ 1000) (hg : given.length ≤ jobs.length) (ih : ∀ (gs : List Int), gs.length = given.length + 1 → gs.length ≤ jobs.length → OkA Try.prog 122 [.isl 1 (rows (cSl 1 cInt) people), .isl 1 (rows cInt jobs), .isl 1 (rows cInt gs)] (· = li 3 1 cInt (gs ++ greedF people (jobs.drop gs.length) gs, mostF people (jobs.drop gs.length) gs))) : OkA Try.prog 122 [.isl 1 (rows (cSl 1 cInt) people), .isl 1 (rows cInt jobs), .isl 1 (rows cInt given)] (· = (li 3 1 cInt) ((given ++ greedF people (jobs.drop given.length) given, mostF people (jobs.drop given.length) given))) :=
  OkA.unnil 3 1 (fn_intro envOk fieldsOk mixed Try.func122 rfl fun κ X Y L Q m hQ => by
    conv => cbv
    refine r_lenR m.sX fun at_ hat_ mat_ => ?_
    conv => cbv
    refine r_lenR m.sX fun n1 hn1 mn1 => ?_
    conv => cbv
    refine r_eql m.sX (fun h1 => ?_) (fun h1 => ?_) <;> conv => cbv
    · refine r_append0R m.sX (by first | omega | (dsimp only; omega)) (by first | omega | (dsimp only; omega)) fun zs1 hzs1 => ?_
      conv => cbv
      have lzs1 : (zs1.length : Int) = given.length := by rw [hzs1]; first | done | (simp; done) | (simp; omega)
      exact hQ (.tup [.fr 3 1 (rows cInt zs1), .int .i64 0]) (Eq.trans (by first | rfl | (simp only [lb, lbI, rows_cons, rows_nil, unnilT, unnil, unnilTI, unnilI]; done) | (simp only [lb, lbI, rows_cons, rows_nil, unnilT, unnil, unnilTI, unnilI]; rfl)) (congrArg ((li 3 1 cInt)) (show (zs1, 0) = (given ++ greedF people (jobs.drop given.length) given, mostF people (jobs.drop given.length) given) from by first | (rw [List.drop_eq_nil_of_le (show jobs.length ≤ given.length by omega), greedF, mostF, List.append_nil, hzs1]; done) | (obtain ⟨c, q1, q2, q3, q4⟩ := q; exact give_end jd (q1.trans (by rw [dz_i1]; rfl)) q2))))   -- leaf 1
    · refine r_index m.sX (by omega) (by omega) fun x1 hx1 => ?_
      conv => cbv
      have mx1 := get_mem hx1
      have vx1 := nth_some hx1
      have jd : jobs.drop given.length = x1 :: jobs.drop (given.length + 1) := (by rw [show given.length = Int.toNat at_ by omega]; exact drop_cons hx1)
      refine r_callF (fun l => PV.fr _ _ (rows _ l)) m.sX (whoMay_ok people x1 (by omega)) fun v1 hv1 => ?_
      conv => cbv
      have lv1 : v1.length ≤ people.length := (by rw [hv1]; exact whoFrom_length _ _ _)
      refine r_append1 (-1) m.sX rfl (by first | omega | (dsimp only; omega)) (by first | omega | (dsimp only; omega)) fun zs2 hzs2 => ?_
      conv => cbv
      have lzs2 : (zs2.length : Int) = v1.length + 1 := by rw [hzs2]; first | done | (simp; done) | (simp; omega)
      refine r_lenR m.sX fun n2 hn2 mn2 => ?_
      conv => cbv
      refine r_loopF (α := List Int × Int × Int) m 68 [0, 1, 2, 10, 32, 33] [⟨9, 73, 3, 1, 0⟩, ⟨31, 249, 3, 1, 0⟩] (fun σ => [(0, .isl 1 (rows (cSl 1 cInt) people)), (1, .isl 1 (rows cInt jobs)), (2, .isl 1 (rows cInt given)), (9, .osl 73 0), (10, .int .i64 σ.2.1), (31, .osl 249 0), (32, .int .i64 n2), (33, .int .i64 σ.2.2)]) (fun σ => [(73, 0, .row 3 1 (rows cInt σ.1)), (249, 0, .row 3 1 (rows cInt zs2))])
        (fun σ => (0 ≤ σ.2.2) ∧ (σ.2.2 ≤ n2) ∧ (∃ c, scanF people (jobs.drop (given.length + 1)) given (whoF people x1 ++ [-1]) (-2) (-1) = scanF people (jobs.drop (given.length + 1)) given (zs2.drop σ.2.2.toNat) c σ.2.1 ∧ (σ.2.1 ≠ -1 → σ.1 = lstF people (jobs.drop (given.length + 1)) given c) ∧ -1 ≤ σ.2.1 ∧ σ.2.1 ≤ 100000)) (fun σ => (n2 - σ.2.2).toNat) ([], -1, 0) ?_ ?_ ?_ ?_
      · cbv
      · (try dsimp only); simp only [rows_cons, rows_nil]; cbv
      · exact ⟨(by (try dsimp only); first | omega | (simp only [List.length_nil]; omega)), (by (try dsimp only); first | omega | (simp only [List.length_nil]; omega)), (by (try dsimp only) <;> (exact ⟨-2, by rw [hzs2, hv1]; rfl, fun h => absurd rfl h, by omega, by omega⟩))⟩
      rintro ⟨best, most, i1⟩ ⟨lo1, hi1, q⟩ E hE F hF
      dsimp only at lo1 hi1 q
      conv => cbv
      refine r_lss m.sX (fun h2 => ?_) (fun h2 => ?_) <;> conv => cbv
      · refine r_oindex m.sX (by omega) (by omega) ?_
        conv => cbv
        obtain ⟨who, hwho⟩ := get_ex (xs := zs2) (i := Int.toNat i1) (by omega)
        have mwho := get_mem hwho
        have dwho := drop_cons hwho
        have kwho := take_snoc hwho
        have jwho : (i1 + 1).toNat = Int.toNat i1 + 1 := by omega
        have vwho := nth_some hwho
        obtain ⟨c, q1, q2, q3, q4⟩ := q
        rw [dwho, scanF] at q1
        refine r_oload m.sX hwho (Nat.le_of_ble_eq_true rfl) ?_
        conv => cbv
        refine r_geq m.sX (fun h3 => ?_) (fun h3 => ?_) <;> conv => cbv
        · refine r_callB m.sX (hasNumber_ok given who) (fun h4 => ?_) (fun h4 => ?_) <;> conv => cbv
          · refine r_addf m.sX (by omega) (by omega) fun r1 hr1 => ?_
            conv => cbv
            try have tr1 : Int.toNat r1 = Int.toNat i1 + 1 := by omega
            refine hE _ (best, most, r1) ?_ ?_ ⟨(by (try dsimp only); first | omega | (simp only [List.length_nil]; omega)), (by (try dsimp only); first | omega | (simp only [List.length_nil]; omega)), (by (try dsimp only) <;> (first | (exfalso; omega) | (refine ⟨c, ?_, q2, q3, q4⟩; rw [q1, if_pos (show 0 ≤ who ∧ has given who = true from ⟨by omega, h4⟩), tr1]; done) | (refine ⟨c, ?_, q2, q3, q4⟩; rw [q1, if_neg nh, if_neg (show ¬ valF people (jobs.drop (given.length + 1)) given who > most by rw [vf]; omega), tr1]; done) | (refine ⟨who, ?_, fun _ => el, by omega, by omega⟩; rw [q1, if_neg nh, if_pos (show valF people (jobs.drop (given.length + 1)) given who > most by rw [vf]; omega), tr1, vf]; congr 1; omega)))⟩ (by first | omega | (dsimp only; omega))
            · cbv
            · cbv
          · have nh : ¬ (0 ≤ who ∧ has given who = true) := (by rw [h4]; simp)
            refine r_append0R m.sX (by first | omega | (dsimp only; omega)) (by first | omega | (dsimp only; omega)) fun zs3 hzs3 => ?_
            conv => cbv
            have lzs3 : (zs3.length : Int) = given.length := by rw [hzs3]; first | done | (simp; done) | (simp; omega)
            refine r_append1 (who) m.sX rfl (by first | omega | (dsimp only; omega)) (by first | omega | (dsimp only; omega)) fun zs4 hzs4 => ?_
            conv => cbv
            have lzs4 : (zs4.length : Int) = zs3.length + 1 := by rw [hzs4]; first | done | (simp; done) | (simp; omega)
            refine .inl (r_callFO (li 3 1 cInt) m.sX ((ih zs4 (by omega) (by omega)).ok (flat_li flat_cInt)) fun v hlist => ?_)
            obtain ⟨list, n⟩ := v
            conv => cbv
            have el := congrArg Prod.fst hlist
            have en := congrArg Prod.snd hlist
            have zl : zs4 = given ++ [who] := (by rw [hzs4, hzs3])
            have zn : zs4.length = given.length + 1 := (by omega)
            have mi1 := mostF_in people (jobs.drop zs4.length) zs4
            rw [List.length_drop] at mi1
            have en2 : n = mostF people (jobs.drop zs4.length) zs4 := en
            rw [← en2] at mi1
            rw [zn, zl] at el en2
            have vf : valF people (jobs.drop (given.length + 1)) given who = 1 + n := (by rw [valF, if_pos (show 0 ≤ who by omega), en2])
            refine r_geq m.sX (fun h5 => ?_) (fun h5 => ?_) <;> conv => cbv
            · refine r_addf m.sX (by omega) (by omega) fun n_2 hn_2 => ?_
              conv => cbv
              refine r_gtr m.sX (fun h6 => ?_) (fun h6 => ?_) <;> conv => cbv
              · refine r_addf m.sX (by omega) (by omega) fun r2 hr2 => ?_
                conv => cbv
                try have tr2 : Int.toNat r2 = Int.toNat i1 + 1 := by omega
                refine hE _ (list, n_2, r2) ?_ ?_ ⟨(by (try dsimp only); first | omega | (simp only [List.length_nil]; omega)), (by (try dsimp only); first | omega | (simp only [List.length_nil]; omega)), (by (try dsimp only) <;> (first | (exfalso; omega) | (refine ⟨c, ?_, q2, q3, q4⟩; rw [q1, if_pos (show 0 ≤ who ∧ has given who = true from ⟨by omega, h4⟩), tr2]; done) | (refine ⟨c, ?_, q2, q3, q4⟩; rw [q1, if_neg nh, if_neg (show ¬ valF people (jobs.drop (given.length + 1)) given who > most by rw [vf]; omega), tr2]; done) | (refine ⟨who, ?_, fun _ => el, by omega, by omega⟩; rw [q1, if_neg nh, if_pos (show valF people (jobs.drop (given.length + 1)) given who > most by rw [vf]; omega), tr2, vf]; congr 1; omega)))⟩ (by first | omega | (dsimp only; omega))
                · cbv
                · cbv
              · refine r_addf m.sX (by omega) (by omega) fun r3 hr3 => ?_
                conv => cbv
                try have tr3 : Int.toNat r3 = Int.toNat i1 + 1 := by omega
                refine hE _ (best, most, r3) ?_ ?_ ⟨(by (try dsimp only); first | omega | (simp only [List.length_nil]; omega)), (by (try dsimp only); first | omega | (simp only [List.length_nil]; omega)), (by (try dsimp only) <;> (first | (exfalso; omega) | (refine ⟨c, ?_, q2, q3, q4⟩; rw [q1, if_pos (show 0 ≤ who ∧ has given who = true from ⟨by omega, h4⟩), tr3]; done) | (refine ⟨c, ?_, q2, q3, q4⟩; rw [q1, if_neg nh, if_neg (show ¬ valF people (jobs.drop (given.length + 1)) given who > most by rw [vf]; omega), tr3]; done) | (refine ⟨who, ?_, fun _ => el, by omega, by omega⟩; rw [q1, if_neg nh, if_pos (show valF people (jobs.drop (given.length + 1)) given who > most by rw [vf]; omega), tr3, vf]; congr 1; omega)))⟩ (by first | omega | (dsimp only; omega))
                · cbv
                · cbv
            · refine r_gtr m.sX (fun h7 => ?_) (fun h7 => ?_) <;> conv => cbv
              · refine r_addf m.sX (by omega) (by omega) fun r4 hr4 => ?_
                conv => cbv
                try have tr4 : Int.toNat r4 = Int.toNat i1 + 1 := by omega
                refine hE _ (list, n, r4) ?_ ?_ ⟨(by (try dsimp only); first | omega | (simp only [List.length_nil]; omega)), (by (try dsimp only); first | omega | (simp only [List.length_nil]; omega)), (by (try dsimp only) <;> (first | (exfalso; omega) | (refine ⟨c, ?_, q2, q3, q4⟩; rw [q1, if_pos (show 0 ≤ who ∧ has given who = true from ⟨by omega, h4⟩), tr4]; done) | (refine ⟨c, ?_, q2, q3, q4⟩; rw [q1, if_neg nh, if_neg (show ¬ valF people (jobs.drop (given.length + 1)) given who > most by rw [vf]; omega), tr4]; done) | (refine ⟨who, ?_, fun _ => el, by omega, by omega⟩; rw [q1, if_neg nh, if_pos (show valF people (jobs.drop (given.length + 1)) given who > most by rw [vf]; omega), tr4, vf]; congr 1; omega)))⟩ (by first | omega | (dsimp only; omega))
                · cbv
                · cbv
              · refine r_addf m.sX (by omega) (by omega) fun r5 hr5 => ?_
                conv => cbv
                try have tr5 : Int.toNat r5 = Int.toNat i1 + 1 := by omega
                refine hE _ (best, most, r5) ?_ ?_ ⟨(by (try dsimp only); first | omega | (simp only [List.length_nil]; omega)), (by (try dsimp only); first | omega | (simp only [List.length_nil]; omega)), (by (try dsimp only) <;> (first | (exfalso; omega) | (refine ⟨c, ?_, q2, q3, q4⟩; rw [q1, if_pos (show 0 ≤ who ∧ has given who = true from ⟨by omega, h4⟩), tr5]; done) | (refine ⟨c, ?_, q2, q3, q4⟩; rw [q1, if_neg nh, if_neg (show ¬ valF people (jobs.drop (given.length + 1)) given who > most by rw [vf]; omega), tr5]; done) | (refine ⟨who, ?_, fun _ => el, by omega, by omega⟩; rw [q1, if_neg nh, if_pos (show valF people (jobs.drop (given.length + 1)) given who > most by rw [vf]; omega), tr5, vf]; congr 1; omega)))⟩ (by first | omega | (dsimp only; omega))
                · cbv
                · cbv
        · have nh : ¬ (0 ≤ who ∧ has given who = true) := (by omega)
          refine r_append0R m.sX (by first | omega | (dsimp only; omega)) (by first | omega | (dsimp only; omega)) fun zs5 hzs5 => ?_
          conv => cbv
          have lzs5 : (zs5.length : Int) = given.length := by rw [hzs5]; first | done | (simp; done) | (simp; omega)
          refine r_append1 (who) m.sX rfl (by first | omega | (dsimp only; omega)) (by first | omega | (dsimp only; omega)) fun zs6 hzs6 => ?_
          conv => cbv
          have lzs6 : (zs6.length : Int) = zs5.length + 1 := by rw [hzs6]; first | done | (simp; done) | (simp; omega)
          refine .inl (r_callFO (li 3 1 cInt) m.sX ((ih zs6 (by omega) (by omega)).ok (flat_li flat_cInt)) fun v hlist_2 => ?_)
          obtain ⟨list_2, n_3⟩ := v
          conv => cbv
          have el := congrArg Prod.fst hlist_2
          have en := congrArg Prod.snd hlist_2
          have zl : zs6 = given ++ [who] := (by rw [hzs6, hzs5])
          have zn : zs6.length = given.length + 1 := (by omega)
          have mi1 := mostF_in people (jobs.drop zs6.length) zs6
          rw [List.length_drop] at mi1
          have en2 : n_3 = mostF people (jobs.drop zs6.length) zs6 := en
          rw [← en2] at mi1
          rw [zn, zl] at el en2
          have vf : valF people (jobs.drop (given.length + 1)) given who = 0 + n_3 := (by rw [valF, if_neg (show ¬ 0 ≤ who by omega), en2])
          refine r_geq m.sX (fun h8 => ?_) (fun h8 => ?_) <;> conv => cbv
          · refine r_addf m.sX (by omega) (by omega) fun n_4 hn_4 => ?_
            conv => cbv
            refine r_gtr m.sX (fun h9 => ?_) (fun h9 => ?_) <;> conv => cbv
            · refine r_addf m.sX (by omega) (by omega) fun r6 hr6 => ?_
              conv => cbv
              try have tr6 : Int.toNat r6 = Int.toNat i1 + 1 := by omega
              refine hE _ (list_2, n_4, r6) ?_ ?_ ⟨(by (try dsimp only); first | omega | (simp only [List.length_nil]; omega)), (by (try dsimp only); first | omega | (simp only [List.length_nil]; omega)), (by (try dsimp only) <;> (first | (exfalso; omega) | (refine ⟨c, ?_, q2, q3, q4⟩; rw [q1, if_pos (show 0 ≤ who ∧ has given who = true from ⟨by omega, h4⟩), tr6]; done) | (refine ⟨c, ?_, q2, q3, q4⟩; rw [q1, if_neg nh, if_neg (show ¬ valF people (jobs.drop (given.length + 1)) given who > most by rw [vf]; omega), tr6]; done) | (refine ⟨who, ?_, fun _ => el, by omega, by omega⟩; rw [q1, if_neg nh, if_pos (show valF people (jobs.drop (given.length + 1)) given who > most by rw [vf]; omega), tr6, vf]; congr 1; omega)))⟩ (by first | omega | (dsimp only; omega))
              · cbv
              · cbv
            · refine r_addf m.sX (by omega) (by omega) fun r7 hr7 => ?_
              conv => cbv
              try have tr7 : Int.toNat r7 = Int.toNat i1 + 1 := by omega
              refine hE _ (best, most, r7) ?_ ?_ ⟨(by (try dsimp only); first | omega | (simp only [List.length_nil]; omega)), (by (try dsimp only); first | omega | (simp only [List.length_nil]; omega)), (by (try dsimp only) <;> (first | (exfalso; omega) | (refine ⟨c, ?_, q2, q3, q4⟩; rw [q1, if_pos (show 0 ≤ who ∧ has given who = true from ⟨by omega, h4⟩), tr7]; done) | (refine ⟨c, ?_, q2, q3, q4⟩; rw [q1, if_neg nh, if_neg (show ¬ valF people (jobs.drop (given.length + 1)) given who > most by rw [vf]; omega), tr7]; done) | (refine ⟨who, ?_, fun _ => el, by omega, by omega⟩; rw [q1, if_neg nh, if_pos (show valF people (jobs.drop (given.length + 1)) given who > most by rw [vf]; omega), tr7, vf]; congr 1; omega)))⟩ (by first | omega | (dsimp only; omega))
              · cbv
              · cbv
          · refine r_gtr m.sX (fun h10 => ?_) (fun h10 => ?_) <;> conv => cbv
            · refine r_addf m.sX (by omega) (by omega) fun r8 hr8 => ?_
              conv => cbv
              try have tr8 : Int.toNat r8 = Int.toNat i1 + 1 := by omega
              refine hE _ (list_2, n_3, r8) ?_ ?_ ⟨(by (try dsimp only); first | omega | (simp only [List.length_nil]; omega)), (by (try dsimp only); first | omega | (simp only [List.length_nil]; omega)), (by (try dsimp only) <;> (first | (exfalso; omega) | (refine ⟨c, ?_, q2, q3, q4⟩; rw [q1, if_pos (show 0 ≤ who ∧ has given who = true from ⟨by omega, h4⟩), tr8]; done) | (refine ⟨c, ?_, q2, q3, q4⟩; rw [q1, if_neg nh, if_neg (show ¬ valF people (jobs.drop (given.length + 1)) given who > most by rw [vf]; omega), tr8]; done) | (refine ⟨who, ?_, fun _ => el, by omega, by omega⟩; rw [q1, if_neg nh, if_pos (show valF people (jobs.drop (given.length + 1)) given who > most by rw [vf]; omega), tr8, vf]; congr 1; omega)))⟩ (by first | omega | (dsimp only; omega))
              · cbv
              · cbv
            · refine r_addf m.sX (by omega) (by omega) fun r9 hr9 => ?_
              conv => cbv
              try have tr9 : Int.toNat r9 = Int.toNat i1 + 1 := by omega
              refine hE _ (best, most, r9) ?_ ?_ ⟨(by (try dsimp only); first | omega | (simp only [List.length_nil]; omega)), (by (try dsimp only); first | omega | (simp only [List.length_nil]; omega)), (by (try dsimp only) <;> (first | (exfalso; omega) | (refine ⟨c, ?_, q2, q3, q4⟩; rw [q1, if_pos (show 0 ≤ who ∧ has given who = true from ⟨by omega, h4⟩), tr9]; done) | (refine ⟨c, ?_, q2, q3, q4⟩; rw [q1, if_neg nh, if_neg (show ¬ valF people (jobs.drop (given.length + 1)) given who > most by rw [vf]; omega), tr9]; done) | (refine ⟨who, ?_, fun _ => el, by omega, by omega⟩; rw [q1, if_neg nh, if_pos (show valF people (jobs.drop (given.length + 1)) given who > most by rw [vf]; omega), tr9, vf]; congr 1; omega)))⟩ (by first | omega | (dsimp only; omega))
              · cbv
              · cbv
      · have dz_i1 := drop_end (xs := zs2) (i := Int.toNat i1) (by omega)
        have tz_i1 := take_end (xs := zs2) (i := Int.toNat i1) (by omega)
        refine hF _ _ ?_
        conv => cbv
        exact hQ (.tup [.fr 3 1 (rows cInt best), .int .i64 most]) (Eq.trans (by first | rfl | (simp only [lb, lbI, rows_cons, rows_nil, unnilT, unnil, unnilTI, unnilI]; done) | (simp only [lb, lbI, rows_cons, rows_nil, unnilT, unnil, unnilTI, unnilI]; rfl)) (congrArg ((li 3 1 cInt)) (show (best, most) = (given ++ greedF people (jobs.drop given.length) given, mostF people (jobs.drop given.length) given) from by first | (rw [List.drop_eq_nil_of_le (show jobs.length ≤ given.length by omega), greedF, mostF, List.append_nil, hzs1]; done) | (obtain ⟨c, q1, q2, q3, q4⟩ := q; exact give_end jd (q1.trans (by rw [dz_i1]; rfl)) q2)))))   -- leaf 2

theorem give_ind (people : List (List Int)) (jobs : List Int) (hp : people.length ≤ 1000000) (hj : jobs.length ≤ 1000) : ∀ (n : Nat) (given : List Int), given.length + n = jobs.length →
    OkA Try.prog 122 [.isl 1 (rows (cSl 1 cInt) people), .isl 1 (rows cInt jobs), .isl 1 (rows cInt given)] (· = li 3 1 cInt (given ++ greedF people (jobs.drop given.length) given, mostF people (jobs.drop given.length) given)) := by
  intro n
  induction n with
  | zero => exact fun given h => giveStep_ok people jobs given hp hj (by omega) fun gs h1 h2 => absurd h1 (by omega)
  | succ n ih => exact fun given h => giveStep_ok people jobs given hp hj (by omega) fun gs h1 h2 => ih gs (by omega)
theorem giveAll_ok (people : List (List Int)) (jobs : List Int) (hp : people.length ≤ 1000000) (hj : jobs.length ≤ 1000) :
    OkA Try.prog 122 [.isl 1 (rows (cSl 1 cInt) people), .isl 1 (rows cInt jobs), .isl 1 []] (· = li 3 1 cInt (greedF people jobs [], mostF people jobs [])) := by
  have := give_ind people jobs hp hj jobs.length [] (by simp)
  simp only [List.length_nil, List.drop_zero, List.nil_append, rows_nil] at this
  exact this
end Go.Proofs.Ytkdaikliahnenab.Ai
