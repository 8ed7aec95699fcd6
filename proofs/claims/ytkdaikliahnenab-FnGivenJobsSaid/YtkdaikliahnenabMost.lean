/- Contract of the most jobs that can be done: one step. -/
import Derived.Test.YtkdaikliahnenabGiveLaw
import Derived.Test.YtkdaikliahnenabTariff
namespace Go.Proofs.Ytkdaikliahnenab.Ai
open Go Go.Proofs
set_option maxRecDepth 10000
set_option maxHeartbeats 4000000
set_option linter.unusedVariables false
theorem jcons {js zs : List Int} {x : Int} (h : js[Int.toNat 0]? = some x) (hz : zs = js.drop (Int.toNat 1)) : js = x :: zs := by
  cases js with
  | nil => simp at h
  | cons a r =>
    have : a = x := by simpa using h
    rw [hz, this]; rfl
theorem apMostStep_ok (people : List (List Int)) (jobs : List Int) (busy : List Int) (hp : people.length ≤ 1000000) (hj : jobs.length ≤ 1000) (hb : busy.length ≤ 1000000) (ih : ∀ (js bs : List Int), js.length + 1 = jobs.length → bs.length ≤ busy.length + 1 → OkA Try.prog 125 [.isl 1 (rows (cSl 1 cInt) people), .isl 1 (rows cInt js), .isl 1 (rows cInt bs)] (· = .int .i64 (mostF people js bs))) : OkA Try.prog 125 [.isl 1 (rows (cSl 1 cInt) people), .isl 1 (rows cInt jobs), .isl 1 (rows cInt busy)] (· = .int .i64 (mostF people jobs busy)) :=
  fn_intro envOk fieldsOk mixed Try.func125 rfl fun κ X Y L Q m hQ => by
    conv => cbv
    refine r_lenR m.sX fun n1 hn1 mn1 => ?_
    conv => cbv
    refine r_eql m.sX (fun h1 => ?_) (fun h1 => ?_) <;> conv => cbv
    · exact hQ (.int .i64 0) (Eq.trans (by first | rfl | (simp only [lb, lbI, rows_cons, rows_nil, unnilT, unnil, unnilTI, unnilI]; done) | (simp only [lb, lbI, rows_cons, rows_nil, unnilT, unnil, unnilTI, unnilI]; rfl)) (congrArg (PV.int .i64) (show 0 = mostF people jobs busy from by first | (rw [List.length_eq_zero_iff.1 (show jobs.length = 0 by omega)]; rfl) | (rw [q, dz_i1]; rfl))))   -- leaf 1
    · refine r_islice' (i := 1) m.sX (by omega) (by omega) fun zs1 hzs1 => ?_   -- zs1 = jobs[1:None]
      have lzs1 : (zs1.length : Int) = jobs.length - 1 := by rw [hzs1]; first | done | (simp; done) | (simp; omega)
      conv => cbv
      refine r_callF (PV.int .i64) m.sX (ih zs1 busy (by omega) (by omega)) fun most hmost => ?_
      conv => cbv
      have mi0 := mostF_in people zs1 busy
      rw [← hmost] at mi0
      refine r_index m.sX (by omega) (by omega) fun x1 hx1 => ?_
      conv => cbv
      have mx1 := get_mem hx1
      have vx1 := nth_some hx1
      have jc : jobs = x1 :: zs1 := jcons hx1 hzs1
      refine r_callF (fun l => PV.fr _ _ (rows _ l)) m.sX (apWho_ok people x1 (by omega)) fun v1 hv1 => ?_
      conv => cbv
      refine r_lenR m.sX fun n2 hn2 mn2 => ?_
      conv => cbv
      refine r_loopF (α := Int × Int) m 52 [0, 1, 2, 7, 23, 24] [⟨22, 177, 3, 1, 0⟩] (fun σ => [(0, .isl 1 (rows (cSl 1 cInt) people)), (1, .isl 1 (rows cInt jobs)), (2, .isl 1 (rows cInt busy)), (7, .int .i64 σ.1), (22, .osl 177 0), (23, .int .i64 n2), (24, .int .i64 σ.2)]) (fun σ => [(177, 0, .row 3 1 (rows cInt v1))])
        (fun σ => (0 ≤ σ.2) ∧ (σ.2 ≤ n2) ∧ (mostF people jobs busy = (v1.drop σ.2.toNat).foldl (mstep people zs1 busy) σ.1) ∧ (σ.1 ≤ jobs.length ∧ 0 ≤ σ.1)) (fun σ => (n2 - σ.2).toNat) (most, 0) ?_ ?_ ?_ ?_
      · cbv
      · cbv
      · exact ⟨(by (try dsimp only); first | omega | (simp only [List.length_nil]; omega)), (by (try dsimp only); first | omega | (simp only [List.length_nil]; omega)), (by (try dsimp only) <;> ((rw [jc, mostF_cons, hv1, hmost]; rfl))), (by (try dsimp only) <;> (omega))⟩
      rintro ⟨most_2, i1⟩ ⟨lo1, hi1, q, mb⟩ E hE F hF
      dsimp only at lo1 hi1 q mb
      conv => cbv
      refine r_lss m.sX (fun h2 => ?_) (fun h2 => ?_) <;> conv => cbv
      · refine r_oindex m.sX (by omega) (by omega) ?_
        conv => cbv
        obtain ⟨i, hi⟩ := get_ex (xs := v1) (i := Int.toNat i1) (by omega)
        have mi := get_mem hi
        have di := drop_cons hi
        have ki := take_snoc hi
        have ji : (i1 + 1).toNat = Int.toNat i1 + 1 := by omega
        have vi := nth_some hi
        rw [di, List.foldl_cons] at q
        have mc := mstep_cut (ps := people) (r := zs1) (g := busy) (m := most_2) (i := i) (n := (jobs.length : Int)) (by omega) (by omega)
        refine r_oload m.sX hi (Nat.le_of_ble_eq_true rfl) ?_
        conv => cbv
        refine r_callB m.sX (l1Has_ok busy i) (fun h3 => ?_) (fun h3 => ?_) <;> conv => cbv
        · refine r_addf m.sX (by omega) (by omega) fun r1 hr1 => ?_
          conv => cbv
          try have tr1 : Int.toNat r1 = Int.toNat i1 + 1 := by omega
          refine hE _ (most_2, r1) ?_ ?_ ⟨(by (try dsimp only); first | omega | (simp only [List.length_nil]; omega)), (by (try dsimp only); first | omega | (simp only [List.length_nil]; omega)), (by (try dsimp only) <;> (rw [q, tr1, mc]; first | (rw [if_neg (show ¬ (has busy i = false ∧ most_2 < (jobs.length : Int)) from fun hh => Bool.noConfusion (h3.symm.trans hh.1))]; done) | (rw [if_pos (show has busy i = false ∧ most_2 < (jobs.length : Int) from ⟨h3, by omega⟩), hmost_3, hr3, hr2, hzs3, hv2, hzs2, ← hzs1]; done) | (rw [if_neg (show ¬ (has busy i = false ∧ most_2 < (jobs.length : Int)) from fun hh => absurd hh.2 (by omega))]; done))), (by (try dsimp only) <;> (omega))⟩ (by first | omega | (dsimp only; omega))
          · cbv
          · cbv
        · refine r_lenR m.sX fun n3 hn3 mn3 => ?_
          conv => cbv
          refine r_lss m.sX (fun h4 => ?_) (fun h4 => ?_) <;> conv => cbv
          · refine r_draw m (by kernel_rfl) ?_
            conv => cbv
            refine r_islice' (i := 1) m.sY (by omega) (by omega) fun zs2 hzs2 => ?_   -- zs2 = jobs[1:None]
            have lzs2 : (zs2.length : Int) = jobs.length - 1 := by rw [hzs2]; first | done | (simp; done) | (simp; omega)
            conv => cbv
            refine r_callFS (fun l => PV.fr _ _ (rows _ l)) m.sY (l1Own_ok busy (by omega)) trivial fun v2 hv2 => ?_
            conv => cbv
            have lv2 : v2.length = busy.length := (by rw [hv2])
            refine r_append1 (i) m.sY rfl (by first | omega | (dsimp only; omega)) (by first | omega | (dsimp only; omega)) fun zs3 hzs3 => ?_
            conv => cbv
            have lzs3 : (zs3.length : Int) = v2.length + 1 := by rw [hzs3]; first | done | (simp; done) | (simp; omega)
            refine .inl (r_callFSO intPV m.sY ((ih zs2 zs3 (by omega) (by omega)).ok flat_int) trivial fun r2 hr2 => ?_)
            conv => cbv
            have m2 := mostF_in people zs2 zs3
            rw [← hr2] at m2
            refine r_addf m.sY (by omega) (by omega) fun r3 hr3 => ?_
            conv => cbv
            refine r_callFS (PV.int .i64) m.sY (l1Most_ok most_2 r3) trivial fun most_3 hmost_3 => ?_
            conv => cbv
            have mi0 := mostF_in people zs1 busy
            rw [← hmost] at mi0
            refine r_addf m.sX (by omega) (by omega) fun r4 hr4 => ?_
            conv => cbv
            try have tr4 : Int.toNat r4 = Int.toNat i1 + 1 := by omega
            refine hE _ (most_3, r4) ?_ ?_ ⟨(by (try dsimp only); first | omega | (simp only [List.length_nil]; omega)), (by (try dsimp only); first | omega | (simp only [List.length_nil]; omega)), (by (try dsimp only) <;> (rw [q, tr4, mc]; first | (rw [if_neg (show ¬ (has busy i = false ∧ most_2 < (jobs.length : Int)) from fun hh => Bool.noConfusion (h3.symm.trans hh.1))]; done) | (rw [if_pos (show has busy i = false ∧ most_2 < (jobs.length : Int) from ⟨h3, by omega⟩), hmost_3, hr3, hr2, hzs3, hv2, hzs2, ← hzs1]; done) | (rw [if_neg (show ¬ (has busy i = false ∧ most_2 < (jobs.length : Int)) from fun hh => absurd hh.2 (by omega))]; done))), (by (try dsimp only) <;> (omega))⟩ (by first | omega | (dsimp only; omega))
            · cbv
            · cbv
          · refine r_addf m.sX (by omega) (by omega) fun r5 hr5 => ?_
            conv => cbv
            try have tr5 : Int.toNat r5 = Int.toNat i1 + 1 := by omega
            refine hE _ (most_2, r5) ?_ ?_ ⟨(by (try dsimp only); first | omega | (simp only [List.length_nil]; omega)), (by (try dsimp only); first | omega | (simp only [List.length_nil]; omega)), (by (try dsimp only) <;> (rw [q, tr5, mc]; first | (rw [if_neg (show ¬ (has busy i = false ∧ most_2 < (jobs.length : Int)) from fun hh => Bool.noConfusion (h3.symm.trans hh.1))]; done) | (rw [if_pos (show has busy i = false ∧ most_2 < (jobs.length : Int) from ⟨h3, by omega⟩), hmost_3, hr3, hr2, hzs3, hv2, hzs2, ← hzs1]; done) | (rw [if_neg (show ¬ (has busy i = false ∧ most_2 < (jobs.length : Int)) from fun hh => absurd hh.2 (by omega))]; done))), (by (try dsimp only) <;> (omega))⟩ (by first | omega | (dsimp only; omega))
            · cbv
            · cbv
      · have dz_i1 := drop_end (xs := v1) (i := Int.toNat i1) (by omega)
        have tz_i1 := take_end (xs := v1) (i := Int.toNat i1) (by omega)
        refine hF _ _ ?_
        conv => cbv
        exact hQ (.int .i64 most_2) (Eq.trans (by first | rfl | (simp only [lb, lbI, rows_cons, rows_nil, unnilT, unnil, unnilTI, unnilI]; done) | (simp only [lb, lbI, rows_cons, rows_nil, unnilT, unnil, unnilTI, unnilI]; rfl)) (congrArg (PV.int .i64) (show most_2 = mostF people jobs busy from by first | (rw [List.length_eq_zero_iff.1 (show jobs.length = 0 by omega)]; rfl) | (rw [q, dz_i1]; rfl))))   -- leaf 2

theorem apMost_ind (people : List (List Int)) (hp : people.length ≤ 1000000) : ∀ (n : Nat) (jobs busy : List Int), jobs.length = n → n ≤ 1000 → busy.length + n ≤ 1000000 →
    OkA Try.prog 125 [.isl 1 (rows (cSl 1 cInt) people), .isl 1 (rows cInt jobs), .isl 1 (rows cInt busy)] (· = .int .i64 (mostF people jobs busy)) := by
  intro n
  induction n with
  | zero => exact fun jobs busy h1 h2 h3 => apMostStep_ok people jobs busy hp (by omega) (by omega) fun js bs h => absurd h (by omega)
  | succ n ih => exact fun jobs busy h1 h2 h3 => apMostStep_ok people jobs busy hp (by omega) (by omega) fun js bs h4 h5 => ih js bs (by omega) (by omega) (by omega)
theorem apMost_ok (people : List (List Int)) (jobs busy : List Int) (hp : people.length ≤ 1000000) (hj : jobs.length ≤ 1000) (hb : busy.length ≤ 1000) :
    OkA Try.prog 125 [.isl 1 (rows (cSl 1 cInt) people), .isl 1 (rows cInt jobs), .isl 1 (rows cInt busy)] (· = .int .i64 (mostF people jobs busy)) := apMost_ind people hp _ jobs busy rfl hj (by omega)
end Go.Proofs.Ytkdaikliahnenab.Ai
