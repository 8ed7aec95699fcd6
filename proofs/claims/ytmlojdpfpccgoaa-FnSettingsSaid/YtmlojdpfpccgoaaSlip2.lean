/- Contracts of the functions that look for slips and mend them. -/
import Derived.Test.YtmlojdpfpccgoaaSlip
namespace Go.Proofs.Ytmlojdpfpccgoaa.Ai
open Go Go.Proofs
set_option linter.unusedSimpArgs false
set_option maxRecDepth 10000
set_option maxHeartbeats 4000000
set_option linter.unusedVariables false
/-- What holds when i and k have come so far, and 'out' has been told. -/
structure SlipS (a : List Box) (L0 left : List Int) (i k : Nat) (out : List Slip) : Prop where
  I : SlipI left i k
  ln : left.length = a.length
  bd : ∀ z ∈ left, -9999 ≤ z ∧ z ≤ 9999
  q : slipsF a L0 0 0 = out ++ slipsF a left i k
  sl : (out.length : Int) + posS left ≤ 319968
section
variable {a : List Box} {L0 left : List Int} {i k i2 k2 : Nat} {out : List Slip}
theorem slipS_start {b : List Box} (ca : caseB a = true) (cb : caseB b = true) (hl : a.length = b.length) (h0 : (diffL a b).sum = 0) : SlipS a (diffL a b) (diffL a b) 0 0 [] := by
  have h1 := diff_mem ca cb
  have h2 := posS_bound (diffL a b) fun z hz => (h1 z hz).2
  have h3 := case_len ca
  have h4 : (diffL a b).length = a.length := diffT_len a b a.length
  exact ⟨slipI_zero h0, h4, h1, rfl, by simp only [List.length_nil]; omega⟩
theorem slipS_end (S : SlipS a L0 left i k out) (hi : negI left i = i2) (h : left.length ≤ i2) : slipsF a L0 0 0 = out := by
  rw [S.q, slipsF_none (by rw [hi, nth_out h]; omega), List.append_nil]
theorem slipS_long (S : SlipS a L0 left i k out) (h : 20 < out.length) : ¬ ((slipsF a L0 0 0).length : Int) ≤ 20 := by
  rw [S.q, List.length_append]; omega
theorem slipS_pos (S : SlipS a L0 left i k out) (hi : negI left i = i2) (hk : posI left k = k2) (h : i2 < left.length) : nth left i2 < 0 ∧ 0 < nth left k2 ∧ i2 ≠ k2 ∧ k2 < left.length := by
  have sb := slip_both S.I
  rw [hi, hk] at sb
  have sc : nth left i2 < 0 ∧ 0 < nth left k2 := by
    rcases sb with sb | sb
    · exact sb
    · omega
  exact ⟨sc.1, sc.2, fun e => by subst e; omega, nth_lt (by omega)⟩
theorem slip_val (S : SlipS a L0 left i k out) {j : Nat} {x : Int} (h : left[j]? = some x) : -9999 ≤ x ∧ x ≤ 9999 := S.bd x (List.mem_of_getElem? h)
theorem slipS_next (S : SlipS a L0 left i k out) (hi : negI left i = i2) (hk : posI left k = k2) (h : i2 < left.length) {xi xk n : Int} (hxi : left[i2]? = some xi) (hxk : left[k2]? = some xk) (hn : n = min (min (-xi) xk) 99)
    {bi bk : Box} (hbi : a[i2]? = some bi) (hbk : a[k2]? = some bk) {left2 : List Int} (h2 : left2 = (left.set i2 (xi + n)).set k2 (xk - n)) : SlipS a L0 left2 i2 k2 (out ++ [(bi.1, bk.1, n)]) ∧ posS left2 < posS left := by
  obtain ⟨p1, p2, p3, p4⟩ := slipS_pos S hi hk h
  have ei := nth_some hxi
  have ek := nth_some hxk
  have en : n = stepN left i2 k2 := by unfold stepN; rw [ei, ek]; exact hn
  have eu : left2 = updL left i2 k2 := by unfold updL; rw [ei, ek, ← en]; exact h2
  have uf := upd_facts p1 p2
  have sn := slipI_next S.I (by rw [hi]; exact p1) (by rw [hk]; exact p2)
  have sm := slipsF_more (a := a) (l := left) (i := i) (k := k) (by rw [hi]; exact p1) (by rw [hk]; exact p2)
  rw [hi, hk] at sn sm
  rw [eu]
  refine ⟨⟨sn, by rw [uf.2.2.1]; exact S.ln, upd_mem p1 p2 S.bd, ?_, ?_⟩, uf.1⟩
  · rw [S.q, sm, codeAt_some hbi, codeAt_some hbk, ← en]; simp
  · have := S.sl
    simp only [List.length_append, List.length_cons, List.length_nil]
    omega
end
theorem findAns_yes {a b : List Box} {out : List Slip} (h1 : alikeB a b = true) (h2 : (diffL a b).sum = 0) (h3 : slipsF a (diffL a b) 0 0 = out) (h4 : (out.length : Int) ≤ 20) : (out, true) = findAns a b := by
  rw [findAns, if_pos (by rw [h1, h3, decide_eq_true h2, decide_eq_true h4]; rfl), h3]
theorem findAns_long {a b : List Box} (h4 : ¬ ((slipsF a (diffL a b) 0 0).length : Int) ≤ 20) : ([], false) = findAns a b := by
  rw [findAns, if_neg (by rw [decide_eq_false h4]; simp)]
theorem findAns_sum {a b : List Box} (h2 : ¬ (diffL a b).sum = 0) : ([], false) = findAns a b := by
  rw [findAns, if_neg (by rw [decide_eq_false h2]; simp)]
theorem findAns_no {a b : List Box} (h1 : alikeB a b = false) : ([], false) = findAns a b := by
  rw [findAns, if_neg (by rw [h1]; simp)]
theorem addC_set {l : List Box} {j : Nat} {x : Box} (h : l[j]? = some x) (n : Int) : addC l j n = l.set j (x.1, x.2.1, x.2.2.1, x.2.2.2 + n) := by
  unfold addC; rw [h]
theorem diff_fits {a b : List Box} (ca : caseB a = true) (cb : caseB b = true) (cl : a.length = b.length) : SumFits (diffL a b) := by
  have h1 := case_len ca
  have h4 : (diffL a b).length = a.length := diffT_len a b a.length
  exact sumfits_of 9999 (diff_mem ca cb) (by omega)
theorem slips_mem {s : List Slip} (h : slipsB s = true) : ∀ x ∈ s, 1 ≤ x.2.2 ∧ x.2.2 ≤ 99 := fun x hx => by
  simp only [slipsB, Bool.and_eq_true] at h
  have := List.all_eq_true.1 h.1 x hx
  simp only [okSlip, Bool.and_eq_true] at this
  have := inB_spec this.2.2
  exact this
/-- After one box has lost some, all counts are still small. -/
theorem cnt_three {l l2 : List Box} {y z : Box} {n : Int} {k : Nat} (j : Nat) (h : caseB l = true) (hj : l[j]? = some y) (h2 : l2 = addC l j (-n)) (hn : 0 ≤ n ∧ n ≤ 99) (hk : l2[k]? = some z) : -99 ≤ z.2.2.2 ∧ z.2.2.2 ≤ 9999 := by
  rw [h2, addC_set hj] at hk
  have hb : z ∈ l.set j (y.1, y.2.1, y.2.2.1, y.2.2.2 + -n) := List.mem_of_getElem? hk
  rcases List.mem_or_eq_of_mem_set hb with hm | rfl
  · have := okBox_cnt (case_box h hm); omega
  · have := okBox_cnt (case_box h (List.mem_of_getElem? hj))
    dsimp only; omega
theorem FindSlips_ok (a : List Box) (b : List Box)  : OkA Try.prog 58 [.isl 4 (rows cBox a), .isl 4 (rows cBox b)] (· = (lb 88 3 cMisput) (findAns a b)) :=
  OkA.unnil 88 3 (fn_intro envOk fieldsOk mixed Try.func58 rfl fun κ X Y L Q m hQ => by
    conv => cbv
    refine r_callB m.sX (areAlike_ok a b) (fun h1 => ?_) (fun h1 => ?_) <;> conv => cbv
    · obtain ⟨ca, cb, cc, cl⟩ := alikeB_spec h1
      refine r_callF (fun l => PV.fr _ _ (rows _ l)) m.sX (difference_ok a b (by first | rfl | assumption | omega | (simp only [List.length_append, List.length_cons, List.length_nil] at *; omega)) (by first | rfl | assumption | omega | (simp only [List.length_append, List.length_cons, List.length_nil] at *; omega)) (by first | rfl | assumption | omega | (simp only [List.length_append, List.length_cons, List.length_nil] at *; omega))) fun v1 hv1 => ?_
      conv => cbv
      have sf1 : SumFits v1 := (by rw [hv1]; exact diff_fits ca cb cl)
      refine .inl (r_callFO intPV m.sX ((sum_ok v1 (by first | rfl | assumption | omega | (simp only [List.length_append, List.length_cons, List.length_nil] at *; omega))).ok flat_int) fun r1 hr1 => ?_)
      conv => cbv
      refine r_neq m.sX (fun h2 => ?_) (fun h2 => ?_) <;> conv => cbv
      · exact hQ (.tup [.fr 88 3 [], .bool false]) (Eq.trans (by first | rfl | (simp only [lb, lbI, rows_cons, rows_nil, unnilT, unnil, unnilTI, unnilI]; done) | (simp only [lb, lbI, rows_cons, rows_nil, unnilT, unnil, unnilTI, unnilI]; rfl)) (congrArg ((lb 88 3 cMisput)) (show ([], false) = findAns a b from by first | exact findAns_yes h1 (by rw [← hv1, ← hr1]; omega) se (by omega) | exact findAns_long (by rw [se]; omega) | exact findAns_sum (by rw [← hv1, ← hr1]; omega) | exact findAns_no h1)))   -- leaf 1
      · have S0 := slipS_start ca cb cl (by rw [← hv1, ← hr1]; omega)
        refine r_callF (fun l => PV.fr 3 1 (rows cInt l)) m.sX (difference_ok a b (by first | rfl | assumption | omega | (simp only [List.length_append, List.length_cons, List.length_nil] at *; omega)) (by first | rfl | assumption | omega | (simp only [List.length_append, List.length_cons, List.length_nil] at *; omega)) (by first | rfl | assumption | omega | (simp only [List.length_append, List.length_cons, List.length_nil] at *; omega))) fun y1 hy1 => ?_
        obtain rfl := hv1.trans hy1.symm
        clear hy1
        conv => cbv
        refine r_loopF (α := List Int × List Slip × Int × Int) m 101 [0, 8, 9] [⟨6, 49, 3, 1, 0⟩, ⟨7, 57, 88, 3, 0⟩] (fun σ => [(0, .isl 4 (rows cBox a)), (6, .osl 49 0), (7, .osl 57 0), (8, .int .i64 σ.2.2.1), (9, .int .i64 σ.2.2.2)]) (fun σ => [(49, 0, .row 3 1 (rows cInt σ.1)), (57, 0, .row 88 3 (rows cMisput σ.2.1))])
          (fun σ => (0 ≤ σ.2.2.1 ∧ σ.2.2.1 ≤ a.length) ∧ (0 ≤ σ.2.2.2 ∧ σ.2.2.2 ≤ a.length) ∧ (SlipS a (diffL a b) σ.1 σ.2.2.1.toNat σ.2.2.2.toNat σ.2.1)) (fun σ => (posS σ.1).toNat) (v1, [], 0, 0) ?_ ?_ ?_ ?_
        · cbv
        · (try dsimp only); (try simp only [rows_cons, rows_nil]); cbv
        · exact ⟨(by (try dsimp only) <;> first | omega | rfl | (simp [*]; done)), (by (try dsimp only) <;> first | omega | rfl | (simp [*]; done)), (by (try dsimp only) <;> (rw [hv1]; exact S0))⟩
        rintro ⟨left, slips, i, k⟩ ⟨ip, kp, S⟩ E hE F hF
        dsimp only at ip kp S
        have ln := S.ln
        have sl0 := S.sl
        have pn0 := posS_nn left
        conv => cbv
        refine r_loopF (α := Int) m 101 [0, 8, 9] [⟨6, 49, 3, 1, 0⟩, ⟨7, 57, 88, 3, 0⟩] (fun σ => [(0, .isl 4 (rows cBox a)), (6, .osl 49 0), (7, .osl 57 0), (8, .int .i64 σ), (9, .int .i64 k)]) (fun σ => [(49, 0, .row 3 1 (rows cInt left)), (57, 0, .row 88 3 (rows cMisput slips))])
          (fun σ => (0 ≤ σ ∧ σ ≤ a.length) ∧ (negI left i.toNat = negI left σ.toNat)) (fun σ => ((a.length : Int) - σ).toNat) i ?_ ?_ ?_ ?_
        · cbv
        · cbv
        · exact ⟨(by (try dsimp only) <;> first | omega | rfl | (simp [*]; done)), (by (try dsimp only) <;> (rfl))⟩
        rintro i_2 ⟨ip2, e1⟩ E2 hE2 F2 hF2
        conv => cbv
        refine r_lenR m.sX fun n1 hn1 mn1 => ?_
        conv => cbv
        refine r_lss m.sX (fun h3 => ?_) (fun h3 => ?_) <;> conv => cbv
        · refine r_oindex m.sX (by omega) (by omega) ?_
          conv => cbv
          obtain ⟨x1, hx1⟩ := get_ex (xs := left) (i := Int.toNat i_2) (by omega)
          have mx1 := get_mem hx1
          have vx1 := nth_some hx1
          refine r_oload m.sX hx1 (Nat.le_of_ble_eq_true rfl) ?_
          conv => cbv
          refine r_geq m.sX (fun h4 => ?_) (fun h4 => ?_) <;> conv => cbv
          · refine r_addf m.sX (by omega) (by omega) fun i_3 hi_3 => ?_
            conv => cbv
            refine hE2 _ i_3 ?_ ?_ ⟨(by (try dsimp only) <;> first | omega | rfl | (simp [*]; done) | (rw [ip2]; simp [*]; done)), (by (try dsimp only) <;> (rw [e1, negI_step hx1 (by omega), show i_3.toNat = i_2.toNat + 1 by omega]))⟩ (by first | omega | (dsimp only; omega))
            · cbv
            · cbv
          · have en : negI left i.toNat = i_2.toNat := by rw [e1, negI_here hx1 (by omega)]
            refine hF2 _ _ ?_
            conv => cbv
            refine r_loopF (α := Int) m 101 [0, 8, 9] [⟨6, 49, 3, 1, 0⟩, ⟨7, 57, 88, 3, 0⟩] (fun σ => [(0, .isl 4 (rows cBox a)), (6, .osl 49 0), (7, .osl 57 0), (8, .int .i64 i_2), (9, .int .i64 σ)]) (fun σ => [(49, 0, .row 3 1 (rows cInt left)), (57, 0, .row 88 3 (rows cMisput slips))])
              (fun σ => (0 ≤ σ ∧ σ ≤ a.length) ∧ (posI left k.toNat = posI left σ.toNat)) (fun σ => ((a.length : Int) - σ).toNat) k ?_ ?_ ?_ ?_
            · cbv
            · cbv
            · exact ⟨(by (try dsimp only) <;> first | omega | rfl | (simp [*]; done)), (by (try dsimp only) <;> (rfl))⟩
            rintro k_2 ⟨kp2, e2⟩ E2 hE2 F2 hF2
            conv => cbv
            refine r_lenR m.sX fun n2 hn2 mn2 => ?_
            conv => cbv
            refine r_lss m.sX (fun h5 => ?_) (fun h5 => ?_) <;> conv => cbv
            · refine r_oindex m.sX (by omega) (by omega) ?_
              conv => cbv
              obtain ⟨x2, hx2⟩ := get_ex (xs := left) (i := Int.toNat k_2) (by omega)
              have mx2 := get_mem hx2
              have vx2 := nth_some hx2
              refine r_oload m.sX hx2 (Nat.le_of_ble_eq_true rfl) ?_
              conv => cbv
              refine r_leq m.sX (fun h6 => ?_) (fun h6 => ?_) <;> conv => cbv
              · refine r_addf m.sX (by omega) (by omega) fun k_3 hk_3 => ?_
                conv => cbv
                refine hE2 _ k_3 ?_ ?_ ⟨(by (try dsimp only) <;> first | omega | rfl | (simp [*]; done) | (rw [kp2]; simp [*]; done)), (by (try dsimp only) <;> (rw [e2, posI_step hx2 (by omega), show k_3.toNat = k_2.toNat + 1 by omega]))⟩ (by first | omega | (dsimp only; omega))
                · cbv
                · cbv
              · have ek : posI left k.toNat = k_2.toNat := by rw [e2, posI_here hx2 (by omega)]
                refine hF2 _ _ ?_
                conv => cbv
                refine r_lenR m.sX fun n3 hn3 mn3 => ?_
                conv => cbv
                refine r_eql m.sX (fun h7 => ?_) (fun h7 => ?_) <;> conv => cbv
                · have se := slipS_end S en (by omega)
                  refine hF _ _ ?_
                  conv => cbv
                  refine r_lenR m.sX fun n4 hn4 mn4 => ?_
                  conv => cbv
                  refine r_gtr m.sX (fun h8 => ?_) (fun h8 => ?_) <;> conv => cbv
                  · exact hQ (.tup [.fr 88 3 [], .bool false]) (Eq.trans (by first | rfl | (simp only [lb, lbI, rows_cons, rows_nil, unnilT, unnil, unnilTI, unnilI]; done) | (simp only [lb, lbI, rows_cons, rows_nil, unnilT, unnil, unnilTI, unnilI]; rfl)) (congrArg ((lb 88 3 cMisput)) (show ([], false) = findAns a b from by first | exact findAns_yes h1 (by rw [← hv1, ← hr1]; omega) se (by omega) | exact findAns_long (by rw [se]; omega) | exact findAns_sum (by rw [← hv1, ← hr1]; omega) | exact findAns_no h1)))   -- leaf 2
                  · exact hQ (.tup [.fr 88 3 (rows cMisput slips), .bool true]) (Eq.trans (by first | rfl | (simp only [lb, lbI, rows_cons, rows_nil, unnilT, unnil, unnilTI, unnilI]; done) | (simp only [lb, lbI, rows_cons, rows_nil, unnilT, unnil, unnilTI, unnilI]; rfl)) (congrArg ((lb 88 3 cMisput)) (show (slips, true) = findAns a b from by first | exact findAns_yes h1 (by rw [← hv1, ← hr1]; omega) se (by omega) | exact findAns_long (by rw [se]; omega) | exact findAns_sum (by rw [← hv1, ← hr1]; omega) | exact findAns_no h1)))   -- leaf 3
                · obtain ⟨s1, s2, s3, s4⟩ := slipS_pos S en ek (by omega)
                  refine r_draw m (by kernel_rfl) ?_
                  conv => cbv
                  refine r_oindex m.sY (by omega) (by omega) ?_
                  conv => cbv
                  obtain ⟨x3, hx3⟩ := get_ex (xs := left) (i := Int.toNat i_2) (by omega)
                  have mx3 := get_mem hx3
                  have vx3 := nth_some hx3
                  have vb1 := slip_val S hx3
                  have w1 := nth_some hx3
                  refine r_oload m.sY hx3 (Nat.le_of_ble_eq_true rfl) ?_
                  conv => cbv
                  refine r_neg m.sY fun r2 hr2 => ?_   -- r2 = wrap (-x3)
                  have er : r2 = -x3 := (by rw [hr2]; exact wrap64 (by omega) (by omega))
                  conv => cbv
                  refine r_oindex m.sY (by omega) (by omega) ?_
                  conv => cbv
                  obtain ⟨x4, hx4⟩ := get_ex (xs := left) (i := Int.toNat k_2) (by omega)
                  have mx4 := get_mem hx4
                  have vx4 := nth_some hx4
                  have vb2 := slip_val S hx4
                  have w2 := nth_some hx4
                  refine r_oload m.sY hx4 (Nat.le_of_ble_eq_true rfl) ?_
                  conv => cbv
                  refine r_min m.sY fun r3 hr3 => ?_
                  conv => cbv
                  refine r_min m.sY fun n hn => ?_
                  conv => cbv
                  have en2 : n = min (min (-x3) x4) 99 := (by rw [hn, hr3, er])
                  refine r_oindex m.sX (by omega) (by omega) ?_
                  conv => cbv
                  obtain ⟨x5, hx5⟩ := get_ex (xs := left) (i := Int.toNat i_2) (by omega)
                  have mx5 := get_mem hx5
                  have vx5 := nth_some hx5
                  obtain rfl : x3 = x5 := Option.some.inj (hx3.symm.trans hx5)
                  refine r_oload m.sX hx5 (Nat.le_of_ble_eq_true rfl) ?_
                  conv => cbv
                  refine r_addf m.sX (by omega) (by omega) fun r4 hr4 => ?_
                  conv => cbv
                  refine r_oindex m.sX (by omega) (by omega) ?_
                  conv => cbv
                  obtain ⟨y2, hy2⟩ := get_ex (xs := left) (i := Int.toNat i_2) (by omega)
                  refine r_ostore (l := Int.toNat i_2) r4 m.sX hy2 (Nat.le_of_ble_eq_true rfl) rfl fun left_2 hleft_2 => ?_   -- left_2 = left.set i_2 r4
                  have lleft_2 : (left_2.length : Int) = left.length := by rw [hleft_2]; first | done | (simp; done) | (simp; omega)
                  conv => cbv
                  refine r_oindex m.sX (by omega) (by omega) ?_
                  conv => cbv
                  obtain ⟨x6, hx6⟩ := get_ex (xs := left_2) (i := Int.toNat k_2) (by omega)
                  have mx6 := get_mem hx6
                  have vx6 := nth_some hx6
                  have w4 : x6 = x4 := (by have z := nth_some hx6; rw [hleft_2, nth_setS, if_neg (fun z => s3 z.1)] at z; rw [← z]; exact w2)
                  refine r_oload m.sX hx6 (Nat.le_of_ble_eq_true rfl) ?_
                  conv => cbv
                  refine r_subf m.sX (by omega) (by omega) fun r5 hr5 => ?_
                  conv => cbv
                  refine r_oindex m.sX (by omega) (by omega) ?_
                  conv => cbv
                  obtain ⟨y3, hy3⟩ := get_ex (xs := left_2) (i := Int.toNat k_2) (by omega)
                  refine r_ostore (l := Int.toNat k_2) r5 m.sX hy3 (Nat.le_of_ble_eq_true rfl) rfl fun left_3 hleft_3 => ?_   -- left_3 = left_2.set k_2 r5
                  have lleft_3 : (left_3.length : Int) = left_2.length := by rw [hleft_3]; first | done | (simp; done) | (simp; omega)
                  have pn := posS_nn left_3
                  conv => cbv
                  refine r_draw m (by kernel_rfl) ?_
                  conv => cbv
                  refine r_index m.sY (by omega) (by omega) fun v hx7A => ?_
                  obtain ⟨x7A, x7B, x7C, x7D⟩ := v
                  conv => cbv
                  have hx7 := hx7A
                  have mx7 := get_mem hx7
                  refine r_index m.sY (by omega) (by omega) fun v hx8A => ?_
                  obtain ⟨x8A, x8B, x8C, x8D⟩ := v
                  conv => cbv
                  have hx8 := hx8A
                  have mx8 := get_mem hx8
                  refine r_append1 ((x7A, x8A, n)) m.sY rfl (by first | omega | (dsimp only; omega)) (by first | omega | (dsimp only; omega)) fun slips_2 hslips_2 => ?_
                  conv => cbv
                  have lslips_2 : (slips_2.length : Int) = slips.length + 1 := by rw [hslips_2]; first | done | (simp; done) | (simp; omega)
                  obtain ⟨sn1, sn2⟩ := slipS_next S en ek (by omega) hx3 hx4 en2 hx7 hx8 (show left_3 = _ by rw [hleft_3, hleft_2, hr4, hr5, w4])
                  dsimp only at sn1
                  rw [← hslips_2] at sn1
                  refine hE _ (left_3, slips_2, i_2, k_2) ?_ ?_ ⟨(by (try dsimp only) <;> first | omega | rfl | (simp [*]; done) | (rw [ip]; simp [*]; done)), (by (try dsimp only) <;> first | omega | rfl | (simp [*]; done) | (rw [kp]; simp [*]; done)), (by (try dsimp only) <;> (exact sn1))⟩ (by first | omega | (dsimp only; omega))
                  · cbv
                  · cbv
            · have ek : posI left k.toNat = k_2.toNat := by rw [e2, posI_end (by omega)]
              refine hF2 _ _ ?_
              conv => cbv
              refine r_lenR m.sX fun n5 hn5 mn5 => ?_
              conv => cbv
              refine r_eql m.sX (fun h9 => ?_) (fun h9 => ?_) <;> conv => cbv
              · have se := slipS_end S en (by omega)
                try dsimp only at se
                refine hF _ _ ?_
                conv => cbv
                refine r_lenR m.sX fun n6 hn6 mn6 => ?_
                conv => cbv
                refine r_gtr m.sX (fun h10 => ?_) (fun h10 => ?_) <;> conv => cbv
                · exact hQ (.tup [.fr 88 3 [], .bool false]) (Eq.trans (by first | rfl | (simp only [lb, lbI, rows_cons, rows_nil, unnilT, unnil, unnilTI, unnilI]; done) | (simp only [lb, lbI, rows_cons, rows_nil, unnilT, unnil, unnilTI, unnilI]; rfl)) (congrArg ((lb 88 3 cMisput)) (show ([], false) = findAns a b from by first | exact findAns_yes h1 (by rw [← hv1, ← hr1]; omega) se (by omega) | exact findAns_long (by rw [se]; omega) | exact findAns_sum (by rw [← hv1, ← hr1]; omega) | exact findAns_no h1)))   -- leaf 4
                · exact hQ (.tup [.fr 88 3 (rows cMisput slips), .bool true]) (Eq.trans (by first | rfl | (simp only [lb, lbI, rows_cons, rows_nil, unnilT, unnil, unnilTI, unnilI]; done) | (simp only [lb, lbI, rows_cons, rows_nil, unnilT, unnil, unnilTI, unnilI]; rfl)) (congrArg ((lb 88 3 cMisput)) (show (slips, true) = findAns a b from by first | exact findAns_yes h1 (by rw [← hv1, ← hr1]; omega) se (by omega) | exact findAns_long (by rw [se]; omega) | exact findAns_sum (by rw [← hv1, ← hr1]; omega) | exact findAns_no h1)))   -- leaf 5
              · obtain ⟨s1, s2, s3, s4⟩ := slipS_pos S en ek (by omega)
                refine r_draw m (by kernel_rfl) ?_
                conv => cbv
                refine r_oindex m.sY (by omega) (by omega) ?_
                conv => cbv
                obtain ⟨x9, hx9⟩ := get_ex (xs := left) (i := Int.toNat i_2) (by omega)
                have mx9 := get_mem hx9
                have vx9 := nth_some hx9
                have vb1 := slip_val S hx9
                try dsimp only at vb1
                have w1 := nth_some hx9
                try dsimp only at w1
                refine r_oload m.sY hx9 (Nat.le_of_ble_eq_true rfl) ?_
                conv => cbv
                refine r_neg m.sY fun r6 hr6 => ?_   -- r6 = wrap (-x9)
                have er : r6 = -x9 := (by rw [hr6]; exact wrap64 (by omega) (by omega))
                conv => cbv
                refine r_oindex m.sY (by omega) (by omega) ?_
                conv => cbv
                obtain ⟨x10, hx10⟩ := get_ex (xs := left) (i := Int.toNat k_2) (by omega)
                have mx10 := get_mem hx10
                have vx10 := nth_some hx10
                have vb2 := slip_val S hx10
                try dsimp only at vb2
                have w2 := nth_some hx10
                try dsimp only at w2
                refine r_oload m.sY hx10 (Nat.le_of_ble_eq_true rfl) ?_
                conv => cbv
                refine r_min m.sY fun r7 hr7 => ?_
                conv => cbv
                refine r_min m.sY fun n_2 hn_2 => ?_
                conv => cbv
                have en2 : n_2 = min (min (-x9) x10) 99 := (by rw [hn_2, hr7, er])
                refine r_oindex m.sX (by omega) (by omega) ?_
                conv => cbv
                obtain ⟨x11, hx11⟩ := get_ex (xs := left) (i := Int.toNat i_2) (by omega)
                have mx11 := get_mem hx11
                have vx11 := nth_some hx11
                obtain rfl : x9 = x11 := Option.some.inj (hx9.symm.trans hx11)
                refine r_oload m.sX hx11 (Nat.le_of_ble_eq_true rfl) ?_
                conv => cbv
                refine r_addf m.sX (by omega) (by omega) fun r8 hr8 => ?_
                conv => cbv
                refine r_oindex m.sX (by omega) (by omega) ?_
                conv => cbv
                obtain ⟨y4, hy4⟩ := get_ex (xs := left) (i := Int.toNat i_2) (by omega)
                refine r_ostore (l := Int.toNat i_2) r8 m.sX hy4 (Nat.le_of_ble_eq_true rfl) rfl fun left_4 hleft_4 => ?_   -- left_4 = left.set i_2 r8
                have lleft_4 : (left_4.length : Int) = left.length := by rw [hleft_4]; first | done | (simp; done) | (simp; omega)
                conv => cbv
                refine r_oindex m.sX (by omega) (by omega) ?_
                conv => cbv
                obtain ⟨x12, hx12⟩ := get_ex (xs := left_4) (i := Int.toNat k_2) (by omega)
                have mx12 := get_mem hx12
                have vx12 := nth_some hx12
                have w4 : x12 = x10 := (by have z := nth_some hx12; rw [hleft_4, nth_setS, if_neg (fun z => s3 z.1)] at z; rw [← z]; exact w2)
                refine r_oload m.sX hx12 (Nat.le_of_ble_eq_true rfl) ?_
                conv => cbv
                refine r_subf m.sX (by omega) (by omega) fun r9 hr9 => ?_
                conv => cbv
                refine r_oindex m.sX (by omega) (by omega) ?_
                conv => cbv
                obtain ⟨y5, hy5⟩ := get_ex (xs := left_4) (i := Int.toNat k_2) (by omega)
                refine r_ostore (l := Int.toNat k_2) r9 m.sX hy5 (Nat.le_of_ble_eq_true rfl) rfl fun left_5 hleft_5 => ?_   -- left_5 = left_4.set k_2 r9
                have lleft_5 : (left_5.length : Int) = left_4.length := by rw [hleft_5]; first | done | (simp; done) | (simp; omega)
                have pn := posS_nn left_5
                try dsimp only at pn
                conv => cbv
                refine r_draw m (by kernel_rfl) ?_
                conv => cbv
                refine r_index m.sY (by omega) (by omega) fun v hx13A => ?_
                obtain ⟨x13A, x13B, x13C, x13D⟩ := v
                conv => cbv
                have hx13 := hx13A
                have mx13 := get_mem hx13
                refine r_index m.sY (by omega) (by omega) fun v hx14A => ?_
                obtain ⟨x14A, x14B, x14C, x14D⟩ := v
                conv => cbv
                have hx14 := hx14A
                have mx14 := get_mem hx14
                refine r_append1 ((x13A, x14A, n_2)) m.sY rfl (by first | omega | (dsimp only; omega)) (by first | omega | (dsimp only; omega)) fun slips_3 hslips_3 => ?_
                conv => cbv
                have lslips_3 : (slips_3.length : Int) = slips.length + 1 := by rw [hslips_3]; first | done | (simp; done) | (simp; omega)
                obtain ⟨sn1, sn2⟩ := slipS_next S en ek (by omega) hx9 hx10 en2 hx13 hx14 (show left_5 = _ by rw [hleft_5, hleft_4, hr8, hr9, w4])
                dsimp only at sn1
                rw [← hslips_3] at sn1
                refine hE _ (left_5, slips_3, i_2, k_2) ?_ ?_ ⟨(by (try dsimp only) <;> first | omega | rfl | (simp [*]; done) | (rw [ip]; simp [*]; done)), (by (try dsimp only) <;> first | omega | rfl | (simp [*]; done) | (rw [kp]; simp [*]; done)), (by (try dsimp only) <;> (exact sn1))⟩ (by first | omega | (dsimp only; omega))
                · cbv
                · cbv
        · have en : negI left i.toNat = i_2.toNat := by rw [e1, negI_end (by omega)]
          refine hF2 _ _ ?_
          conv => cbv
          refine r_loopF (α := Int) m 101 [0, 8, 9] [⟨6, 49, 3, 1, 0⟩, ⟨7, 57, 88, 3, 0⟩] (fun σ => [(0, .isl 4 (rows cBox a)), (6, .osl 49 0), (7, .osl 57 0), (8, .int .i64 i_2), (9, .int .i64 σ)]) (fun σ => [(49, 0, .row 3 1 (rows cInt left)), (57, 0, .row 88 3 (rows cMisput slips))])
            (fun σ => (0 ≤ σ ∧ σ ≤ a.length) ∧ (posI left k.toNat = posI left σ.toNat)) (fun σ => ((a.length : Int) - σ).toNat) k ?_ ?_ ?_ ?_
          · cbv
          · cbv
          · exact ⟨(by (try dsimp only) <;> first | omega | rfl | (simp [*]; done)), (by (try dsimp only) <;> (rfl))⟩
          rintro k_4 ⟨kp2, e2⟩ E2 hE2 F2 hF2
          conv => cbv
          refine r_lenR m.sX fun n7 hn7 mn7 => ?_
          conv => cbv
          refine r_lss m.sX (fun h11 => ?_) (fun h11 => ?_) <;> conv => cbv
          · refine r_oindex m.sX (by omega) (by omega) ?_
            conv => cbv
            obtain ⟨x15, hx15⟩ := get_ex (xs := left) (i := Int.toNat k_4) (by omega)
            have mx15 := get_mem hx15
            have vx15 := nth_some hx15
            refine r_oload m.sX hx15 (Nat.le_of_ble_eq_true rfl) ?_
            conv => cbv
            refine r_leq m.sX (fun h12 => ?_) (fun h12 => ?_) <;> conv => cbv
            · refine r_addf m.sX (by omega) (by omega) fun k_5 hk_5 => ?_
              conv => cbv
              refine hE2 _ k_5 ?_ ?_ ⟨(by (try dsimp only) <;> first | omega | rfl | (simp [*]; done) | (rw [kp2]; simp [*]; done)), (by (try dsimp only) <;> (rw [e2, posI_step hx15 (by omega), show k_5.toNat = k_4.toNat + 1 by omega]))⟩ (by first | omega | (dsimp only; omega))
              · cbv
              · cbv
            · have ek : posI left k.toNat = k_4.toNat := by rw [e2, posI_here hx15 (by omega)]
              refine hF2 _ _ ?_
              conv => cbv
              refine r_lenR m.sX fun n8 hn8 mn8 => ?_
              conv => cbv
              refine r_eql m.sX (fun h13 => ?_) (fun h13 => ?_) <;> conv => cbv
              · have se := slipS_end S en (by omega)
                try dsimp only at se
                refine hF _ _ ?_
                conv => cbv
                refine r_lenR m.sX fun n9 hn9 mn9 => ?_
                conv => cbv
                refine r_gtr m.sX (fun h14 => ?_) (fun h14 => ?_) <;> conv => cbv
                · exact hQ (.tup [.fr 88 3 [], .bool false]) (Eq.trans (by first | rfl | (simp only [lb, lbI, rows_cons, rows_nil, unnilT, unnil, unnilTI, unnilI]; done) | (simp only [lb, lbI, rows_cons, rows_nil, unnilT, unnil, unnilTI, unnilI]; rfl)) (congrArg ((lb 88 3 cMisput)) (show ([], false) = findAns a b from by first | exact findAns_yes h1 (by rw [← hv1, ← hr1]; omega) se (by omega) | exact findAns_long (by rw [se]; omega) | exact findAns_sum (by rw [← hv1, ← hr1]; omega) | exact findAns_no h1)))   -- leaf 6
                · exact hQ (.tup [.fr 88 3 (rows cMisput slips), .bool true]) (Eq.trans (by first | rfl | (simp only [lb, lbI, rows_cons, rows_nil, unnilT, unnil, unnilTI, unnilI]; done) | (simp only [lb, lbI, rows_cons, rows_nil, unnilT, unnil, unnilTI, unnilI]; rfl)) (congrArg ((lb 88 3 cMisput)) (show (slips, true) = findAns a b from by first | exact findAns_yes h1 (by rw [← hv1, ← hr1]; omega) se (by omega) | exact findAns_long (by rw [se]; omega) | exact findAns_sum (by rw [← hv1, ← hr1]; omega) | exact findAns_no h1)))   -- leaf 7
              · obtain ⟨s1, s2, s3, s4⟩ := slipS_pos S en ek (by omega)
                refine r_draw m (by kernel_rfl) ?_
                conv => cbv
                refine r_oindex m.sY (by omega) (by omega) ?_
                conv => cbv
                obtain ⟨x16, hx16⟩ := get_ex (xs := left) (i := Int.toNat i_2) (by omega)
                have mx16 := get_mem hx16
                have vx16 := nth_some hx16
                have vb1 := slip_val S hx16
                try dsimp only at vb1
                have w1 := nth_some hx16
                try dsimp only at w1
                refine r_oload m.sY hx16 (Nat.le_of_ble_eq_true rfl) ?_
                conv => cbv
                refine r_neg m.sY fun r10 hr10 => ?_   -- r10 = wrap (-x16)
                have er : r10 = -x16 := (by rw [hr10]; exact wrap64 (by omega) (by omega))
                conv => cbv
                refine r_oindex m.sY (by omega) (by omega) ?_
                conv => cbv
                obtain ⟨x17, hx17⟩ := get_ex (xs := left) (i := Int.toNat k_4) (by omega)
                have mx17 := get_mem hx17
                have vx17 := nth_some hx17
                have vb2 := slip_val S hx17
                try dsimp only at vb2
                have w2 := nth_some hx17
                try dsimp only at w2
                refine r_oload m.sY hx17 (Nat.le_of_ble_eq_true rfl) ?_
                conv => cbv
                refine r_min m.sY fun r11 hr11 => ?_
                conv => cbv
                refine r_min m.sY fun n_3 hn_3 => ?_
                conv => cbv
                have en2 : n_3 = min (min (-x16) x17) 99 := (by rw [hn_3, hr11, er])
                refine r_oindex m.sX (by omega) (by omega) ?_
                conv => cbv
                obtain ⟨x18, hx18⟩ := get_ex (xs := left) (i := Int.toNat i_2) (by omega)
                have mx18 := get_mem hx18
                have vx18 := nth_some hx18
                obtain rfl : x16 = x18 := Option.some.inj (hx16.symm.trans hx18)
                refine r_oload m.sX hx18 (Nat.le_of_ble_eq_true rfl) ?_
                conv => cbv
                refine r_addf m.sX (by omega) (by omega) fun r12 hr12 => ?_
                conv => cbv
                refine r_oindex m.sX (by omega) (by omega) ?_
                conv => cbv
                obtain ⟨y6, hy6⟩ := get_ex (xs := left) (i := Int.toNat i_2) (by omega)
                refine r_ostore (l := Int.toNat i_2) r12 m.sX hy6 (Nat.le_of_ble_eq_true rfl) rfl fun left_6 hleft_6 => ?_   -- left_6 = left.set i_2 r12
                have lleft_6 : (left_6.length : Int) = left.length := by rw [hleft_6]; first | done | (simp; done) | (simp; omega)
                conv => cbv
                refine r_oindex m.sX (by omega) (by omega) ?_
                conv => cbv
                obtain ⟨x19, hx19⟩ := get_ex (xs := left_6) (i := Int.toNat k_4) (by omega)
                have mx19 := get_mem hx19
                have vx19 := nth_some hx19
                have w4 : x19 = x17 := (by have z := nth_some hx19; rw [hleft_6, nth_setS, if_neg (fun z => s3 z.1)] at z; rw [← z]; exact w2)
                refine r_oload m.sX hx19 (Nat.le_of_ble_eq_true rfl) ?_
                conv => cbv
                refine r_subf m.sX (by omega) (by omega) fun r13 hr13 => ?_
                conv => cbv
                refine r_oindex m.sX (by omega) (by omega) ?_
                conv => cbv
                obtain ⟨y7, hy7⟩ := get_ex (xs := left_6) (i := Int.toNat k_4) (by omega)
                refine r_ostore (l := Int.toNat k_4) r13 m.sX hy7 (Nat.le_of_ble_eq_true rfl) rfl fun left_7 hleft_7 => ?_   -- left_7 = left_6.set k_4 r13
                have lleft_7 : (left_7.length : Int) = left_6.length := by rw [hleft_7]; first | done | (simp; done) | (simp; omega)
                have pn := posS_nn left_7
                try dsimp only at pn
                conv => cbv
                refine r_draw m (by kernel_rfl) ?_
                conv => cbv
                refine r_index m.sY (by omega) (by omega) fun v hx20A => ?_
                obtain ⟨x20A, x20B, x20C, x20D⟩ := v
                conv => cbv
                have hx20 := hx20A
                have mx20 := get_mem hx20
                refine r_index m.sY (by omega) (by omega) fun v hx21A => ?_
                obtain ⟨x21A, x21B, x21C, x21D⟩ := v
                conv => cbv
                have hx21 := hx21A
                have mx21 := get_mem hx21
                refine r_append1 ((x20A, x21A, n_3)) m.sY rfl (by first | omega | (dsimp only; omega)) (by first | omega | (dsimp only; omega)) fun slips_4 hslips_4 => ?_
                conv => cbv
                have lslips_4 : (slips_4.length : Int) = slips.length + 1 := by rw [hslips_4]; first | done | (simp; done) | (simp; omega)
                obtain ⟨sn1, sn2⟩ := slipS_next S en ek (by omega) hx16 hx17 en2 hx20 hx21 (show left_7 = _ by rw [hleft_7, hleft_6, hr12, hr13, w4])
                dsimp only at sn1
                rw [← hslips_4] at sn1
                refine hE _ (left_7, slips_4, i_2, k_4) ?_ ?_ ⟨(by (try dsimp only) <;> first | omega | rfl | (simp [*]; done) | (rw [ip]; simp [*]; done)), (by (try dsimp only) <;> first | omega | rfl | (simp [*]; done) | (rw [kp]; simp [*]; done)), (by (try dsimp only) <;> (exact sn1))⟩ (by first | omega | (dsimp only; omega))
                · cbv
                · cbv
          · have ek : posI left k.toNat = k_4.toNat := by rw [e2, posI_end (by omega)]
            refine hF2 _ _ ?_
            conv => cbv
            refine r_lenR m.sX fun n10 hn10 mn10 => ?_
            conv => cbv
            refine r_eql m.sX (fun h15 => ?_) (fun h15 => ?_) <;> conv => cbv
            · have se := slipS_end S en (by omega)
              try dsimp only at se
              refine hF _ _ ?_
              conv => cbv
              refine r_lenR m.sX fun n11 hn11 mn11 => ?_
              conv => cbv
              refine r_gtr m.sX (fun h16 => ?_) (fun h16 => ?_) <;> conv => cbv
              · exact hQ (.tup [.fr 88 3 [], .bool false]) (Eq.trans (by first | rfl | (simp only [lb, lbI, rows_cons, rows_nil, unnilT, unnil, unnilTI, unnilI]; done) | (simp only [lb, lbI, rows_cons, rows_nil, unnilT, unnil, unnilTI, unnilI]; rfl)) (congrArg ((lb 88 3 cMisput)) (show ([], false) = findAns a b from by first | exact findAns_yes h1 (by rw [← hv1, ← hr1]; omega) se (by omega) | exact findAns_long (by rw [se]; omega) | exact findAns_sum (by rw [← hv1, ← hr1]; omega) | exact findAns_no h1)))   -- leaf 8
              · exact hQ (.tup [.fr 88 3 (rows cMisput slips), .bool true]) (Eq.trans (by first | rfl | (simp only [lb, lbI, rows_cons, rows_nil, unnilT, unnil, unnilTI, unnilI]; done) | (simp only [lb, lbI, rows_cons, rows_nil, unnilT, unnil, unnilTI, unnilI]; rfl)) (congrArg ((lb 88 3 cMisput)) (show (slips, true) = findAns a b from by first | exact findAns_yes h1 (by rw [← hv1, ← hr1]; omega) se (by omega) | exact findAns_long (by rw [se]; omega) | exact findAns_sum (by rw [← hv1, ← hr1]; omega) | exact findAns_no h1)))   -- leaf 9
            · obtain ⟨s1, s2, s3, s4⟩ := slipS_pos S en ek (by omega)
              refine r_draw m (by kernel_rfl) ?_
              conv => cbv
              refine r_oindex m.sY (by omega) (by omega) ?_
              conv => cbv
              obtain ⟨x22, hx22⟩ := get_ex (xs := left) (i := Int.toNat i_2) (by omega)
              have mx22 := get_mem hx22
              have vx22 := nth_some hx22
              have vb1 := slip_val S hx22
              try dsimp only at vb1
              have w1 := nth_some hx22
              try dsimp only at w1
              refine r_oload m.sY hx22 (Nat.le_of_ble_eq_true rfl) ?_
              conv => cbv
              refine r_neg m.sY fun r14 hr14 => ?_   -- r14 = wrap (-x22)
              have er : r14 = -x22 := (by rw [hr14]; exact wrap64 (by omega) (by omega))
              conv => cbv
              refine r_oindex m.sY (by omega) (by omega) ?_
              conv => cbv
              obtain ⟨x23, hx23⟩ := get_ex (xs := left) (i := Int.toNat k_4) (by omega)
              have mx23 := get_mem hx23
              have vx23 := nth_some hx23
              have vb2 := slip_val S hx23
              try dsimp only at vb2
              have w2 := nth_some hx23
              try dsimp only at w2
              refine r_oload m.sY hx23 (Nat.le_of_ble_eq_true rfl) ?_
              conv => cbv
              refine r_min m.sY fun r15 hr15 => ?_
              conv => cbv
              refine r_min m.sY fun n_4 hn_4 => ?_
              conv => cbv
              have en2 : n_4 = min (min (-x22) x23) 99 := (by rw [hn_4, hr15, er])
              refine r_oindex m.sX (by omega) (by omega) ?_
              conv => cbv
              obtain ⟨x24, hx24⟩ := get_ex (xs := left) (i := Int.toNat i_2) (by omega)
              have mx24 := get_mem hx24
              have vx24 := nth_some hx24
              obtain rfl : x22 = x24 := Option.some.inj (hx22.symm.trans hx24)
              refine r_oload m.sX hx24 (Nat.le_of_ble_eq_true rfl) ?_
              conv => cbv
              refine r_addf m.sX (by omega) (by omega) fun r16 hr16 => ?_
              conv => cbv
              refine r_oindex m.sX (by omega) (by omega) ?_
              conv => cbv
              obtain ⟨y8, hy8⟩ := get_ex (xs := left) (i := Int.toNat i_2) (by omega)
              refine r_ostore (l := Int.toNat i_2) r16 m.sX hy8 (Nat.le_of_ble_eq_true rfl) rfl fun left_8 hleft_8 => ?_   -- left_8 = left.set i_2 r16
              have lleft_8 : (left_8.length : Int) = left.length := by rw [hleft_8]; first | done | (simp; done) | (simp; omega)
              conv => cbv
              refine r_oindex m.sX (by omega) (by omega) ?_
              conv => cbv
              obtain ⟨x25, hx25⟩ := get_ex (xs := left_8) (i := Int.toNat k_4) (by omega)
              have mx25 := get_mem hx25
              have vx25 := nth_some hx25
              have w4 : x25 = x23 := (by have z := nth_some hx25; rw [hleft_8, nth_setS, if_neg (fun z => s3 z.1)] at z; rw [← z]; exact w2)
              refine r_oload m.sX hx25 (Nat.le_of_ble_eq_true rfl) ?_
              conv => cbv
              refine r_subf m.sX (by omega) (by omega) fun r17 hr17 => ?_
              conv => cbv
              refine r_oindex m.sX (by omega) (by omega) ?_
              conv => cbv
              obtain ⟨y9, hy9⟩ := get_ex (xs := left_8) (i := Int.toNat k_4) (by omega)
              refine r_ostore (l := Int.toNat k_4) r17 m.sX hy9 (Nat.le_of_ble_eq_true rfl) rfl fun left_9 hleft_9 => ?_   -- left_9 = left_8.set k_4 r17
              have lleft_9 : (left_9.length : Int) = left_8.length := by rw [hleft_9]; first | done | (simp; done) | (simp; omega)
              have pn := posS_nn left_9
              try dsimp only at pn
              conv => cbv
              refine r_draw m (by kernel_rfl) ?_
              conv => cbv
              refine r_index m.sY (by omega) (by omega) fun v hx26A => ?_
              obtain ⟨x26A, x26B, x26C, x26D⟩ := v
              conv => cbv
              have hx26 := hx26A
              have mx26 := get_mem hx26
              refine r_index m.sY (by omega) (by omega) fun v hx27A => ?_
              obtain ⟨x27A, x27B, x27C, x27D⟩ := v
              conv => cbv
              have hx27 := hx27A
              have mx27 := get_mem hx27
              refine r_append1 ((x26A, x27A, n_4)) m.sY rfl (by first | omega | (dsimp only; omega)) (by first | omega | (dsimp only; omega)) fun slips_5 hslips_5 => ?_
              conv => cbv
              have lslips_5 : (slips_5.length : Int) = slips.length + 1 := by rw [hslips_5]; first | done | (simp; done) | (simp; omega)
              obtain ⟨sn1, sn2⟩ := slipS_next S en ek (by omega) hx22 hx23 en2 hx26 hx27 (show left_9 = _ by rw [hleft_9, hleft_8, hr16, hr17, w4])
              dsimp only at sn1
              rw [← hslips_5] at sn1
              refine hE _ (left_9, slips_5, i_2, k_4) ?_ ?_ ⟨(by (try dsimp only) <;> first | omega | rfl | (simp [*]; done) | (rw [ip]; simp [*]; done)), (by (try dsimp only) <;> first | omega | rfl | (simp [*]; done) | (rw [kp]; simp [*]; done)), (by (try dsimp only) <;> (exact sn1))⟩ (by first | omega | (dsimp only; omega))
              · cbv
              · cbv
    · exact hQ (.tup [.fr 88 3 [], .bool false]) (Eq.trans (by first | rfl | (simp only [lb, lbI, rows_cons, rows_nil, unnilT, unnil, unnilTI, unnilI]; done) | (simp only [lb, lbI, rows_cons, rows_nil, unnilT, unnil, unnilTI, unnilI]; rfl)) (congrArg ((lb 88 3 cMisput)) (show ([], false) = findAns a b from by first | exact findAns_yes h1 (by rw [← hv1, ← hr1]; omega) se (by omega) | exact findAns_long (by rw [se]; omega) | exact findAns_sum (by rw [← hv1, ← hr1]; omega) | exact findAns_no h1))))   -- leaf 10

theorem specFindSlips_ok (a : List Box) (b : List Box)  : OkA Try.prog 59 [.isl 4 (rows cBox a), .isl 4 (rows cBox b)] (· = (lb 88 3 cMisput) (findAns a b)) :=
  OkA.unnil 88 3 (fn_intro envOk fieldsOk mixed Try.func59 rfl fun κ X Y L Q m hQ => by
    conv => cbv
    refine r_callB m.sX (diTwo_ok a b) (fun h1 => ?_) (fun h1 => ?_) <;> conv => cbv
    · obtain ⟨ca, cb, cc, cl⟩ := alikeB_spec h1
      have cn := case_len ca
      refine r_callF (PV.int .i64) m.sX (caSum_ok a (by first | rfl | assumption | omega | (simp only [List.length_append, List.length_cons, List.length_nil] at *; omega))) fun r1 hr1 => ?_
      conv => cbv
      refine r_callF (PV.int .i64) m.sX (caSum_ok b (by first | rfl | assumption | omega | (simp only [List.length_append, List.length_cons, List.length_nil] at *; omega))) fun r2 hr2 => ?_
      conv => cbv
      have ds := diffL_sum cl
      refine r_neq m.sX (fun h2 => ?_) (fun h2 => ?_) <;> conv => cbv
      · exact hQ (.tup [.nil, .bool false]) (Eq.trans (by first | rfl | (simp only [lb, lbI, rows_cons, rows_nil, unnilT, unnil, unnilTI, unnilI]; done) | (simp only [lb, lbI, rows_cons, rows_nil, unnilT, unnil, unnilTI, unnilI]; rfl)) (congrArg ((lb 88 3 cMisput)) (show ([], false) = findAns a b from by first | exact findAns_yes h1 (by rw [ds]; omega) se (by omega) | exact findAns_long (slipS_long S (by omega)) | exact findAns_sum (by rw [ds]; omega) | exact findAns_no h1)))   -- leaf 1
      · have S0 := slipS_start ca cb cl (by rw [ds]; omega)
        refine r_lenR m.sX fun n1 hn1 mn1 => ?_
        conv => cbv
        refine r_loopF (α := List Int × Int) m 117 [0, 1, 24, 25] [⟨6, 49, 3, 1, 0⟩] (fun σ => [(0, .isl 4 (rows cBox a)), (1, .isl 4 (rows cBox b)), (6, .osl 49 0), (24, .int .i64 n1), (25, .int .i64 σ.2)]) (fun σ => [(49, 0, .row 3 1 (rows cInt σ.1))])
          (fun σ => (0 ≤ σ.2) ∧ (σ.2 ≤ n1) ∧ (σ.1 = diffT a b σ.2.toNat) ∧ ((σ.1.length : Int) ≤ σ.2)) (fun σ => (n1 - σ.2).toNat) ([], 0) ?_ ?_ ?_ ?_
        · cbv
        · (try dsimp only); (try simp only [rows_cons, rows_nil]); cbv
        · exact ⟨(by (try dsimp only); first | omega | (simp only [List.length_nil]; omega) | (simp only [List.length_cons, List.length_nil]; omega)), (by (try dsimp only); first | omega | (simp only [List.length_nil]; omega) | (simp only [List.length_cons, List.length_nil]; omega)), (by (try dsimp only) <;> (rfl)), (by (try dsimp only) <;> first | omega | rfl | (simp [*]; done))⟩
        rintro ⟨rest, i1⟩ ⟨lo1, hi1, q, ll⟩ E hE F hF
        dsimp only at lo1 hi1 q ll
        conv => cbv
        refine r_lss m.sX (fun h3 => ?_) (fun h3 => ?_) <;> conv => cbv
        · refine r_draw m (by kernel_rfl) ?_
          conv => cbv
          refine r_index m.sY (by omega) (by omega) fun v hx1A => ?_
          obtain ⟨x1A, x1B, x1C, x1D⟩ := v
          conv => cbv
          have hx1 := hx1A
          have mx1 := get_mem hx1
          have dx1 := drop_cons hx1
          have kx1 := take_snoc hx1
          have jx1 : (i1 + 1).toNat = Int.toNat i1 + 1 := by omega
          have bx := okBox_cnt (case_box cb mx1)
          try dsimp only at bx
          refine r_index m.sY (by omega) (by omega) fun v hx2A => ?_
          obtain ⟨x2A, x2B, x2C, x2D⟩ := v
          conv => cbv
          have hx2 := hx2A
          have mx2 := get_mem hx2
          have dx2 := drop_cons hx2
          have kx2 := take_snoc hx2
          have jx2 : (i1 + 1).toNat = Int.toNat i1 + 1 := by omega
          have bx2 := okBox_cnt (case_box ca mx2)
          try dsimp only at bx2
          refine r_subf m.sY (by omega) (by omega) fun r3 hr3 => ?_
          conv => cbv
          refine r_append1 (r3) m.sY rfl (by first | omega | (dsimp only; omega)) (by first | omega | (dsimp only; omega)) fun rest_2 hrest_2 => ?_
          conv => cbv
          have lrest_2 : (rest_2.length : Int) = rest.length + 1 := by rw [hrest_2]; first | done | (simp; done) | (simp; omega)
          refine r_addf m.sX (by omega) (by omega) fun r4 hr4 => ?_
          conv => cbv
          try have tr4 : Int.toNat r4 = Int.toNat i1 + 1 := by omega
          refine hE _ (rest_2, r4) ?_ ?_ ⟨(by (try dsimp only); first | omega | (simp only [List.length_nil]; omega) | (simp only [List.length_cons, List.length_nil]; omega)), (by (try dsimp only); first | omega | (simp only [List.length_nil]; omega) | (simp only [List.length_cons, List.length_nil]; omega)), (by (try dsimp only) <;> (rw [hrest_2, q, tr4, diffT_step hx2 hx1, hr3])), (by (try dsimp only) <;> first | omega | rfl | (simp [*]; done) | (rw [ll]; simp [*]; done))⟩ (by first | omega | (dsimp only; omega))
          · cbv
          · cbv
        · have dz_i1 := drop_end (xs := a) (i := Int.toNat i1) (by omega)
          have tz_i1 := take_end (xs := a) (i := Int.toNat i1) (by omega)
          refine hF _ _ ?_
          conv => cbv
          refine r_loopF (α := List Int × List Slip × Int × Int) m 117 [0, 9, 10] [⟨6, 49, 3, 1, 0⟩, ⟨8, 65, 88, 3, 0⟩] (fun σ => [(0, .isl 4 (rows cBox a)), (6, .osl 49 0), (8, .osl 65 0), (9, .int .i64 σ.2.2.1), (10, .int .i64 σ.2.2.2)]) (fun σ => [(49, 0, .row 3 1 (rows cInt σ.1)), (65, 0, .row 88 3 (rows cMisput σ.2.1))])
            (fun σ => (0 ≤ σ.2.2.1 ∧ σ.2.2.1 ≤ a.length) ∧ (0 ≤ σ.2.2.2 ∧ σ.2.2.2 ≤ a.length) ∧ (SlipS a (diffL a b) σ.1 σ.2.2.1.toNat σ.2.2.2.toNat σ.2.1)) (fun σ => (posS σ.1).toNat) (rest, [], 0, 0) ?_ ?_ ?_ ?_
          · cbv
          · (try dsimp only); (try simp only [rows_cons, rows_nil]); cbv
          · exact ⟨(by (try dsimp only) <;> first | omega | rfl | (simp [*]; done)), (by (try dsimp only) <;> first | omega | rfl | (simp [*]; done)), (by (try dsimp only) <;> (rw [q, show i1.toNat = a.length by omega]; exact S0))⟩
          rintro ⟨rest_3, out, less, more⟩ ⟨ip, kp, S⟩ E hE F hF
          dsimp only at ip kp S
          have ln := S.ln
          try dsimp only at ln
          have sl0 := S.sl
          try dsimp only at sl0
          have pn0 := posS_nn rest_3
          try dsimp only at pn0
          conv => cbv
          refine r_lenR m.sX fun n2 hn2 mn2 => ?_
          conv => cbv
          refine r_leq m.sX (fun h4 => ?_) (fun h4 => ?_) <;> conv => cbv
          · refine r_loopF (α := Int) m 117 [0, 9, 10] [⟨6, 49, 3, 1, 0⟩, ⟨8, 65, 88, 3, 0⟩] (fun σ => [(0, .isl 4 (rows cBox a)), (6, .osl 49 0), (8, .osl 65 0), (9, .int .i64 σ), (10, .int .i64 more)]) (fun σ => [(49, 0, .row 3 1 (rows cInt rest_3)), (65, 0, .row 88 3 (rows cMisput out))])
              (fun σ => (0 ≤ σ ∧ σ ≤ a.length) ∧ (negI rest_3 less.toNat = negI rest_3 σ.toNat)) (fun σ => ((a.length : Int) - σ).toNat) less ?_ ?_ ?_ ?_
            · cbv
            · cbv
            · exact ⟨(by (try dsimp only) <;> first | omega | rfl | (simp [*]; done)), (by (try dsimp only) <;> (rfl))⟩
            rintro less_2 ⟨ip2, e1⟩ E2 hE2 F2 hF2
            conv => cbv
            refine r_lenR m.sX fun n3 hn3 mn3 => ?_
            conv => cbv
            refine r_lss m.sX (fun h5 => ?_) (fun h5 => ?_) <;> conv => cbv
            · refine r_oindex m.sX (by omega) (by omega) ?_
              conv => cbv
              obtain ⟨x3, hx3⟩ := get_ex (xs := rest_3) (i := Int.toNat less_2) (by omega)
              have mx3 := get_mem hx3
              have vx3 := nth_some hx3
              refine r_oload m.sX hx3 (Nat.le_of_ble_eq_true rfl) ?_
              conv => cbv
              refine r_geq m.sX (fun h6 => ?_) (fun h6 => ?_) <;> conv => cbv
              · refine r_addf m.sX (by omega) (by omega) fun less_3 hless_3 => ?_
                conv => cbv
                refine hE2 _ less_3 ?_ ?_ ⟨(by (try dsimp only) <;> first | omega | rfl | (simp [*]; done) | (rw [ip2]; simp [*]; done)), (by (try dsimp only) <;> (rw [e1, negI_step hx3 (by omega), show less_3.toNat = less_2.toNat + 1 by omega]))⟩ (by first | omega | (dsimp only; omega))
                · cbv
                · cbv
              · have en : negI rest_3 less.toNat = less_2.toNat := by rw [e1, negI_here hx3 (by omega)]
                refine hF2 _ _ ?_
                conv => cbv
                refine r_loopF (α := Int) m 117 [0, 9, 10] [⟨6, 49, 3, 1, 0⟩, ⟨8, 65, 88, 3, 0⟩] (fun σ => [(0, .isl 4 (rows cBox a)), (6, .osl 49 0), (8, .osl 65 0), (9, .int .i64 less_2), (10, .int .i64 σ)]) (fun σ => [(49, 0, .row 3 1 (rows cInt rest_3)), (65, 0, .row 88 3 (rows cMisput out))])
                  (fun σ => (0 ≤ σ ∧ σ ≤ a.length) ∧ (posI rest_3 more.toNat = posI rest_3 σ.toNat)) (fun σ => ((a.length : Int) - σ).toNat) more ?_ ?_ ?_ ?_
                · cbv
                · cbv
                · exact ⟨(by (try dsimp only) <;> first | omega | rfl | (simp [*]; done)), (by (try dsimp only) <;> (rfl))⟩
                rintro more_2 ⟨kp2, e2⟩ E2 hE2 F2 hF2
                conv => cbv
                refine r_lenR m.sX fun n4 hn4 mn4 => ?_
                conv => cbv
                refine r_lss m.sX (fun h7 => ?_) (fun h7 => ?_) <;> conv => cbv
                · refine r_oindex m.sX (by omega) (by omega) ?_
                  conv => cbv
                  obtain ⟨x4, hx4⟩ := get_ex (xs := rest_3) (i := Int.toNat more_2) (by omega)
                  have mx4 := get_mem hx4
                  have vx4 := nth_some hx4
                  refine r_oload m.sX hx4 (Nat.le_of_ble_eq_true rfl) ?_
                  conv => cbv
                  refine r_leq m.sX (fun h8 => ?_) (fun h8 => ?_) <;> conv => cbv
                  · refine r_addf m.sX (by omega) (by omega) fun more_3 hmore_3 => ?_
                    conv => cbv
                    refine hE2 _ more_3 ?_ ?_ ⟨(by (try dsimp only) <;> first | omega | rfl | (simp [*]; done) | (rw [kp2]; simp [*]; done)), (by (try dsimp only) <;> (rw [e2, posI_step hx4 (by omega), show more_3.toNat = more_2.toNat + 1 by omega]))⟩ (by first | omega | (dsimp only; omega))
                    · cbv
                    · cbv
                  · have ek : posI rest_3 more.toNat = more_2.toNat := by rw [e2, posI_here hx4 (by omega)]
                    refine hF2 _ _ ?_
                    conv => cbv
                    refine r_lenR m.sX fun n5 hn5 mn5 => ?_
                    conv => cbv
                    refine r_eql m.sX (fun h9 => ?_) (fun h9 => ?_) <;> conv => cbv
                    · have se := slipS_end S en (by omega)
                      try dsimp only at se
                      refine hF _ _ ?_
                      conv => cbv
                      exact hQ (.tup [.fr 88 3 (rows cMisput out), .bool true]) (Eq.trans (by first | rfl | (simp only [lb, lbI, rows_cons, rows_nil, unnilT, unnil, unnilTI, unnilI]; done) | (simp only [lb, lbI, rows_cons, rows_nil, unnilT, unnil, unnilTI, unnilI]; rfl)) (congrArg ((lb 88 3 cMisput)) (show (out, true) = findAns a b from by first | exact findAns_yes h1 (by rw [ds]; omega) se (by omega) | exact findAns_long (slipS_long S (by omega)) | exact findAns_sum (by rw [ds]; omega) | exact findAns_no h1)))   -- leaf 2
                    · obtain ⟨s1, s2, s3, s4⟩ := slipS_pos S en ek (by omega)
                      refine r_draw m (by kernel_rfl) ?_
                      conv => cbv
                      refine r_oindex m.sY (by omega) (by omega) ?_
                      conv => cbv
                      obtain ⟨x5, hx5⟩ := get_ex (xs := rest_3) (i := Int.toNat less_2) (by omega)
                      have mx5 := get_mem hx5
                      have vx5 := nth_some hx5
                      have vb1 := slip_val S hx5
                      try dsimp only at vb1
                      have w1 := nth_some hx5
                      try dsimp only at w1
                      refine r_oload m.sY hx5 (Nat.le_of_ble_eq_true rfl) ?_
                      conv => cbv
                      refine r_neg m.sY fun r5 hr5 => ?_   -- r5 = wrap (-x5)
                      have er : r5 = -x5 := (by rw [hr5]; exact wrap64 (by omega) (by omega))
                      conv => cbv
                      refine r_oindex m.sY (by omega) (by omega) ?_
                      conv => cbv
                      obtain ⟨x6, hx6⟩ := get_ex (xs := rest_3) (i := Int.toNat more_2) (by omega)
                      have mx6 := get_mem hx6
                      have vx6 := nth_some hx6
                      have vb2 := slip_val S hx6
                      try dsimp only at vb2
                      have w2 := nth_some hx6
                      try dsimp only at w2
                      refine r_oload m.sY hx6 (Nat.le_of_ble_eq_true rfl) ?_
                      conv => cbv
                      refine r_callFS (PV.int .i64) m.sY (l1Least_ok r5 x6) trivial fun r6 hr6 => ?_
                      conv => cbv
                      try dsimp only at hr6
                      refine r_callFS (PV.int .i64) m.sY (l1Least_ok 99 r6) trivial fun n hn => ?_
                      conv => cbv
                      try dsimp only at hn
                      have en2 : n = min (min (-x5) x6) 99 := (by rw [hn, hr6, er]; omega)
                      refine r_draw m (by kernel_rfl) ?_
                      conv => cbv
                      refine r_index m.sY (by omega) (by omega) fun v hx7A => ?_
                      obtain ⟨x7A, x7B, x7C, x7D⟩ := v
                      conv => cbv
                      have hx7 := hx7A
                      have mx7 := get_mem hx7
                      refine r_index m.sY (by omega) (by omega) fun v hx8A => ?_
                      obtain ⟨x8A, x8B, x8C, x8D⟩ := v
                      conv => cbv
                      have hx8 := hx8A
                      have mx8 := get_mem hx8
                      refine r_append1 ((x7A, x8A, n)) m.sY rfl (by first | omega | (dsimp only; omega)) (by first | omega | (dsimp only; omega)) fun out_2 hout_2 => ?_
                      conv => cbv
                      have lout_2 : (out_2.length : Int) = out.length + 1 := by rw [hout_2]; first | done | (simp; done) | (simp; omega)
                      refine r_oindex m.sX (by omega) (by omega) ?_
                      conv => cbv
                      obtain ⟨x9, hx9⟩ := get_ex (xs := rest_3) (i := Int.toNat less_2) (by omega)
                      have mx9 := get_mem hx9
                      have vx9 := nth_some hx9
                      obtain rfl : x5 = x9 := Option.some.inj (hx5.symm.trans hx9)
                      refine r_oload m.sX hx9 (Nat.le_of_ble_eq_true rfl) ?_
                      conv => cbv
                      refine r_addf m.sX (by omega) (by omega) fun r7 hr7 => ?_
                      conv => cbv
                      refine r_oindex m.sX (by omega) (by omega) ?_
                      conv => cbv
                      obtain ⟨y1, hy1⟩ := get_ex (xs := rest_3) (i := Int.toNat less_2) (by omega)
                      refine r_ostore (l := Int.toNat less_2) r7 m.sX hy1 (Nat.le_of_ble_eq_true rfl) rfl fun rest_4 hrest_4 => ?_   -- rest_4 = rest_3.set less_2 r7
                      have lrest_4 : (rest_4.length : Int) = rest_3.length := by rw [hrest_4]; first | done | (simp; done) | (simp; omega)
                      conv => cbv
                      refine r_oindex m.sX (by omega) (by omega) ?_
                      conv => cbv
                      obtain ⟨x10, hx10⟩ := get_ex (xs := rest_4) (i := Int.toNat more_2) (by omega)
                      have mx10 := get_mem hx10
                      have vx10 := nth_some hx10
                      have w4 : x10 = x6 := (by have z := nth_some hx10; rw [hrest_4, nth_setS, if_neg (fun z => s3 z.1)] at z; rw [← z]; exact w2)
                      refine r_oload m.sX hx10 (Nat.le_of_ble_eq_true rfl) ?_
                      conv => cbv
                      refine r_subf m.sX (by omega) (by omega) fun r8 hr8 => ?_
                      conv => cbv
                      refine r_oindex m.sX (by omega) (by omega) ?_
                      conv => cbv
                      obtain ⟨y2, hy2⟩ := get_ex (xs := rest_4) (i := Int.toNat more_2) (by omega)
                      refine r_ostore (l := Int.toNat more_2) r8 m.sX hy2 (Nat.le_of_ble_eq_true rfl) rfl fun rest_5 hrest_5 => ?_   -- rest_5 = rest_4.set more_2 r8
                      have lrest_5 : (rest_5.length : Int) = rest_4.length := by rw [hrest_5]; first | done | (simp; done) | (simp; omega)
                      have pn := posS_nn rest_5
                      try dsimp only at pn
                      obtain ⟨sn1, sn2⟩ := slipS_next S en ek (by omega) hx5 hx6 en2 hx7 hx8 (show rest_5 = _ by rw [hrest_5, hrest_4, hr7, hr8, w4])
                      dsimp only at sn1
                      rw [← hout_2] at sn1
                      conv => cbv
                      refine hE _ (rest_5, out_2, less_2, more_2) ?_ ?_ ⟨(by (try dsimp only) <;> first | omega | rfl | (simp [*]; done) | (rw [ip]; simp [*]; done)), (by (try dsimp only) <;> first | omega | rfl | (simp [*]; done) | (rw [kp]; simp [*]; done)), (by (try dsimp only) <;> (exact sn1))⟩ (by first | omega | (dsimp only; omega))
                      · cbv
                      · cbv
                · have ek : posI rest_3 more.toNat = more_2.toNat := by rw [e2, posI_end (by omega)]
                  refine hF2 _ _ ?_
                  conv => cbv
                  refine r_lenR m.sX fun n6 hn6 mn6 => ?_
                  conv => cbv
                  refine r_eql m.sX (fun h10 => ?_) (fun h10 => ?_) <;> conv => cbv
                  · have se := slipS_end S en (by omega)
                    try dsimp only at se
                    refine hF _ _ ?_
                    conv => cbv
                    exact hQ (.tup [.fr 88 3 (rows cMisput out), .bool true]) (Eq.trans (by first | rfl | (simp only [lb, lbI, rows_cons, rows_nil, unnilT, unnil, unnilTI, unnilI]; done) | (simp only [lb, lbI, rows_cons, rows_nil, unnilT, unnil, unnilTI, unnilI]; rfl)) (congrArg ((lb 88 3 cMisput)) (show (out, true) = findAns a b from by first | exact findAns_yes h1 (by rw [ds]; omega) se (by omega) | exact findAns_long (slipS_long S (by omega)) | exact findAns_sum (by rw [ds]; omega) | exact findAns_no h1)))   -- leaf 3
                  · obtain ⟨s1, s2, s3, s4⟩ := slipS_pos S en ek (by omega)
                    refine r_draw m (by kernel_rfl) ?_
                    conv => cbv
                    refine r_oindex m.sY (by omega) (by omega) ?_
                    conv => cbv
                    obtain ⟨x11, hx11⟩ := get_ex (xs := rest_3) (i := Int.toNat less_2) (by omega)
                    have mx11 := get_mem hx11
                    have vx11 := nth_some hx11
                    have vb1 := slip_val S hx11
                    try dsimp only at vb1
                    have w1 := nth_some hx11
                    try dsimp only at w1
                    refine r_oload m.sY hx11 (Nat.le_of_ble_eq_true rfl) ?_
                    conv => cbv
                    refine r_neg m.sY fun r9 hr9 => ?_   -- r9 = wrap (-x11)
                    have er : r9 = -x11 := (by rw [hr9]; exact wrap64 (by omega) (by omega))
                    conv => cbv
                    refine r_oindex m.sY (by omega) (by omega) ?_
                    conv => cbv
                    obtain ⟨x12, hx12⟩ := get_ex (xs := rest_3) (i := Int.toNat more_2) (by omega)
                    have mx12 := get_mem hx12
                    have vx12 := nth_some hx12
                    have vb2 := slip_val S hx12
                    try dsimp only at vb2
                    have w2 := nth_some hx12
                    try dsimp only at w2
                    refine r_oload m.sY hx12 (Nat.le_of_ble_eq_true rfl) ?_
                    conv => cbv
                    refine r_callFS (PV.int .i64) m.sY (l1Least_ok r9 x12) trivial fun r10 hr10 => ?_
                    conv => cbv
                    try dsimp only at hr10
                    refine r_callFS (PV.int .i64) m.sY (l1Least_ok 99 r10) trivial fun n_2 hn_2 => ?_
                    conv => cbv
                    try dsimp only at hn_2
                    have en2 : n_2 = min (min (-x11) x12) 99 := (by rw [hn_2, hr10, er]; omega)
                    refine r_draw m (by kernel_rfl) ?_
                    conv => cbv
                    refine r_index m.sY (by omega) (by omega) fun v hx13A => ?_
                    obtain ⟨x13A, x13B, x13C, x13D⟩ := v
                    conv => cbv
                    have hx13 := hx13A
                    have mx13 := get_mem hx13
                    refine r_index m.sY (by omega) (by omega) fun v hx14A => ?_
                    obtain ⟨x14A, x14B, x14C, x14D⟩ := v
                    conv => cbv
                    have hx14 := hx14A
                    have mx14 := get_mem hx14
                    refine r_append1 ((x13A, x14A, n_2)) m.sY rfl (by first | omega | (dsimp only; omega)) (by first | omega | (dsimp only; omega)) fun out_3 hout_3 => ?_
                    conv => cbv
                    have lout_3 : (out_3.length : Int) = out.length + 1 := by rw [hout_3]; first | done | (simp; done) | (simp; omega)
                    refine r_oindex m.sX (by omega) (by omega) ?_
                    conv => cbv
                    obtain ⟨x15, hx15⟩ := get_ex (xs := rest_3) (i := Int.toNat less_2) (by omega)
                    have mx15 := get_mem hx15
                    have vx15 := nth_some hx15
                    obtain rfl : x11 = x15 := Option.some.inj (hx11.symm.trans hx15)
                    refine r_oload m.sX hx15 (Nat.le_of_ble_eq_true rfl) ?_
                    conv => cbv
                    refine r_addf m.sX (by omega) (by omega) fun r11 hr11 => ?_
                    conv => cbv
                    refine r_oindex m.sX (by omega) (by omega) ?_
                    conv => cbv
                    obtain ⟨y3, hy3⟩ := get_ex (xs := rest_3) (i := Int.toNat less_2) (by omega)
                    refine r_ostore (l := Int.toNat less_2) r11 m.sX hy3 (Nat.le_of_ble_eq_true rfl) rfl fun rest_6 hrest_6 => ?_   -- rest_6 = rest_3.set less_2 r11
                    have lrest_6 : (rest_6.length : Int) = rest_3.length := by rw [hrest_6]; first | done | (simp; done) | (simp; omega)
                    conv => cbv
                    refine r_oindex m.sX (by omega) (by omega) ?_
                    conv => cbv
                    obtain ⟨x16, hx16⟩ := get_ex (xs := rest_6) (i := Int.toNat more_2) (by omega)
                    have mx16 := get_mem hx16
                    have vx16 := nth_some hx16
                    have w4 : x16 = x12 := (by have z := nth_some hx16; rw [hrest_6, nth_setS, if_neg (fun z => s3 z.1)] at z; rw [← z]; exact w2)
                    refine r_oload m.sX hx16 (Nat.le_of_ble_eq_true rfl) ?_
                    conv => cbv
                    refine r_subf m.sX (by omega) (by omega) fun r12 hr12 => ?_
                    conv => cbv
                    refine r_oindex m.sX (by omega) (by omega) ?_
                    conv => cbv
                    obtain ⟨y4, hy4⟩ := get_ex (xs := rest_6) (i := Int.toNat more_2) (by omega)
                    refine r_ostore (l := Int.toNat more_2) r12 m.sX hy4 (Nat.le_of_ble_eq_true rfl) rfl fun rest_7 hrest_7 => ?_   -- rest_7 = rest_6.set more_2 r12
                    have lrest_7 : (rest_7.length : Int) = rest_6.length := by rw [hrest_7]; first | done | (simp; done) | (simp; omega)
                    have pn := posS_nn rest_7
                    try dsimp only at pn
                    obtain ⟨sn1, sn2⟩ := slipS_next S en ek (by omega) hx11 hx12 en2 hx13 hx14 (show rest_7 = _ by rw [hrest_7, hrest_6, hr11, hr12, w4])
                    dsimp only at sn1
                    rw [← hout_3] at sn1
                    conv => cbv
                    refine hE _ (rest_7, out_3, less_2, more_2) ?_ ?_ ⟨(by (try dsimp only) <;> first | omega | rfl | (simp [*]; done) | (rw [ip]; simp [*]; done)), (by (try dsimp only) <;> first | omega | rfl | (simp [*]; done) | (rw [kp]; simp [*]; done)), (by (try dsimp only) <;> (exact sn1))⟩ (by first | omega | (dsimp only; omega))
                    · cbv
                    · cbv
            · have en : negI rest_3 less.toNat = less_2.toNat := by rw [e1, negI_end (by omega)]
              refine hF2 _ _ ?_
              conv => cbv
              refine r_loopF (α := Int) m 117 [0, 9, 10] [⟨6, 49, 3, 1, 0⟩, ⟨8, 65, 88, 3, 0⟩] (fun σ => [(0, .isl 4 (rows cBox a)), (6, .osl 49 0), (8, .osl 65 0), (9, .int .i64 less_2), (10, .int .i64 σ)]) (fun σ => [(49, 0, .row 3 1 (rows cInt rest_3)), (65, 0, .row 88 3 (rows cMisput out))])
                (fun σ => (0 ≤ σ ∧ σ ≤ a.length) ∧ (posI rest_3 more.toNat = posI rest_3 σ.toNat)) (fun σ => ((a.length : Int) - σ).toNat) more ?_ ?_ ?_ ?_
              · cbv
              · cbv
              · exact ⟨(by (try dsimp only) <;> first | omega | rfl | (simp [*]; done)), (by (try dsimp only) <;> (rfl))⟩
              rintro more_4 ⟨kp2, e2⟩ E2 hE2 F2 hF2
              conv => cbv
              refine r_lenR m.sX fun n7 hn7 mn7 => ?_
              conv => cbv
              refine r_lss m.sX (fun h11 => ?_) (fun h11 => ?_) <;> conv => cbv
              · refine r_oindex m.sX (by omega) (by omega) ?_
                conv => cbv
                obtain ⟨x17, hx17⟩ := get_ex (xs := rest_3) (i := Int.toNat more_4) (by omega)
                have mx17 := get_mem hx17
                have vx17 := nth_some hx17
                refine r_oload m.sX hx17 (Nat.le_of_ble_eq_true rfl) ?_
                conv => cbv
                refine r_leq m.sX (fun h12 => ?_) (fun h12 => ?_) <;> conv => cbv
                · refine r_addf m.sX (by omega) (by omega) fun more_5 hmore_5 => ?_
                  conv => cbv
                  refine hE2 _ more_5 ?_ ?_ ⟨(by (try dsimp only) <;> first | omega | rfl | (simp [*]; done) | (rw [kp2]; simp [*]; done)), (by (try dsimp only) <;> (rw [e2, posI_step hx17 (by omega), show more_5.toNat = more_4.toNat + 1 by omega]))⟩ (by first | omega | (dsimp only; omega))
                  · cbv
                  · cbv
                · have ek : posI rest_3 more.toNat = more_4.toNat := by rw [e2, posI_here hx17 (by omega)]
                  refine hF2 _ _ ?_
                  conv => cbv
                  refine r_lenR m.sX fun n8 hn8 mn8 => ?_
                  conv => cbv
                  refine r_eql m.sX (fun h13 => ?_) (fun h13 => ?_) <;> conv => cbv
                  · have se := slipS_end S en (by omega)
                    try dsimp only at se
                    refine hF _ _ ?_
                    conv => cbv
                    exact hQ (.tup [.fr 88 3 (rows cMisput out), .bool true]) (Eq.trans (by first | rfl | (simp only [lb, lbI, rows_cons, rows_nil, unnilT, unnil, unnilTI, unnilI]; done) | (simp only [lb, lbI, rows_cons, rows_nil, unnilT, unnil, unnilTI, unnilI]; rfl)) (congrArg ((lb 88 3 cMisput)) (show (out, true) = findAns a b from by first | exact findAns_yes h1 (by rw [ds]; omega) se (by omega) | exact findAns_long (slipS_long S (by omega)) | exact findAns_sum (by rw [ds]; omega) | exact findAns_no h1)))   -- leaf 4
                  · obtain ⟨s1, s2, s3, s4⟩ := slipS_pos S en ek (by omega)
                    refine r_draw m (by kernel_rfl) ?_
                    conv => cbv
                    refine r_oindex m.sY (by omega) (by omega) ?_
                    conv => cbv
                    obtain ⟨x18, hx18⟩ := get_ex (xs := rest_3) (i := Int.toNat less_2) (by omega)
                    have mx18 := get_mem hx18
                    have vx18 := nth_some hx18
                    have vb1 := slip_val S hx18
                    try dsimp only at vb1
                    have w1 := nth_some hx18
                    try dsimp only at w1
                    refine r_oload m.sY hx18 (Nat.le_of_ble_eq_true rfl) ?_
                    conv => cbv
                    refine r_neg m.sY fun r13 hr13 => ?_   -- r13 = wrap (-x18)
                    have er : r13 = -x18 := (by rw [hr13]; exact wrap64 (by omega) (by omega))
                    conv => cbv
                    refine r_oindex m.sY (by omega) (by omega) ?_
                    conv => cbv
                    obtain ⟨x19, hx19⟩ := get_ex (xs := rest_3) (i := Int.toNat more_4) (by omega)
                    have mx19 := get_mem hx19
                    have vx19 := nth_some hx19
                    have vb2 := slip_val S hx19
                    try dsimp only at vb2
                    have w2 := nth_some hx19
                    try dsimp only at w2
                    refine r_oload m.sY hx19 (Nat.le_of_ble_eq_true rfl) ?_
                    conv => cbv
                    refine r_callFS (PV.int .i64) m.sY (l1Least_ok r13 x19) trivial fun r14 hr14 => ?_
                    conv => cbv
                    try dsimp only at hr14
                    refine r_callFS (PV.int .i64) m.sY (l1Least_ok 99 r14) trivial fun n_3 hn_3 => ?_
                    conv => cbv
                    try dsimp only at hn_3
                    have en2 : n_3 = min (min (-x18) x19) 99 := (by rw [hn_3, hr14, er]; omega)
                    refine r_draw m (by kernel_rfl) ?_
                    conv => cbv
                    refine r_index m.sY (by omega) (by omega) fun v hx20A => ?_
                    obtain ⟨x20A, x20B, x20C, x20D⟩ := v
                    conv => cbv
                    have hx20 := hx20A
                    have mx20 := get_mem hx20
                    refine r_index m.sY (by omega) (by omega) fun v hx21A => ?_
                    obtain ⟨x21A, x21B, x21C, x21D⟩ := v
                    conv => cbv
                    have hx21 := hx21A
                    have mx21 := get_mem hx21
                    refine r_append1 ((x20A, x21A, n_3)) m.sY rfl (by first | omega | (dsimp only; omega)) (by first | omega | (dsimp only; omega)) fun out_4 hout_4 => ?_
                    conv => cbv
                    have lout_4 : (out_4.length : Int) = out.length + 1 := by rw [hout_4]; first | done | (simp; done) | (simp; omega)
                    refine r_oindex m.sX (by omega) (by omega) ?_
                    conv => cbv
                    obtain ⟨x22, hx22⟩ := get_ex (xs := rest_3) (i := Int.toNat less_2) (by omega)
                    have mx22 := get_mem hx22
                    have vx22 := nth_some hx22
                    obtain rfl : x18 = x22 := Option.some.inj (hx18.symm.trans hx22)
                    refine r_oload m.sX hx22 (Nat.le_of_ble_eq_true rfl) ?_
                    conv => cbv
                    refine r_addf m.sX (by omega) (by omega) fun r15 hr15 => ?_
                    conv => cbv
                    refine r_oindex m.sX (by omega) (by omega) ?_
                    conv => cbv
                    obtain ⟨y5, hy5⟩ := get_ex (xs := rest_3) (i := Int.toNat less_2) (by omega)
                    refine r_ostore (l := Int.toNat less_2) r15 m.sX hy5 (Nat.le_of_ble_eq_true rfl) rfl fun rest_8 hrest_8 => ?_   -- rest_8 = rest_3.set less_2 r15
                    have lrest_8 : (rest_8.length : Int) = rest_3.length := by rw [hrest_8]; first | done | (simp; done) | (simp; omega)
                    conv => cbv
                    refine r_oindex m.sX (by omega) (by omega) ?_
                    conv => cbv
                    obtain ⟨x23, hx23⟩ := get_ex (xs := rest_8) (i := Int.toNat more_4) (by omega)
                    have mx23 := get_mem hx23
                    have vx23 := nth_some hx23
                    have w4 : x23 = x19 := (by have z := nth_some hx23; rw [hrest_8, nth_setS, if_neg (fun z => s3 z.1)] at z; rw [← z]; exact w2)
                    refine r_oload m.sX hx23 (Nat.le_of_ble_eq_true rfl) ?_
                    conv => cbv
                    refine r_subf m.sX (by omega) (by omega) fun r16 hr16 => ?_
                    conv => cbv
                    refine r_oindex m.sX (by omega) (by omega) ?_
                    conv => cbv
                    obtain ⟨y6, hy6⟩ := get_ex (xs := rest_8) (i := Int.toNat more_4) (by omega)
                    refine r_ostore (l := Int.toNat more_4) r16 m.sX hy6 (Nat.le_of_ble_eq_true rfl) rfl fun rest_9 hrest_9 => ?_   -- rest_9 = rest_8.set more_4 r16
                    have lrest_9 : (rest_9.length : Int) = rest_8.length := by rw [hrest_9]; first | done | (simp; done) | (simp; omega)
                    have pn := posS_nn rest_9
                    try dsimp only at pn
                    obtain ⟨sn1, sn2⟩ := slipS_next S en ek (by omega) hx18 hx19 en2 hx20 hx21 (show rest_9 = _ by rw [hrest_9, hrest_8, hr15, hr16, w4])
                    dsimp only at sn1
                    rw [← hout_4] at sn1
                    conv => cbv
                    refine hE _ (rest_9, out_4, less_2, more_4) ?_ ?_ ⟨(by (try dsimp only) <;> first | omega | rfl | (simp [*]; done) | (rw [ip]; simp [*]; done)), (by (try dsimp only) <;> first | omega | rfl | (simp [*]; done) | (rw [kp]; simp [*]; done)), (by (try dsimp only) <;> (exact sn1))⟩ (by first | omega | (dsimp only; omega))
                    · cbv
                    · cbv
              · have ek : posI rest_3 more.toNat = more_4.toNat := by rw [e2, posI_end (by omega)]
                refine hF2 _ _ ?_
                conv => cbv
                refine r_lenR m.sX fun n9 hn9 mn9 => ?_
                conv => cbv
                refine r_eql m.sX (fun h14 => ?_) (fun h14 => ?_) <;> conv => cbv
                · have se := slipS_end S en (by omega)
                  try dsimp only at se
                  refine hF _ _ ?_
                  conv => cbv
                  exact hQ (.tup [.fr 88 3 (rows cMisput out), .bool true]) (Eq.trans (by first | rfl | (simp only [lb, lbI, rows_cons, rows_nil, unnilT, unnil, unnilTI, unnilI]; done) | (simp only [lb, lbI, rows_cons, rows_nil, unnilT, unnil, unnilTI, unnilI]; rfl)) (congrArg ((lb 88 3 cMisput)) (show (out, true) = findAns a b from by first | exact findAns_yes h1 (by rw [ds]; omega) se (by omega) | exact findAns_long (slipS_long S (by omega)) | exact findAns_sum (by rw [ds]; omega) | exact findAns_no h1)))   -- leaf 5
                · obtain ⟨s1, s2, s3, s4⟩ := slipS_pos S en ek (by omega)
                  refine r_draw m (by kernel_rfl) ?_
                  conv => cbv
                  refine r_oindex m.sY (by omega) (by omega) ?_
                  conv => cbv
                  obtain ⟨x24, hx24⟩ := get_ex (xs := rest_3) (i := Int.toNat less_2) (by omega)
                  have mx24 := get_mem hx24
                  have vx24 := nth_some hx24
                  have vb1 := slip_val S hx24
                  try dsimp only at vb1
                  have w1 := nth_some hx24
                  try dsimp only at w1
                  refine r_oload m.sY hx24 (Nat.le_of_ble_eq_true rfl) ?_
                  conv => cbv
                  refine r_neg m.sY fun r17 hr17 => ?_   -- r17 = wrap (-x24)
                  have er : r17 = -x24 := (by rw [hr17]; exact wrap64 (by omega) (by omega))
                  conv => cbv
                  refine r_oindex m.sY (by omega) (by omega) ?_
                  conv => cbv
                  obtain ⟨x25, hx25⟩ := get_ex (xs := rest_3) (i := Int.toNat more_4) (by omega)
                  have mx25 := get_mem hx25
                  have vx25 := nth_some hx25
                  have vb2 := slip_val S hx25
                  try dsimp only at vb2
                  have w2 := nth_some hx25
                  try dsimp only at w2
                  refine r_oload m.sY hx25 (Nat.le_of_ble_eq_true rfl) ?_
                  conv => cbv
                  refine r_callFS (PV.int .i64) m.sY (l1Least_ok r17 x25) trivial fun r18 hr18 => ?_
                  conv => cbv
                  try dsimp only at hr18
                  refine r_callFS (PV.int .i64) m.sY (l1Least_ok 99 r18) trivial fun n_4 hn_4 => ?_
                  conv => cbv
                  try dsimp only at hn_4
                  have en2 : n_4 = min (min (-x24) x25) 99 := (by rw [hn_4, hr18, er]; omega)
                  refine r_draw m (by kernel_rfl) ?_
                  conv => cbv
                  refine r_index m.sY (by omega) (by omega) fun v hx26A => ?_
                  obtain ⟨x26A, x26B, x26C, x26D⟩ := v
                  conv => cbv
                  have hx26 := hx26A
                  have mx26 := get_mem hx26
                  refine r_index m.sY (by omega) (by omega) fun v hx27A => ?_
                  obtain ⟨x27A, x27B, x27C, x27D⟩ := v
                  conv => cbv
                  have hx27 := hx27A
                  have mx27 := get_mem hx27
                  refine r_append1 ((x26A, x27A, n_4)) m.sY rfl (by first | omega | (dsimp only; omega)) (by first | omega | (dsimp only; omega)) fun out_5 hout_5 => ?_
                  conv => cbv
                  have lout_5 : (out_5.length : Int) = out.length + 1 := by rw [hout_5]; first | done | (simp; done) | (simp; omega)
                  refine r_oindex m.sX (by omega) (by omega) ?_
                  conv => cbv
                  obtain ⟨x28, hx28⟩ := get_ex (xs := rest_3) (i := Int.toNat less_2) (by omega)
                  have mx28 := get_mem hx28
                  have vx28 := nth_some hx28
                  obtain rfl : x24 = x28 := Option.some.inj (hx24.symm.trans hx28)
                  refine r_oload m.sX hx28 (Nat.le_of_ble_eq_true rfl) ?_
                  conv => cbv
                  refine r_addf m.sX (by omega) (by omega) fun r19 hr19 => ?_
                  conv => cbv
                  refine r_oindex m.sX (by omega) (by omega) ?_
                  conv => cbv
                  obtain ⟨y7, hy7⟩ := get_ex (xs := rest_3) (i := Int.toNat less_2) (by omega)
                  refine r_ostore (l := Int.toNat less_2) r19 m.sX hy7 (Nat.le_of_ble_eq_true rfl) rfl fun rest_10 hrest_10 => ?_   -- rest_10 = rest_3.set less_2 r19
                  have lrest_10 : (rest_10.length : Int) = rest_3.length := by rw [hrest_10]; first | done | (simp; done) | (simp; omega)
                  conv => cbv
                  refine r_oindex m.sX (by omega) (by omega) ?_
                  conv => cbv
                  obtain ⟨x29, hx29⟩ := get_ex (xs := rest_10) (i := Int.toNat more_4) (by omega)
                  have mx29 := get_mem hx29
                  have vx29 := nth_some hx29
                  have w4 : x29 = x25 := (by have z := nth_some hx29; rw [hrest_10, nth_setS, if_neg (fun z => s3 z.1)] at z; rw [← z]; exact w2)
                  refine r_oload m.sX hx29 (Nat.le_of_ble_eq_true rfl) ?_
                  conv => cbv
                  refine r_subf m.sX (by omega) (by omega) fun r20 hr20 => ?_
                  conv => cbv
                  refine r_oindex m.sX (by omega) (by omega) ?_
                  conv => cbv
                  obtain ⟨y8, hy8⟩ := get_ex (xs := rest_10) (i := Int.toNat more_4) (by omega)
                  refine r_ostore (l := Int.toNat more_4) r20 m.sX hy8 (Nat.le_of_ble_eq_true rfl) rfl fun rest_11 hrest_11 => ?_   -- rest_11 = rest_10.set more_4 r20
                  have lrest_11 : (rest_11.length : Int) = rest_10.length := by rw [hrest_11]; first | done | (simp; done) | (simp; omega)
                  have pn := posS_nn rest_11
                  try dsimp only at pn
                  obtain ⟨sn1, sn2⟩ := slipS_next S en ek (by omega) hx24 hx25 en2 hx26 hx27 (show rest_11 = _ by rw [hrest_11, hrest_10, hr19, hr20, w4])
                  dsimp only at sn1
                  rw [← hout_5] at sn1
                  conv => cbv
                  refine hE _ (rest_11, out_5, less_2, more_4) ?_ ?_ ⟨(by (try dsimp only) <;> first | omega | rfl | (simp [*]; done) | (rw [ip]; simp [*]; done)), (by (try dsimp only) <;> first | omega | rfl | (simp [*]; done) | (rw [kp]; simp [*]; done)), (by (try dsimp only) <;> (exact sn1))⟩ (by first | omega | (dsimp only; omega))
                  · cbv
                  · cbv
          · refine hF _ _ ?_
            conv => cbv
            exact hQ (.tup [.nil, .bool false]) (Eq.trans (by first | rfl | (simp only [lb, lbI, rows_cons, rows_nil, unnilT, unnil, unnilTI, unnilI]; done) | (simp only [lb, lbI, rows_cons, rows_nil, unnilT, unnil, unnilTI, unnilI]; rfl)) (congrArg ((lb 88 3 cMisput)) (show ([], false) = findAns a b from by first | exact findAns_yes h1 (by rw [ds]; omega) se (by omega) | exact findAns_long (slipS_long S (by omega)) | exact findAns_sum (by rw [ds]; omega) | exact findAns_no h1)))   -- leaf 6
    · exact hQ (.tup [.nil, .bool false]) (Eq.trans (by first | rfl | (simp only [lb, lbI, rows_cons, rows_nil, unnilT, unnil, unnilTI, unnilI]; done) | (simp only [lb, lbI, rows_cons, rows_nil, unnilT, unnil, unnilTI, unnilI]; rfl)) (congrArg ((lb 88 3 cMisput)) (show ([], false) = findAns a b from by first | exact findAns_yes h1 (by rw [ds]; omega) se (by omega) | exact findAns_long (slipS_long S (by omega)) | exact findAns_sum (by rw [ds]; omega) | exact findAns_no h1))))   -- leaf 7

end Go.Proofs.Ytmlojdpfpccgoaa.Ai
