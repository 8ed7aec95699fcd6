/- Contracts of the functions on best breaks: the breaks (printed by mk39c.py). -/
import Derived.Test.YtiaodmfipeoegaaParag2
namespace Go.Proofs.Ytiaodmfipeoegaa.Ai
open Go Go.Proofs
set_option linter.unusedSimpArgs false
set_option maxRecDepth 10000
set_option maxHeartbeats 4000000
set_option linter.unusedVariables false
def bestF (ws : List Int) (r : JRule) (m k : Int) : List Int × Int × Bool := if 0 ≤ pC ws r m k 0 then (pB ws r m k 0, pC ws r m k 0, true) else ([], 0, false)
theorem bestBreaks_ok (words : List Int) (r : JRule) (measure : Int) (lines : Int) (hp : Pin words r measure) (hk : lines = -1 ∨ (1 ≤ lines ∧ lines ≤ 24)) : OkA Try.prog 102 [.isl 1 (rows cInt words), .agg (cRule r), .int .i64 measure, .int .i64 lines] (· = (lic 3 1 cInt) (bestF words r measure lines)) := by
  obtain ⟨rA, rB, rC⟩ := r
  try dsimp only at *
  exact OkA.unnil 3 1 (fn_intro envOk fieldsOk mixed Try.func102 rfl fun κ X Y L Q m hQ => by
    have sp := okPara_spec hp.para
    try dsimp only at sp
    have z4 := hp.rule; have z5 := hp.meas
    try dsimp only at z4
    conv => cbv
    refine r_callF (fun l => PV.isl _ (rows _ l)) m.sX (leastCostsI_ok words (rA, rB, rC) measure lines (by assumption) (by omega)) fun table htable => ?_
    conv => cbv
    try dsimp only at htable
    have tl0 : table.length = words.length := by rw [htable, tabC_length]
    refine r_index m.sX (by omega) (by omega) fun cost hcost => ?_
    conv => cbv
    have mcost := get_mem hcost
    have vcost := nth_some hcost
    have c0 : cost = pC words (rA, rB, rC) measure lines 0 := tabC_at (by rw [← htable]; exact hcost)
    refine r_lss m.sX (fun h1 => ?_) (fun h1 => ?_) <;> conv => cbv
    · exact hQ (.tup [.fr 3 1 [], .int .i64 0, .bool false]) (Eq.trans (by first | rfl | (simp only [lic, licI, lb, lbI, rows_cons, rows_nil, unnilT, unnil, unnilTI, unnilI]; try rfl)) (congrArg ((lic 3 1 cInt)) (show ([], 0, false) = bestF words (rA, rB, rC) measure lines from by rw [bestF, if_neg (by rw [← c0]; omega)])))
    · refine r_loopF (α := Int × List Int × List Int × Int × Int) m 110 [0, 2, 3, 11, 13, 14, 15] [⟨5, 41, 0, 0, 0⟩, ⟨12, 97, 3, 1, 0⟩] (fun σ => [(0, .isl 1 (rows cInt words)), (2, .int .i64 measure), (3, .int .i64 σ.1), (5, .optr 41 0 3 0 0), (11, .isl 1 (rows cInt σ.2.1)), (12, .osl 97 0), (13, .int .i64 cost), (14, .int .i64 σ.2.2.2.1), (15, .int .i64 σ.2.2.2.2)]) (fun σ => [(41, 0, .box [.int .i64 rA, .int .i64 rB, .int .i64 rC]), (97, 0, .row 3 1 (rows cInt σ.2.2.1))])
        (fun σ => BBI words (rA, rB, rC) measure lines σ.1 σ.2.1 σ.2.2.1 σ.2.2.2.1 σ.2.2.2.2) (fun σ => ((words.length : Int) - σ.2.2.2.1).toNat) (lines, table, [], 0, cost) ?_ ?_ ?_ ?_
      · cbv
      · (try dsimp only); (try simp only [rows_cons, rows_nil]); cbv
      · exact (by (try dsimp only) <;> (exact ⟨hk, htable, ⟨by omega, by omega⟩, ⟨c0, by omega⟩, rfl, by simp⟩))
      rintro ⟨lines_2, table_2, breaks, from_, left⟩ bb E hE F hF
      dsimp only at bb
      have kk := bb.kk; have fbb := bb.fb; have lf := bb.lf; have bbl := bb.bl; have btq := bb.tb
      try dsimp only at kk
      have btl : table_2.length = words.length := by rw [btq, tabC_length]
      conv => cbv
      refine r_draw m (by kernel_rfl) ?_
      conv => cbv
      refine r_gtr m.sY (fun h2 => ?_) (fun h2 => ?_) <;> conv => cbv
      · refine r_gtrT m.sX (by omega) ?_
        conv => cbv
        refine r_subf m.sX (by omega) (by omega) fun lines_3 hlines_3 => ?_
        conv => cbv
        refine r_callF (fun l => PV.isl _ (rows _ l)) m.sX (leastCostsI_ok words (rA, rB, rC) measure lines_3 (by assumption) (by omega)) fun next hnext => ?_
        conv => cbv
        try dsimp only at hnext
        refine r_addf m.sX (by omega) (by omega) fun to_ hto_ => ?_
        conv => cbv
        have he : isEnd (paE words (rA, rB, rC) measure) lines_2 from_.toNat = false := end_many (by omega)
        have bs0 : BS words (rA, rB, rC) measure lines_2 from_ to_ := BS.start bb he (by omega) hto_
        have kq : lines_3 = nxM lines_2 := by unfold nxM; rw [if_pos (by omega)]; omega
        have nq : next = tabC words (rA, rB, rC) measure (nxM lines_2) := by rw [hnext, kq]
        have nxl : next.length = words.length := by rw [nq, tabC_length]
        refine r_loopF (α := List Int × Int × Int × Int) m 110 [0, 2, 3, 13, 14, 15, 16, 17] [⟨5, 41, 0, 0, 0⟩, ⟨12, 97, 3, 1, 0⟩] (fun σ => [(0, .isl 1 (rows cInt words)), (2, .int .i64 measure), (3, .int .i64 lines_3), (5, .optr 41 0 3 0 0), (12, .osl 97 0), (13, .int .i64 cost), (14, .int .i64 σ.2.1), (15, .int .i64 σ.2.2.1), (16, .isl 1 (rows cInt next)), (17, .int .i64 σ.2.2.2)]) (fun σ => [(41, 0, .box [.int .i64 rA, .int .i64 rB, .int .i64 rC]), (97, 0, .row 3 1 (rows cInt σ.1))])
          (fun σ => (BS words (rA, rB, rC) measure lines_2 from_ σ.2.2.2) ∧ (σ.1 = breaks ∧ σ.2.1 = from_ ∧ σ.2.2.1 = left)) (fun σ => ((words.length : Int) - σ.2.2.2).toNat) (breaks, from_, left, to_) ?_ ?_ ?_ ?_
        · cbv
        · cbv
        · exact ⟨(by (try dsimp only) <;> (exact bs0)), (by (try dsimp only) <;> (exact ⟨rfl, rfl, rfl⟩))⟩
        rintro ⟨breaks_2, from__2, left_2, to__2⟩ ⟨bs, eqs⟩ E2 hE2 F2 hF2
        dsimp only at bs eqs
        have e1 := eqs.1; have e2 := eqs.2.1; have e3 := eqs.2.2; have tbs := bs.tb; have lvs := bs.live
        try dsimp only at e1
        have bl2 : breaks_2.length = breaks.length := by rw [e1]
        conv => cbv
        refine r_lenR m.sX fun n1 hn1 mn1 => ?_
        conv => cbv
        refine r_lss m.sX (fun h4 => ?_) (fun h4 => ?_) <;> conv => cbv
        · refine r_draw m (by kernel_rfl) ?_
          conv => cbv
          refine r_islice (i := from__2) (j := to__2) m.sY (by omega) (by omega) (by omega) fun zs1 hzs1 => ?_
          have lzs1 : (zs1.length : Int) = to__2 - from__2 := by rw [hzs1]; first | done | (simp; done) | (simp; omega)
          obtain ⟨z1, z2, z3⟩ := hp.cut (i := from__2.toNat) (j := to__2.toNat) (by omega) (by omega) hzs1
          conv => cbv
          refine r_callFS ib m.sY (lineCost_ok zs1 (rA, rB, rC) measure (by first | rfl | assumption | omega | (simp at *; omega)) (by first | rfl | assumption | omega | (simp at *; omega)) (by first | rfl | assumption | omega | (simp at *; omega)) (by first | rfl | assumption | omega | (simp at *; omega))) (by first | trivial | exact noFr_tup2 trivial trivial | exact noFr_tup3 trivial trivial trivial) fun v hn => ?_
          obtain ⟨n, ok⟩ := v
          conv => cbv
          try dsimp only at hn
          have lp := lineA_paL z3 hn
          try dsimp only at lp
          have cl := cost_le z1 z2.1 z4 z5 hn
          try dsimp only at cl
          rw [e2] at lp
          rcases Bool.eq_false_or_eq_true ok with rfl | rfl <;> conv => cbv
          · rw [if_pos rfl] at lp
            refine r_index m.sX (by omega) (by omega) fun x1 hx1 => ?_
            conv => cbv
            have mx1 := get_mem hx1
            have vx1 := nth_some hx1
            have w1 : x1 = pC words (rA, rB, rC) measure (nxM lines_2) to__2.toNat := tabC_at (by rw [← nq]; exact hx1)
            have wb := pC_in hp (nxM lines_2) (i := to__2.toNat) (by omega)
            try dsimp only at wb
            rw [← w1] at wb
            refine r_geq m.sX (fun h5 => ?_) (fun h5 => ?_) <;> conv => cbv
            · refine r_index m.sX (by omega) (by omega) fun x2 hx2 => ?_
              conv => cbv
              have mx2 := get_mem hx2
              have vx2 := nth_some hx2
              obtain rfl : x1 = x2 := Option.some.inj (hx1.symm.trans hx2)
              refine r_addf m.sX (by omega) (by omega) fun r1 hr1 => ?_
              conv => cbv
              refine r_eql m.sX (fun h6 => ?_) (fun h6 => ?_) <;> conv => cbv
              · refine r_append1 (to__2) m.sX rfl (by first | omega | (dsimp only; omega)) (by first | omega | (dsimp only; omega)) fun breaks_3 hbreaks_3 => ?_
                conv => cbv
                have lbreaks_3 : (breaks_3.length : Int) = breaks_2.length + 1 := by rw [hbreaks_3]; first | done | (simp; done) | (simp; omega)
                refine r_draw m (by kernel_rfl) ?_
                conv => cbv
                refine r_index m.sY (by omega) (by omega) fun left_3 hleft_3 => ?_
                conv => cbv
                have mleft_3 := get_mem hleft_3
                have vleft_3 := nth_some hleft_3
                obtain rfl : x1 = left_3 := Option.some.inj (hx1.symm.trans hleft_3)
                refine hF2 _ _ ?_
                conv => cbv
                refine hE _ (lines_3, next, breaks_3, to__2, x1) ?_ ?_ (by (try dsimp only) <;> (first | exact bb.step bs lp w1 (by omega) (by omega) (by omega) kq nq (by rw [hbreaks_3, e1]) | exact bb.step bs lp w1 (by omega) (by omega) (by omega) kq nq (by rw [hbreaks_5, e1]) | exact bb.step bs lp w1 (by omega) (by omega) (by omega) kq nq (by rw [hbreaks_7, e1]) | exact bb.step bs lp w1 (by omega) (by omega) (by omega) kq nq (by rw [hbreaks_9, e1]) | exact bb.step bs lp w1 (by omega) (by omega) (by omega) kq nq (by rw [hbreaks_11, e1]) | exact bb.step bs lp w1 (by omega) (by omega) (by omega) kq nq (by rw [hbreaks_13, e1]) | (exfalso; omega))) (by first | omega | (dsimp only; omega))
                · cbv
                · cbv
              · refine r_addf m.sX (by omega) (by omega) fun to__3 hto__3 => ?_
                conv => cbv
                refine hE2 _ (breaks_2, from__2, left_2, to__3) ?_ ?_ ⟨(by (try dsimp only) <;> (first | exact bs.other hto__3 lp w1 lf.1 (.inr (by omega)) | exact bs.other hto__4 lp w1 lf.1 (.inl (by omega)) | exact bs.none hto__5 lp)), (by (try dsimp only) <;> (exact eqs))⟩ (by first | omega | (dsimp only; omega))
                · cbv
                · cbv
            · refine r_addf m.sX (by omega) (by omega) fun to__4 hto__4 => ?_
              conv => cbv
              refine hE2 _ (breaks_2, from__2, left_2, to__4) ?_ ?_ ⟨(by (try dsimp only) <;> (first | exact bs.other hto__3 lp w1 lf.1 (.inr (by omega)) | exact bs.other hto__4 lp w1 lf.1 (.inl (by omega)) | exact bs.none hto__5 lp)), (by (try dsimp only) <;> (exact eqs))⟩ (by first | omega | (dsimp only; omega))
              · cbv
              · cbv
          · rw [if_neg (by simp)] at lp
            refine r_addf m.sX (by omega) (by omega) fun to__5 hto__5 => ?_
            conv => cbv
            refine hE2 _ (breaks_2, from__2, left_2, to__5) ?_ ?_ ⟨(by (try dsimp only) <;> (first | exact bs.other hto__3 lp w1 lf.1 (.inr (by omega)) | exact bs.other hto__4 lp w1 lf.1 (.inl (by omega)) | exact bs.none hto__5 lp)), (by (try dsimp only) <;> (exact eqs))⟩ (by first | omega | (dsimp only; omega))
            · cbv
            · cbv
        · refine hF2 _ _ ?_
          conv => cbv
          refine hE _ (lines_3, next, breaks_2, from__2, left_2) ?_ ?_ (by (try dsimp only) <;> (first | exact bb.step bs lp w1 (by omega) (by omega) (by omega) kq nq (by rw [hbreaks_3, e1]) | exact bb.step bs lp w1 (by omega) (by omega) (by omega) kq nq (by rw [hbreaks_5, e1]) | exact bb.step bs lp w1 (by omega) (by omega) (by omega) kq nq (by rw [hbreaks_7, e1]) | exact bb.step bs lp w1 (by omega) (by omega) (by omega) kq nq (by rw [hbreaks_9, e1]) | exact bb.step bs lp w1 (by omega) (by omega) (by omega) kq nq (by rw [hbreaks_11, e1]) | exact bb.step bs lp w1 (by omega) (by omega) (by omega) kq nq (by rw [hbreaks_13, e1]) | (exfalso; omega))) (by first | omega | (dsimp only; omega))
          · cbv
          · cbv
      · refine r_lss m.sY (fun h10 => ?_) (fun h10 => ?_) <;> conv => cbv
        · refine r_gtr m.sY (fun h11 => ?_) (fun h11 => ?_) <;> conv => cbv
          · refine r_gtrF m.sX (by omega) ?_
            conv => cbv
            refine r_addf m.sX (by omega) (by omega) fun to__16 hto__16 => ?_
            conv => cbv
            have he : isEnd (paE words (rA, rB, rC) measure) lines_2 from_.toNat = false := end_left (by omega) (by rw [← lf.1]; omega)
            have bs0 : BS words (rA, rB, rC) measure lines_2 from_ to__16 := BS.start bb he (by omega) hto__16
            have kq : lines_2 = nxM lines_2 := by unfold nxM; rw [if_neg (by omega)]
            have nq : table_2 = tabC words (rA, rB, rC) measure (nxM lines_2) := by rw [← kq]; exact btq
            have nxl : table_2.length = words.length := by rw [nq, tabC_length]
            refine r_loopF (α := List Int × Int × Int × Int) m 110 [0, 2, 3, 13, 14, 15, 16, 17] [⟨5, 41, 0, 0, 0⟩, ⟨12, 97, 3, 1, 0⟩] (fun σ => [(0, .isl 1 (rows cInt words)), (2, .int .i64 measure), (3, .int .i64 lines_2), (5, .optr 41 0 3 0 0), (12, .osl 97 0), (13, .int .i64 cost), (14, .int .i64 σ.2.1), (15, .int .i64 σ.2.2.1), (16, .isl 1 (rows cInt table_2)), (17, .int .i64 σ.2.2.2)]) (fun σ => [(41, 0, .box [.int .i64 rA, .int .i64 rB, .int .i64 rC]), (97, 0, .row 3 1 (rows cInt σ.1))])
              (fun σ => (BS words (rA, rB, rC) measure lines_2 from_ σ.2.2.2) ∧ (σ.1 = breaks ∧ σ.2.1 = from_ ∧ σ.2.2.1 = left)) (fun σ => ((words.length : Int) - σ.2.2.2).toNat) (breaks, from_, left, to__16) ?_ ?_ ?_ ?_
            · cbv
            · cbv
            · exact ⟨(by (try dsimp only) <;> (exact bs0)), (by (try dsimp only) <;> (exact ⟨rfl, rfl, rfl⟩))⟩
            rintro ⟨breaks_8, from__5, left_8, to__17⟩ ⟨bs, eqs⟩ E2 hE2 F2 hF2
            dsimp only at bs eqs
            have e1 := eqs.1; have e2 := eqs.2.1; have e3 := eqs.2.2; have tbs := bs.tb; have lvs := bs.live
            try dsimp only at e1
            have bl2 : breaks_8.length = breaks.length := by rw [e1]
            conv => cbv
            refine r_lenR m.sX fun n4 hn4 mn4 => ?_
            conv => cbv
            refine r_lss m.sX (fun h16 => ?_) (fun h16 => ?_) <;> conv => cbv
            · refine r_draw m (by kernel_rfl) ?_
              conv => cbv
              refine r_islice (i := from__5) (j := to__17) m.sY (by omega) (by omega) (by omega) fun zs4 hzs4 => ?_
              have lzs4 : (zs4.length : Int) = to__17 - from__5 := by rw [hzs4]; first | done | (simp; done) | (simp; omega)
              obtain ⟨z1, z2, z3⟩ := hp.cut (i := from__5.toNat) (j := to__17.toNat) (by omega) (by omega) hzs4
              conv => cbv
              refine r_callFS ib m.sY (lineCost_ok zs4 (rA, rB, rC) measure (by first | rfl | assumption | omega | (simp at *; omega)) (by first | rfl | assumption | omega | (simp at *; omega)) (by first | rfl | assumption | omega | (simp at *; omega)) (by first | rfl | assumption | omega | (simp at *; omega))) (by first | trivial | exact noFr_tup2 trivial trivial | exact noFr_tup3 trivial trivial trivial) fun v hn_4 => ?_
              obtain ⟨n_4, ok_4⟩ := v
              conv => cbv
              try dsimp only at hn_4
              have lp := lineA_paL z3 hn_4
              try dsimp only at lp
              have cl := cost_le z1 z2.1 z4 z5 hn_4
              try dsimp only at cl
              rw [e2] at lp
              rcases Bool.eq_false_or_eq_true ok_4 with rfl | rfl <;> conv => cbv
              · rw [if_pos rfl] at lp
                refine r_index m.sX (by omega) (by omega) fun x7 hx7 => ?_
                conv => cbv
                have mx7 := get_mem hx7
                have vx7 := nth_some hx7
                have w1 : x7 = pC words (rA, rB, rC) measure (nxM lines_2) to__17.toNat := tabC_at (by rw [← nq]; exact hx7)
                have wb := pC_in hp (nxM lines_2) (i := to__17.toNat) (by omega)
                try dsimp only at wb
                rw [← w1] at wb
                refine r_geq m.sX (fun h17 => ?_) (fun h17 => ?_) <;> conv => cbv
                · refine r_index m.sX (by omega) (by omega) fun x8 hx8 => ?_
                  conv => cbv
                  have mx8 := get_mem hx8
                  have vx8 := nth_some hx8
                  obtain rfl : x7 = x8 := Option.some.inj (hx7.symm.trans hx8)
                  refine r_addf m.sX (by omega) (by omega) fun r4 hr4 => ?_
                  conv => cbv
                  refine r_eql m.sX (fun h18 => ?_) (fun h18 => ?_) <;> conv => cbv
                  · refine r_append1 (to__17) m.sX rfl (by first | omega | (dsimp only; omega)) (by first | omega | (dsimp only; omega)) fun breaks_9 hbreaks_9 => ?_
                    conv => cbv
                    have lbreaks_9 : (breaks_9.length : Int) = breaks_8.length + 1 := by rw [hbreaks_9]; first | done | (simp; done) | (simp; omega)
                    refine r_draw m (by kernel_rfl) ?_
                    conv => cbv
                    refine r_index m.sY (by omega) (by omega) fun left_9 hleft_9 => ?_
                    conv => cbv
                    have mleft_9 := get_mem hleft_9
                    have vleft_9 := nth_some hleft_9
                    obtain rfl : x7 = left_9 := Option.some.inj (hx7.symm.trans hleft_9)
                    refine hF2 _ _ ?_
                    conv => cbv
                    refine hE _ (lines_2, table_2, breaks_9, to__17, x7) ?_ ?_ (by (try dsimp only) <;> (first | exact bb.step bs lp w1 (by omega) (by omega) (by omega) kq nq (by rw [hbreaks_3, e1]) | exact bb.step bs lp w1 (by omega) (by omega) (by omega) kq nq (by rw [hbreaks_5, e1]) | exact bb.step bs lp w1 (by omega) (by omega) (by omega) kq nq (by rw [hbreaks_7, e1]) | exact bb.step bs lp w1 (by omega) (by omega) (by omega) kq nq (by rw [hbreaks_9, e1]) | exact bb.step bs lp w1 (by omega) (by omega) (by omega) kq nq (by rw [hbreaks_11, e1]) | exact bb.step bs lp w1 (by omega) (by omega) (by omega) kq nq (by rw [hbreaks_13, e1]) | (exfalso; omega))) (by first | omega | (dsimp only; omega))
                    · cbv
                    · cbv
                  · refine r_addf m.sX (by omega) (by omega) fun to__18 hto__18 => ?_
                    conv => cbv
                    refine hE2 _ (breaks_8, from__5, left_8, to__18) ?_ ?_ ⟨(by (try dsimp only) <;> (first | exact bs.other hto__18 lp w1 lf.1 (.inr (by omega)) | exact bs.other hto__19 lp w1 lf.1 (.inl (by omega)) | exact bs.none hto__20 lp)), (by (try dsimp only) <;> (exact eqs))⟩ (by first | omega | (dsimp only; omega))
                    · cbv
                    · cbv
                · refine r_addf m.sX (by omega) (by omega) fun to__19 hto__19 => ?_
                  conv => cbv
                  refine hE2 _ (breaks_8, from__5, left_8, to__19) ?_ ?_ ⟨(by (try dsimp only) <;> (first | exact bs.other hto__18 lp w1 lf.1 (.inr (by omega)) | exact bs.other hto__19 lp w1 lf.1 (.inl (by omega)) | exact bs.none hto__20 lp)), (by (try dsimp only) <;> (exact eqs))⟩ (by first | omega | (dsimp only; omega))
                  · cbv
                  · cbv
              · rw [if_neg (by simp)] at lp
                refine r_addf m.sX (by omega) (by omega) fun to__20 hto__20 => ?_
                conv => cbv
                refine hE2 _ (breaks_8, from__5, left_8, to__20) ?_ ?_ ⟨(by (try dsimp only) <;> (first | exact bs.other hto__18 lp w1 lf.1 (.inr (by omega)) | exact bs.other hto__19 lp w1 lf.1 (.inl (by omega)) | exact bs.none hto__20 lp)), (by (try dsimp only) <;> (exact eqs))⟩ (by first | omega | (dsimp only; omega))
                · cbv
                · cbv
            · refine hF2 _ _ ?_
              conv => cbv
              refine hE _ (lines_2, table_2, breaks_8, from__5, left_8) ?_ ?_ (by (try dsimp only) <;> (first | exact bb.step bs lp w1 (by omega) (by omega) (by omega) kq nq (by rw [hbreaks_3, e1]) | exact bb.step bs lp w1 (by omega) (by omega) (by omega) kq nq (by rw [hbreaks_5, e1]) | exact bb.step bs lp w1 (by omega) (by omega) (by omega) kq nq (by rw [hbreaks_7, e1]) | exact bb.step bs lp w1 (by omega) (by omega) (by omega) kq nq (by rw [hbreaks_9, e1]) | exact bb.step bs lp w1 (by omega) (by omega) (by omega) kq nq (by rw [hbreaks_11, e1]) | exact bb.step bs lp w1 (by omega) (by omega) (by omega) kq nq (by rw [hbreaks_13, e1]) | (exfalso; omega))) (by first | omega | (dsimp only; omega))
              · cbv
              · cbv
          · refine r_islice' (i := from_) m.sY (by omega) (by omega) fun zs5 hzs5 => ?_
            have lzs5 : (zs5.length : Int) = words.length - from_ := by rw [hzs5]; first | done | (simp; done) | (simp; omega)
            obtain ⟨yz1, yz2⟩ := hp.tail (i := from_.toNat) (by omega) hzs5
            conv => cbv
            refine r_callBS m.sY (canEnd_ok zs5 (rA, rB, rC) measure (by first | rfl | assumption | omega | (simp at *; omega)) (by first | rfl | assumption | omega | (simp at *; omega)) (by first | rfl | assumption | omega | (simp at *; omega))) (fun h19 => ?_) (fun h19 => ?_) <;> conv => cbv
            · refine hF _ _ ?_
              conv => cbv
              exact hQ (.tup [.fr 3 1 (rows cInt breaks), .int .i64 cost, .bool true]) (Eq.trans (by first | rfl | (simp only [lic, licI, lb, lbI, rows_cons, rows_nil, unnilT, unnil, unnilTI, unnilI]; try rfl)) (congrArg ((lic 3 1 cInt)) (show (breaks, cost, true) = bestF words (rA, rB, rC) measure lines from by have dn := bb.done (.inr (end_any (by omega) (by unfold paE; rw [← hzs5]; exact h19))); rw [bestF, if_pos (by rw [← c0]; omega), dn, c0])))
            · refine r_gtrF m.sX (by omega) ?_
              conv => cbv
              refine r_addf m.sX (by omega) (by omega) fun to__26 hto__26 => ?_
              conv => cbv
              have he : isEnd (paE words (rA, rB, rC) measure) lines_2 from_.toNat = false := end_any (by omega) (by unfold paE; rw [← hzs5]; exact h19)
              have bs0 : BS words (rA, rB, rC) measure lines_2 from_ to__26 := BS.start bb he (by omega) hto__26
              have kq : lines_2 = nxM lines_2 := by unfold nxM; rw [if_neg (by omega)]
              have nq : table_2 = tabC words (rA, rB, rC) measure (nxM lines_2) := by rw [← kq]; exact btq
              have nxl : table_2.length = words.length := by rw [nq, tabC_length]
              refine r_loopF (α := List Int × Int × Int × Int) m 110 [0, 2, 3, 13, 14, 15, 16, 17] [⟨5, 41, 0, 0, 0⟩, ⟨12, 97, 3, 1, 0⟩] (fun σ => [(0, .isl 1 (rows cInt words)), (2, .int .i64 measure), (3, .int .i64 lines_2), (5, .optr 41 0 3 0 0), (12, .osl 97 0), (13, .int .i64 cost), (14, .int .i64 σ.2.1), (15, .int .i64 σ.2.2.1), (16, .isl 1 (rows cInt table_2)), (17, .int .i64 σ.2.2.2)]) (fun σ => [(41, 0, .box [.int .i64 rA, .int .i64 rB, .int .i64 rC]), (97, 0, .row 3 1 (rows cInt σ.1))])
                (fun σ => (BS words (rA, rB, rC) measure lines_2 from_ σ.2.2.2) ∧ (σ.1 = breaks ∧ σ.2.1 = from_ ∧ σ.2.2.1 = left)) (fun σ => ((words.length : Int) - σ.2.2.2).toNat) (breaks, from_, left, to__26) ?_ ?_ ?_ ?_
              · cbv
              · cbv
              · exact ⟨(by (try dsimp only) <;> (exact bs0)), (by (try dsimp only) <;> (exact ⟨rfl, rfl, rfl⟩))⟩
              rintro ⟨breaks_12, from__7, left_12, to__27⟩ ⟨bs, eqs⟩ E2 hE2 F2 hF2
              dsimp only at bs eqs
              have e1 := eqs.1; have e2 := eqs.2.1; have e3 := eqs.2.2; have tbs := bs.tb; have lvs := bs.live
              try dsimp only at e1
              have bl2 : breaks_12.length = breaks.length := by rw [e1]
              conv => cbv
              refine r_lenR m.sX fun n6 hn6 mn6 => ?_
              conv => cbv
              refine r_lss m.sX (fun h24 => ?_) (fun h24 => ?_) <;> conv => cbv
              · refine r_draw m (by kernel_rfl) ?_
                conv => cbv
                refine r_islice (i := from__7) (j := to__27) m.sY (by omega) (by omega) (by omega) fun zs7 hzs7 => ?_
                have lzs7 : (zs7.length : Int) = to__27 - from__7 := by rw [hzs7]; first | done | (simp; done) | (simp; omega)
                obtain ⟨z1, z2, z3⟩ := hp.cut (i := from__7.toNat) (j := to__27.toNat) (by omega) (by omega) hzs7
                conv => cbv
                refine r_callFS ib m.sY (lineCost_ok zs7 (rA, rB, rC) measure (by first | rfl | assumption | omega | (simp at *; omega)) (by first | rfl | assumption | omega | (simp at *; omega)) (by first | rfl | assumption | omega | (simp at *; omega)) (by first | rfl | assumption | omega | (simp at *; omega))) (by first | trivial | exact noFr_tup2 trivial trivial | exact noFr_tup3 trivial trivial trivial) fun v hn_6 => ?_
                obtain ⟨n_6, ok_6⟩ := v
                conv => cbv
                try dsimp only at hn_6
                have lp := lineA_paL z3 hn_6
                try dsimp only at lp
                have cl := cost_le z1 z2.1 z4 z5 hn_6
                try dsimp only at cl
                rw [e2] at lp
                rcases Bool.eq_false_or_eq_true ok_6 with rfl | rfl <;> conv => cbv
                · rw [if_pos rfl] at lp
                  refine r_index m.sX (by omega) (by omega) fun x11 hx11 => ?_
                  conv => cbv
                  have mx11 := get_mem hx11
                  have vx11 := nth_some hx11
                  have w1 : x11 = pC words (rA, rB, rC) measure (nxM lines_2) to__27.toNat := tabC_at (by rw [← nq]; exact hx11)
                  have wb := pC_in hp (nxM lines_2) (i := to__27.toNat) (by omega)
                  try dsimp only at wb
                  rw [← w1] at wb
                  refine r_geq m.sX (fun h25 => ?_) (fun h25 => ?_) <;> conv => cbv
                  · refine r_index m.sX (by omega) (by omega) fun x12 hx12 => ?_
                    conv => cbv
                    have mx12 := get_mem hx12
                    have vx12 := nth_some hx12
                    obtain rfl : x11 = x12 := Option.some.inj (hx11.symm.trans hx12)
                    refine r_addf m.sX (by omega) (by omega) fun r6 hr6 => ?_
                    conv => cbv
                    refine r_eql m.sX (fun h26 => ?_) (fun h26 => ?_) <;> conv => cbv
                    · refine r_append1 (to__27) m.sX rfl (by first | omega | (dsimp only; omega)) (by first | omega | (dsimp only; omega)) fun breaks_13 hbreaks_13 => ?_
                      conv => cbv
                      have lbreaks_13 : (breaks_13.length : Int) = breaks_12.length + 1 := by rw [hbreaks_13]; first | done | (simp; done) | (simp; omega)
                      refine r_draw m (by kernel_rfl) ?_
                      conv => cbv
                      refine r_index m.sY (by omega) (by omega) fun left_13 hleft_13 => ?_
                      conv => cbv
                      have mleft_13 := get_mem hleft_13
                      have vleft_13 := nth_some hleft_13
                      obtain rfl : x11 = left_13 := Option.some.inj (hx11.symm.trans hleft_13)
                      refine hF2 _ _ ?_
                      conv => cbv
                      refine hE _ (lines_2, table_2, breaks_13, to__27, x11) ?_ ?_ (by (try dsimp only) <;> (first | exact bb.step bs lp w1 (by omega) (by omega) (by omega) kq nq (by rw [hbreaks_3, e1]) | exact bb.step bs lp w1 (by omega) (by omega) (by omega) kq nq (by rw [hbreaks_5, e1]) | exact bb.step bs lp w1 (by omega) (by omega) (by omega) kq nq (by rw [hbreaks_7, e1]) | exact bb.step bs lp w1 (by omega) (by omega) (by omega) kq nq (by rw [hbreaks_9, e1]) | exact bb.step bs lp w1 (by omega) (by omega) (by omega) kq nq (by rw [hbreaks_11, e1]) | exact bb.step bs lp w1 (by omega) (by omega) (by omega) kq nq (by rw [hbreaks_13, e1]) | (exfalso; omega))) (by first | omega | (dsimp only; omega))
                      · cbv
                      · cbv
                    · refine r_addf m.sX (by omega) (by omega) fun to__28 hto__28 => ?_
                      conv => cbv
                      refine hE2 _ (breaks_12, from__7, left_12, to__28) ?_ ?_ ⟨(by (try dsimp only) <;> (first | exact bs.other hto__28 lp w1 lf.1 (.inr (by omega)) | exact bs.other hto__29 lp w1 lf.1 (.inl (by omega)) | exact bs.none hto__30 lp)), (by (try dsimp only) <;> (exact eqs))⟩ (by first | omega | (dsimp only; omega))
                      · cbv
                      · cbv
                  · refine r_addf m.sX (by omega) (by omega) fun to__29 hto__29 => ?_
                    conv => cbv
                    refine hE2 _ (breaks_12, from__7, left_12, to__29) ?_ ?_ ⟨(by (try dsimp only) <;> (first | exact bs.other hto__28 lp w1 lf.1 (.inr (by omega)) | exact bs.other hto__29 lp w1 lf.1 (.inl (by omega)) | exact bs.none hto__30 lp)), (by (try dsimp only) <;> (exact eqs))⟩ (by first | omega | (dsimp only; omega))
                    · cbv
                    · cbv
                · rw [if_neg (by simp)] at lp
                  refine r_addf m.sX (by omega) (by omega) fun to__30 hto__30 => ?_
                  conv => cbv
                  refine hE2 _ (breaks_12, from__7, left_12, to__30) ?_ ?_ ⟨(by (try dsimp only) <;> (first | exact bs.other hto__28 lp w1 lf.1 (.inr (by omega)) | exact bs.other hto__29 lp w1 lf.1 (.inl (by omega)) | exact bs.none hto__30 lp)), (by (try dsimp only) <;> (exact eqs))⟩ (by first | omega | (dsimp only; omega))
                  · cbv
                  · cbv
              · refine hF2 _ _ ?_
                conv => cbv
                refine hE _ (lines_2, table_2, breaks_12, from__7, left_12) ?_ ?_ (by (try dsimp only) <;> (first | exact bb.step bs lp w1 (by omega) (by omega) (by omega) kq nq (by rw [hbreaks_3, e1]) | exact bb.step bs lp w1 (by omega) (by omega) (by omega) kq nq (by rw [hbreaks_5, e1]) | exact bb.step bs lp w1 (by omega) (by omega) (by omega) kq nq (by rw [hbreaks_7, e1]) | exact bb.step bs lp w1 (by omega) (by omega) (by omega) kq nq (by rw [hbreaks_9, e1]) | exact bb.step bs lp w1 (by omega) (by omega) (by omega) kq nq (by rw [hbreaks_11, e1]) | exact bb.step bs lp w1 (by omega) (by omega) (by omega) kq nq (by rw [hbreaks_13, e1]) | (exfalso; omega))) (by first | omega | (dsimp only; omega))
                · cbv
                · cbv
        · refine hF _ _ ?_
          conv => cbv
          exact hQ (.tup [.fr 3 1 (rows cInt breaks), .int .i64 cost, .bool true]) (Eq.trans (by first | rfl | (simp only [lic, licI, lb, lbI, rows_cons, rows_nil, unnilT, unnil, unnilTI, unnilI]; try rfl)) (congrArg ((lic 3 1 cInt)) (show (breaks, cost, true) = bestF words (rA, rB, rC) measure lines from by have dn := bb.done (.inl (by omega)); rw [bestF, if_pos (by rw [← c0]; omega), dn, c0]))))

theorem best_eq {ws : List Int} {r : JRule} {m k : Int} (h : askP ws r m = true) : bestPA ws r m k = bestF ws r m k := by
  unfold bestPA bestF
  by_cases e : 0 ≤ pC ws r m k 0
  · rw [if_pos e, if_pos ⟨h, e⟩]
  · rw [if_neg e, if_neg (fun x => e x.2)]
theorem BestBreaks_ok (words : List Int) (r : JRule) (measure : Int)  : OkA Try.prog 49 [.isl 1 (rows cInt words), .agg (cRule r), .int .i64 measure] (· = (lic 3 1 cInt) (bestPA words r measure (-1))) := by
  obtain ⟨rA, rB, rC⟩ := r
  try dsimp only at *
  exact OkA.unnil 3 1 (fn_intro envOk fieldsOk mixed Try.func49 rfl fun κ X Y L Q m hQ => by
    conv => cbv
    refine r_callB m.sX (isSetParagraph_ok words (rA, rB, rC) measure) (fun h1 => ?_) (fun h1 => ?_) <;> conv => cbv
    · have hp := askP_in h1
      try dsimp only at hp
      refine r_callF (lic 3 1 cInt) m.sX (bestBreaks_ok words (rA, rB, rC) measure (-1) (by first | rfl | assumption | omega | (simp at *; omega)) (by first | rfl | assumption | omega | (simp at *; omega))) fun v hv1 => ?_
      obtain ⟨v1, v2, v3⟩ := v
      conv => cbv
      try dsimp only at hv1
      exact hQ (.tup [.fr 3 1 (rows cInt v1), .int .i64 v2, .bool v3]) (Eq.trans (by first | rfl | (simp only [lic, licI, lb, lbI, rows_cons, rows_nil, unnilT, unnil, unnilTI, unnilI]; try rfl)) (congrArg ((lic 3 1 cInt)) (show (v1, v2, v3) = bestPA words (rA, rB, rC) measure (-1) from by rw [best_eq h1]; exact hv1)))
    · exact hQ (.tup [.fr 3 1 [], .int .i64 0, .bool false]) (Eq.trans (by first | rfl | (simp only [lic, licI, lb, lbI, rows_cons, rows_nil, unnilT, unnil, unnilTI, unnilI]; try rfl)) (congrArg ((lic 3 1 cInt)) (show ([], 0, false) = bestPA words (rA, rB, rC) measure (-1) from by rw [bestPA, if_neg (by rw [h1]; simp)]))))

end Go.Proofs.Ytiaodmfipeoegaa.Ai
