/- Contracts of the functions on best breaks (printed by mk39.py). -/
import Derived.Test.YtiaodmfipeoegaaParagT
namespace Go.Proofs.Ytiaodmfipeoegaa.Ai
open Go Go.Proofs
set_option linter.unusedSimpArgs false
set_option maxRecDepth 10000
set_option maxHeartbeats 4000000
set_option linter.unusedVariables false
theorem leastCosts_body (words : List Int) (r : JRule) (measure : Int) (lines : Int) (hp : Pin words r measure) (hk : lines = -1 ∨ (1 ≤ lines ∧ lines ≤ 24)) (ih : 1 < lines → ∀ j, j = lines - 1 → OkA Try.prog 105 [.isl 1 (rows cInt words), .agg (cRule r), .int .i64 measure, .int .i64 j] (· = .fr 3 1 (rows cInt (tabC words r measure j)))) : OkA Try.prog 105 [.isl 1 (rows cInt words), .agg (cRule r), .int .i64 measure, .int .i64 lines] (· = .fr 3 1 (rows cInt (tabC words r measure lines))) := by
  obtain ⟨rA, rB, rC⟩ := r
  try dsimp only at *
  exact OkA.unnil 3 1 (fn_intro envOk fieldsOk mixed Try.func105 rfl fun κ X Y L Q m hQ => by
    have sp := okPara_spec hp.para
    try dsimp only at sp
    have z4 := hp.rule; have z5 := hp.meas
    try dsimp only at z4
    conv => cbv
    refine r_lenR m.sX fun n1 hn1 mn1 => ?_
    conv => cbv
    refine r_make cInt 0 m.sX rfl (by omega) (by omega) (by dsimp only; omega) (by omega) fun table htable => ?_
    have ltable : (table.length : Int) = n1 := by rw [htable]; first | done | (simp; done) | (simp; omega)
    have tq0 : table = tabL words (rA, rB, rC) measure lines 0 := by rw [htable, show Int.toNat n1 = words.length by omega]; exact tabL_zero
    conv => cbv
    refine r_lenR m.sX fun n2 hn2 mn2 => ?_
    conv => cbv
    refine r_loopF (α := List Int × Int) m 120 [0, 2, 3, 20, 21] [⟨5, 41, 0, 0, 0⟩, ⟨9, 73, 3, 1, 0⟩] (fun σ => [(0, .isl 1 (rows cInt words)), (2, .int .i64 measure), (3, .int .i64 lines), (5, .optr 41 0 3 0 0), (9, .osl 73 0), (20, .int .i64 n2), (21, .int .i64 σ.2)]) (fun σ => [(41, 0, .box [.int .i64 rA, .int .i64 rB, .int .i64 rC]), (73, 0, .row 3 1 (rows cInt σ.1))])
      (fun σ => (0 ≤ σ.2) ∧ (σ.2 ≤ n2) ∧ (σ.1 = tabL words (rA, rB, rC) measure lines σ.2.toNat)) (fun σ => (n2 - σ.2).toNat) (table, 0) ?_ ?_ ?_ ?_
    · cbv
    · cbv
    · exact ⟨(by (try dsimp only); first | omega | (simp; omega)), (by (try dsimp only); first | omega | (simp; omega)), (by (try dsimp only) <;> (exact tq0))⟩
    rintro ⟨table_2, i1⟩ ⟨lo1, hi1, q⟩ E hE F hF
    dsimp only at lo1 hi1 q
    conv => cbv
    refine r_lss m.sX (fun h1 => ?_) (fun h1 => ?_) <;> conv => cbv
    · have tl : table_2.length = words.length := by rw [q, tabL_length]
      refine r_oindex m.sX (by omega) (by omega) ?_
      conv => cbv
      obtain ⟨y1, hy1⟩ := get_ex (xs := table_2) (i := Int.toNat i1) (by omega)
      refine r_ostore (l := Int.toNat i1) (-1) m.sX hy1 (Nat.le_of_ble_eq_true rfl) rfl fun table_3 htable_3 => ?_
      have ltable_3 : (table_3.length : Int) = table_2.length := by rw [htable_3]; first | done | (simp; done) | (simp; omega)
      conv => cbv
      refine r_draw m (by kernel_rfl) ?_
      conv => cbv
      refine r_eql m.sY (fun h2 => ?_) (fun h2 => ?_) <;> conv => cbv
      · refine r_islice' (i := i1) m.sY (by omega) (by omega) fun zs1 hzs1 => ?_
        have lzs1 : (zs1.length : Int) = words.length - i1 := by rw [hzs1]; first | done | (simp; done) | (simp; omega)
        obtain ⟨yz1, yz2⟩ := hp.tail (i := i1.toNat) (by omega) hzs1
        conv => cbv
        refine r_callBS m.sY (canEnd_ok zs1 (rA, rB, rC) measure (by first | rfl | assumption | omega | (simp at *; omega)) (by first | rfl | assumption | omega | (simp at *; omega)) (by first | rfl | assumption | omega | (simp at *; omega))) (fun h3 => ?_) (fun h3 => ?_) <;> conv => cbv
        · refine r_oindex m.sX (by omega) (by omega) ?_
          conv => cbv
          obtain ⟨y2, hy2⟩ := get_ex (xs := table_3) (i := Int.toNat i1) (by omega)
          refine r_ostore (l := Int.toNat i1) 0 m.sX hy2 (Nat.le_of_ble_eq_true rfl) rfl fun table_4 htable_4 => ?_
          have ltable_4 : (table_4.length : Int) = table_3.length := by rw [htable_4]; first | done | (simp; done) | (simp; omega)
          conv => cbv
          refine r_addf m.sX (by omega) (by omega) fun r1 hr1 => ?_
          conv => cbv
          try have tr1 : Int.toNat r1 = Int.toNat i1 + 1 := by omega
          refine hE _ (table_4, r1) ?_ ?_ ⟨(by (try dsimp only); first | omega | (simp; omega)), (by (try dsimp only); first | omega | (simp; omega)), (by (try dsimp only) <;> (first | (rw [tr1, htable_4, htable_3, List.set_set, q]; exact tabL_step (pO_yes (by omega) (by unfold paE; rw [← hzs1]; exact h3))) | (rw [tr1, htable_3, q]; exact tabL_step (pO_no (.inl (by unfold paE; rw [← hzs1]; exact h3)))) | (rw [tr1, htable_5, htable_3, List.set_set, q]; exact tabL_step (pO_yes (by omega) (by unfold paE; rw [← hzs2]; exact h5))) | (rw [tr1, htable_3, q]; exact tabL_step (pO_no (.inl (by unfold paE; rw [← hzs2]; exact h5)))) | (rw [tr1, htable_3, q]; exact tabL_step (pO_no (.inr ⟨by omega, by omega⟩)))))⟩ (by first | omega | (dsimp only; omega))
          · cbv
          · cbv
        · refine r_addf m.sX (by omega) (by omega) fun r2 hr2 => ?_
          conv => cbv
          try have tr2 : Int.toNat r2 = Int.toNat i1 + 1 := by omega
          refine hE _ (table_3, r2) ?_ ?_ ⟨(by (try dsimp only); first | omega | (simp; omega)), (by (try dsimp only); first | omega | (simp; omega)), (by (try dsimp only) <;> (first | (rw [tr2, htable_4, htable_3, List.set_set, q]; exact tabL_step (pO_yes (by omega) (by unfold paE; rw [← hzs1]; exact h3))) | (rw [tr2, htable_3, q]; exact tabL_step (pO_no (.inl (by unfold paE; rw [← hzs1]; exact h3)))) | (rw [tr2, htable_5, htable_3, List.set_set, q]; exact tabL_step (pO_yes (by omega) (by unfold paE; rw [← hzs2]; exact h5))) | (rw [tr2, htable_3, q]; exact tabL_step (pO_no (.inl (by unfold paE; rw [← hzs2]; exact h5)))) | (rw [tr2, htable_3, q]; exact tabL_step (pO_no (.inr ⟨by omega, by omega⟩)))))⟩ (by first | omega | (dsimp only; omega))
          · cbv
          · cbv
      · refine r_lss m.sY (fun h4 => ?_) (fun h4 => ?_) <;> conv => cbv
        · refine r_islice' (i := i1) m.sY (by omega) (by omega) fun zs2 hzs2 => ?_
          have lzs2 : (zs2.length : Int) = words.length - i1 := by rw [hzs2]; first | done | (simp; done) | (simp; omega)
          obtain ⟨yz1, yz2⟩ := hp.tail (i := i1.toNat) (by omega) hzs2
          conv => cbv
          refine r_callBS m.sY (canEnd_ok zs2 (rA, rB, rC) measure (by first | rfl | assumption | omega | (simp at *; omega)) (by first | rfl | assumption | omega | (simp at *; omega)) (by first | rfl | assumption | omega | (simp at *; omega))) (fun h5 => ?_) (fun h5 => ?_) <;> conv => cbv
          · refine r_oindex m.sX (by omega) (by omega) ?_
            conv => cbv
            obtain ⟨y3, hy3⟩ := get_ex (xs := table_3) (i := Int.toNat i1) (by omega)
            refine r_ostore (l := Int.toNat i1) 0 m.sX hy3 (Nat.le_of_ble_eq_true rfl) rfl fun table_5 htable_5 => ?_
            have ltable_5 : (table_5.length : Int) = table_3.length := by rw [htable_5]; first | done | (simp; done) | (simp; omega)
            conv => cbv
            refine r_addf m.sX (by omega) (by omega) fun r3 hr3 => ?_
            conv => cbv
            try have tr3 : Int.toNat r3 = Int.toNat i1 + 1 := by omega
            refine hE _ (table_5, r3) ?_ ?_ ⟨(by (try dsimp only); first | omega | (simp; omega)), (by (try dsimp only); first | omega | (simp; omega)), (by (try dsimp only) <;> (first | (rw [tr3, htable_4, htable_3, List.set_set, q]; exact tabL_step (pO_yes (by omega) (by unfold paE; rw [← hzs1]; exact h3))) | (rw [tr3, htable_3, q]; exact tabL_step (pO_no (.inl (by unfold paE; rw [← hzs1]; exact h3)))) | (rw [tr3, htable_5, htable_3, List.set_set, q]; exact tabL_step (pO_yes (by omega) (by unfold paE; rw [← hzs2]; exact h5))) | (rw [tr3, htable_3, q]; exact tabL_step (pO_no (.inl (by unfold paE; rw [← hzs2]; exact h5)))) | (rw [tr3, htable_3, q]; exact tabL_step (pO_no (.inr ⟨by omega, by omega⟩)))))⟩ (by first | omega | (dsimp only; omega))
            · cbv
            · cbv
          · refine r_addf m.sX (by omega) (by omega) fun r4 hr4 => ?_
            conv => cbv
            try have tr4 : Int.toNat r4 = Int.toNat i1 + 1 := by omega
            refine hE _ (table_3, r4) ?_ ?_ ⟨(by (try dsimp only); first | omega | (simp; omega)), (by (try dsimp only); first | omega | (simp; omega)), (by (try dsimp only) <;> (first | (rw [tr4, htable_4, htable_3, List.set_set, q]; exact tabL_step (pO_yes (by omega) (by unfold paE; rw [← hzs1]; exact h3))) | (rw [tr4, htable_3, q]; exact tabL_step (pO_no (.inl (by unfold paE; rw [← hzs1]; exact h3)))) | (rw [tr4, htable_5, htable_3, List.set_set, q]; exact tabL_step (pO_yes (by omega) (by unfold paE; rw [← hzs2]; exact h5))) | (rw [tr4, htable_3, q]; exact tabL_step (pO_no (.inl (by unfold paE; rw [← hzs2]; exact h5)))) | (rw [tr4, htable_3, q]; exact tabL_step (pO_no (.inr ⟨by omega, by omega⟩)))))⟩ (by first | omega | (dsimp only; omega))
            · cbv
            · cbv
        · refine r_addf m.sX (by omega) (by omega) fun r5 hr5 => ?_
          conv => cbv
          try have tr5 : Int.toNat r5 = Int.toNat i1 + 1 := by omega
          refine hE _ (table_3, r5) ?_ ?_ ⟨(by (try dsimp only); first | omega | (simp; omega)), (by (try dsimp only); first | omega | (simp; omega)), (by (try dsimp only) <;> (first | (rw [tr5, htable_4, htable_3, List.set_set, q]; exact tabL_step (pO_yes (by omega) (by unfold paE; rw [← hzs1]; exact h3))) | (rw [tr5, htable_3, q]; exact tabL_step (pO_no (.inl (by unfold paE; rw [← hzs1]; exact h3)))) | (rw [tr5, htable_5, htable_3, List.set_set, q]; exact tabL_step (pO_yes (by omega) (by unfold paE; rw [← hzs2]; exact h5))) | (rw [tr5, htable_3, q]; exact tabL_step (pO_no (.inl (by unfold paE; rw [← hzs2]; exact h5)))) | (rw [tr5, htable_3, q]; exact tabL_step (pO_no (.inr ⟨by omega, by omega⟩)))))⟩ (by first | omega | (dsimp only; omega))
          · cbv
          · cbv
    · have dz_i1 := drop_end (xs := table) (i := Int.toNat i1) (by omega)
      have tz_i1 := take_end (xs := table) (i := Int.toNat i1) (by omega)
      refine hF _ _ ?_
      conv => cbv
      refine r_eql m.sX (fun h6 => ?_) (fun h6 => ?_) <;> conv => cbv
      · exact hQ (.fr 3 1 (rows cInt table_2)) (Eq.trans (by first | rfl | (simp only [lb, lbI, rows_cons, rows_nil, unnilT, unnil, unnilTI, unnilI]; try rfl)) (congrArg (fun l => PV.fr 3 1 (rows cInt l)) (show table_2 = tabC words (rA, rB, rC) measure lines from by rw [q, h6]; exact tabL_one (by omega))))
      · have tln : table_2.length = words.length := by rw [q, tabL_length]
        refine r_gtr m.sX (fun h7 => ?_) (fun h7 => ?_) <;> conv => cbv
        · refine r_subf m.sX (by omega) (by omega) fun r6 hr6 => ?_
          conv => cbv
          refine r_callF (fun l => PV.fr _ _ (rows _ l)) m.sX (ih (by omega) r6 (by omega)) fun next hnext => ?_
          conv => cbv
          try dsimp only at hnext
          have nl : next.length = words.length := by rw [hnext, tabC_length]
          have nm : nxM lines = r6 := by unfold nxM; rw [if_pos (by omega)]; omega
          refine r_lenR m.sX fun n3 hn3 mn3 => ?_
          conv => cbv
          refine r_subf m.sX (by omega) (by omega) fun from_ hfrom_ => ?_
          conv => cbv
          have b0 : table_2 = baseC words (rA, rB, rC) measure lines from_ := by rw [q]; exact base_start (by omega) (by omega)
          refine r_loopF (α := List Int × Int) m 120 [0, 2, 12] [⟨5, 41, 0, 0, 0⟩, ⟨9, 73, 3, 1, 0⟩, ⟨11, 89, 3, 1, 0⟩] (fun σ => [(0, .isl 1 (rows cInt words)), (2, .int .i64 measure), (5, .optr 41 0 3 0 0), (9, .osl 73 0), (11, .osl 89 0), (12, .int .i64 σ.2)]) (fun σ => [(41, 0, .box [.int .i64 rA, .int .i64 rB, .int .i64 rC]), (73, 0, .row 3 1 (rows cInt σ.1)), (89, 0, .row 3 1 (rows cInt next))])
            (fun σ => (σ.1 = baseC words (rA, rB, rC) measure lines σ.2) ∧ (-1 ≤ σ.2 ∧ σ.2 < words.length)) (fun σ => (σ.2 + 1).toNat) (table_2, from_) ?_ ?_ ?_ ?_
          · cbv
          · cbv
          · exact ⟨(by (try dsimp only) <;> (exact b0)), (by (try dsimp only) <;> first | omega | rfl | (simp [*]; done))⟩
          rintro ⟨table_6, from__2⟩ ⟨bq, fb⟩ E hE F hF
          dsimp only at bq fb
          conv => cbv
          refine r_geq m.sX (fun h8 => ?_) (fun h8 => ?_) <;> conv => cbv
          · refine r_addf m.sX (by omega) (by omega) fun to_ hto_ => ?_
            conv => cbv
            refine r_loopF (α := List Int × Int) m 120 [0, 2, 12, 13] [⟨5, 41, 0, 0, 0⟩, ⟨9, 73, 3, 1, 0⟩, ⟨11, 89, 3, 1, 0⟩] (fun σ => [(0, .isl 1 (rows cInt words)), (2, .int .i64 measure), (5, .optr 41 0 3 0 0), (9, .osl 73 0), (11, .osl 89 0), (12, .int .i64 from__2), (13, .int .i64 σ.2)]) (fun σ => [(41, 0, .box [.int .i64 rA, .int .i64 rB, .int .i64 rC]), (73, 0, .row 3 1 (rows cInt σ.1)), (89, 0, .row 3 1 (rows cInt next))])
              (fun σ => T3 words (rA, rB, rC) measure lines from__2 σ.2 σ.1) (fun σ => ((words.length : Int) - σ.2).toNat) (table_6, to_) ?_ ?_ ?_ ?_
            · cbv
            · cbv
            · exact (by (try dsimp only) <;> (exact T3.start bq (by omega) (by omega) (by omega)))
            rintro ⟨table_7, to__2⟩ t3 E2 hE2 F2 hF2
            dsimp only at t3
            conv => cbv
            refine r_lenR m.sX fun n4 hn4 mn4 => ?_
            conv => cbv
            refine r_lss m.sX (fun h9 => ?_) (fun h9 => ?_) <;> conv => cbv
            · have tl3 := t3.len; have tb3 := t3.tb; have fb3 := t3.fb
              try dsimp only at tl3
              refine r_draw m (by kernel_rfl) ?_
              conv => cbv
              refine r_islice (i := from__2) (j := to__2) m.sY (by omega) (by omega) (by omega) fun zs3 hzs3 => ?_
              have lzs3 : (zs3.length : Int) = to__2 - from__2 := by rw [hzs3]; first | done | (simp; done) | (simp; omega)
              obtain ⟨z1, z2, z3⟩ := hp.cut (i := from__2.toNat) (j := to__2.toNat) (by omega) (by omega) hzs3
              conv => cbv
              refine r_callFS ib m.sY (lineCost_ok zs3 (rA, rB, rC) measure (by first | rfl | assumption | omega | (simp at *; omega)) (by first | rfl | assumption | omega | (simp at *; omega)) (by first | rfl | assumption | omega | (simp at *; omega)) (by first | rfl | assumption | omega | (simp at *; omega))) (by first | trivial | exact noFr_tup2 trivial trivial | exact noFr_tup3 trivial trivial trivial) fun v hn => ?_
              obtain ⟨n, ok⟩ := v
              conv => cbv
              try dsimp only at hn
              have lp := lineA_paL z3 hn
              try dsimp only at lp
              have cl := cost_le z1 z2.1 z4 z5 hn
              try dsimp only at cl
              refine r_draw m (by kernel_rfl) ?_
              conv => cbv
              rcases Bool.eq_false_or_eq_true ok with rfl | rfl <;> conv => cbv
              · rw [if_pos rfl] at lp
                refine r_oindex m.sY (by omega) (by omega) ?_
                conv => cbv
                obtain ⟨x1, hx1⟩ := get_ex (xs := next) (i := Int.toNat to__2) (by omega)
                have mx1 := get_mem hx1
                have vx1 := nth_some hx1
                have w1 : x1 = pC words (rA, rB, rC) measure (nxM lines) to__2.toNat := by rw [nm]; exact tabC_at (by rw [← hnext]; exact hx1)
                have wb := pC_in hp (nxM lines) (i := to__2.toNat) (by omega)
                try dsimp only at wb
                rw [← w1] at wb
                refine r_oload m.sY hx1 (Nat.le_of_ble_eq_true rfl) ?_
                conv => cbv
                refine r_geq m.sY (fun h10 => ?_) (fun h10 => ?_) <;> conv => cbv
                · refine r_oindex m.sY (by omega) (by omega) ?_
                  conv => cbv
                  obtain ⟨x2, hx2⟩ := get_ex (xs := table_7) (i := Int.toNat from__2) (by omega)
                  have mx2 := get_mem hx2
                  have vx2 := nth_some hx2
                  have xb := t3.at_f hx2
                  try dsimp only at xb
                  refine r_oload m.sY hx2 (Nat.le_of_ble_eq_true rfl) ?_
                  conv => cbv
                  refine r_lss m.sY (fun h11 => ?_) (fun h11 => ?_) <;> conv => cbv
                  · refine r_oindex m.sX (by omega) (by omega) ?_
                    conv => cbv
                    obtain ⟨x3, hx3⟩ := get_ex (xs := next) (i := Int.toNat to__2) (by omega)
                    have mx3 := get_mem hx3
                    have vx3 := nth_some hx3
                    have e3 : x3 = x1 := Option.some.inj (hx3.symm.trans hx1)
                    refine r_oload m.sX hx3 (Nat.le_of_ble_eq_true rfl) ?_
                    conv => cbv
                    refine r_addf m.sX (by omega) (by omega) fun r7 hr7 => ?_
                    conv => cbv
                    refine r_oindex m.sX (by omega) (by omega) ?_
                    conv => cbv
                    obtain ⟨y4, hy4⟩ := get_ex (xs := table_7) (i := Int.toNat from__2) (by omega)
                    refine r_ostore (l := Int.toNat from__2) r7 m.sX hy4 (Nat.le_of_ble_eq_true rfl) rfl fun table_8 htable_8 => ?_
                    have ltable_8 : (table_8.length : Int) = table_7.length := by rw [htable_8]; first | done | (simp; done) | (simp; omega)
                    conv => cbv
                    refine r_addf m.sX (by omega) (by omega) fun to__3 hto__3 => ?_
                    conv => cbv
                    refine hE2 _ (table_8, to__3) ?_ ?_ (by (try dsimp only) <;> (first | exact t3.yes (by omega) (by omega) hto__3 lp w1 (by omega) hx2 (.inl (by omega)) (by rw [hr7, e3]) (by omega) (by omega) htable_8 | exact t3.yes (by omega) (by omega) hto__4 lp w1 (by omega) hx2 (.inr (by omega)) (by rw [hr9, e6]) (by omega) (by omega) htable_9 | exact t3.high (by omega) hto__5 lp w1 hx2 (by omega) (by omega) (by omega) (by omega) (by omega) | exact t3.low (by omega) hto__6 w1 (by omega) | exact t3.none (by omega) hto__7 lp)) (by first | omega | (dsimp only; omega))
                    · cbv
                    · cbv
                  · refine r_oindex m.sY (by omega) (by omega) ?_
                    conv => cbv
                    obtain ⟨x4, hx4⟩ := get_ex (xs := next) (i := Int.toNat to__2) (by omega)
                    have mx4 := get_mem hx4
                    have vx4 := nth_some hx4
                    have e4 : x4 = x1 := Option.some.inj (hx4.symm.trans hx1)
                    refine r_oload m.sY hx4 (Nat.le_of_ble_eq_true rfl) ?_
                    conv => cbv
                    refine r_addf m.sY (by omega) (by omega) fun r8 hr8 => ?_
                    conv => cbv
                    refine r_oindex m.sY (by omega) (by omega) ?_
                    conv => cbv
                    obtain ⟨x5, hx5⟩ := get_ex (xs := table_7) (i := Int.toNat from__2) (by omega)
                    have mx5 := get_mem hx5
                    have vx5 := nth_some hx5
                    have e5 : x5 = x2 := Option.some.inj (hx5.symm.trans hx2)
                    refine r_oload m.sY hx5 (Nat.le_of_ble_eq_true rfl) ?_
                    conv => cbv
                    refine r_lss m.sY (fun h12 => ?_) (fun h12 => ?_) <;> conv => cbv
                    · refine r_oindex m.sX (by omega) (by omega) ?_
                      conv => cbv
                      obtain ⟨x6, hx6⟩ := get_ex (xs := next) (i := Int.toNat to__2) (by omega)
                      have mx6 := get_mem hx6
                      have vx6 := nth_some hx6
                      have e6 : x6 = x1 := Option.some.inj (hx6.symm.trans hx1)
                      refine r_oload m.sX hx6 (Nat.le_of_ble_eq_true rfl) ?_
                      conv => cbv
                      refine r_addf m.sX (by omega) (by omega) fun r9 hr9 => ?_
                      conv => cbv
                      refine r_oindex m.sX (by omega) (by omega) ?_
                      conv => cbv
                      obtain ⟨y5, hy5⟩ := get_ex (xs := table_7) (i := Int.toNat from__2) (by omega)
                      refine r_ostore (l := Int.toNat from__2) r9 m.sX hy5 (Nat.le_of_ble_eq_true rfl) rfl fun table_9 htable_9 => ?_
                      have ltable_9 : (table_9.length : Int) = table_7.length := by rw [htable_9]; first | done | (simp; done) | (simp; omega)
                      conv => cbv
                      refine r_addf m.sX (by omega) (by omega) fun to__4 hto__4 => ?_
                      conv => cbv
                      refine hE2 _ (table_9, to__4) ?_ ?_ (by (try dsimp only) <;> (first | exact t3.yes (by omega) (by omega) hto__3 lp w1 (by omega) hx2 (.inl (by omega)) (by rw [hr7, e3]) (by omega) (by omega) htable_8 | exact t3.yes (by omega) (by omega) hto__4 lp w1 (by omega) hx2 (.inr (by omega)) (by rw [hr9, e6]) (by omega) (by omega) htable_9 | exact t3.high (by omega) hto__5 lp w1 hx2 (by omega) (by omega) (by omega) (by omega) (by omega) | exact t3.low (by omega) hto__6 w1 (by omega) | exact t3.none (by omega) hto__7 lp)) (by first | omega | (dsimp only; omega))
                      · cbv
                      · cbv
                    · refine r_addf m.sX (by omega) (by omega) fun to__5 hto__5 => ?_
                      conv => cbv
                      refine hE2 _ (table_7, to__5) ?_ ?_ (by (try dsimp only) <;> (first | exact t3.yes (by omega) (by omega) hto__3 lp w1 (by omega) hx2 (.inl (by omega)) (by rw [hr7, e3]) (by omega) (by omega) htable_8 | exact t3.yes (by omega) (by omega) hto__4 lp w1 (by omega) hx2 (.inr (by omega)) (by rw [hr9, e6]) (by omega) (by omega) htable_9 | exact t3.high (by omega) hto__5 lp w1 hx2 (by omega) (by omega) (by omega) (by omega) (by omega) | exact t3.low (by omega) hto__6 w1 (by omega) | exact t3.none (by omega) hto__7 lp)) (by first | omega | (dsimp only; omega))
                      · cbv
                      · cbv
                · refine r_addf m.sX (by omega) (by omega) fun to__6 hto__6 => ?_
                  conv => cbv
                  refine hE2 _ (table_7, to__6) ?_ ?_ (by (try dsimp only) <;> (first | exact t3.yes (by omega) (by omega) hto__3 lp w1 (by omega) hx2 (.inl (by omega)) (by rw [hr7, e3]) (by omega) (by omega) htable_8 | exact t3.yes (by omega) (by omega) hto__4 lp w1 (by omega) hx2 (.inr (by omega)) (by rw [hr9, e6]) (by omega) (by omega) htable_9 | exact t3.high (by omega) hto__5 lp w1 hx2 (by omega) (by omega) (by omega) (by omega) (by omega) | exact t3.low (by omega) hto__6 w1 (by omega) | exact t3.none (by omega) hto__7 lp)) (by first | omega | (dsimp only; omega))
                  · cbv
                  · cbv
              · rw [if_neg (by simp)] at lp
                refine r_addf m.sX (by omega) (by omega) fun to__7 hto__7 => ?_
                conv => cbv
                refine hE2 _ (table_7, to__7) ?_ ?_ (by (try dsimp only) <;> (first | exact t3.yes (by omega) (by omega) hto__3 lp w1 (by omega) hx2 (.inl (by omega)) (by rw [hr7, e3]) (by omega) (by omega) htable_8 | exact t3.yes (by omega) (by omega) hto__4 lp w1 (by omega) hx2 (.inr (by omega)) (by rw [hr9, e6]) (by omega) (by omega) htable_9 | exact t3.high (by omega) hto__5 lp w1 hx2 (by omega) (by omega) (by omega) (by omega) (by omega) | exact t3.low (by omega) hto__6 w1 (by omega) | exact t3.none (by omega) hto__7 lp)) (by first | omega | (dsimp only; omega))
                · cbv
                · cbv
            · have tb3 := t3.tb
              try dsimp only at tb3
              refine hF2 _ _ ?_
              conv => cbv
              refine r_subf m.sX (by omega) (by omega) fun from__3 hfrom__3 => ?_
              conv => cbv
              refine hE _ (table_7, from__3) ?_ ?_ ⟨(by (try dsimp only) <;> (exact t3.fin (by omega) hfrom__3)), (by (try dsimp only) <;> first | omega | rfl | (simp [*]; done) | (rw [fb]; simp [*]; done))⟩ (by first | omega | (dsimp only; omega))
              · cbv
              · cbv
          · refine hF _ _ ?_
            conv => cbv
            exact hQ (.fr 3 1 (rows cInt table_6)) (Eq.trans (by first | rfl | (simp only [lb, lbI, rows_cons, rows_nil, unnilT, unnil, unnilTI, unnilI]; try rfl)) (congrArg (fun l => PV.fr 3 1 (rows cInt l)) (show table_6 = tabC words (rA, rB, rC) measure lines from by rw [bq]; exact base_end (by omega))))
        · have nm : nxM lines = lines := by unfold nxM; rw [if_neg (by omega)]
          refine r_lenR m.sX fun n5 hn5 mn5 => ?_
          conv => cbv
          refine r_subf m.sX (by omega) (by omega) fun from__4 hfrom__4 => ?_
          conv => cbv
          have b0 : table_2 = baseC words (rA, rB, rC) measure lines from__4 := by rw [q]; exact base_start (by omega) (by omega)
          refine r_loopF (α := List Int × Int) m 120 [0, 2, 11, 12] [⟨5, 41, 0, 0, 0⟩, ⟨9, 73, 3, 1, 0⟩] (fun σ => [(0, .isl 1 (rows cInt words)), (2, .int .i64 measure), (5, .optr 41 0 3 0 0), (9, .osl 73 0), (11, .osl 73 0), (12, .int .i64 σ.2)]) (fun σ => [(41, 0, .box [.int .i64 rA, .int .i64 rB, .int .i64 rC]), (73, 0, .row 3 1 (rows cInt σ.1))])
            (fun σ => (σ.1 = baseC words (rA, rB, rC) measure lines σ.2) ∧ (-1 ≤ σ.2 ∧ σ.2 < words.length)) (fun σ => (σ.2 + 1).toNat) (table_2, from__4) ?_ ?_ ?_ ?_
          · cbv
          · cbv
          · exact ⟨(by (try dsimp only) <;> (exact b0)), (by (try dsimp only) <;> first | omega | rfl | (simp [*]; done))⟩
          rintro ⟨table_10, from__5⟩ ⟨bq, fb⟩ E hE F hF
          dsimp only at bq fb
          conv => cbv
          refine r_geq m.sX (fun h13 => ?_) (fun h13 => ?_) <;> conv => cbv
          · refine r_addf m.sX (by omega) (by omega) fun to__8 hto__8 => ?_
            conv => cbv
            refine r_loopF (α := List Int × Int) m 120 [0, 2, 11, 12, 13] [⟨5, 41, 0, 0, 0⟩, ⟨9, 73, 3, 1, 0⟩] (fun σ => [(0, .isl 1 (rows cInt words)), (2, .int .i64 measure), (5, .optr 41 0 3 0 0), (9, .osl 73 0), (11, .osl 73 0), (12, .int .i64 from__5), (13, .int .i64 σ.2)]) (fun σ => [(41, 0, .box [.int .i64 rA, .int .i64 rB, .int .i64 rC]), (73, 0, .row 3 1 (rows cInt σ.1))])
              (fun σ => T3 words (rA, rB, rC) measure lines from__5 σ.2 σ.1) (fun σ => ((words.length : Int) - σ.2).toNat) (table_10, to__8) ?_ ?_ ?_ ?_
            · cbv
            · cbv
            · exact (by (try dsimp only) <;> (exact T3.start bq (by omega) (by omega) (by omega)))
            rintro ⟨table_11, to__9⟩ t3 E2 hE2 F2 hF2
            dsimp only at t3
            conv => cbv
            refine r_lenR m.sX fun n6 hn6 mn6 => ?_
            conv => cbv
            refine r_lss m.sX (fun h14 => ?_) (fun h14 => ?_) <;> conv => cbv
            · have tl3 := t3.len; have tb3 := t3.tb; have fb3 := t3.fb
              try dsimp only at tl3
              refine r_draw m (by kernel_rfl) ?_
              conv => cbv
              refine r_islice (i := from__5) (j := to__9) m.sY (by omega) (by omega) (by omega) fun zs4 hzs4 => ?_
              have lzs4 : (zs4.length : Int) = to__9 - from__5 := by rw [hzs4]; first | done | (simp; done) | (simp; omega)
              obtain ⟨z1, z2, z3⟩ := hp.cut (i := from__5.toNat) (j := to__9.toNat) (by omega) (by omega) hzs4
              conv => cbv
              refine r_callFS ib m.sY (lineCost_ok zs4 (rA, rB, rC) measure (by first | rfl | assumption | omega | (simp at *; omega)) (by first | rfl | assumption | omega | (simp at *; omega)) (by first | rfl | assumption | omega | (simp at *; omega)) (by first | rfl | assumption | omega | (simp at *; omega))) (by first | trivial | exact noFr_tup2 trivial trivial | exact noFr_tup3 trivial trivial trivial) fun v hn_2 => ?_
              obtain ⟨n_2, ok_2⟩ := v
              conv => cbv
              try dsimp only at hn_2
              have lp := lineA_paL z3 hn_2
              try dsimp only at lp
              have cl := cost_le z1 z2.1 z4 z5 hn_2
              try dsimp only at cl
              refine r_draw m (by kernel_rfl) ?_
              conv => cbv
              rcases Bool.eq_false_or_eq_true ok_2 with rfl | rfl <;> conv => cbv
              · rw [if_pos rfl] at lp
                refine r_oindex m.sY (by omega) (by omega) ?_
                conv => cbv
                obtain ⟨x7, hx7⟩ := get_ex (xs := table_11) (i := Int.toNat to__9) (by omega)
                have mx7 := get_mem hx7
                have vx7 := nth_some hx7
                have w1 : x7 = pC words (rA, rB, rC) measure (nxM lines) to__9.toNat := by rw [nm]; exact t3.at_t (by omega) hx7
                have wb := pC_in hp (nxM lines) (i := to__9.toNat) (by omega)
                try dsimp only at wb
                rw [← w1] at wb
                refine r_oload m.sY hx7 (Nat.le_of_ble_eq_true rfl) ?_
                conv => cbv
                refine r_geq m.sY (fun h15 => ?_) (fun h15 => ?_) <;> conv => cbv
                · refine r_oindex m.sY (by omega) (by omega) ?_
                  conv => cbv
                  obtain ⟨x8, hx8⟩ := get_ex (xs := table_11) (i := Int.toNat from__5) (by omega)
                  have mx8 := get_mem hx8
                  have vx8 := nth_some hx8
                  have xb := t3.at_f hx8
                  try dsimp only at xb
                  refine r_oload m.sY hx8 (Nat.le_of_ble_eq_true rfl) ?_
                  conv => cbv
                  refine r_lss m.sY (fun h16 => ?_) (fun h16 => ?_) <;> conv => cbv
                  · refine r_oindex m.sX (by omega) (by omega) ?_
                    conv => cbv
                    obtain ⟨x9, hx9⟩ := get_ex (xs := table_11) (i := Int.toNat to__9) (by omega)
                    have mx9 := get_mem hx9
                    have vx9 := nth_some hx9
                    have e3 : x9 = x7 := Option.some.inj (hx9.symm.trans hx7)
                    refine r_oload m.sX hx9 (Nat.le_of_ble_eq_true rfl) ?_
                    conv => cbv
                    refine r_addf m.sX (by omega) (by omega) fun r10 hr10 => ?_
                    conv => cbv
                    refine r_oindex m.sX (by omega) (by omega) ?_
                    conv => cbv
                    obtain ⟨y6, hy6⟩ := get_ex (xs := table_11) (i := Int.toNat from__5) (by omega)
                    refine r_ostore (l := Int.toNat from__5) r10 m.sX hy6 (Nat.le_of_ble_eq_true rfl) rfl fun table_12 htable_12 => ?_
                    have ltable_12 : (table_12.length : Int) = table_11.length := by rw [htable_12]; first | done | (simp; done) | (simp; omega)
                    conv => cbv
                    refine r_addf m.sX (by omega) (by omega) fun to__10 hto__10 => ?_
                    conv => cbv
                    refine hE2 _ (table_12, to__10) ?_ ?_ (by (try dsimp only) <;> (first | exact t3.yes (by omega) (by omega) hto__10 lp w1 (by omega) hx8 (.inl (by omega)) (by rw [hr10, e3]) (by omega) (by omega) htable_12 | exact t3.yes (by omega) (by omega) hto__11 lp w1 (by omega) hx8 (.inr (by omega)) (by rw [hr12, e6]) (by omega) (by omega) htable_13 | exact t3.high (by omega) hto__12 lp w1 hx8 (by omega) (by omega) (by omega) (by omega) (by omega) | exact t3.low (by omega) hto__13 w1 (by omega) | exact t3.none (by omega) hto__14 lp)) (by first | omega | (dsimp only; omega))
                    · cbv
                    · cbv
                  · refine r_oindex m.sY (by omega) (by omega) ?_
                    conv => cbv
                    obtain ⟨x10, hx10⟩ := get_ex (xs := table_11) (i := Int.toNat to__9) (by omega)
                    have mx10 := get_mem hx10
                    have vx10 := nth_some hx10
                    have e4 : x10 = x7 := Option.some.inj (hx10.symm.trans hx7)
                    refine r_oload m.sY hx10 (Nat.le_of_ble_eq_true rfl) ?_
                    conv => cbv
                    refine r_addf m.sY (by omega) (by omega) fun r11 hr11 => ?_
                    conv => cbv
                    refine r_oindex m.sY (by omega) (by omega) ?_
                    conv => cbv
                    obtain ⟨x11, hx11⟩ := get_ex (xs := table_11) (i := Int.toNat from__5) (by omega)
                    have mx11 := get_mem hx11
                    have vx11 := nth_some hx11
                    have e5 : x11 = x8 := Option.some.inj (hx11.symm.trans hx8)
                    refine r_oload m.sY hx11 (Nat.le_of_ble_eq_true rfl) ?_
                    conv => cbv
                    refine r_lss m.sY (fun h17 => ?_) (fun h17 => ?_) <;> conv => cbv
                    · refine r_oindex m.sX (by omega) (by omega) ?_
                      conv => cbv
                      obtain ⟨x12, hx12⟩ := get_ex (xs := table_11) (i := Int.toNat to__9) (by omega)
                      have mx12 := get_mem hx12
                      have vx12 := nth_some hx12
                      have e6 : x12 = x7 := Option.some.inj (hx12.symm.trans hx7)
                      refine r_oload m.sX hx12 (Nat.le_of_ble_eq_true rfl) ?_
                      conv => cbv
                      refine r_addf m.sX (by omega) (by omega) fun r12 hr12 => ?_
                      conv => cbv
                      refine r_oindex m.sX (by omega) (by omega) ?_
                      conv => cbv
                      obtain ⟨y7, hy7⟩ := get_ex (xs := table_11) (i := Int.toNat from__5) (by omega)
                      refine r_ostore (l := Int.toNat from__5) r12 m.sX hy7 (Nat.le_of_ble_eq_true rfl) rfl fun table_13 htable_13 => ?_
                      have ltable_13 : (table_13.length : Int) = table_11.length := by rw [htable_13]; first | done | (simp; done) | (simp; omega)
                      conv => cbv
                      refine r_addf m.sX (by omega) (by omega) fun to__11 hto__11 => ?_
                      conv => cbv
                      refine hE2 _ (table_13, to__11) ?_ ?_ (by (try dsimp only) <;> (first | exact t3.yes (by omega) (by omega) hto__10 lp w1 (by omega) hx8 (.inl (by omega)) (by rw [hr10, e3]) (by omega) (by omega) htable_12 | exact t3.yes (by omega) (by omega) hto__11 lp w1 (by omega) hx8 (.inr (by omega)) (by rw [hr12, e6]) (by omega) (by omega) htable_13 | exact t3.high (by omega) hto__12 lp w1 hx8 (by omega) (by omega) (by omega) (by omega) (by omega) | exact t3.low (by omega) hto__13 w1 (by omega) | exact t3.none (by omega) hto__14 lp)) (by first | omega | (dsimp only; omega))
                      · cbv
                      · cbv
                    · refine r_addf m.sX (by omega) (by omega) fun to__12 hto__12 => ?_
                      conv => cbv
                      refine hE2 _ (table_11, to__12) ?_ ?_ (by (try dsimp only) <;> (first | exact t3.yes (by omega) (by omega) hto__10 lp w1 (by omega) hx8 (.inl (by omega)) (by rw [hr10, e3]) (by omega) (by omega) htable_12 | exact t3.yes (by omega) (by omega) hto__11 lp w1 (by omega) hx8 (.inr (by omega)) (by rw [hr12, e6]) (by omega) (by omega) htable_13 | exact t3.high (by omega) hto__12 lp w1 hx8 (by omega) (by omega) (by omega) (by omega) (by omega) | exact t3.low (by omega) hto__13 w1 (by omega) | exact t3.none (by omega) hto__14 lp)) (by first | omega | (dsimp only; omega))
                      · cbv
                      · cbv
                · refine r_addf m.sX (by omega) (by omega) fun to__13 hto__13 => ?_
                  conv => cbv
                  refine hE2 _ (table_11, to__13) ?_ ?_ (by (try dsimp only) <;> (first | exact t3.yes (by omega) (by omega) hto__10 lp w1 (by omega) hx8 (.inl (by omega)) (by rw [hr10, e3]) (by omega) (by omega) htable_12 | exact t3.yes (by omega) (by omega) hto__11 lp w1 (by omega) hx8 (.inr (by omega)) (by rw [hr12, e6]) (by omega) (by omega) htable_13 | exact t3.high (by omega) hto__12 lp w1 hx8 (by omega) (by omega) (by omega) (by omega) (by omega) | exact t3.low (by omega) hto__13 w1 (by omega) | exact t3.none (by omega) hto__14 lp)) (by first | omega | (dsimp only; omega))
                  · cbv
                  · cbv
              · rw [if_neg (by simp)] at lp
                refine r_addf m.sX (by omega) (by omega) fun to__14 hto__14 => ?_
                conv => cbv
                refine hE2 _ (table_11, to__14) ?_ ?_ (by (try dsimp only) <;> (first | exact t3.yes (by omega) (by omega) hto__10 lp w1 (by omega) hx8 (.inl (by omega)) (by rw [hr10, e3]) (by omega) (by omega) htable_12 | exact t3.yes (by omega) (by omega) hto__11 lp w1 (by omega) hx8 (.inr (by omega)) (by rw [hr12, e6]) (by omega) (by omega) htable_13 | exact t3.high (by omega) hto__12 lp w1 hx8 (by omega) (by omega) (by omega) (by omega) (by omega) | exact t3.low (by omega) hto__13 w1 (by omega) | exact t3.none (by omega) hto__14 lp)) (by first | omega | (dsimp only; omega))
                · cbv
                · cbv
            · have tb3 := t3.tb
              try dsimp only at tb3
              refine hF2 _ _ ?_
              conv => cbv
              refine r_subf m.sX (by omega) (by omega) fun from__6 hfrom__6 => ?_
              conv => cbv
              refine hE _ (table_11, from__6) ?_ ?_ ⟨(by (try dsimp only) <;> (exact t3.fin (by omega) hfrom__6)), (by (try dsimp only) <;> first | omega | rfl | (simp [*]; done) | (rw [fb]; simp [*]; done))⟩ (by first | omega | (dsimp only; omega))
              · cbv
              · cbv
          · refine hF _ _ ?_
            conv => cbv
            exact hQ (.fr 3 1 (rows cInt table_10)) (Eq.trans (by first | rfl | (simp only [lb, lbI, rows_cons, rows_nil, unnilT, unnil, unnilTI, unnilI]; try rfl)) (congrArg (fun l => PV.fr 3 1 (rows cInt l)) (show table_10 = tabC words (rA, rB, rC) measure lines from by rw [bq]; exact base_end (by omega)))))

theorem leastCosts_go {words : List Int} {r : JRule} {measure : Int} (hp : Pin words r measure) : ∀ (d : Nat) (k : Int), k.toNat = d → (k = -1 ∨ (1 ≤ k ∧ k ≤ 24)) → OkA Try.prog 105 [.isl 1 (rows cInt words), .agg (cRule r), .int .i64 measure, .int .i64 k] (· = .fr 3 1 (rows cInt (tabC words r measure k)))
  | 0, k, hd, hk => leastCosts_body words r measure k hp hk fun h => by omega
  | d + 1, k, hd, hk => leastCosts_body words r measure k hp hk fun h j hj => leastCosts_go hp d j (by omega) (.inr ⟨by omega, by omega⟩)
theorem leastCostsI_ok (words : List Int) (r : JRule) (measure k : Int) (hp : Pin words r measure) (hk : k = -1 ∨ (1 ≤ k ∧ k ≤ 24)) : OkA Try.prog 105 [.isl 1 (rows cInt words), .agg (cRule r), .int .i64 measure, .int .i64 k] (· = .isl 1 (rows cInt (tabC words r measure k))) :=
  OkA.iceI 1 ((leastCosts_go hp _ k rfl hk).mono fun r h => by rw [h]; rfl)
theorem CountBreaks_ok (words : List Int) (r : JRule) (measure : Int)  : OkA Try.prog 53 [.isl 1 (rows cInt words), .agg (cRule r), .int .i64 measure] (· = ib (countPA words r measure)) := by
  obtain ⟨rA, rB, rC⟩ := r
  try dsimp only at *
  exact fn_intro envOk fieldsOk mixed Try.func53 rfl fun κ X Y L Q m hQ => by
    conv => cbv
    refine r_callB m.sX (isSetParagraph_ok words (rA, rB, rC) measure) (fun h1 => ?_) (fun h1 => ?_) <;> conv => cbv
    · have hp := askP_in h1
      try dsimp only at hp
      have sp := okPara_spec hp.para
      try dsimp only at sp
      have z4 := hp.rule; have z5 := hp.meas
      try dsimp only at z4
      refine r_lenR m.sX fun n1 hn1 mn1 => ?_
      conv => cbv
      refine r_make cInt 0 m.sX rfl (by omega) (by omega) (by dsimp only; omega) (by omega) fun ways hways => ?_
      have lways : (ways.length : Int) = n1 := by rw [hways]; first | done | (simp; done) | (simp; omega)
      conv => cbv
      refine r_lenR m.sX fun n2 hn2 mn2 => ?_
      conv => cbv
      refine r_subf m.sX (by omega) (by omega) fun from_ hfrom_ => ?_
      conv => cbv
      have b0 : ways = baseW words (rA, rB, rC) measure from_ := by rw [hways, show Int.toNat n1 = words.length by omega]; exact baseW_start (by omega)
      refine r_loopF (α := List Int × Int) m 72 [0, 2, 9] [⟨4, 33, 0, 0, 0⟩, ⟨8, 65, 3, 1, 0⟩] (fun σ => [(0, .isl 1 (rows cInt words)), (2, .int .i64 measure), (4, .optr 33 0 3 0 0), (8, .osl 65 0), (9, .int .i64 σ.2)]) (fun σ => [(33, 0, .box [.int .i64 rA, .int .i64 rB, .int .i64 rC]), (65, 0, .row 3 1 (rows cInt σ.1))])
        (fun σ => (σ.1 = baseW words (rA, rB, rC) measure σ.2) ∧ (-1 ≤ σ.2 ∧ σ.2 < words.length)) (fun σ => (σ.2 + 1).toNat) (ways, from_) ?_ ?_ ?_ ?_
      · cbv
      · cbv
      · exact ⟨(by (try dsimp only) <;> (exact b0)), (by (try dsimp only) <;> first | omega | rfl | (simp [*]; done))⟩
      rintro ⟨ways_2, from__2⟩ ⟨bq, fb⟩ E hE F hF
      dsimp only at bq fb
      conv => cbv
      refine r_geq m.sX (fun h2 => ?_) (fun h2 => ?_) <;> conv => cbv
      · have wl : ways_2.length = words.length := by rw [bq]; exact mapT_length _
        refine r_draw m (by kernel_rfl) ?_
        conv => cbv
        refine r_islice' (i := from__2) m.sY (by omega) (by omega) fun zs1 hzs1 => ?_
        have lzs1 : (zs1.length : Int) = words.length - from__2 := by rw [hzs1]; first | done | (simp; done) | (simp; omega)
        obtain ⟨yz1, yz2⟩ := hp.tail (i := from__2.toNat) (by omega) hzs1
        conv => cbv
        refine r_callBS m.sY (canEnd_ok zs1 (rA, rB, rC) measure (by first | rfl | assumption | omega | (simp at *; omega)) (by first | rfl | assumption | omega | (simp at *; omega)) (by first | rfl | assumption | omega | (simp at *; omega))) (fun h3 => ?_) (fun h3 => ?_) <;> conv => cbv
        · have pe : paE words (rA, rB, rC) measure from__2.toNat = true := by unfold paE; rw [← hzs1]; exact h3
          refine r_oindex m.sX (by omega) (by omega) ?_
          conv => cbv
          obtain ⟨x1, hx1⟩ := get_ex (xs := ways_2) (i := Int.toNat from__2) (by omega)
          have mx1 := get_mem hx1
          have vx1 := nth_some hx1
          have x0 : x1 = 0 := baseW_at (by omega) (by rw [← bq]; exact hx1)
          refine r_oload m.sX hx1 (Nat.le_of_ble_eq_true rfl) ?_
          conv => cbv
          refine r_addf m.sX (by omega) (by omega) fun r1 hr1 => ?_
          conv => cbv
          refine r_oindex m.sX (by omega) (by omega) ?_
          conv => cbv
          obtain ⟨y1, hy1⟩ := get_ex (xs := ways_2) (i := Int.toNat from__2) (by omega)
          refine r_ostore (l := Int.toNat from__2) r1 m.sX hy1 (Nat.le_of_ble_eq_true rfl) rfl fun ways_3 hways_3 => ?_
          have lways_3 : (ways_3.length : Int) = ways_2.length := by rw [hways_3]; first | done | (simp; done) | (simp; omega)
          conv => cbv
          refine r_addf m.sX (by omega) (by omega) fun to_ hto_ => ?_
          conv => cbv
          refine r_loopF (α := List Int × Int) m 72 [0, 2, 9, 10] [⟨4, 33, 0, 0, 0⟩, ⟨8, 65, 3, 1, 0⟩] (fun σ => [(0, .isl 1 (rows cInt words)), (2, .int .i64 measure), (4, .optr 33 0 3 0 0), (8, .osl 65 0), (9, .int .i64 from__2), (10, .int .i64 σ.2)]) (fun σ => [(33, 0, .box [.int .i64 rA, .int .i64 rB, .int .i64 rC]), (65, 0, .row 3 1 (rows cInt σ.1))])
            (fun σ => U3 words (rA, rB, rC) measure from__2 σ.2 σ.1) (fun σ => ((words.length : Int) - σ.2).toNat) (ways_3, to_) ?_ ?_ ?_ ?_
          · cbv
          · cbv
          · exact (by (try dsimp only) <;> (exact U3.start (x := r1) (by rw [hways_3, bq]) (by omega) (by omega) (by omega) (by rw [pe, if_pos rfl]; omega)))
          rintro ⟨ways_4, to__2⟩ u3 E2 hE2 F2 hF2
          dsimp only at u3
          conv => cbv
          refine r_lenR m.sX fun n3 hn3 mn3 => ?_
          conv => cbv
          refine r_lss m.sX (fun h4 => ?_) (fun h4 => ?_) <;> conv => cbv
          · have ul := u3.len; have utb := u3.tb; have ufb := u3.fb
            try dsimp only at ul
            refine r_draw m (by kernel_rfl) ?_
            conv => cbv
            refine r_islice (i := from__2) (j := to__2) m.sY (by omega) (by omega) (by omega) fun zs2 hzs2 => ?_
            have lzs2 : (zs2.length : Int) = to__2 - from__2 := by rw [hzs2]; first | done | (simp; done) | (simp; omega)
            obtain ⟨z1, z2, z3⟩ := hp.cut (i := from__2.toNat) (j := to__2.toNat) (by omega) (by omega) hzs2
            conv => cbv
            refine r_callFS ib m.sY (lineCost_ok zs2 (rA, rB, rC) measure (by first | rfl | assumption | omega | (simp at *; omega)) (by first | rfl | assumption | omega | (simp at *; omega)) (by first | rfl | assumption | omega | (simp at *; omega)) (by first | rfl | assumption | omega | (simp at *; omega))) (by first | trivial | exact noFr_tup2 trivial trivial | exact noFr_tup3 trivial trivial trivial) fun v hv1 => ?_
            obtain ⟨v1, ok⟩ := v
            conv => cbv
            try dsimp only at hv1
            have lp := lineA_paL z3 hv1
            try dsimp only at lp
            rcases Bool.eq_false_or_eq_true ok with rfl | rfl <;> conv => cbv
            · rw [if_pos rfl] at lp
              refine r_draw m (by kernel_rfl) ?_
              conv => cbv
              refine r_oindex m.sY (by omega) (by omega) ?_
              conv => cbv
              obtain ⟨x2, hx2⟩ := get_ex (xs := ways_4) (i := Int.toNat from__2) (by omega)
              have mx2 := get_mem hx2
              have vx2 := nth_some hx2
              have ub := u3.acc hx2
              try dsimp only at ub
              refine r_oload m.sY hx2 (Nat.le_of_ble_eq_true rfl) ?_
              conv => cbv
              refine r_oindex m.sY (by omega) (by omega) ?_
              conv => cbv
              obtain ⟨x3, hx3⟩ := get_ex (xs := ways_4) (i := Int.toNat to__2) (by omega)
              have mx3 := get_mem hx3
              have vx3 := nth_some hx3
              have w1 := u3.at_t (by omega) hx3
              try dsimp only at w1
              have wb := pW_at words (rA, rB, rC) measure hp to__2.toNat (by omega)
              try dsimp only at wb
              rw [← w1] at wb
              refine r_oload m.sY hx3 (Nat.le_of_ble_eq_true rfl) ?_
              conv => cbv
              refine r_addf m.sY (by omega) (by omega) fun r2 hr2 => ?_
              conv => cbv
              refine r_oindex m.sY (by omega) (by omega) ?_
              conv => cbv
              obtain ⟨y2, hy2⟩ := get_ex (xs := ways_4) (i := Int.toNat from__2) (by omega)
              refine r_ostore (l := Int.toNat from__2) r2 m.sY hy2 (Nat.le_of_ble_eq_true rfl) rfl fun ways_5 hways_5 => ?_
              have lways_5 : (ways_5.length : Int) = ways_4.length := by rw [hways_5]; first | done | (simp; done) | (simp; omega)
              conv => cbv
              refine r_addf m.sX (by omega) (by omega) fun to__3 hto__3 => ?_
              conv => cbv
              refine hE2 _ (ways_5, to__3) ?_ ?_ (by (try dsimp only) <;> (first | exact u3.yes (by omega) hto__3 lp w1 hx2 hr2 wb hways_5 | exact u3.no (by omega) hto__4 lp)) (by first | omega | (dsimp only; omega))
              · cbv
              · cbv
            · rw [if_neg (by simp)] at lp
              refine r_addf m.sX (by omega) (by omega) fun to__4 hto__4 => ?_
              conv => cbv
              refine hE2 _ (ways_4, to__4) ?_ ?_ (by (try dsimp only) <;> (first | exact u3.yes (by omega) hto__3 lp w1 hx2 hr2 wb hways_5 | exact u3.no (by omega) hto__4 lp)) (by first | omega | (dsimp only; omega))
              · cbv
              · cbv
          · have utb := u3.tb
            try dsimp only at utb
            refine hF2 _ _ ?_
            conv => cbv
            refine r_subf m.sX (by omega) (by omega) fun from__3 hfrom__3 => ?_
            conv => cbv
            refine hE _ (ways_4, from__3) ?_ ?_ ⟨(by (try dsimp only) <;> (first | exact u3.fin (by omega) hfrom__3 | exact u3.fin (by omega) hfrom__4)), (by (try dsimp only) <;> first | omega | rfl | (simp [*]; done) | (rw [fb]; simp [*]; done))⟩ (by first | omega | (dsimp only; omega))
            · cbv
            · cbv
        · have pe : paE words (rA, rB, rC) measure from__2.toNat = false := by unfold paE; rw [← hzs1]; exact h3
          refine r_addf m.sX (by omega) (by omega) fun to__5 hto__5 => ?_
          conv => cbv
          refine r_loopF (α := List Int × Int) m 72 [0, 2, 9, 10] [⟨4, 33, 0, 0, 0⟩, ⟨8, 65, 3, 1, 0⟩] (fun σ => [(0, .isl 1 (rows cInt words)), (2, .int .i64 measure), (4, .optr 33 0 3 0 0), (8, .osl 65 0), (9, .int .i64 from__2), (10, .int .i64 σ.2)]) (fun σ => [(33, 0, .box [.int .i64 rA, .int .i64 rB, .int .i64 rC]), (65, 0, .row 3 1 (rows cInt σ.1))])
            (fun σ => U3 words (rA, rB, rC) measure from__2 σ.2 σ.1) (fun σ => ((words.length : Int) - σ.2).toNat) (ways_2, to__5) ?_ ?_ ?_ ?_
          · cbv
          · cbv
          · exact (by (try dsimp only) <;> (exact U3.start0 bq (by omega) (by omega) (by omega) pe))
          rintro ⟨ways_6, to__6⟩ u3 E2 hE2 F2 hF2
          dsimp only at u3
          conv => cbv
          refine r_lenR m.sX fun n4 hn4 mn4 => ?_
          conv => cbv
          refine r_lss m.sX (fun h5 => ?_) (fun h5 => ?_) <;> conv => cbv
          · have ul := u3.len; have utb := u3.tb; have ufb := u3.fb
            try dsimp only at ul
            refine r_draw m (by kernel_rfl) ?_
            conv => cbv
            refine r_islice (i := from__2) (j := to__6) m.sY (by omega) (by omega) (by omega) fun zs3 hzs3 => ?_
            have lzs3 : (zs3.length : Int) = to__6 - from__2 := by rw [hzs3]; first | done | (simp; done) | (simp; omega)
            obtain ⟨z1, z2, z3⟩ := hp.cut (i := from__2.toNat) (j := to__6.toNat) (by omega) (by omega) hzs3
            conv => cbv
            refine r_callFS ib m.sY (lineCost_ok zs3 (rA, rB, rC) measure (by first | rfl | assumption | omega | (simp at *; omega)) (by first | rfl | assumption | omega | (simp at *; omega)) (by first | rfl | assumption | omega | (simp at *; omega)) (by first | rfl | assumption | omega | (simp at *; omega))) (by first | trivial | exact noFr_tup2 trivial trivial | exact noFr_tup3 trivial trivial trivial) fun v hv2 => ?_
            obtain ⟨v2, ok_2⟩ := v
            conv => cbv
            try dsimp only at hv2
            have lp := lineA_paL z3 hv2
            try dsimp only at lp
            rcases Bool.eq_false_or_eq_true ok_2 with rfl | rfl <;> conv => cbv
            · rw [if_pos rfl] at lp
              refine r_draw m (by kernel_rfl) ?_
              conv => cbv
              refine r_oindex m.sY (by omega) (by omega) ?_
              conv => cbv
              obtain ⟨x4, hx4⟩ := get_ex (xs := ways_6) (i := Int.toNat from__2) (by omega)
              have mx4 := get_mem hx4
              have vx4 := nth_some hx4
              have ub := u3.acc hx4
              try dsimp only at ub
              refine r_oload m.sY hx4 (Nat.le_of_ble_eq_true rfl) ?_
              conv => cbv
              refine r_oindex m.sY (by omega) (by omega) ?_
              conv => cbv
              obtain ⟨x5, hx5⟩ := get_ex (xs := ways_6) (i := Int.toNat to__6) (by omega)
              have mx5 := get_mem hx5
              have vx5 := nth_some hx5
              have w1 := u3.at_t (by omega) hx5
              try dsimp only at w1
              have wb := pW_at words (rA, rB, rC) measure hp to__6.toNat (by omega)
              try dsimp only at wb
              rw [← w1] at wb
              refine r_oload m.sY hx5 (Nat.le_of_ble_eq_true rfl) ?_
              conv => cbv
              refine r_addf m.sY (by omega) (by omega) fun r3 hr3 => ?_
              conv => cbv
              refine r_oindex m.sY (by omega) (by omega) ?_
              conv => cbv
              obtain ⟨y3, hy3⟩ := get_ex (xs := ways_6) (i := Int.toNat from__2) (by omega)
              refine r_ostore (l := Int.toNat from__2) r3 m.sY hy3 (Nat.le_of_ble_eq_true rfl) rfl fun ways_7 hways_7 => ?_
              have lways_7 : (ways_7.length : Int) = ways_6.length := by rw [hways_7]; first | done | (simp; done) | (simp; omega)
              conv => cbv
              refine r_addf m.sX (by omega) (by omega) fun to__7 hto__7 => ?_
              conv => cbv
              refine hE2 _ (ways_7, to__7) ?_ ?_ (by (try dsimp only) <;> (first | exact u3.yes (by omega) hto__7 lp w1 hx4 hr3 wb hways_7 | exact u3.no (by omega) hto__8 lp)) (by first | omega | (dsimp only; omega))
              · cbv
              · cbv
            · rw [if_neg (by simp)] at lp
              refine r_addf m.sX (by omega) (by omega) fun to__8 hto__8 => ?_
              conv => cbv
              refine hE2 _ (ways_6, to__8) ?_ ?_ (by (try dsimp only) <;> (first | exact u3.yes (by omega) hto__7 lp w1 hx4 hr3 wb hways_7 | exact u3.no (by omega) hto__8 lp)) (by first | omega | (dsimp only; omega))
              · cbv
              · cbv
          · have utb := u3.tb
            try dsimp only at utb
            refine hF2 _ _ ?_
            conv => cbv
            refine r_subf m.sX (by omega) (by omega) fun from__4 hfrom__4 => ?_
            conv => cbv
            refine hE _ (ways_6, from__4) ?_ ?_ ⟨(by (try dsimp only) <;> (first | exact u3.fin (by omega) hfrom__3 | exact u3.fin (by omega) hfrom__4)), (by (try dsimp only) <;> first | omega | rfl | (simp [*]; done) | (rw [fb]; simp [*]; done))⟩ (by first | omega | (dsimp only; omega))
            · cbv
            · cbv
      · have wl : ways_2.length = words.length := by rw [bq]; exact mapT_length _
        refine hF _ _ ?_
        conv => cbv
        refine r_oindex m.sX (by omega) (by omega) ?_
        conv => cbv
        obtain ⟨x6, hx6⟩ := get_ex (xs := ways_2) (i := Int.toNat 0) (by omega)
        have mx6 := get_mem hx6
        have vx6 := nth_some hx6
        refine r_oload m.sX hx6 (Nat.le_of_ble_eq_true rfl) ?_
        conv => cbv
        exact hQ (.tup [.int .i64 x6, .bool true]) (Eq.trans (by first | rfl | (simp only [lb, lbI, rows_cons, rows_nil, unnilT, unnil, unnilTI, unnilI]; try rfl)) (congrArg (ib) (show (x6, true) = countPA words (rA, rB, rC) measure from by have e6 := baseW_end (by omega) (show (baseW words (rA, rB, rC) measure from__2)[0]? = some x6 by rw [← bq]; exact hx6) (by omega); rw [countPA, if_pos h1, e6])))
    · exact hQ (.tup [.int .i64 0, .bool false]) (Eq.trans (by first | rfl | (simp only [lb, lbI, rows_cons, rows_nil, unnilT, unnil, unnilTI, unnilI]; try rfl)) (congrArg (ib) (show (0, false) = countPA words (rA, rB, rC) measure from by rw [countPA, if_neg (by rw [h1]; simp)])))

end Go.Proofs.Ytiaodmfipeoegaa.Ai
