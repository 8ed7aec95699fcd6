/- Contracts of the functions on measures. -/
import Derived.Test.YtfnfjgdepilgkaaMeasLaw
import Derived.Test.YtfnfjgdepilgkaaBill
namespace Go.Proofs.Ytfnfjgdepilgkaa.Ai
open Go Go.Proofs
set_option maxRecDepth 10000
set_option maxHeartbeats 4000000
set_option linter.unusedVariables false

theorem WordsThatFit_ok (words : List Int) (r : JRule) (measure : Int)  : OkA Try.prog 50 [.isl 1 (rows cInt words), .agg (cRule r), .int .i64 measure] (· = ib (fitA words r measure)) := by
  obtain ⟨rA, rB, rC⟩ := r
  try dsimp only at *
  exact fn_intro envOk fieldsOk mixed Try.func50 rfl fun κ X Y L Q m hQ => by
    conv => cbv
    refine r_callB m.sX (isSetLine_ok words (rA, rB, rC) measure) (fun h1 => ?_) (fun h1 => ?_) <;> conv => cbv
    · have hj := askJ_in h1
      try dsimp only at hj
      have s1 := line_sum hj.line
      try dsimp only at s1
      have s2 := okRule_spec hj.rule
      try dsimp only at s2
      have s3 := inB_spec hj.meas
      try dsimp only at s3
      have s4 := (okLine_spec hj.line).1
      try dsimp only at s4
      refine r_loopF (α := Int) m 35 [0, 2, 8] [⟨4, 33, 0, 0, 0⟩] (fun σ => [(0, .isl 1 (rows cInt words)), (2, .int .i64 measure), (4, .optr 33 0 3 0 0), (8, .int .i64 σ)]) (fun σ => [(33, 0, .box [.int .i64 rA, .int .i64 rB, .int .i64 rC])])
        (fun σ => (0 ≤ σ ∧ σ ≤ words.length) ∧ (fitW words (rA, rB, rC) measure words.length 0 = fitW words (rA, rB, rC) measure (words.length - σ.toNat) σ.toNat)) (fun σ => ((words.length : Int) - σ).toNat) 0 ?_ ?_ ?_ ?_
      · cbv
      · cbv
      · exact ⟨(by (try dsimp only) <;> first | omega | rfl | (simp [*]; done)), (by (try dsimp only) <;> (rfl))⟩
      rintro n ⟨nb, q⟩ E hE F hF
      conv => cbv
      refine r_draw m (by kernel_rfl) ?_
      conv => cbv
      refine r_lenRS m.sY (by omega) fun n1 hn1 => ?_
      conv => cbv
      refine r_lss m.sY (fun h2 => ?_) (fun h2 => ?_) <;> conv => cbv
      · refine r_addf m.sY (by omega) (by omega) fun r1 hr1 => ?_
        conv => cbv
        refine r_islice (i := 0) (j := r1) m.sY (by omega) (by omega) (by omega) fun zs1 hzs1 => ?_   -- zs1 = words[None:r1]
        have lzs1 : (zs1.length : Int) = r1 - 0 := by rw [hzs1]; first | done | (simp; done) | (simp; omega)
        have ze : zs1 = words.take (n.toNat + 1) := by rw [hzs1, show r1.toNat = n.toNat + 1 by omega]; rfl
        have zm : ∀ x ∈ zs1, 0 ≤ x ∧ x ≤ 600 := fun x hx => by have z := s4 x (by rw [ze] at hx; exact List.mem_of_mem_take hx); omega
        have zl : (zs1.length : Int) ≤ 20 := by rw [ze, List.length_take]; omega
        have zf : SumFits zs1 := sumfits_of 600 (fun x hx => by have z := zm x hx; omega) (by omega)
        have zb := sum_bound (ws := zs1) (B := 600) (by omega) zm
        try dsimp only at zb
        have mb := mul_bound (a := n) (A := 20) (b := rA) (B := 54) (by omega) (by omega) (by omega) (by omega)
        try dsimp only at mb
        conv => cbv
        refine r_callFS (PV.int .i64) m.sY (sum_ok zs1 (by first | rfl | assumption | omega | (simp only [List.length_append, List.length_cons, List.length_nil] at *; omega))) trivial fun r2 hr2 => ?_
        conv => cbv
        try dsimp only at hr2
        refine r_mulf m.sY (by first | omega | (subst_vars; omega)) (by first | omega | (subst_vars; omega)) fun r3 hr3 => ?_
        conv => cbv
        refine r_addf m.sY (by omega) (by omega) fun r4 hr4 => ?_
        conv => cbv
        refine r_leq m.sY (fun h3 => ?_) (fun h3 => ?_) <;> conv => cbv
        · have c : n.toNat < words.length ∧ (words.take (n.toNat + 1)).sum + (n.toNat : Int) * rA ≤ measure := ⟨by omega, by rw [← ze, show ((n.toNat : Nat) : Int) = n by omega]; omega⟩
          refine r_addf m.sX (by omega) (by omega) fun n_2 hn_2 => ?_
          conv => cbv
          refine hE _ n_2 ?_ ?_ ⟨(by (try dsimp only) <;> (omega)), (by (try dsimp only) <;> (rw [q, show words.length - n.toNat = (words.length - n_2.toNat) + 1 by omega, fitW_step _ c, show n.toNat + 1 = n_2.toNat by omega]))⟩ (by first | omega | (dsimp only; omega))
          · cbv
          · cbv
        · refine hF _ _ ?_
          conv => cbv
          exact hQ (.tup [.int .i64 n, .bool true]) (Eq.trans (by first | rfl | (simp only [lb, lbI, rows_cons, rows_nil, unnilT, unnil, unnilTI, unnilI]; done) | (simp only [lb, lbI, rows_cons, rows_nil, unnilT, unnil, unnilTI, unnilI]; rfl)) (congrArg (ib) (show (n, true) = fitA words (rA, rB, rC) measure from by rw [fitA, if_pos h1, q, fitW_stop _ (fun e => by have e2 := e.2; rw [← ze, show ((n.toNat : Nat) : Int) = n by omega] at e2; dsimp only at e2; omega), show ((n.toNat : Nat) : Int) = n by omega])))   -- leaf 1
      · refine hF _ _ ?_
        conv => cbv
        exact hQ (.tup [.int .i64 n, .bool true]) (Eq.trans (by first | rfl | (simp only [lb, lbI, rows_cons, rows_nil, unnilT, unnil, unnilTI, unnilI]; done) | (simp only [lb, lbI, rows_cons, rows_nil, unnilT, unnil, unnilTI, unnilI]; rfl)) (congrArg (ib) (show (n, true) = fitA words (rA, rB, rC) measure from by rw [fitA, if_pos h1, q, fitW_stop _ (fun e => by have e1 := e.1; omega), show ((n.toNat : Nat) : Int) = n by omega])))   -- leaf 2
    · exact hQ (.tup [.int .i64 0, .bool false]) (Eq.trans (by first | rfl | (simp only [lb, lbI, rows_cons, rows_nil, unnilT, unnil, unnilTI, unnilI]; done) | (simp only [lb, lbI, rows_cons, rows_nil, unnilT, unnil, unnilTI, unnilI]; rfl)) (congrArg (ib) (show (0, false) = fitA words (rA, rB, rC) measure from by rw [fitA, h1]; rfl)))   -- leaf 3

theorem specWordsThatFit_ok (words : List Int) (r : JRule) (measure : Int)  : OkA Try.prog 51 [.isl 1 (rows cInt words), .agg (cRule r), .int .i64 measure] (· = ib (fitA words r measure)) := by
  obtain ⟨rA, rB, rC⟩ := r
  try dsimp only at *
  exact fn_intro envOk fieldsOk mixed Try.func51 rfl fun κ X Y L Q m hQ => by
    conv => cbv
    refine r_callB m.sX (juAsked_ok words (rA, rB, rC) measure) (fun h1 => ?_) (fun h1 => ?_) <;> conv => cbv
    · have hj := askJ_in h1
      try dsimp only at hj
      have s1 := line_sum hj.line
      try dsimp only at s1
      have s2 := okRule_spec hj.rule
      try dsimp only at s2
      have s3 := inB_spec hj.meas
      try dsimp only at s3
      have s4 := (okLine_spec hj.line).1
      try dsimp only at s4
      refine r_loopF (α := Int) m 35 [0, 2, 8] [⟨4, 33, 0, 0, 0⟩] (fun σ => [(0, .isl 1 (rows cInt words)), (2, .int .i64 measure), (4, .optr 33 0 3 0 0), (8, .int .i64 σ)]) (fun σ => [(33, 0, .box [.int .i64 rA, .int .i64 rB, .int .i64 rC])])
        (fun σ => (0 ≤ σ ∧ σ ≤ words.length) ∧ (fitW words (rA, rB, rC) measure words.length 0 = fitW words (rA, rB, rC) measure (words.length - σ.toNat) σ.toNat)) (fun σ => ((words.length : Int) - σ).toNat) 0 ?_ ?_ ?_ ?_
      · cbv
      · cbv
      · exact ⟨(by (try dsimp only) <;> first | omega | rfl | (simp [*]; done)), (by (try dsimp only) <;> (rfl))⟩
      rintro n ⟨nb, q⟩ E hE F hF
      conv => cbv
      refine r_draw m (by kernel_rfl) ?_
      conv => cbv
      refine r_lenRS m.sY (by omega) fun n1 hn1 => ?_
      conv => cbv
      refine r_lss m.sY (fun h2 => ?_) (fun h2 => ?_) <;> conv => cbv
      · refine r_addf m.sY (by omega) (by omega) fun r1 hr1 => ?_
        conv => cbv
        refine r_islice (i := 0) (j := r1) m.sY (by omega) (by omega) (by omega) fun zs1 hzs1 => ?_   -- zs1 = words[None:r1]
        have lzs1 : (zs1.length : Int) = r1 - 0 := by rw [hzs1]; first | done | (simp; done) | (simp; omega)
        have ze : zs1 = words.take (n.toNat + 1) := by rw [hzs1, show r1.toNat = n.toNat + 1 by omega]; rfl
        have zm : ∀ x ∈ zs1, 0 ≤ x ∧ x ≤ 600 := fun x hx => by have z := s4 x (by rw [ze] at hx; exact List.mem_of_mem_take hx); omega
        have zl : (zs1.length : Int) ≤ 20 := by rw [ze, List.length_take]; omega
        have zf : SumFits zs1 := sumfits_of 600 (fun x hx => by have z := zm x hx; omega) (by omega)
        have zb := sum_bound (ws := zs1) (B := 600) (by omega) zm
        try dsimp only at zb
        have mb := mul_bound (a := n) (A := 20) (b := rA) (B := 54) (by omega) (by omega) (by omega) (by omega)
        try dsimp only at mb
        conv => cbv
        refine r_callFS (PV.int .i64) m.sY (juSum_ok zs1 (by first | rfl | assumption | omega | (simp only [List.length_append, List.length_cons, List.length_nil] at *; omega))) trivial fun r2 hr2 => ?_
        conv => cbv
        try dsimp only at hr2
        refine r_mulf m.sY (by first | omega | (subst_vars; omega)) (by first | omega | (subst_vars; omega)) fun r3 hr3 => ?_
        conv => cbv
        refine r_addf m.sY (by omega) (by omega) fun r4 hr4 => ?_
        conv => cbv
        refine r_leq m.sY (fun h3 => ?_) (fun h3 => ?_) <;> conv => cbv
        · have c : n.toNat < words.length ∧ (words.take (n.toNat + 1)).sum + (n.toNat : Int) * rA ≤ measure := ⟨by omega, by rw [← ze, show ((n.toNat : Nat) : Int) = n by omega]; omega⟩
          refine r_addf m.sX (by omega) (by omega) fun n_2 hn_2 => ?_
          conv => cbv
          refine hE _ n_2 ?_ ?_ ⟨(by (try dsimp only) <;> (omega)), (by (try dsimp only) <;> (rw [q, show words.length - n.toNat = (words.length - n_2.toNat) + 1 by omega, fitW_step _ c, show n.toNat + 1 = n_2.toNat by omega]))⟩ (by first | omega | (dsimp only; omega))
          · cbv
          · cbv
        · refine hF _ _ ?_
          conv => cbv
          exact hQ (.tup [.int .i64 n, .bool true]) (Eq.trans (by first | rfl | (simp only [lb, lbI, rows_cons, rows_nil, unnilT, unnil, unnilTI, unnilI]; done) | (simp only [lb, lbI, rows_cons, rows_nil, unnilT, unnil, unnilTI, unnilI]; rfl)) (congrArg (ib) (show (n, true) = fitA words (rA, rB, rC) measure from by rw [fitA, if_pos h1, q, fitW_stop _ (fun e => by have e2 := e.2; rw [← ze, show ((n.toNat : Nat) : Int) = n by omega] at e2; dsimp only at e2; omega), show ((n.toNat : Nat) : Int) = n by omega])))   -- leaf 1
      · refine hF _ _ ?_
        conv => cbv
        exact hQ (.tup [.int .i64 n, .bool true]) (Eq.trans (by first | rfl | (simp only [lb, lbI, rows_cons, rows_nil, unnilT, unnil, unnilTI, unnilI]; done) | (simp only [lb, lbI, rows_cons, rows_nil, unnilT, unnil, unnilTI, unnilI]; rfl)) (congrArg (ib) (show (n, true) = fitA words (rA, rB, rC) measure from by rw [fitA, if_pos h1, q, fitW_stop _ (fun e => by have e1 := e.1; omega), show ((n.toNat : Nat) : Int) = n by omega])))   -- leaf 2
    · exact hQ (.tup [.int .i64 0, .bool false]) (Eq.trans (by first | rfl | (simp only [lb, lbI, rows_cons, rows_nil, unnilT, unnil, unnilTI, unnilI]; done) | (simp only [lb, lbI, rows_cons, rows_nil, unnilT, unnil, unnilTI, unnilI]; rfl)) (congrArg (ib) (show (0, false) = fitA words (rA, rB, rC) measure from by rw [fitA, h1]; rfl)))   -- leaf 3

theorem BestMeasure_ok (words : List Int) (r : JRule) (from_ : Int) (to_ : Int)  : OkA Try.prog 54 [.isl 1 (rows cInt words), .agg (cRule r), .int .i64 from_, .int .i64 to_] (· = ib (bmA words r from_ to_)) := by
  obtain ⟨rA, rB, rC⟩ := r
  try dsimp only at *
  exact fn_intro envOk fieldsOk mixed Try.func54 rfl fun κ X Y L Q m hQ => by
    conv => cbv
    refine r_callB m.sX (isSetLine_ok words (rA, rB, rC) from_) (fun h1 => ?_) (fun h1 => ?_) <;> conv => cbv
    · refine r_callB m.sX (isMeasure_ok to_) (fun h2 => ?_) (fun h2 => ?_) <;> conv => cbv
      · have hj := askJ_in h1
        try dsimp only at hj
        have s3 := inB_spec hj.meas
        try dsimp only at s3
        have tb := inB_spec h2
        try dsimp only at tb
        refine r_loopF (α := Int × Int × Int) m 53 [0, 3, 10, 11, 12] [⟨5, 41, 0, 0, 0⟩] (fun σ => [(0, .isl 1 (rows cInt words)), (3, .int .i64 to_), (5, .optr 41 0 3 0 0), (10, .int .i64 σ.1), (11, .int .i64 σ.2.1), (12, .int .i64 σ.2.2)]) (fun σ => [(41, 0, .box [.int .i64 rA, .int .i64 rB, .int .i64 rC])])
          (fun σ => (from_ ≤ σ.2.2 ∧ (σ.2.2 ≤ to_ + 1 ∨ σ.2.2 = from_)) ∧ (bmG words (rA, rB, rC) (to_ + 1 - from_).toNat from_ (-1) = bmG words (rA, rB, rC) (to_ + 1 - σ.2.2).toNat σ.2.2 (if σ.2.1 < 0 then -1 else σ.1)) ∧ ((σ.2.1 < 0 → σ.1 = 0) ∧ (0 ≤ σ.2.1 → σ.2.1 = cW words (rA, rB, rC) σ.1 ∧ 1 ≤ σ.1))) (fun σ => (to_ + 1 - σ.2.2).toNat) (0, -1, from_) ?_ ?_ ?_ ?_
        · cbv
        · cbv
        · exact ⟨(by (try dsimp only) <;> (omega)), (by (try dsimp only) <;> (rw [if_pos (by omega)])), (by (try dsimp only) <;> (exact ⟨fun _ => rfl, fun e => absurd e (by omega)⟩))⟩
        rintro ⟨best, least, measure⟩ ⟨mb, q, lb⟩ E hE F hF
        dsimp only at mb q lb
        conv => cbv
        refine r_leq m.sX (fun h3 => ?_) (fun h3 => ?_) <;> conv => cbv
        · have jm := jin_at hj (x := measure) (by omega)
          try dsimp only at jm
          refine r_callF ib m.sX (CostOfLine_ok words (rA, rB, rC) measure) fun v hn => ?_
          obtain ⟨n, ok⟩ := v
          conv => cbv
          try dsimp only at hn
          rcases Bool.eq_false_or_eq_true ok with rfl | rfl <;> conv => cbv
          · have fm := cost_true jm hn
            try dsimp only at fm
            have n0 : 0 ≤ n := by rw [fm.2]; exact cW_nonneg _ _ _
            refine r_lss m.sX (fun h4 => ?_) (fun h4 => ?_) <;> conv => cbv
            · have bs : bmS words (rA, rB, rC) measure (if least < 0 then -1 else best) = measure := by rw [if_pos h4, bmS, if_pos ⟨fm.1, .inl (by omega)⟩]
              have bw : (if n < 0 then -1 else measure) = measure := if_neg (by omega)
              refine r_addf m.sX (by omega) (by omega) fun measure_2 hmeasure_2 => ?_
              conv => cbv
              refine hE _ (measure, n, measure_2) ?_ ?_ ⟨(by (try dsimp only) <;> (omega)), (by (try dsimp only) <;> (first | rw [q, show (to_ + 1 - measure).toNat = (to_ + 1 - measure_2).toNat + 1 by omega, bmG_step _ bs.symm, ← hmeasure_2, bw] | rw [q, show (to_ + 1 - measure).toNat = (to_ + 1 - measure_2).toNat + 1 by omega, bmG_step _ bs.symm, ← hmeasure_2])), (by (try dsimp only) <;> (first | exact lb | exact ⟨fun e => absurd e (by omega), fun _ => ⟨fm.2, by omega⟩⟩))⟩ (by first | omega | (dsimp only; omega))
              · cbv
              · cbv
            · refine r_lss m.sX (fun h5 => ?_) (fun h5 => ?_) <;> conv => cbv
              · have lq := (lb.2 (by omega)).1
                try dsimp only at lq
                have bs : bmS words (rA, rB, rC) measure (if least < 0 then -1 else best) = measure := by rw [if_neg (show ¬ least < 0 by omega), bmS, if_pos ⟨fm.1, .inr (by rw [← fm.2, ← lq]; exact h5)⟩]
                have bw : (if n < 0 then -1 else measure) = measure := if_neg (by omega)
                refine r_addf m.sX (by omega) (by omega) fun measure_3 hmeasure_3 => ?_
                conv => cbv
                refine hE _ (measure, n, measure_3) ?_ ?_ ⟨(by (try dsimp only) <;> (omega)), (by (try dsimp only) <;> (first | rw [q, show (to_ + 1 - measure).toNat = (to_ + 1 - measure_3).toNat + 1 by omega, bmG_step _ bs.symm, ← hmeasure_3, bw] | rw [q, show (to_ + 1 - measure).toNat = (to_ + 1 - measure_3).toNat + 1 by omega, bmG_step _ bs.symm, ← hmeasure_3])), (by (try dsimp only) <;> (first | exact lb | exact ⟨fun e => absurd e (by omega), fun _ => ⟨fm.2, by omega⟩⟩))⟩ (by first | omega | (dsimp only; omega))
                · cbv
                · cbv
              · have lq := (lb.2 (by omega)).1
                try dsimp only at lq
                have bs : bmS words (rA, rB, rC) measure (if least < 0 then -1 else best) = best := by rw [if_neg (show ¬ least < 0 by omega), bmS, if_neg (fun e => by rcases e.2 with e | e; (have e3 := (lb.2 (by omega)).2; omega); (rw [← fm.2, ← lq] at e; omega))]
                have bw : (if least < 0 then -1 else best) = best := if_neg (by omega)
                refine r_addf m.sX (by omega) (by omega) fun measure_4 hmeasure_4 => ?_
                conv => cbv
                refine hE _ (best, least, measure_4) ?_ ?_ ⟨(by (try dsimp only) <;> (omega)), (by (try dsimp only) <;> (first | rw [q, show (to_ + 1 - measure).toNat = (to_ + 1 - measure_4).toNat + 1 by omega, bmG_step _ bs.symm, ← hmeasure_4, bw] | rw [q, show (to_ + 1 - measure).toNat = (to_ + 1 - measure_4).toNat + 1 by omega, bmG_step _ bs.symm, ← hmeasure_4])), (by (try dsimp only) <;> (first | exact lb | exact ⟨fun e => absurd e (by omega), fun _ => ⟨fm.2, by omega⟩⟩))⟩ (by first | omega | (dsimp only; omega))
                · cbv
                · cbv
          · have ff := cost_false jm hn
            try dsimp only at ff
            have bs : bmS words (rA, rB, rC) measure (if least < 0 then -1 else best) = (if least < 0 then -1 else best) := by rw [bmS, if_neg (fun e => by rw [ff] at e; cases e.1)]
            refine r_addf m.sX (by omega) (by omega) fun measure_5 hmeasure_5 => ?_
            conv => cbv
            refine hE _ (best, least, measure_5) ?_ ?_ ⟨(by (try dsimp only) <;> (omega)), (by (try dsimp only) <;> (first | rw [q, show (to_ + 1 - measure).toNat = (to_ + 1 - measure_5).toNat + 1 by omega, bmG_step _ bs.symm, ← hmeasure_5, bw] | rw [q, show (to_ + 1 - measure).toNat = (to_ + 1 - measure_5).toNat + 1 by omega, bmG_step _ bs.symm, ← hmeasure_5])), (by (try dsimp only) <;> (first | exact lb | exact ⟨fun e => absurd e (by omega), fun _ => ⟨fm.2, by omega⟩⟩))⟩ (by first | omega | (dsimp only; omega))
            · cbv
            · cbv
        · refine hF _ _ ?_
          conv => cbv
          refine r_geq m.sX (fun h6 => ?_) (fun h6 => ?_) <;> conv => cbv
          · exact hQ (.tup [.int .i64 best, .bool true]) (Eq.trans (by first | rfl | (simp only [lb, lbI, rows_cons, rows_nil, unnilT, unnil, unnilTI, unnilI]; done) | (simp only [lb, lbI, rows_cons, rows_nil, unnilT, unnil, unnilTI, unnilI]; rfl)) (congrArg (ib) (show (best, true) = bmA words (rA, rB, rC) from_ to_ from by rw [bmA, if_pos (by rw [h1, h2]; rfl), q, show (to_ + 1 - measure).toNat = 0 by omega, bmG, if_neg (show ¬ least < 0 by omega), if_neg (by have e3 := (lb.2 (by omega)).2; omega)])))   -- leaf 1
          · exact hQ (.tup [.int .i64 best, .bool false]) (Eq.trans (by first | rfl | (simp only [lb, lbI, rows_cons, rows_nil, unnilT, unnil, unnilTI, unnilI]; done) | (simp only [lb, lbI, rows_cons, rows_nil, unnilT, unnil, unnilTI, unnilI]; rfl)) (congrArg (ib) (show (best, false) = bmA words (rA, rB, rC) from_ to_ from by rw [bmA, if_pos (by rw [h1, h2]; rfl), q, show (to_ + 1 - measure).toNat = 0 by omega, bmG, if_pos (show least < 0 by omega), if_pos (by omega), lb.1 (by omega)])))   -- leaf 2
      · exact hQ (.tup [.int .i64 0, .bool false]) (Eq.trans (by first | rfl | (simp only [lb, lbI, rows_cons, rows_nil, unnilT, unnil, unnilTI, unnilI]; done) | (simp only [lb, lbI, rows_cons, rows_nil, unnilT, unnil, unnilTI, unnilI]; rfl)) (congrArg (ib) (show (0, false) = bmA words (rA, rB, rC) from_ to_ from by rw [bmA, h1, h2]; rfl)))   -- leaf 3
    · exact hQ (.tup [.int .i64 0, .bool false]) (Eq.trans (by first | rfl | (simp only [lb, lbI, rows_cons, rows_nil, unnilT, unnil, unnilTI, unnilI]; done) | (simp only [lb, lbI, rows_cons, rows_nil, unnilT, unnil, unnilTI, unnilI]; rfl)) (congrArg (ib) (show (0, false) = bmA words (rA, rB, rC) from_ to_ from by rw [bmA, h1]; rfl)))   -- leaf 4

theorem specBestMeasure_ok (words : List Int) (r : JRule) (from_ : Int) (to_ : Int)  : OkA Try.prog 55 [.isl 1 (rows cInt words), .agg (cRule r), .int .i64 from_, .int .i64 to_] (· = ib (bmA words r from_ to_)) := by
  obtain ⟨rA, rB, rC⟩ := r
  try dsimp only at *
  exact fn_intro envOk fieldsOk mixed Try.func55 rfl fun κ X Y L Q m hQ => by
    conv => cbv
    refine r_callB m.sX (juAsked_ok words (rA, rB, rC) from_) (fun h1 => ?_) (fun h1 => ?_) <;> conv => cbv
    · refine r_callB m.sX (juMeasure_ok to_) (fun h2 => ?_) (fun h2 => ?_) <;> conv => cbv
      · have hj := askJ_in h1
        try dsimp only at hj
        have s3 := inB_spec hj.meas
        try dsimp only at s3
        have tb := inB_spec h2
        try dsimp only at tb
        refine r_loopF (α := Int × Int) m 52 [0, 3, 10, 11] [⟨5, 41, 0, 0, 0⟩] (fun σ => [(0, .isl 1 (rows cInt words)), (3, .int .i64 to_), (5, .optr 41 0 3 0 0), (10, .int .i64 σ.1), (11, .int .i64 σ.2)]) (fun σ => [(41, 0, .box [.int .i64 rA, .int .i64 rB, .int .i64 rC])])
          (fun σ => (from_ ≤ σ.2 ∧ (σ.2 ≤ to_ + 1 ∨ σ.2 = from_)) ∧ (bmG words (rA, rB, rC) (to_ + 1 - from_).toNat from_ (-1) = bmG words (rA, rB, rC) (to_ + 1 - σ.2).toNat σ.2 σ.1) ∧ (-1 ≤ σ.1 ∧ σ.1 ≤ 2000 ∧ (0 ≤ σ.1 → 1 ≤ σ.1 ∧ fitsJ words (rA, rB, rC) σ.1 = true))) (fun σ => (to_ + 1 - σ.2).toNat) (-1, from_) ?_ ?_ ?_ ?_
        · cbv
        · cbv
        · exact ⟨(by (try dsimp only) <;> (omega)), (by (try dsimp only) <;> (rfl)), (by (try dsimp only) <;> (exact ⟨by omega, by omega, fun e => absurd e (by omega)⟩))⟩
        rintro ⟨best, n⟩ ⟨mb, q, bb⟩ E hE F hF
        dsimp only at mb q bb
        conv => cbv
        refine r_leq m.sX (fun h3 => ?_) (fun h3 => ?_) <;> conv => cbv
        · have jn := jin_at hj (x := n) (by omega)
          try dsimp only at jn
          refine r_draw m (by kernel_rfl) ?_
          conv => cbv
          refine r_callFS (PV.int .i64) m.sY (juWhy_ok words (rA, rB, rC) n (by first | rfl | assumption | omega | (simp only [List.length_append, List.length_cons, List.length_nil] at *; omega))) trivial fun r1 hr1 => ?_
          conv => cbv
          try dsimp only at hr1
          refine r_eql m.sY (fun h4 => ?_) (fun h4 => ?_) <;> conv => cbv
          · have ef := why_fits (show whyF words (rA, rB, rC) n = 0 by omega)
            try dsimp only at ef
            refine r_lss m.sY (fun h5 => ?_) (fun h5 => ?_) <;> conv => cbv
            · have bs : bmS words (rA, rB, rC) n best = n := by rw [bmS, if_pos ⟨ef, .inl h5⟩]
              refine r_addf m.sX (by omega) (by omega) fun n_2 hn_2 => ?_
              conv => cbv
              refine hE _ (n, n_2) ?_ ?_ ⟨(by (try dsimp only) <;> (omega)), (by (try dsimp only) <;> (rw [q, show (to_ + 1 - n).toNat = (to_ + 1 - n_2).toNat + 1 by omega, bmG_step _ bs.symm, ← hn_2])), (by (try dsimp only) <;> (first | exact bb | exact ⟨by omega, by omega, fun _ => ⟨by omega, ef⟩⟩))⟩ (by first | omega | (dsimp only; omega))
              · cbv
              · cbv
            · have jb := jin_at hj (x := best) (by have e3 := (bb.2.2 (by omega)).1; omega)
              try dsimp only at jb
              have fb := (bb.2.2 (by omega)).2
              try dsimp only at fb
              refine r_callFS (PV.int .i64) m.sY (juCost_ok words (rA, rB, rC) n (by first | rfl | assumption | omega | (simp only [List.length_append, List.length_cons, List.length_nil] at *; omega)) (by first | rfl | assumption | omega | (simp only [List.length_append, List.length_cons, List.length_nil] at *; omega))) trivial fun r2 hr2 => ?_
              conv => cbv
              try dsimp only at hr2
              refine r_callFS (PV.int .i64) m.sY (juCost_ok words (rA, rB, rC) best (by first | rfl | assumption | omega | (simp only [List.length_append, List.length_cons, List.length_nil] at *; omega)) (by first | rfl | assumption | omega | (simp only [List.length_append, List.length_cons, List.length_nil] at *; omega))) trivial fun r3 hr3 => ?_
              conv => cbv
              try dsimp only at hr3
              refine r_lss m.sY (fun h6 => ?_) (fun h6 => ?_) <;> conv => cbv
              · have bs : bmS words (rA, rB, rC) n best = n := by rw [bmS, if_pos ⟨ef, .inr (by rw [cW, cW, ← hr2, ← hr3]; exact h6)⟩]
                refine r_addf m.sX (by omega) (by omega) fun n_3 hn_3 => ?_
                conv => cbv
                refine hE _ (n, n_3) ?_ ?_ ⟨(by (try dsimp only) <;> (omega)), (by (try dsimp only) <;> (rw [q, show (to_ + 1 - n).toNat = (to_ + 1 - n_3).toNat + 1 by omega, bmG_step _ bs.symm, ← hn_3])), (by (try dsimp only) <;> (first | exact bb | exact ⟨by omega, by omega, fun _ => ⟨by omega, ef⟩⟩))⟩ (by first | omega | (dsimp only; omega))
                · cbv
                · cbv
              · have bs : bmS words (rA, rB, rC) n best = best := by rw [bmS, if_neg (fun e => by rcases e.2 with e | e; omega; (rw [cW, cW, ← hr2, ← hr3] at e; omega))]
                refine r_addf m.sX (by omega) (by omega) fun n_4 hn_4 => ?_
                conv => cbv
                refine hE _ (best, n_4) ?_ ?_ ⟨(by (try dsimp only) <;> (omega)), (by (try dsimp only) <;> (rw [q, show (to_ + 1 - n).toNat = (to_ + 1 - n_4).toNat + 1 by omega, bmG_step _ bs.symm, ← hn_4])), (by (try dsimp only) <;> (first | exact bb | exact ⟨by omega, by omega, fun _ => ⟨by omega, ef⟩⟩))⟩ (by first | omega | (dsimp only; omega))
                · cbv
                · cbv
          · have ef := why_not (show whyF words (rA, rB, rC) n ≠ 0 by omega)
            try dsimp only at ef
            have bs : bmS words (rA, rB, rC) n best = best := by rw [bmS, if_neg (fun e => by rw [ef] at e; cases e.1)]
            refine r_addf m.sX (by omega) (by omega) fun n_5 hn_5 => ?_
            conv => cbv
            refine hE _ (best, n_5) ?_ ?_ ⟨(by (try dsimp only) <;> (omega)), (by (try dsimp only) <;> (rw [q, show (to_ + 1 - n).toNat = (to_ + 1 - n_5).toNat + 1 by omega, bmG_step _ bs.symm, ← hn_5])), (by (try dsimp only) <;> (first | exact bb | exact ⟨by omega, by omega, fun _ => ⟨by omega, ef⟩⟩))⟩ (by first | omega | (dsimp only; omega))
            · cbv
            · cbv
        · refine hF _ _ ?_
          conv => cbv
          refine r_lss m.sX (fun h7 => ?_) (fun h7 => ?_) <;> conv => cbv
          · exact hQ (.tup [.int .i64 0, .bool false]) (Eq.trans (by first | rfl | (simp only [lb, lbI, rows_cons, rows_nil, unnilT, unnil, unnilTI, unnilI]; done) | (simp only [lb, lbI, rows_cons, rows_nil, unnilT, unnil, unnilTI, unnilI]; rfl)) (congrArg (ib) (show (0, false) = bmA words (rA, rB, rC) from_ to_ from by rw [bmA, if_pos (by rw [h1, h2]; rfl), q, show (to_ + 1 - n).toNat = 0 by omega, bmG, if_pos h7])))   -- leaf 1
          · exact hQ (.tup [.int .i64 best, .bool true]) (Eq.trans (by first | rfl | (simp only [lb, lbI, rows_cons, rows_nil, unnilT, unnil, unnilTI, unnilI]; done) | (simp only [lb, lbI, rows_cons, rows_nil, unnilT, unnil, unnilTI, unnilI]; rfl)) (congrArg (ib) (show (best, true) = bmA words (rA, rB, rC) from_ to_ from by rw [bmA, if_pos (by rw [h1, h2]; rfl), q, show (to_ + 1 - n).toNat = 0 by omega, bmG, if_neg (by omega)])))   -- leaf 2
      · exact hQ (.tup [.int .i64 0, .bool false]) (Eq.trans (by first | rfl | (simp only [lb, lbI, rows_cons, rows_nil, unnilT, unnil, unnilTI, unnilI]; done) | (simp only [lb, lbI, rows_cons, rows_nil, unnilT, unnil, unnilTI, unnilI]; rfl)) (congrArg (ib) (show (0, false) = bmA words (rA, rB, rC) from_ to_ from by rw [bmA, h1, h2]; rfl)))   -- leaf 3
    · exact hQ (.tup [.int .i64 0, .bool false]) (Eq.trans (by first | rfl | (simp only [lb, lbI, rows_cons, rows_nil, unnilT, unnil, unnilTI, unnilI]; done) | (simp only [lb, lbI, rows_cons, rows_nil, unnilT, unnil, unnilTI, unnilI]; rfl)) (congrArg (ib) (show (0, false) = bmA words (rA, rB, rC) from_ to_ from by rw [bmA, h1]; rfl)))   -- leaf 4

theorem tyWide_ok (f : List FSort) (sorts : List Int) (hz : ∀ z ∈ sorts, 0 ≤ z ∧ z < f.length) (hl : sorts.length ≤ 100) (hf : ∀ k, -100 ≤ setAt f k ∧ setAt f k ≤ 100) : OkA Try.prog 204 [.isl 2 (rows cSort f), .isl 1 (rows cInt sorts)] (· = .int .i64 (wideI f sorts)) :=
  fn_intro envOk fieldsOk mixed Try.func204 rfl fun κ X Y L Q m hQ => by
    conv => cbv
    refine r_lenR m.sX fun n1 hn1 mn1 => ?_
    conv => cbv
    refine r_loopF (α := Int × Int) m 23 [0, 5, 8, 9, 10] [] (fun σ => [(0, .isl 2 (rows cSort f)), (5, .int .i64 σ.1), (8, .isl 1 (rows cInt sorts)), (9, .int .i64 n1), (10, .int .i64 σ.2)]) (fun σ => [])
      (fun σ => (0 ≤ σ.2) ∧ (σ.2 ≤ n1) ∧ (σ.1 = wideI f (sorts.take σ.2.toNat)) ∧ (-(100 * σ.2) ≤ σ.1 ∧ σ.1 ≤ 100 * σ.2)) (fun σ => (n1 - σ.2).toNat) (0, 0) ?_ ?_ ?_ ?_
    · cbv
    · cbv
    · exact ⟨(by (try dsimp only); first | omega | (simp only [List.length_nil]; omega)), (by (try dsimp only); first | omega | (simp only [List.length_nil]; omega)), (by (try dsimp only) <;> (rfl)), (by (try dsimp only) <;> first | omega | rfl | (simp [*]; done))⟩
    rintro ⟨sum, i1⟩ ⟨lo1, hi1, q, sb⟩ E hE F hF
    dsimp only at lo1 hi1 q sb
    conv => cbv
    refine r_lss m.sX (fun h1 => ?_) (fun h1 => ?_) <;> conv => cbv
    · refine r_index m.sX (by omega) (by omega) fun i hi => ?_
      conv => cbv
      have mi := get_mem hi
      have di := drop_cons hi
      have ki := take_snoc hi
      have ji : (i1 + 1).toNat = Int.toNat i1 + 1 := by omega
      have vi := nth_some hi
      have bi := hz _ mi
      refine r_index m.sX (by omega) (by omega) fun v hx1A => ?_
      obtain ⟨x1A, x1B⟩ := v
      conv => cbv
      have hx1 := hx1A
      have mx1 := get_mem hx1
      have sv : setAt f i = x1B := setAt_some hx1
      have sb1 := hf i
      try dsimp only at sb1
      refine r_addf m.sX (by omega) (by omega) fun sum_2 hsum_2 => ?_
      conv => cbv
      refine r_addf m.sX (by omega) (by omega) fun r1 hr1 => ?_
      conv => cbv
      try have tr1 : Int.toNat r1 = Int.toNat i1 + 1 := by omega
      refine hE _ (sum_2, r1) ?_ ?_ ⟨(by (try dsimp only); first | omega | (simp only [List.length_nil]; omega)), (by (try dsimp only); first | omega | (simp only [List.length_nil]; omega)), (by (try dsimp only) <;> (rw [hsum_2, q, tr1, wideI_take hi, sv])), (by (try dsimp only) <;> (omega))⟩ (by first | omega | (dsimp only; omega))
      · cbv
      · cbv
    · have dz_i1 := drop_end (xs := sorts) (i := Int.toNat i1) (by omega)
      have tz_i1 := take_end (xs := sorts) (i := Int.toNat i1) (by omega)
      refine hF _ _ ?_
      conv => cbv
      exact hQ (.int .i64 sum) (Eq.trans (by first | rfl | (simp only [lb, lbI, rows_cons, rows_nil, unnilT, unnil, unnilTI, unnilI]; done) | (simp only [lb, lbI, rows_cons, rows_nil, unnilT, unnil, unnilTI, unnilI]; rfl)) (congrArg (PV.int .i64) (show sum = wideI f sorts from by rw [q, tz_i1])))   -- leaf 1

theorem tyWidth_ok (f : List FSort) (word : List UInt8) (hc : CodesOk f) (hw : word.length ≤ 16) (hf : ∀ k, -100 ≤ setAt f k ∧ setAt f k ≤ 100) : OkA Try.prog 190 [.isl 2 (rows cSort f), .str word] (· = ib ((wideI f (wordI f word), (setW f word []).2))) :=
  fn_intro envOk fieldsOk mixed Try.func190 rfl fun κ X Y L Q m hQ => by
    conv => cbv
    refine r_callF (lb 3 1 cInt) m.sX (tySet_ok f word (by first | rfl | assumption | omega | (simp only [List.length_append, List.length_cons, List.length_nil] at *; omega)) (by first | rfl | assumption | omega | (simp only [List.length_append, List.length_cons, List.length_nil] at *; omega))) fun v hsorts => ?_
    obtain ⟨sorts, ok⟩ := v
    conv => cbv
    have we := setW_wordI hsorts
    have wi := wordI_in hc word
    rw [← we] at wi
    have w1 := wi.1
    have w2 : sorts.length ≤ 100 := by omega
    refine .inl (r_callFO intPV m.sX ((tyWide_ok f sorts (by first | rfl | assumption | omega | (simp only [List.length_append, List.length_cons, List.length_nil] at *; omega)) (by first | rfl | assumption | omega | (simp only [List.length_append, List.length_cons, List.length_nil] at *; omega)) (by first | rfl | assumption | omega | (simp only [List.length_append, List.length_cons, List.length_nil] at *; omega))).ok flat_int) fun r1 hr1 => ?_)
    conv => cbv
    exact hQ (.tup [.int .i64 r1, .bool ok]) (Eq.trans (by first | rfl | (simp only [lb, lbI, rows_cons, rows_nil, unnilT, unnil, unnilTI, unnilI]; done) | (simp only [lb, lbI, rows_cons, rows_nil, unnilT, unnil, unnilTI, unnilI]; rfl)) (congrArg (ib) (show (r1, ok) = (wideI f (wordI f word), (setW f word []).2) from by exact Prod.ext (by show r1 = wideI f (wordI f word); rw [hr1, we]) (by show ok = (setW f word []).2; rw [← hsorts]))))   -- leaf 1

theorem juWidths_ok (f : List FSort) (words : List (List UInt8)) (hf : okFont f = true) (hk : ∀ w ∈ words, okWord w = true) (hl : words.length ≤ 40) : OkA Try.prog 140 [.isl 2 (rows cSort f), .isl 1 (rows cStr words)] (· = (lb 3 1 cInt) (wdG f words [])) :=
  OkA.unnil 3 1 (fn_intro envOk fieldsOk mixed Try.func140 rfl fun κ X Y L Q m hQ => by
    have hc := okFont_codes hf
    have fs : ∀ k, -100 ≤ setAt f k ∧ setAt f k ≤ 100 := fun k => by have z := font_sets hf k; omega
    conv => cbv
    refine r_lenR m.sX fun n1 hn1 mn1 => ?_
    conv => cbv
    refine r_loopF (α := List Int × Int) m 31 [0, 11, 12, 13] [⟨6, 49, 3, 1, 0⟩] (fun σ => [(0, .isl 2 (rows cSort f)), (6, .osl 49 0), (11, .isl 1 (rows cStr words)), (12, .int .i64 n1), (13, .int .i64 σ.2)]) (fun σ => [(49, 0, .row 3 1 (rows cInt σ.1))])
      (fun σ => (0 ≤ σ.2) ∧ (σ.2 ≤ n1) ∧ (wdG f words [] = wdG f (words.drop σ.2.toNat) σ.1) ∧ ((σ.1.length : Int) ≤ σ.2)) (fun σ => (n1 - σ.2).toNat) ([], 0) ?_ ?_ ?_ ?_
    · cbv
    · (try dsimp only); simp only [rows_cons, rows_nil]; cbv
    · exact ⟨(by (try dsimp only); first | omega | (simp only [List.length_nil]; omega)), (by (try dsimp only); first | omega | (simp only [List.length_nil]; omega)), (by (try dsimp only) <;> (rfl)), (by (try dsimp only) <;> first | omega | rfl | (simp [*]; done))⟩
    rintro ⟨out, i1⟩ ⟨lo1, hi1, q, ln⟩ E hE F hF
    dsimp only at lo1 hi1 q ln
    conv => cbv
    refine r_lss m.sX (fun h1 => ?_) (fun h1 => ?_) <;> conv => cbv
    · refine r_index m.sX (by omega) (by omega) fun w hw => ?_
      conv => cbv
      have mw := get_mem hw
      have dw := drop_cons hw
      have kw := take_snoc hw
      have jw : (i1 + 1).toNat = Int.toNat i1 + 1 := by omega
      have wl := okWord_len (hk w mw)
      refine r_callF ib m.sX (tyWidth_ok f w (by first | rfl | assumption | omega | (simp only [List.length_append, List.length_cons, List.length_nil] at *; omega)) (by first | rfl | assumption | omega | (simp only [List.length_append, List.length_cons, List.length_nil] at *; omega)) (by first | rfl | assumption | omega | (simp only [List.length_append, List.length_cons, List.length_nil] at *; omega))) fun v hn => ?_
      obtain ⟨n, ok⟩ := v
      conv => cbv
      rcases Bool.eq_false_or_eq_true ok with rfl | rfl <;> conv => cbv
      · refine r_append1 (n) m.sX rfl (by first | omega | (dsimp only; omega)) (by first | omega | (dsimp only; omega)) fun out_2 hout_2 => ?_
        conv => cbv
        have lout_2 : (out_2.length : Int) = out.length + 1 := by rw [hout_2]; first | done | (simp; done) | (simp; omega)
        refine r_addf m.sX (by omega) (by omega) fun r1 hr1 => ?_
        conv => cbv
        try have tr1 : Int.toNat r1 = Int.toNat i1 + 1 := by omega
        refine hE _ (out_2, r1) ?_ ?_ ⟨(by (try dsimp only); first | omega | (simp only [List.length_nil]; omega)), (by (try dsimp only); first | omega | (simp only [List.length_nil]; omega)), (by (try dsimp only) <;> (rw [q, wdG_ok _ hw hn, hout_2, tr1])), (by (try dsimp only) <;> (omega))⟩ (by first | omega | (dsimp only; omega))
        · cbv
        · cbv
      · refine hF _ _ ?_
        conv => cbv
        exact hQ (.tup [.nil, .bool false]) (Eq.trans (by first | rfl | (simp only [lb, lbI, rows_cons, rows_nil, unnilT, unnil, unnilTI, unnilI]; done) | (simp only [lb, lbI, rows_cons, rows_nil, unnilT, unnil, unnilTI, unnilI]; rfl)) (congrArg ((lb 3 1 cInt)) (show ([], false) = wdG f words [] from by rw [q, wdG_no _ hw hn])))   -- leaf 1
    · have dz_i1 := drop_end (xs := words) (i := Int.toNat i1) (by omega)
      have tz_i1 := take_end (xs := words) (i := Int.toNat i1) (by omega)
      refine hF _ _ ?_
      conv => cbv
      exact hQ (.tup [.fr 3 1 (rows cInt out), .bool true]) (Eq.trans (by first | rfl | (simp only [lb, lbI, rows_cons, rows_nil, unnilT, unnil, unnilTI, unnilI]; done) | (simp only [lb, lbI, rows_cons, rows_nil, unnilT, unnil, unnilTI, unnilI]; rfl)) (congrArg ((lb 3 1 cInt)) (show (out, true) = wdG f words [] from by rw [q, wdG_end _ (by omega)]))))   -- leaf 2

theorem widthOf_ok (f : List FSort) (list : List Int) (hz : ∀ z ∈ list, 0 ≤ z ∧ z < f.length) (hl : list.length ≤ 100) (hf : ∀ k, -100 ≤ setAt f k ∧ setAt f k ≤ 100) : OkA Try.prog 146 [.isl 2 (rows cSort f), .isl 1 (rows cInt list)] (· = .int .i64 (wideI f list)) :=
  fn_intro envOk fieldsOk mixed Try.func146 rfl fun κ X Y L Q m hQ => by
    conv => cbv
    refine r_lenR m.sX fun n1 hn1 mn1 => ?_
    conv => cbv
    refine r_loopF (α := Int × Int) m 23 [0, 5, 8, 9, 10] [] (fun σ => [(0, .isl 2 (rows cSort f)), (5, .int .i64 σ.1), (8, .isl 1 (rows cInt list)), (9, .int .i64 n1), (10, .int .i64 σ.2)]) (fun σ => [])
      (fun σ => (0 ≤ σ.2) ∧ (σ.2 ≤ n1) ∧ (σ.1 = wideI f (list.take σ.2.toNat)) ∧ (-(100 * σ.2) ≤ σ.1 ∧ σ.1 ≤ 100 * σ.2)) (fun σ => (n1 - σ.2).toNat) (0, 0) ?_ ?_ ?_ ?_
    · cbv
    · cbv
    · exact ⟨(by (try dsimp only); first | omega | (simp only [List.length_nil]; omega)), (by (try dsimp only); first | omega | (simp only [List.length_nil]; omega)), (by (try dsimp only) <;> (rfl)), (by (try dsimp only) <;> first | omega | rfl | (simp [*]; done))⟩
    rintro ⟨n, i1⟩ ⟨lo1, hi1, q, sb⟩ E hE F hF
    dsimp only at lo1 hi1 q sb
    conv => cbv
    refine r_lss m.sX (fun h1 => ?_) (fun h1 => ?_) <;> conv => cbv
    · refine r_index m.sX (by omega) (by omega) fun i hi => ?_
      conv => cbv
      have mi := get_mem hi
      have di := drop_cons hi
      have ki := take_snoc hi
      have ji : (i1 + 1).toNat = Int.toNat i1 + 1 := by omega
      have vi := nth_some hi
      have bi := hz _ mi
      refine r_index m.sX (by omega) (by omega) fun v hx1A => ?_
      obtain ⟨x1A, x1B⟩ := v
      conv => cbv
      have hx1 := hx1A
      have mx1 := get_mem hx1
      have sv : setAt f i = x1B := setAt_some hx1
      have sb1 := hf i
      try dsimp only at sb1
      refine r_addf m.sX (by omega) (by omega) fun n_2 hn_2 => ?_
      conv => cbv
      refine r_addf m.sX (by omega) (by omega) fun r1 hr1 => ?_
      conv => cbv
      try have tr1 : Int.toNat r1 = Int.toNat i1 + 1 := by omega
      refine hE _ (n_2, r1) ?_ ?_ ⟨(by (try dsimp only); first | omega | (simp only [List.length_nil]; omega)), (by (try dsimp only); first | omega | (simp only [List.length_nil]; omega)), (by (try dsimp only) <;> (rw [hn_2, q, tr1, wideI_take hi, sv])), (by (try dsimp only) <;> (omega))⟩ (by first | omega | (dsimp only; omega))
      · cbv
      · cbv
    · have dz_i1 := drop_end (xs := list) (i := Int.toNat i1) (by omega)
      have tz_i1 := take_end (xs := list) (i := Int.toNat i1) (by omega)
      refine hF _ _ ?_
      conv => cbv
      exact hQ (.int .i64 n) (Eq.trans (by first | rfl | (simp only [lb, lbI, rows_cons, rows_nil, unnilT, unnil, unnilTI, unnilI]; done) | (simp only [lb, lbI, rows_cons, rows_nil, unnilT, unnil, unnilTI, unnilI]; rfl)) (congrArg (PV.int .i64) (show n = wideI f list from by rw [q, tz_i1])))   -- leaf 1

theorem WidthOfWord_ok (f : List FSort) (word : List UInt8)  : OkA Try.prog 61 [.isl 2 (rows cSort f), .str word] (· = ib (widA f word)) :=
  fn_intro envOk fieldsOk mixed Try.func61 rfl fun κ X Y L Q m hQ => by
    conv => cbv
    refine r_callF (lb 3 1 cInt) m.sX (SortsOfWord_ok f word) fun v hlist => ?_
    obtain ⟨list, ok⟩ := v
    conv => cbv
    rcases Bool.eq_false_or_eq_true ok with rfl | rfl <;> conv => cbv
    · obtain ⟨fo, wo, we⟩ := sorts_true hlist
      have wi := wordI_in (okFont_codes fo) word
      rw [← we] at wi
      have w1 := wi.1
      have wl := okWord_len wo
      have w2 : list.length ≤ 100 := by omega
      have fs : ∀ k, -100 ≤ setAt f k ∧ setAt f k ≤ 100 := fun k => by have z := font_sets fo k; omega
      refine .inl (r_callFO intPV m.sX ((widthOf_ok f list (by first | rfl | assumption | omega | (simp only [List.length_append, List.length_cons, List.length_nil] at *; omega)) (by first | rfl | assumption | omega | (simp only [List.length_append, List.length_cons, List.length_nil] at *; omega)) (by first | rfl | assumption | omega | (simp only [List.length_append, List.length_cons, List.length_nil] at *; omega))).ok flat_int) fun r1 hr1 => ?_)
      conv => cbv
      exact hQ (.tup [.int .i64 r1, .bool true]) (Eq.trans (by first | rfl | (simp only [lb, lbI, rows_cons, rows_nil, unnilT, unnil, unnilTI, unnilI]; done) | (simp only [lb, lbI, rows_cons, rows_nil, unnilT, unnil, unnilTI, unnilI]; rfl)) (congrArg (ib) (show (r1, true) = widA f word from by rw [widA, ← hlist, if_pos rfl, hr1])))   -- leaf 1
    · exact hQ (.tup [.int .i64 0, .bool false]) (Eq.trans (by first | rfl | (simp only [lb, lbI, rows_cons, rows_nil, unnilT, unnil, unnilTI, unnilI]; done) | (simp only [lb, lbI, rows_cons, rows_nil, unnilT, unnil, unnilTI, unnilI]; rfl)) (congrArg (ib) (show (0, false) = widA f word from by rw [widA, ← hlist]; rfl)))   -- leaf 2

theorem SpacesFor_ok (f : List FSort) (words : List (List UInt8)) (r : JRule) (measure : Int) (hq : words.length ≤ 1000) : OkA Try.prog 58 [.isl 2 (rows cSort f), .isl 1 (rows cStr words), .agg (cRule r), .int .i64 measure] (· = (lb 3 1 cInt) (spI f words r measure)) := by
  obtain ⟨rA, rB, rC⟩ := r
  try dsimp only at *
  exact OkA.unnil 3 1 (fn_intro envOk fieldsOk mixed Try.func58 rfl fun κ X Y L Q m hQ => by
    conv => cbv
    refine r_lenR m.sX fun n1 hn1 mn1 => ?_
    conv => cbv
    refine r_loopF (α := List Int × Int) m 46 [0, 3, 16, 17, 18] [⟨6, 49, 0, 0, 0⟩, ⟨10, 81, 3, 1, 0⟩] (fun σ => [(0, .isl 2 (rows cSort f)), (3, .int .i64 measure), (6, .optr 49 0 3 0 0), (10, .osl 81 0), (16, .isl 1 (rows cStr words)), (17, .int .i64 n1), (18, .int .i64 σ.2)]) (fun σ => [(49, 0, .box [.int .i64 rA, .int .i64 rB, .int .i64 rC]), (81, 0, .row 3 1 (rows cInt σ.1))])
      (fun σ => (0 ≤ σ.2) ∧ (σ.2 ≤ n1) ∧ (wiG f words [] = wiG f (words.drop σ.2.toNat) σ.1) ∧ ((σ.1.length : Int) ≤ σ.2)) (fun σ => (n1 - σ.2).toNat) ([], 0) ?_ ?_ ?_ ?_
    · cbv
    · (try dsimp only); simp only [rows_cons, rows_nil]; cbv
    · exact ⟨(by (try dsimp only); first | omega | (simp only [List.length_nil]; omega)), (by (try dsimp only); first | omega | (simp only [List.length_nil]; omega)), (by (try dsimp only) <;> (rfl)), (by (try dsimp only) <;> first | omega | rfl | (simp [*]; done))⟩
    rintro ⟨widths, i1⟩ ⟨lo1, hi1, q, ln⟩ E hE F hF
    dsimp only at lo1 hi1 q ln
    conv => cbv
    refine r_lss m.sX (fun h1 => ?_) (fun h1 => ?_) <;> conv => cbv
    · refine r_index m.sX (by omega) (by omega) fun w hw => ?_
      conv => cbv
      have mw := get_mem hw
      have dw := drop_cons hw
      have kw := take_snoc hw
      have jw : (i1 + 1).toNat = Int.toNat i1 + 1 := by omega
      refine r_callF ib m.sX (WidthOfWord_ok f w) fun v hn => ?_
      obtain ⟨n, ok⟩ := v
      conv => cbv
      try dsimp only at hn
      rcases Bool.eq_false_or_eq_true ok with rfl | rfl <;> conv => cbv
      · refine r_append1 (n) m.sX rfl (by first | omega | (dsimp only; omega)) (by first | omega | (dsimp only; omega)) fun widths_2 hwidths_2 => ?_
        conv => cbv
        have lwidths_2 : (widths_2.length : Int) = widths.length + 1 := by rw [hwidths_2]; first | done | (simp; done) | (simp; omega)
        refine r_addf m.sX (by omega) (by omega) fun r1 hr1 => ?_
        conv => cbv
        try have tr1 : Int.toNat r1 = Int.toNat i1 + 1 := by omega
        refine hE _ (widths_2, r1) ?_ ?_ ⟨(by (try dsimp only); first | omega | (simp only [List.length_nil]; omega)), (by (try dsimp only); first | omega | (simp only [List.length_nil]; omega)), (by (try dsimp only) <;> (rw [q, wiG_ok _ hw hn, hwidths_2, tr1])), (by (try dsimp only) <;> (omega))⟩ (by first | omega | (dsimp only; omega))
        · cbv
        · cbv
      · refine hF _ _ ?_
        conv => cbv
        exact hQ (.tup [.fr 3 1 [], .bool false]) (Eq.trans (by first | rfl | (simp only [lb, lbI, rows_cons, rows_nil, unnilT, unnil, unnilTI, unnilI]; done) | (simp only [lb, lbI, rows_cons, rows_nil, unnilT, unnil, unnilTI, unnilI]; rfl)) (congrArg ((lb 3 1 cInt)) (show ([], false) = spI f words (rA, rB, rC) measure from by rw [spI, q, wiG_no _ hw hn]; rfl)))   -- leaf 1
    · have dz_i1 := drop_end (xs := words) (i := Int.toNat i1) (by omega)
      have tz_i1 := take_end (xs := words) (i := Int.toNat i1) (by omega)
      refine hF _ _ ?_
      conv => cbv
      refine r_callB m.sX (IsFont_ok f) (fun h2 => ?_) (fun h2 => ?_) <;> conv => cbv
      · refine .inl (r_callFO (lb 3 1 cInt) m.sX ((JustifyLine_ok widths (rA, rB, rC) measure).ok (flat_lb flat_cInt)) fun v hv1 => ?_)
        obtain ⟨v1, v2⟩ := v
        conv => cbv
        try dsimp only at hv1
        exact hQ (.tup [.fr 3 1 (rows cInt v1), .bool v2]) (Eq.trans (by first | rfl | (simp only [lb, lbI, rows_cons, rows_nil, unnilT, unnil, unnilTI, unnilI]; done) | (simp only [lb, lbI, rows_cons, rows_nil, unnilT, unnil, unnilTI, unnilI]; rfl)) (congrArg ((lb 3 1 cInt)) (show (v1, v2) = spI f words (rA, rB, rC) measure from by rw [spI, q, wiG_end _ (by omega), if_pos rfl, if_pos h2]; exact hv1)))   -- leaf 2
      · exact hQ (.tup [.fr 3 1 [], .bool false]) (Eq.trans (by first | rfl | (simp only [lb, lbI, rows_cons, rows_nil, unnilT, unnil, unnilTI, unnilI]; done) | (simp only [lb, lbI, rows_cons, rows_nil, unnilT, unnil, unnilTI, unnilI]; rfl)) (congrArg ((lb 3 1 cInt)) (show ([], false) = spI f words (rA, rB, rC) measure from by rw [spI, q, wiG_end _ (by omega), if_pos rfl, if_neg (by rw [h2]; simp)]))))   -- leaf 3

theorem specSpacesFor_ok (f : List FSort) (words : List (List UInt8)) (r : JRule) (measure : Int)  : OkA Try.prog 59 [.isl 2 (rows cSort f), .isl 1 (rows cStr words), .agg (cRule r), .int .i64 measure] (· = (lb 3 1 cInt) (spA f words r measure)) := by
  obtain ⟨rA, rB, rC⟩ := r
  try dsimp only at *
  exact OkA.unnil 3 1 (fn_intro envOk fieldsOk mixed Try.func59 rfl fun κ X Y L Q m hQ => by
    conv => cbv
    refine r_callB m.sX (tyFont_ok f) (fun h1 => ?_) (fun h1 => ?_) <;> conv => cbv
    · refine r_callB m.sX (tyWords_ok words) (fun h2 => ?_) (fun h2 => ?_) <;> conv => cbv
      · have ow1 := (okWords_spec h2).1
        try dsimp only at ow1
        have ow2 := (okWords_spec h2).2
        try dsimp only at ow2
        refine r_lenR m.sX fun n1 hn1 mn1 => ?_
        conv => cbv
        refine r_callB m.sX (l1In_ok n1 1 20) (fun h3 => ?_) (fun h3 => ?_) <;> conv => cbv
        · refine r_callF (lb 3 1 cInt) m.sX (juWidths_ok f words (by first | rfl | assumption | omega | (simp only [List.length_append, List.length_cons, List.length_nil] at *; omega)) (by first | rfl | assumption | omega | (simp only [List.length_append, List.length_cons, List.length_nil] at *; omega)) (by first | rfl | assumption | omega | (simp only [List.length_append, List.length_cons, List.length_nil] at *; omega))) fun v hwidths => ?_
          obtain ⟨widths, ok⟩ := v
          conv => cbv
          try dsimp only at hwidths
          rcases Bool.eq_false_or_eq_true ok with rfl | rfl <;> conv => cbv
          · refine .inl (r_callFO (lb 3 1 cInt) m.sX ((specJustifyLine_ok widths (rA, rB, rC) measure).ok (flat_lb flat_cInt)) fun v hv1 => ?_)
            obtain ⟨v1, v2⟩ := v
            conv => cbv
            try dsimp only at hv1
            exact hQ (.tup [.fr 3 1 (rows cInt v1), .bool v2]) (Eq.trans (by first | rfl | (simp only [lb, lbI, rows_cons, rows_nil, unnilT, unnil, unnilTI, unnilI]; done) | (simp only [lb, lbI, rows_cons, rows_nil, unnilT, unnil, unnilTI, unnilI]; rfl)) (congrArg ((lb 3 1 cInt)) (show (v1, v2) = spA f words (rA, rB, rC) measure from by rw [spA, if_pos (by rw [h1, h2, ← hn1, h3]; rfl), ← hwidths, if_pos rfl]; exact hv1)))   -- leaf 1
          · exact hQ (.tup [.nil, .bool false]) (Eq.trans (by first | rfl | (simp only [lb, lbI, rows_cons, rows_nil, unnilT, unnil, unnilTI, unnilI]; done) | (simp only [lb, lbI, rows_cons, rows_nil, unnilT, unnil, unnilTI, unnilI]; rfl)) (congrArg ((lb 3 1 cInt)) (show ([], false) = spA f words (rA, rB, rC) measure from by rw [spA, if_pos (by rw [h1, h2, ← hn1, h3]; rfl), ← hwidths]; rfl)))   -- leaf 2
        · exact hQ (.tup [.nil, .bool false]) (Eq.trans (by first | rfl | (simp only [lb, lbI, rows_cons, rows_nil, unnilT, unnil, unnilTI, unnilI]; done) | (simp only [lb, lbI, rows_cons, rows_nil, unnilT, unnil, unnilTI, unnilI]; rfl)) (congrArg ((lb 3 1 cInt)) (show ([], false) = spA f words (rA, rB, rC) measure from by rw [spA, h1, h2, ← hn1, h3]; rfl)))   -- leaf 3
      · exact hQ (.tup [.nil, .bool false]) (Eq.trans (by first | rfl | (simp only [lb, lbI, rows_cons, rows_nil, unnilT, unnil, unnilTI, unnilI]; done) | (simp only [lb, lbI, rows_cons, rows_nil, unnilT, unnil, unnilTI, unnilI]; rfl)) (congrArg ((lb 3 1 cInt)) (show ([], false) = spA f words (rA, rB, rC) measure from by rw [spA, h1, h2]; rfl)))   -- leaf 4
    · exact hQ (.tup [.nil, .bool false]) (Eq.trans (by first | rfl | (simp only [lb, lbI, rows_cons, rows_nil, unnilT, unnil, unnilTI, unnilI]; done) | (simp only [lb, lbI, rows_cons, rows_nil, unnilT, unnil, unnilTI, unnilI]; rfl)) (congrArg ((lb 3 1 cInt)) (show ([], false) = spA f words (rA, rB, rC) measure from by rw [spA, h1]; rfl))))   -- leaf 5

end Go.Proofs.Ytfnfjgdepilgkaa.Ai
