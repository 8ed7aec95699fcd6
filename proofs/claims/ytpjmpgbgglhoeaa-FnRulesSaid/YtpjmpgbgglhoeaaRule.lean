/- Contracts of the functions on rules made of slips. -/
import Derived.Test.YtpjmpgbgglhoeaaRuleLaw
import Derived.Test.YtpjmpgbgglhoeaaSpace
import Derived.Test.YtpjmpgbgglhoeaaLit
namespace Go.Proofs.Ytpjmpgbgglhoeaa.Ai
open Go Go.Proofs
set_option maxRecDepth 10000
set_option maxHeartbeats 4000000
set_option linter.unusedVariables false

theorem IsStock_ok (l : List Slip)  : OkA Try.prog 282 [.isl 2 (rows cSlip l)] (· = .bool (okSt l)) :=
  fn_intro envOk fieldsOk mixed Try.func282 rfl fun κ X Y L Q m hQ => by
    conv => cbv
    refine r_lenR m.sX fun n1 hn1 mn1 => ?_
    conv => cbv
    refine r_loopF (α := Int) m 41 [0, 5, 6, 7] [] (fun σ => [(0, .isl 2 (rows cSlip l)), (5, .isl 2 (rows cSlip l)), (6, .int .i64 n1), (7, .int .i64 σ)]) (fun σ => [])
      (fun σ => (0 ≤ σ) ∧ (σ ≤ n1) ∧ (slG none l = slG (prevS l σ) (l.drop σ.toNat))) (fun σ => (n1 - σ).toNat) 0 ?_ ?_ ?_ ?_
    · cbv
    · cbv
    · exact ⟨(by (try dsimp only); first | omega | (simp only [List.length_nil]; omega)), (by (try dsimp only); first | omega | (simp only [List.length_nil]; omega)), (by (try dsimp only) <;> first | omega | rfl | (simp [*]; done))⟩
    rintro i1 ⟨lo1, hi1, q⟩ E hE F hF
    conv => cbv
    refine r_lss m.sX (fun h1 => ?_) (fun h1 => ?_) <;> conv => cbv
    · refine r_index m.sX (by omega) (by omega) fun v hs_A => ?_
      obtain ⟨s_A, s_B⟩ := v
      conv => cbv
      have hs_ := hs_A
      have ms_ := get_mem hs_
      have ds_ := drop_cons hs_
      have ks_ := take_snoc hs_
      have js_ : (i1 + 1).toNat = Int.toNat i1 + 1 := by omega
      have pn : prevS l (i1 + 1) = some s_A := prevS_next lo1 hs_
      refine r_draw m (by kernel_rfl) ?_
      conv => cbv
      refine r_callBS m.sY (within_ok s_A 1 200) (fun h2 => ?_) (fun h2 => ?_) <;> conv => cbv
      · refine r_callBS m.sY (within_ok s_B 0 20) (fun h3 => ?_) (fun h3 => ?_) <;> conv => cbv
        · have oa : okSl (s_A, s_B) = true := by show (inB s_A 1 200 && inB s_B 0 20) = true; rw [h2, h3]; rfl
          refine r_gtr m.sY (fun h4 => ?_) (fun h4 => ?_) <;> conv => cbv
          · refine r_subf m.sY (by omega) (by omega) fun r1 hr1 => ?_
            conv => cbv
            refine r_index m.sY (by omega) (by omega) fun v hx1A => ?_
            obtain ⟨x1A, x1B⟩ := v
            conv => cbv
            have hx1 := hx1A
            have mx1 := get_mem hx1
            have pv : prevS l i1 = some x1A := prevS_some (by omega) (by rw [← hr1]; exact hx1)
            refine r_geq m.sY (fun h5 => ?_) (fun h5 => ?_) <;> conv => cbv
            · have sb : upP (prevS l i1) s_A = false := by rw [pv]; exact decide_eq_false (by omega)
              refine hF _ _ ?_
              conv => cbv
              exact hQ _ (congrArg PV.bool (by rw [okSt, q, ds_, slG_bad (.inr sb)]; rfl))   -- leaf 1
            · have sp : upP (prevS l i1) s_A = true := by rw [pv]; exact decide_eq_true (by omega)
              refine r_addf m.sX (by omega) (by omega) fun r2 hr2 => ?_
              conv => cbv
              have tr2 : Int.toNat r2 = Int.toNat i1 + 1 := by omega
              refine hE _ r2 ?_ ?_ ⟨(by (try dsimp only); first | omega | (simp only [List.length_nil]; omega)), (by (try dsimp only); first | omega | (simp only [List.length_nil]; omega)), (by (try dsimp only) <;> (rw [q, ds_, slG_step oa sp, tr2, show r2 = i1 + 1 by omega, pn]))⟩ (by first | omega | (dsimp only; omega))
              · cbv
              · cbv
          · have sp : upP (prevS l i1) s_A = true := by rw [prevS_zero h4]; rfl
            refine r_addf m.sX (by omega) (by omega) fun r3 hr3 => ?_
            conv => cbv
            have tr3 : Int.toNat r3 = Int.toNat i1 + 1 := by omega
            refine hE _ r3 ?_ ?_ ⟨(by (try dsimp only); first | omega | (simp only [List.length_nil]; omega)), (by (try dsimp only); first | omega | (simp only [List.length_nil]; omega)), (by (try dsimp only) <;> (rw [q, ds_, slG_step oa sp, tr3, show r3 = i1 + 1 by omega, pn]))⟩ (by first | omega | (dsimp only; omega))
            · cbv
            · cbv
        · have ob : okSl (s_A, s_B) = false := by show (inB s_A 1 200 && inB s_B 0 20) = false; rw [h2, h3]; rfl
          refine hF _ _ ?_
          conv => cbv
          exact hQ _ (congrArg PV.bool (by rw [okSt, q, ds_, slG_bad (.inl ob)]; rfl))   -- leaf 2
      · have ob : okSl (s_A, s_B) = false := by show (inB s_A 1 200 && inB s_B 0 20) = false; rw [h2]; rfl
        refine hF _ _ ?_
        conv => cbv
        exact hQ _ (congrArg PV.bool (by rw [okSt, q, ds_, slG_bad (.inl ob)]; rfl))   -- leaf 3
    · have dz_i1 := drop_end (xs := l) (i := Int.toNat i1) (by omega)
      have tz_i1 := take_end (xs := l) (i := Int.toNat i1) (by omega)
      refine hF _ _ ?_
      conv => cbv
      refine r_lenR m.sX fun n2 hn2 mn2 => ?_
      conv => cbv
      refine r_leq m.sX (fun h6 => ?_) (fun h6 => ?_) <;> conv => cbv
      · exact hQ _ (congrArg PV.bool (by rw [okSt, q, dz_i1, decide_eq_true (by omega)]; rfl))   -- leaf 4
      · exact hQ _ (congrArg PV.bool (by rw [okSt, q, dz_i1, decide_eq_false (by omega)]; rfl))   -- leaf 5

theorem isRuleLength_ok (n : Int)  : OkA Try.prog 283 [.int .i64 n] (· = .bool (inB n 1 400)) :=
  fn_intro envOk fieldsOk mixed Try.func283 rfl fun κ X Y L Q m hQ => by
    conv => cbv
    refine r_callB m.sX (within_ok n 1 400) (fun h1 => ?_) (fun h1 => ?_) <;> conv => cbv
    · exact hQ _ (congrArg PV.bool (by first | rfl | omega | (simp [*]; done) | (subst_vars; simp [*]; done)))   -- leaf 1
    · exact hQ _ (congrArg PV.bool (by first | rfl | omega | (simp [*]; done) | (subst_vars; simp [*]; done)))   -- leaf 2

theorem lengthsOf_ok (l : List Slip) (hl : (l.length : Int) ≤ 1000) : OkA Try.prog 352 [.isl 2 (rows cSlip l)] (· = (ll 3 1 cInt) ((l.map Prod.fst, l.map Prod.snd))) :=
  OkA.unnil 3 1 (fn_intro envOk fieldsOk mixed Try.func352 rfl fun κ X Y L Q m hQ => by
    conv => cbv
    refine r_lenR m.sX fun n1 hn1 mn1 => ?_
    conv => cbv
    refine r_loopF (α := List Int × List Int × Int) m 29 [10, 11, 12] [⟨4, 33, 3, 1, 0⟩, ⟨5, 41, 3, 1, 0⟩] (fun σ => [(4, .osl 33 0), (5, .osl 41 0), (10, .isl 2 (rows cSlip l)), (11, .int .i64 n1), (12, .int .i64 σ.2.2)]) (fun σ => [(33, 0, .row 3 1 (rows cInt σ.1)), (41, 0, .row 3 1 (rows cInt σ.2.1))])
      (fun σ => (0 ≤ σ.2.2) ∧ (σ.2.2 ≤ n1) ∧ (σ.1 = (l.take σ.2.2.toNat).map Prod.fst) ∧ (σ.2.1 = (l.take σ.2.2.toNat).map Prod.snd)) (fun σ => (n1 - σ.2.2).toNat) ([], [], 0) ?_ ?_ ?_ ?_
    · cbv
    · (try dsimp only); simp only [rows_cons, rows_nil]; cbv
    · exact ⟨(by (try dsimp only); first | omega | (simp only [List.length_nil]; omega)), (by (try dsimp only); first | omega | (simp only [List.length_nil]; omega)), (by (try dsimp only) <;> first | omega | rfl | (simp [*]; done)), (by (try dsimp only) <;> first | omega | rfl | (simp [*]; done))⟩
    rintro ⟨lengths, counts, i1⟩ ⟨lo1, hi1, q1, q2⟩ E hE F hF
    dsimp only at lo1 hi1 q1 q2
    have n1_ : (lengths.length : Int) ≤ 1000 := by rw [q1, List.length_map, List.length_take]; omega
    have n2_ : (counts.length : Int) ≤ 1000 := by rw [q2, List.length_map, List.length_take]; omega
    conv => cbv
    refine r_lss m.sX (fun h1 => ?_) (fun h1 => ?_) <;> conv => cbv
    · refine r_index m.sX (by omega) (by omega) fun v hs_A => ?_
      obtain ⟨s_A, s_B⟩ := v
      conv => cbv
      have hs_ := hs_A
      have ms_ := get_mem hs_
      have ds_ := drop_cons hs_
      have ks_ := take_snoc hs_
      have js_ : (i1 + 1).toNat = Int.toNat i1 + 1 := by omega
      refine r_draw m (by kernel_rfl) ?_
      conv => cbv
      refine r_append1 (s_A) m.sY rfl (by first | omega | (dsimp only; omega)) (by first | omega | (dsimp only; omega)) fun lengths_2 hlengths_2 => ?_
      conv => cbv
      have llengths_2 : (lengths_2.length : Int) = lengths.length + 1 := by rw [hlengths_2]; first | done | (simp; done) | (simp; omega)
      refine r_append1 (s_B) m.sY rfl (by first | omega | (dsimp only; omega)) (by first | omega | (dsimp only; omega)) fun counts_2 hcounts_2 => ?_
      conv => cbv
      have lcounts_2 : (counts_2.length : Int) = counts.length + 1 := by rw [hcounts_2]; first | done | (simp; done) | (simp; omega)
      refine r_addf m.sX (by omega) (by omega) fun r1 hr1 => ?_
      conv => cbv
      have tr1 : Int.toNat r1 = Int.toNat i1 + 1 := by omega
      refine hE _ (lengths_2, counts_2, r1) ?_ ?_ ⟨(by (try dsimp only); first | omega | (simp only [List.length_nil]; omega)), (by (try dsimp only); first | omega | (simp only [List.length_nil]; omega)), (by (try dsimp only) <;> (rw [hlengths_2, q1, tr1, ks_, List.map_append]; rfl)), (by (try dsimp only) <;> (rw [hcounts_2, q2, tr1, ks_, List.map_append]; rfl))⟩ (by first | omega | (dsimp only; omega))
      · cbv
      · cbv
    · have dz_i1 := drop_end (xs := l) (i := Int.toNat i1) (by omega)
      have tz_i1 := take_end (xs := l) (i := Int.toNat i1) (by omega)
      refine hF _ _ ?_
      conv => cbv
      exact hQ (.tup [.fr 3 1 (rows cInt lengths), .fr 3 1 (rows cInt counts)]) (Eq.trans (by first | rfl | (simp only [lb, lbI, rows_cons, rows_nil, unnilT, unnil, unnilTI, unnilI]; done) | (simp only [lb, lbI, rows_cons, rows_nil, unnilT, unnil, unnilTI, unnilI]; rfl)) (congrArg ((ll 3 1 cInt)) (show (lengths, counts) = (l.map Prod.fst, l.map Prod.snd) from by rw [q1, q2, tz_i1]))))   -- leaf 1

theorem ruleOf_ok (l : List Slip) (length : Int) (hl : ∀ x ∈ l, (1 ≤ x.1 ∧ x.1 ≤ 200) ∧ (0 ≤ x.2 ∧ x.2 ≤ 20)) (hn : (l.length : Int) ≤ 8) (hb : 0 ≤ length ∧ length ≤ 400) : OkA Try.prog 284 [.isl 2 (rows cSlip l), .int .i64 length] (· = orow 3 1 cInt (ruleF l length)) :=
  fn_intro envOk fieldsOk mixed Try.func284 rfl fun κ X Y L Q m hQ => by
    conv => cbv
    refine r_callF (ll 3 1 cInt) m.sX (lengthsOf_ok l (by first | rfl | assumption | omega | (simp only [List.length_append, List.length_cons, List.length_nil] at *; omega))) fun v hlengths => ?_
    obtain ⟨lengths, counts⟩ := v
    conv => cbv
    obtain ⟨e1, e2⟩ := Prod.mk.inj hlengths
    have k1 : ∀ k ∈ lengths, 1 ≤ k ∧ k ≤ 10000 := fun k hk => by rw [e1] at hk; obtain ⟨x, hx, rfl⟩ := List.mem_map.1 hk; have := hl x hx; omega
    have k2 : counts.length = lengths.length := by rw [e1, e2, List.length_map, List.length_map]
    have k3 : ∀ k ∈ counts, 0 ≤ k ∧ k ≤ 10000 := fun k hk => by rw [e2] at hk; obtain ⟨x, hx, rfl⟩ := List.mem_map.1 hk; have := hl x hx; omega
    have k4 : lengths.length ≤ 1000 := by rw [e1, List.length_map]; omega
    have k5 := best_maps l length
    rw [← e1, ← e2] at k5
    refine .inl (r_callFO (orow 3 1 cInt) m.sX ((bestOf_ok lengths counts length (by first | rfl | assumption | omega | (simp only [List.length_append, List.length_cons, List.length_nil] at *; omega)) (by first | rfl | assumption | omega | (simp only [List.length_append, List.length_cons, List.length_nil] at *; omega)) (by first | rfl | assumption | omega | (simp only [List.length_append, List.length_cons, List.length_nil] at *; omega)) (by first | rfl | assumption | omega | (simp only [List.length_append, List.length_cons, List.length_nil] at *; omega)) (by first | rfl | assumption | omega | (simp only [List.length_append, List.length_cons, List.length_nil] at *; omega))).ok (flat_orow flat_cInt)) fun v1 hv1 => ?_)
    rcases v1 with _ | v1 <;> conv => cbv
    · exact hQ (.nil) (Eq.trans (by rfl) (congrArg (orow 3 1 cInt) (show none = ruleF l length from by rw [← k5]; assumption)))   -- leaf 1
    · exact hQ (.fr 3 1 (rows cInt v1)) (Eq.trans (by rfl) (congrArg (orow 3 1 cInt) (show some v1 = ruleF l length from by rw [← k5]; assumption)))   -- leaf 2

theorem RuleOf_ok (l : List Slip) (length : Int)  : OkA Try.prog 104 [.isl 2 (rows cSlip l), .int .i64 length] (· = (lb 3 1 cInt) (ruleA l length)) :=
  OkA.unnil 3 1 (fn_intro envOk fieldsOk mixed Try.func104 rfl fun κ X Y L Q m hQ => by
    conv => cbv
    refine r_callB m.sX (IsStock_ok l) (fun h1 => ?_) (fun h1 => ?_) <;> conv => cbv
    · obtain ⟨sl, sn⟩ := okSt_spec h1
      refine r_callB m.sX (isRuleLength_ok length) (fun h2 => ?_) (fun h2 => ?_) <;> conv => cbv
      · have b2 := inB_spec h2
        refine r_callF (orow 3 1 cInt) m.sX (ruleOf_ok l length (by first | rfl | assumption | omega | (simp only [List.length_append, List.length_cons, List.length_nil] at *; omega)) (by first | rfl | assumption | omega | (simp only [List.length_append, List.length_cons, List.length_nil] at *; omega)) (by first | rfl | assumption | omega | (simp only [List.length_append, List.length_cons, List.length_nil] at *; omega))) fun counts hcounts => ?_
        rcases counts with _ | counts <;> conv => cbv
        · have e1 : fewC l.reverse length < 0 := by rw [ruleF] at hcounts; split at hcounts; assumption; cases hcounts
          exact hQ (.tup [.fr 3 1 [], .bool false]) (Eq.trans (by first | rfl | (simp only [lb, lbI, rows_cons, rows_nil, unnilT, unnil, unnilTI, unnilI]; done) | (simp only [lb, lbI, rows_cons, rows_nil, unnilT, unnil, unnilTI, unnilI]; rfl)) (congrArg ((lb 3 1 cInt)) (show ([], false) = ruleA l length from by rw [ruleA, h1, h2, decide_eq_false (by omega)]; rfl)))   -- leaf 1
        · have e1 : ¬ fewC l.reverse length < 0 ∧ counts = (cntC l.reverse length).reverse := by rw [ruleF] at hcounts; split at hcounts; cases hcounts; exact ⟨by assumption, Option.some.inj hcounts⟩
          have lc : counts.length = l.length := by rw [e1.2, List.length_reverse, cntC_length, List.length_reverse]
          have l0 : l.length ≠ 0 := fun e => by rw [List.eq_nil_of_length_eq_zero e, List.reverse_nil, fewC_nil, if_neg (by omega)] at e1; omega
          refine r_notnilR m.sX (by omega) ?_   -- counts is not nil
          conv => cbv
          exact hQ (.tup [.fr 3 1 (rows cInt counts), .bool true]) (Eq.trans (by first | rfl | (simp only [lb, lbI, rows_cons, rows_nil, unnilT, unnil, unnilTI, unnilI]; done) | (simp only [lb, lbI, rows_cons, rows_nil, unnilT, unnil, unnilTI, unnilI]; rfl)) (congrArg ((lb 3 1 cInt)) (show (counts, true) = ruleA l length from by rw [ruleA, h1, h2, decide_eq_true (by omega), e1.2]; rfl)))   -- leaf 2
      · exact hQ (.tup [.fr 3 1 [], .bool false]) (Eq.trans (by first | rfl | (simp only [lb, lbI, rows_cons, rows_nil, unnilT, unnil, unnilTI, unnilI]; done) | (simp only [lb, lbI, rows_cons, rows_nil, unnilT, unnil, unnilTI, unnilI]; rfl)) (congrArg ((lb 3 1 cInt)) (show ([], false) = ruleA l length from by rw [ruleA, h1, h2]; rfl)))   -- leaf 3
    · exact hQ (.tup [.fr 3 1 [], .bool false]) (Eq.trans (by first | rfl | (simp only [lb, lbI, rows_cons, rows_nil, unnilT, unnil, unnilTI, unnilI]; done) | (simp only [lb, lbI, rows_cons, rows_nil, unnilT, unnil, unnilTI, unnilI]; rfl)) (congrArg ((lb 3 1 cInt)) (show ([], false) = ruleA l length from by rw [ruleA, h1]; rfl))))   -- leaf 4

theorem areSlipCounts_ok (l : List Slip) (counts : List Int)  : OkA Try.prog 288 [.isl 2 (rows cSlip l), .isl 1 (rows cInt counts)] (· = .bool (okCn l counts)) :=
  fn_intro envOk fieldsOk mixed Try.func288 rfl fun κ X Y L Q m hQ => by
    conv => cbv
    refine r_callB m.sX (IsStock_ok l) (fun h1 => ?_) (fun h1 => ?_) <;> conv => cbv
    · refine r_lenR m.sX fun n1 hn1 mn1 => ?_
      conv => cbv
      refine r_lenR m.sX fun n2 hn2 mn2 => ?_
      conv => cbv
      refine r_neq m.sX (fun h2 => ?_) (fun h2 => ?_) <;> conv => cbv
      · exact hQ _ (congrArg PV.bool (by rw [okCn, h1, decide_eq_false (by omega)]; rfl))   -- leaf 1
      · refine r_lenR m.sX fun n3 hn3 mn3 => ?_
        conv => cbv
        refine r_loopF (α := Int) m 33 [0, 17, 18, 19] [] (fun σ => [(0, .isl 2 (rows cSlip l)), (17, .isl 1 (rows cInt counts)), (18, .int .i64 n3), (19, .int .i64 σ)]) (fun σ => [])
          (fun σ => (0 ≤ σ) ∧ (σ ≤ n3) ∧ (cnG counts l = cnG (counts.drop σ.toNat) (l.drop σ.toNat))) (fun σ => (n3 - σ).toNat) 0 ?_ ?_ ?_ ?_
        · cbv
        · cbv
        · exact ⟨(by (try dsimp only); first | omega | (simp only [List.length_nil]; omega)), (by (try dsimp only); first | omega | (simp only [List.length_nil]; omega)), (by (try dsimp only) <;> first | omega | rfl | (simp [*]; done))⟩
        rintro i1 ⟨lo1, hi1, q⟩ E hE F hF
        conv => cbv
        refine r_lss m.sX (fun h3 => ?_) (fun h3 => ?_) <;> conv => cbv
        · refine r_index m.sX (by omega) (by omega) fun n hn => ?_
          conv => cbv
          have mn := get_mem hn
          have dn := drop_cons hn
          have kn := take_snoc hn
          have jn : (i1 + 1).toNat = Int.toNat i1 + 1 := by omega
          have vn := nth_some hn
          refine r_index m.sX (by omega) (by omega) fun v hx1A => ?_
          obtain ⟨x1A, x1B⟩ := v
          conv => cbv
          have hx1 := hx1A
          have mx1 := get_mem hx1
          have dx1 := drop_cons hx1
          have kx1 := take_snoc hx1
          have jx1 : (i1 + 1).toNat = Int.toNat i1 + 1 := by omega
          have cd := cnG_drop hn hx1
          try dsimp only at cd
          refine r_callB m.sX (within_ok n 0 x1B) (fun h4 => ?_) (fun h4 => ?_) <;> conv => cbv
          · refine r_addf m.sX (by omega) (by omega) fun r1 hr1 => ?_
            conv => cbv
            have tr1 : Int.toNat r1 = Int.toNat i1 + 1 := by omega
            refine hE _ r1 ?_ ?_ ⟨(by (try dsimp only); first | omega | (simp only [List.length_nil]; omega)), (by (try dsimp only); first | omega | (simp only [List.length_nil]; omega)), (by (try dsimp only) <;> (rw [q, cd, tr1, h4]; rfl))⟩ (by first | omega | (dsimp only; omega))
            · cbv
            · cbv
          · refine hF _ _ ?_
            conv => cbv
            exact hQ _ (congrArg PV.bool (by rw [okCn, h1, decide_eq_true (by omega), q, cd, h4]; rfl))   -- leaf 2
        · have dz_i1 := drop_end (xs := counts) (i := Int.toNat i1) (by omega)
          have tz_i1 := take_end (xs := counts) (i := Int.toNat i1) (by omega)
          refine hF _ _ ?_
          conv => cbv
          exact hQ _ (congrArg PV.bool (by rw [okCn, h1, decide_eq_true (by omega), q, dz_i1, List.drop_of_length_le (by omega)]; rfl))   -- leaf 3
    · exact hQ _ (congrArg PV.bool (by rw [okCn, h1]; rfl))   -- leaf 4

theorem PiecesOf_ok (l : List Slip) (counts : List Int)  : OkA Try.prog 106 [.isl 2 (rows cSlip l), .isl 1 (rows cInt counts)] (· = iib (piecesA l counts)) :=
  fn_intro envOk fieldsOk mixed Try.func106 rfl fun κ X Y L Q m hQ => by
    conv => cbv
    refine r_callB m.sX (areSlipCounts_ok l counts) (fun h1 => ?_) (fun h1 => ?_) <;> conv => cbv
    · have oc := okCn_spec h1
      have o2 := oc.eq
      have o4 := oc.len
      refine r_lenR m.sX fun n1 hn1 mn1 => ?_
      conv => cbv
      have sf : SumFits counts := sumfits_of 20 (fun z hz => by have := oc.mem z hz; omega) (by have := oc.eq; have := oc.len; omega)
      refine r_loopF (α := Int × Int) m 34 [0, 1, 7, 14, 15, 16] [] (fun σ => [(0, .isl 2 (rows cSlip l)), (1, .isl 1 (rows cInt counts)), (7, .int .i64 σ.1), (14, .isl 1 (rows cInt counts)), (15, .int .i64 n1), (16, .int .i64 σ.2)]) (fun σ => [])
        (fun σ => (0 ≤ σ.2) ∧ (σ.2 ≤ n1) ∧ (σ.1 = dot (counts.take σ.2.toNat) ((l.map Prod.fst).take σ.2.toNat)) ∧ (0 ≤ σ.1 ∧ σ.1 ≤ 4000 * σ.2)) (fun σ => (n1 - σ.2).toNat) (0, 0) ?_ ?_ ?_ ?_
      · cbv
      · cbv
      · exact ⟨(by (try dsimp only); first | omega | (simp only [List.length_nil]; omega)), (by (try dsimp only); first | omega | (simp only [List.length_nil]; omega)), (by (try dsimp only) <;> first | omega | rfl | (simp [*]; done)), (by (try dsimp only) <;> first | omega | rfl | (simp [*]; done))⟩
      rintro ⟨length, i1⟩ ⟨lo1, hi1, q, b⟩ E hE F hF
      dsimp only at lo1 hi1 q b
      conv => cbv
      refine r_lss m.sX (fun h2 => ?_) (fun h2 => ?_) <;> conv => cbv
      · refine r_index m.sX (by omega) (by omega) fun n hn => ?_
        conv => cbv
        have mn := get_mem hn
        have dn := drop_cons hn
        have kn := take_snoc hn
        have jn : (i1 + 1).toNat = Int.toNat i1 + 1 := by omega
        have vn := nth_some hn
        refine r_index m.sX (by omega) (by omega) fun v hx1A => ?_
        obtain ⟨x1A, x1B⟩ := v
        conv => cbv
        have hx1 := hx1A
        have mx1 := get_mem hx1
        have dx1 := drop_cons hx1
        have kx1 := take_snoc hx1
        have jx1 : (i1 + 1).toNat = Int.toNat i1 + 1 := by omega
        have bn := oc.at_ (Int.toNat i1) n (x1A, x1B) hn hx1
        try dsimp only at bn
        have bx := oc.sl _ mx1
        try dsimp only at bx
        have g1 := mul_bound bn.1 (show n ≤ 20 by omega) (show 0 ≤ x1A by omega) bx.1.2
        try dsimp only at g1
        have hf : (l.map Prod.fst)[Int.toNat i1]? = some x1A := by rw [List.getElem?_map, hx1]; rfl
        have dt := dot_take2 hn hf
        try dsimp only at dt
        refine r_mulf m.sX (by omega) (by omega) fun r1 hr1 => ?_
        conv => cbv
        refine r_addf m.sX (by omega) (by omega) fun length_2 hlength_2 => ?_
        conv => cbv
        refine r_addf m.sX (by omega) (by omega) fun r2 hr2 => ?_
        conv => cbv
        have tr2 : Int.toNat r2 = Int.toNat i1 + 1 := by omega
        refine hE _ (length_2, r2) ?_ ?_ ⟨(by (try dsimp only); first | omega | (simp only [List.length_nil]; omega)), (by (try dsimp only); first | omega | (simp only [List.length_nil]; omega)), (by (try dsimp only) <;> (rw [hlength_2, hr1, q, tr2, dt])), (by (try dsimp only) <;> first | omega | rfl | (simp [*]; done) | (rw [b]; simp [*]; done))⟩ (by first | omega | (dsimp only; omega))
        · cbv
        · cbv
      · have dz_i1 := drop_end (xs := counts) (i := Int.toNat i1) (by omega)
        have tz_i1 := take_end (xs := counts) (i := Int.toNat i1) (by omega)
        refine hF _ _ ?_
        conv => cbv
        refine r_callF (PV.int .i64) m.sX (sum_ok counts (by first | rfl | assumption | omega | (simp only [List.length_append, List.length_cons, List.length_nil] at *; omega))) fun r3 hr3 => ?_
        conv => cbv
        try dsimp only at hr3
        exact hQ (.tup [.int .i64 r3, .int .i64 length, .bool true]) (Eq.trans (by first | rfl | (simp only [lb, lbI, rows_cons, rows_nil, unnilT, unnil, unnilTI, unnilI]; done) | (simp only [lb, lbI, rows_cons, rows_nil, unnilT, unnil, unnilTI, unnilI]; rfl)) (congrArg (iib) (show (r3, length, true) = piecesA l counts from by rw [piecesA, h1, q, hr3, tz_i1, List.take_of_length_le (by rw [List.length_map]; omega)]; rfl)))   -- leaf 1
    · exact hQ (.tup [.int .i64 0, .int .i64 0, .bool false]) (Eq.trans (by first | rfl | (simp only [lb, lbI, rows_cons, rows_nil, unnilT, unnil, unnilTI, unnilI]; done) | (simp only [lb, lbI, rows_cons, rows_nil, unnilT, unnil, unnilTI, unnilI]; rfl)) (congrArg (iib) (show (0, 0, false) = piecesA l counts from by rw [piecesA, h1]; rfl)))   -- leaf 2

theorem rest_ok (l : List Slip) (counts : List Int) (hl : (counts.length : Int) = l.length) (hll : (l.length : Int) ≤ 1000) (hb : ∀ (i : Nat) (n : Int) (x : Slip), counts[i]? = some n → l[i]? = some x → 0 ≤ n ∧ n ≤ x.2) (hx : ∀ x ∈ l, (1 ≤ x.1 ∧ x.1 ≤ 200) ∧ (0 ≤ x.2 ∧ x.2 ≤ 20)) : OkA Try.prog 289 [.isl 2 (rows cSlip l), .isl 1 (rows cInt counts)] (· = .fr 230 2 (rows cSlip (restL l counts))) :=
  OkA.unnil 230 2 (fn_intro envOk fieldsOk mixed Try.func289 rfl fun κ X Y L Q m hQ => by
    conv => cbv
    refine r_append0R m.sX (by first | omega | (dsimp only; omega)) (by first | omega | (dsimp only; omega)) fun next hnext => ?_
    conv => cbv
    have lnext : (next.length : Int) = l.length := by rw [hnext]; first | done | (simp; done) | (simp; omega)
    refine r_lenR m.sX fun n1 hn1 mn1 => ?_
    conv => cbv
    refine r_loopF (α := List Slip × Int) m 29 [11, 12, 13] [⟨5, 41, 230, 2, 0⟩] (fun σ => [(5, .osl 41 0), (11, .isl 1 (rows cInt counts)), (12, .int .i64 n1), (13, .int .i64 σ.2)]) (fun σ => [(41, 0, .row 230 2 (rows cSlip σ.1))])
      (fun σ => (0 ≤ σ.2) ∧ (σ.2 ≤ n1) ∧ (σ.1 = restL l (counts.take σ.2.toNat))) (fun σ => (n1 - σ.2).toNat) (next, 0) ?_ ?_ ?_ ?_
    · cbv
    · cbv
    · exact ⟨(by (try dsimp only); first | omega | (simp only [List.length_nil]; omega)), (by (try dsimp only); first | omega | (simp only [List.length_nil]; omega)), (by (try dsimp only) <;> (rw [hnext]; exact (restL_nil l).symm))⟩
    rintro ⟨next_2, i1⟩ ⟨lo1, hi1, q⟩ E hE F hF
    dsimp only at lo1 hi1 q
    have ln : (next_2.length : Int) = l.length := by rw [q, restL_length]
    conv => cbv
    refine r_lss m.sX (fun h1 => ?_) (fun h1 => ?_) <;> conv => cbv
    · obtain ⟨z, hz⟩ := get_ex (xs := l) (i := Int.toNat i1) (by omega)
      have zb := hx z (get_mem hz)
      refine r_index m.sX (by omega) (by omega) fun n hn => ?_
      conv => cbv
      have mn := get_mem hn
      have dn := drop_cons hn
      have kn := take_snoc hn
      have jn : (i1 + 1).toNat = Int.toNat i1 + 1 := by omega
      have vn := nth_some hn
      have nb := hb _ n z hn hz
      have rs := restL_set hz hn
      refine r_oindex m.sX (by omega) (by omega) ?_
      conv => cbv
      obtain ⟨⟨x1A, x1B⟩, hx1⟩ := get_ex (xs := next_2) (i := Int.toNat i1) (by omega)
      have mx1 := get_mem hx1
      have dx1 := drop_cons hx1
      have kx1 := take_snoc hx1
      have jx1 : (i1 + 1).toNat = Int.toNat i1 + 1 := by omega
      have ex : (x1A, x1B) = z := by rw [q] at hx1; exact Option.some.inj (hx1.symm.trans rs.2)
      have exa : x1A = z.1 := by rw [← ex]
      have exb : x1B = z.2 := by rw [← ex]
      refine r_oload m.sX hx1 (Nat.le_of_ble_eq_true rfl) ?_
      conv => cbv
      refine r_subf m.sX (by omega) (by omega) fun r1 hr1 => ?_
      conv => cbv
      refine r_oindex m.sX (by omega) (by omega) ?_
      conv => cbv
      obtain ⟨⟨y1A, y1B⟩, hy1⟩ := get_ex (xs := next_2) (i := Int.toNat i1) (by omega)
      have ey : (y1A, y1B) = z := by rw [q] at hy1; exact Option.some.inj (hy1.symm.trans rs.2)
      have eya : y1A = z.1 := by rw [← ey]
      refine r_ostore (l := Int.toNat i1) (y1A, r1) m.sX hy1 (Nat.le_of_ble_eq_true rfl) rfl fun next_3 hnext_3 => ?_   -- next_3 = next_2.set i1 (y1A, r1)
      have lnext_3 : (next_3.length : Int) = next_2.length := by rw [hnext_3]; first | done | (simp; done) | (simp; omega)
      conv => cbv
      refine r_addf m.sX (by omega) (by omega) fun r2 hr2 => ?_
      conv => cbv
      have tr2 : Int.toNat r2 = Int.toNat i1 + 1 := by omega
      refine hE _ (next_3, r2) ?_ ?_ ⟨(by (try dsimp only); first | omega | (simp only [List.length_nil]; omega)), (by (try dsimp only); first | omega | (simp only [List.length_nil]; omega)), (by (try dsimp only) <;> (rw [hnext_3, q, tr2, rs.1, eya, hr1, exb]))⟩ (by first | omega | (dsimp only; omega))
      · cbv
      · cbv
    · have dz_i1 := drop_end (xs := counts) (i := Int.toNat i1) (by omega)
      have tz_i1 := take_end (xs := counts) (i := Int.toNat i1) (by omega)
      refine hF _ _ ?_
      conv => cbv
      exact hQ (.fr 230 2 (rows cSlip next_2)) (Eq.trans (by first | rfl | (simp only [lb, lbI, rows_cons, rows_nil, unnilT, unnil, unnilTI, unnilI]; done) | (simp only [lb, lbI, rows_cons, rows_nil, unnilT, unnil, unnilTI, unnilI]; rfl)) (congrArg (fun l => PV.fr 230 2 (rows cSlip l)) (show next_2 = restL l counts from by rw [q, tz_i1]))))   -- leaf 1

theorem RestOfStock_ok (l : List Slip) (counts : List Int)  : OkA Try.prog 107 [.isl 2 (rows cSlip l), .isl 1 (rows cInt counts)] (· = (lb 230 2 cSlip) (restA l counts)) :=
  OkA.unnil 230 2 (fn_intro envOk fieldsOk mixed Try.func107 rfl fun κ X Y L Q m hQ => by
    conv => cbv
    refine r_callB m.sX (areSlipCounts_ok l counts) (fun h1 => ?_) (fun h1 => ?_) <;> conv => cbv
    · have oc := okCn_spec h1
      have o1 := oc.sl
      have o2 := oc.eq
      have o3 := oc.at_
      have o4 := oc.len
      refine r_callF (fun l => PV.fr _ _ (rows _ l)) m.sX (rest_ok l counts (by first | rfl | assumption | omega | (simp only [List.length_append, List.length_cons, List.length_nil] at *; omega)) (by first | rfl | assumption | omega | (simp only [List.length_append, List.length_cons, List.length_nil] at *; omega)) (by first | rfl | assumption | omega | (simp only [List.length_append, List.length_cons, List.length_nil] at *; omega)) (by first | rfl | assumption | omega | (simp only [List.length_append, List.length_cons, List.length_nil] at *; omega))) fun v1 hv1 => ?_
      conv => cbv
      exact hQ (.tup [.fr 230 2 (rows cSlip v1), .bool true]) (Eq.trans (by first | rfl | (simp only [lb, lbI, rows_cons, rows_nil, unnilT, unnil, unnilTI, unnilI]; done) | (simp only [lb, lbI, rows_cons, rows_nil, unnilT, unnil, unnilTI, unnilI]; rfl)) (congrArg ((lb 230 2 cSlip)) (show (v1, true) = restA l counts from by rw [restA, h1, hv1]; rfl)))   -- leaf 1
    · exact hQ (.tup [.fr 230 2 [], .bool false]) (Eq.trans (by first | rfl | (simp only [lb, lbI, rows_cons, rows_nil, unnilT, unnil, unnilTI, unnilI]; done) | (simp only [lb, lbI, rows_cons, rows_nil, unnilT, unnil, unnilTI, unnilI]; rfl)) (congrArg ((lb 230 2 cSlip)) (show ([], false) = restA l counts from by rw [restA, h1]; rfl))))   -- leaf 2

theorem StockLength_ok (l : List Slip)  : OkA Try.prog 108 [.isl 2 (rows cSlip l)] (· = ib (stockA l)) :=
  fn_intro envOk fieldsOk mixed Try.func108 rfl fun κ X Y L Q m hQ => by
    conv => cbv
    refine r_callB m.sX (IsStock_ok l) (fun h1 => ?_) (fun h1 => ?_) <;> conv => cbv
    · obtain ⟨sl, sn⟩ := okSt_spec h1
      refine r_lenR m.sX fun n1 hn1 mn1 => ?_
      conv => cbv
      refine r_loopF (α := Int × Int) m 25 [4, 10, 11, 12] [] (fun σ => [(4, .int .i64 σ.1), (10, .isl 2 (rows cSlip l)), (11, .int .i64 n1), (12, .int .i64 σ.2)]) (fun σ => [])
        (fun σ => (0 ≤ σ.2) ∧ (σ.2 ≤ n1) ∧ (σ.1 = lenS (l.take σ.2.toNat)) ∧ (0 ≤ σ.1 ∧ σ.1 ≤ 4000 * σ.2)) (fun σ => (n1 - σ.2).toNat) (0, 0) ?_ ?_ ?_ ?_
      · cbv
      · cbv
      · exact ⟨(by (try dsimp only); first | omega | (simp only [List.length_nil]; omega)), (by (try dsimp only); first | omega | (simp only [List.length_nil]; omega)), (by (try dsimp only) <;> first | omega | rfl | (simp [*]; done)), (by (try dsimp only) <;> first | omega | rfl | (simp [*]; done))⟩
      rintro ⟨n, i1⟩ ⟨lo1, hi1, q, b⟩ E hE F hF
      dsimp only at lo1 hi1 q b
      conv => cbv
      refine r_lss m.sX (fun h2 => ?_) (fun h2 => ?_) <;> conv => cbv
      · refine r_index m.sX (by omega) (by omega) fun v hs_A => ?_
        obtain ⟨s_A, s_B⟩ := v
        conv => cbv
        have hs_ := hs_A
        have ms_ := get_mem hs_
        have ds_ := drop_cons hs_
        have ks_ := take_snoc hs_
        have js_ : (i1 + 1).toNat = Int.toNat i1 + 1 := by omega
        have bx := sl _ ms_
        try dsimp only at bx
        have g1 := mul_bound (show 0 ≤ s_A by omega) bx.1.2 bx.2.1 bx.2.2
        try dsimp only at g1
        refine r_mulf m.sX (by omega) (by omega) fun r1 hr1 => ?_
        conv => cbv
        refine r_addf m.sX (by omega) (by omega) fun n_2 hn_2 => ?_
        conv => cbv
        refine r_addf m.sX (by omega) (by omega) fun r2 hr2 => ?_
        conv => cbv
        have tr2 : Int.toNat r2 = Int.toNat i1 + 1 := by omega
        refine hE _ (n_2, r2) ?_ ?_ ⟨(by (try dsimp only); first | omega | (simp only [List.length_nil]; omega)), (by (try dsimp only); first | omega | (simp only [List.length_nil]; omega)), (by (try dsimp only) <;> (rw [hn_2, hr1, q, tr2, lenS_take hs_])), (by (try dsimp only) <;> first | omega | rfl | (simp [*]; done) | (rw [b]; simp [*]; done))⟩ (by first | omega | (dsimp only; omega))
        · cbv
        · cbv
      · have dz_i1 := drop_end (xs := l) (i := Int.toNat i1) (by omega)
        have tz_i1 := take_end (xs := l) (i := Int.toNat i1) (by omega)
        refine hF _ _ ?_
        conv => cbv
        exact hQ (.tup [.int .i64 n, .bool true]) (Eq.trans (by first | rfl | (simp only [lb, lbI, rows_cons, rows_nil, unnilT, unnil, unnilTI, unnilI]; done) | (simp only [lb, lbI, rows_cons, rows_nil, unnilT, unnil, unnilTI, unnilI]; rfl)) (congrArg (ib) (show (n, true) = stockA l from by rw [stockA, h1, q, tz_i1]; rfl)))   -- leaf 1
    · exact hQ (.tup [.int .i64 0, .bool false]) (Eq.trans (by first | rfl | (simp only [lb, lbI, rows_cons, rows_nil, unnilT, unnil, unnilTI, unnilI]; done) | (simp only [lb, lbI, rows_cons, rows_nil, unnilT, unnil, unnilTI, unnilI]; rfl)) (congrArg (ib) (show (0, false) = stockA l from by rw [stockA, h1]; rfl)))   -- leaf 2

theorem makeable_ok (l : List Slip) (hl : ∀ x ∈ l, (1 ≤ x.1 ∧ x.1 ≤ 200) ∧ (0 ≤ x.2 ∧ x.2 ≤ 20)) (hn : (l.length : Int) ≤ 8) : OkA Try.prog 290 [.isl 2 (rows cSlip l)] (· = .isl 1 (rows cInt (rowC l.reverse 400))) :=
  OkA.iceI 1 (fn_intro envOk fieldsOk mixed Try.func290 rfl fun κ X Y L Q m hQ => by
    conv => cbv
    refine r_callF (ll 3 1 cInt) m.sX (lengthsOf_ok l (by first | rfl | assumption | omega | (simp only [List.length_append, List.length_cons, List.length_nil] at *; omega))) fun v hlengths => ?_
    obtain ⟨lengths, counts⟩ := v
    conv => cbv
    obtain ⟨e1, e2⟩ := Prod.mk.inj hlengths
    have k1 : ∀ k ∈ lengths, 1 ≤ k ∧ k ≤ 10000 := fun k hk => by rw [e1] at hk; obtain ⟨x, hx, rfl⟩ := List.mem_map.1 hk; have := hl x hx; omega
    have k2 : counts.length = lengths.length := by rw [e1, e2, List.length_map, List.length_map]
    have k3 : ∀ k ∈ counts, 0 ≤ k ∧ k ≤ 10000 := fun k hk => by rw [e2] at hk; obtain ⟨x, hx, rfl⟩ := List.mem_map.1 hk; have := hl x hx; omega
    have k4 : lengths.length ≤ 1000 := by rw [e1, List.length_map]; omega
    refine .inr (r_pcallF (fun l => PV.fr _ _ (rows _ l)) m.sX (fewest_ok lengths counts 400 (by first | rfl | assumption | omega | (simp only [List.length_append, List.length_cons, List.length_nil] at *; omega)) (by first | rfl | assumption | omega | (simp only [List.length_append, List.length_cons, List.length_nil] at *; omega)) (by first | rfl | assumption | omega | (simp only [List.length_append, List.length_cons, List.length_nil] at *; omega)) (by first | rfl | assumption | omega | (simp only [List.length_append, List.length_cons, List.length_nil] at *; omega)) (by first | rfl | assumption | omega | (simp only [List.length_append, List.length_cons, List.length_nil] at *; omega))) fun v1 hv1 => ?_)
    conv => cbv
    have lv : (v1.length : Int) = l.length + 1 := by rw [hv1, tabC, List.length_map, List.length_range, e1, List.length_map]; omega
    refine r_lenR m.sX fun n1 hn1 mn1 => ?_
    conv => cbv
    refine r_oindex m.sX (by omega) (by omega) ?_
    conv => cbv
    obtain ⟨x1, hx1⟩ := get_ex (xs := v1) (i := Int.toNat n1) (by omega)
    have mx1 := get_mem hx1
    have ex : x1 = rowC l.reverse 400 := by rw [hv1] at hx1; have := Option.some.inj ((tabC_get (by rw [e1, List.length_map]; omega)).symm.trans hx1); rw [← this, e1, e2, pre_maps, show Int.toNat n1 = l.length by omega, List.take_length]
    refine r_oload m.sX hx1 (Nat.le_of_ble_eq_true rfl) ?_
    conv => cbv
    exact hQ (.isl 1 (rows cInt x1)) (Eq.trans (by first | rfl | (simp only [lb, lbI, rows_cons, rows_nil, unnilT, unnil, unnilTI, unnilI]; done) | (simp only [lb, lbI, rows_cons, rows_nil, unnilT, unnil, unnilTI, unnilI]; rfl)) (congrArg (fun l => PV.isl 1 (rows cInt l)) (show x1 = rowC l.reverse 400 from by exact ex))))   -- leaf 1

theorem MissingFor_ok (l : List Slip) (length : Int)  : OkA Try.prog 110 [.isl 2 (rows cSlip l), .int .i64 length] (· = ib (missA l length)) :=
  fn_intro envOk fieldsOk mixed Try.func110 rfl fun κ X Y L Q m hQ => by
    conv => cbv
    refine r_callB m.sX (IsStock_ok l) (fun h1 => ?_) (fun h1 => ?_) <;> conv => cbv
    · obtain ⟨sl, sn⟩ := okSt_spec h1
      refine r_callB m.sX (isRuleLength_ok length) (fun h2 => ?_) (fun h2 => ?_) <;> conv => cbv
      · have b2 := inB_spec h2
        refine r_callF (fun l => PV.isl _ (rows _ l)) m.sX (makeable_ok l (by first | rfl | assumption | omega | (simp only [List.length_append, List.length_cons, List.length_nil] at *; omega)) (by first | rfl | assumption | omega | (simp only [List.length_append, List.length_cons, List.length_nil] at *; omega))) fun row hrow => ?_
        conv => cbv
        have lr : (row.length : Int) = 401 := by rw [hrow, rowC_length]; rfl
        refine r_loopF (α := Int) m 31 [1, 6, 7] [] (fun σ => [(1, .int .i64 length), (6, .isl 1 (rows cInt row)), (7, .int .i64 σ)]) (fun σ => [])
          (fun σ => (length ≤ σ ∧ σ ≤ 401) ∧ (firstUp (canR l) (400 + 1 - length).toNat length = firstUp (canR l) (400 + 1 - σ).toNat σ)) (fun σ => (401 - σ).toNat) length ?_ ?_ ?_ ?_
        · cbv
        · cbv
        · exact ⟨(by (try dsimp only) <;> first | omega | rfl | (simp [*]; done)), (by (try dsimp only) <;> (rfl))⟩
        rintro n ⟨nb, q⟩ E hE F hF
        conv => cbv
        refine r_leq m.sX (fun h3 => ?_) (fun h3 => ?_) <;> conv => cbv
        · refine r_index m.sX (by omega) (by omega) fun x1 hx1 => ?_
          conv => cbv
          have mx1 := get_mem hx1
          have vx1 := nth_some hx1
          have e1 : x1 = fewC l.reverse n := by rw [← vx1, hrow, rowC_nth (by omega), Int.toNat_of_nonneg (by omega)]
          refine r_geq m.sX (fun h4 => ?_) (fun h4 => ?_) <;> conv => cbv
          · refine r_subf m.sX (by omega) (by omega) fun r1 hr1 => ?_
            conv => cbv
            refine hF _ _ ?_
            conv => cbv
            exact hQ (.tup [.int .i64 r1, .bool true]) (Eq.trans (by first | rfl | (simp only [lb, lbI, rows_cons, rows_nil, unnilT, unnil, unnilTI, unnilI]; done) | (simp only [lb, lbI, rows_cons, rows_nil, unnilT, unnil, unnilTI, unnilI]; rfl)) (congrArg (ib) (show (r1, true) = missA l length from by rw [missA, h1, h2, q, firstUp_hit (M := 400) h3 (decide_eq_true (show 0 ≤ fewC l.reverse n by omega)), hr1]; rfl)))   -- leaf 1
          · refine r_addf m.sX (by omega) (by omega) fun n_2 hn_2 => ?_
            conv => cbv
            refine hE _ n_2 ?_ ?_ ⟨(by (try dsimp only) <;> first | omega | rfl | (simp [*]; done) | (rw [nb]; simp [*]; done)), (by (try dsimp only) <;> (rw [q, hn_2]; exact firstUp_next (M := 400) h3 (decide_eq_false (by omega))))⟩ (by first | omega | (dsimp only; omega))
            · cbv
            · cbv
        · refine hF _ _ ?_
          conv => cbv
          exact hQ (.tup [.int .i64 0, .bool false]) (Eq.trans (by first | rfl | (simp only [lb, lbI, rows_cons, rows_nil, unnilT, unnil, unnilTI, unnilI]; done) | (simp only [lb, lbI, rows_cons, rows_nil, unnilT, unnil, unnilTI, unnilI]; rfl)) (congrArg (ib) (show (0, false) = missA l length from by rw [missA, h1, h2, q, show Int.toNat (400 + 1 - n) = 0 by omega]; rfl)))   -- leaf 2
      · exact hQ (.tup [.int .i64 0, .bool false]) (Eq.trans (by first | rfl | (simp only [lb, lbI, rows_cons, rows_nil, unnilT, unnil, unnilTI, unnilI]; done) | (simp only [lb, lbI, rows_cons, rows_nil, unnilT, unnil, unnilTI, unnilI]; rfl)) (congrArg (ib) (show (0, false) = missA l length from by rw [missA, h1, h2]; rfl)))   -- leaf 3
    · exact hQ (.tup [.int .i64 0, .bool false]) (Eq.trans (by first | rfl | (simp only [lb, lbI, rows_cons, rows_nil, unnilT, unnil, unnilTI, unnilI]; done) | (simp only [lb, lbI, rows_cons, rows_nil, unnilT, unnil, unnilTI, unnilI]; rfl)) (congrArg (ib) (show (0, false) = missA l length from by rw [missA, h1]; rfl)))   -- leaf 4

theorem LengthsUpTo_ok (l : List Slip) (most : Int)  : OkA Try.prog 112 [.isl 2 (rows cSlip l), .int .i64 most] (· = (lb 3 1 cInt) (uptoA l most)) :=
  OkA.unnil 3 1 (fn_intro envOk fieldsOk mixed Try.func112 rfl fun κ X Y L Q m hQ => by
    conv => cbv
    refine r_callB m.sX (IsStock_ok l) (fun h1 => ?_) (fun h1 => ?_) <;> conv => cbv
    · obtain ⟨sl, sn⟩ := okSt_spec h1
      refine r_callB m.sX (within_ok most 0 400) (fun h2 => ?_) (fun h2 => ?_) <;> conv => cbv
      · have b2 := inB_spec h2
        refine r_callF (fun l => PV.isl _ (rows _ l)) m.sX (makeable_ok l (by first | rfl | assumption | omega | (simp only [List.length_append, List.length_cons, List.length_nil] at *; omega)) (by first | rfl | assumption | omega | (simp only [List.length_append, List.length_cons, List.length_nil] at *; omega))) fun row hrow => ?_
        conv => cbv
        have lr : (row.length : Int) = 401 := by rw [hrow, rowC_length]; rfl
        refine r_loopF (α := List Int × Int) m 36 [1, 6, 8] [⟨7, 57, 3, 1, 0⟩] (fun σ => [(1, .int .i64 most), (6, .isl 1 (rows cInt row)), (7, .osl 57 0), (8, .int .i64 σ.2)]) (fun σ => [(57, 0, .row 3 1 (rows cInt σ.1))])
          (fun σ => (1 ≤ σ.2 ∧ σ.2 ≤ most + 1) ∧ (filtR (canR l) (most + 1 - 1).toNat 1 = σ.1 ++ filtR (canR l) (most + 1 - σ.2).toNat σ.2) ∧ ((σ.1.length : Int) ≤ σ.2)) (fun σ => (most + 1 - σ.2).toNat) ([], 1) ?_ ?_ ?_ ?_
        · cbv
        · (try dsimp only); simp only [rows_cons, rows_nil]; cbv
        · exact ⟨(by (try dsimp only) <;> first | omega | rfl | (simp [*]; done)), (by (try dsimp only) <;> (rfl)), (by (try dsimp only) <;> first | omega | rfl | (simp [*]; done))⟩
        rintro ⟨list, n⟩ ⟨nb, q, ln⟩ E hE F hF
        dsimp only at nb q ln
        conv => cbv
        refine r_leq m.sX (fun h3 => ?_) (fun h3 => ?_) <;> conv => cbv
        · refine r_index m.sX (by omega) (by omega) fun x1 hx1 => ?_
          conv => cbv
          have mx1 := get_mem hx1
          have vx1 := nth_some hx1
          have e1 : x1 = fewC l.reverse n := by rw [← vx1, hrow, rowC_nth (by omega), Int.toNat_of_nonneg (by omega)]
          refine r_geq m.sX (fun h4 => ?_) (fun h4 => ?_) <;> conv => cbv
          · have pc : canR l n = true := decide_eq_true (show 0 ≤ fewC l.reverse n by omega)
            refine r_append1 (n) m.sX rfl (by first | omega | (dsimp only; omega)) (by first | omega | (dsimp only; omega)) fun list_2 hlist_2 => ?_
            conv => cbv
            have llist_2 : (list_2.length : Int) = list.length + 1 := by rw [hlist_2]; first | done | (simp; done) | (simp; omega)
            refine r_addf m.sX (by omega) (by omega) fun n_2 hn_2 => ?_
            conv => cbv
            refine hE _ (list_2, n_2) ?_ ?_ ⟨(by (try dsimp only) <;> first | omega | rfl | (simp [*]; done) | (rw [nb]; simp [*]; done)), (by (try dsimp only) <;> (rw [q, filtR_next h3, hn_2]; first | (rw [if_pos pc, hlist_2]; simp) | (rw [if_neg pc]; rfl))), (by (try dsimp only) <;> first | omega | rfl | (simp [*]; done) | (rw [ln]; simp [*]; done))⟩ (by first | omega | (dsimp only; omega))
            · cbv
            · cbv
          · have pc : ¬ canR l n = true := fun e => by have := of_decide_eq_true e; omega
            refine r_addf m.sX (by omega) (by omega) fun n_3 hn_3 => ?_
            conv => cbv
            refine hE _ (list, n_3) ?_ ?_ ⟨(by (try dsimp only) <;> first | omega | rfl | (simp [*]; done) | (rw [nb]; simp [*]; done)), (by (try dsimp only) <;> (rw [q, filtR_next h3, hn_3]; first | (rw [if_pos pc, hlist]; simp) | (rw [if_neg pc]; rfl))), (by (try dsimp only) <;> first | omega | rfl | (simp [*]; done) | (rw [ln]; simp [*]; done))⟩ (by first | omega | (dsimp only; omega))
            · cbv
            · cbv
        · refine hF _ _ ?_
          conv => cbv
          exact hQ (.tup [.fr 3 1 (rows cInt list), .bool true]) (Eq.trans (by first | rfl | (simp only [lb, lbI, rows_cons, rows_nil, unnilT, unnil, unnilTI, unnilI]; done) | (simp only [lb, lbI, rows_cons, rows_nil, unnilT, unnil, unnilTI, unnilI]; rfl)) (congrArg ((lb 3 1 cInt)) (show (list, true) = uptoA l most from by rw [uptoA, h1, h2, q, show Int.toNat (most + 1 - n) = 0 by omega, filtR, List.append_nil]; rfl)))   -- leaf 1
      · exact hQ (.tup [.fr 3 1 [], .bool false]) (Eq.trans (by first | rfl | (simp only [lb, lbI, rows_cons, rows_nil, unnilT, unnil, unnilTI, unnilI]; done) | (simp only [lb, lbI, rows_cons, rows_nil, unnilT, unnil, unnilTI, unnilI]; rfl)) (congrArg ((lb 3 1 cInt)) (show ([], false) = uptoA l most from by rw [uptoA, h1, h2]; rfl)))   -- leaf 2
    · exact hQ (.tup [.fr 3 1 [], .bool false]) (Eq.trans (by first | rfl | (simp only [lb, lbI, rows_cons, rows_nil, unnilT, unnil, unnilTI, unnilI]; done) | (simp only [lb, lbI, rows_cons, rows_nil, unnilT, unnil, unnilTI, unnilI]; rfl)) (congrArg ((lb 3 1 cInt)) (show ([], false) = uptoA l most from by rw [uptoA, h1]; rfl))))   -- leaf 3

theorem ruSlip_ok (x : Slip)  : OkA Try.prog 353 [.agg (cSlip x)] (· = .bool (okSl x)) := by
  obtain ⟨xA, xB⟩ := x
  try dsimp only at *
  exact fn_intro envOk fieldsOk mixed Try.func353 rfl fun κ X Y L Q m hQ => by
    conv => cbv
    refine r_callB m.sX (l1In_ok xA 1 200) (fun h1 => ?_) (fun h1 => ?_) <;> conv => cbv
    · refine r_callB m.sX (l1In_ok xB 0 20) (fun h2 => ?_) (fun h2 => ?_) <;> conv => cbv
      · exact hQ _ (congrArg PV.bool (by first | rfl | omega | (simp [okSl, *]; done) | (subst_vars; simp [okSl, *]; done)))   -- leaf 1
      · exact hQ _ (congrArg PV.bool (by first | rfl | omega | (simp [okSl, *]; done) | (subst_vars; simp [okSl, *]; done)))   -- leaf 2
    · exact hQ _ (congrArg PV.bool (by first | rfl | omega | (simp [okSl, *]; done) | (subst_vars; simp [okSl, *]; done)))   -- leaf 3

theorem ruGood_ok (l : List Slip)  : OkA Try.prog 285 [.isl 2 (rows cSlip l)] (· = .bool (okSt l)) :=
  fn_intro envOk fieldsOk mixed Try.func285 rfl fun κ X Y L Q m hQ => by
    conv => cbv
    refine r_lenR m.sX fun n1 hn1 mn1 => ?_
    conv => cbv
    refine r_loopF (α := Int) m 34 [0, 5, 6, 7] [] (fun σ => [(0, .isl 2 (rows cSlip l)), (5, .isl 2 (rows cSlip l)), (6, .int .i64 n1), (7, .int .i64 σ)]) (fun σ => [])
      (fun σ => (0 ≤ σ) ∧ (σ ≤ n1) ∧ (slG none l = slG (prevS l σ) (l.drop σ.toNat))) (fun σ => (n1 - σ).toNat) 0 ?_ ?_ ?_ ?_
    · cbv
    · cbv
    · exact ⟨(by (try dsimp only); first | omega | (simp only [List.length_nil]; omega)), (by (try dsimp only); first | omega | (simp only [List.length_nil]; omega)), (by (try dsimp only) <;> first | omega | rfl | (simp [*]; done))⟩
    rintro i1 ⟨lo1, hi1, q⟩ E hE F hF
    conv => cbv
    refine r_lss m.sX (fun h1 => ?_) (fun h1 => ?_) <;> conv => cbv
    · refine r_index m.sX (by omega) (by omega) fun v hxA => ?_
      obtain ⟨xA, xB⟩ := v
      conv => cbv
      have hx := hxA
      have mx := get_mem hx
      have dx := drop_cons hx
      have kx := take_snoc hx
      have jx : (i1 + 1).toNat = Int.toNat i1 + 1 := by omega
      have pn : prevS l (i1 + 1) = some xA := prevS_next lo1 hx
      refine r_draw m (by kernel_rfl) ?_
      conv => cbv
      refine r_callBS m.sY (ruSlip_ok (xA, xB)) (fun h2 => ?_) (fun h2 => ?_) <;> conv => cbv
      · refine r_gtr m.sY (fun h3 => ?_) (fun h3 => ?_) <;> conv => cbv
        · refine r_subf m.sY (by omega) (by omega) fun r1 hr1 => ?_
          conv => cbv
          refine r_index m.sY (by omega) (by omega) fun v hx1A => ?_
          obtain ⟨x1A, x1B⟩ := v
          conv => cbv
          have hx1 := hx1A
          have mx1 := get_mem hx1
          have pv : prevS l i1 = some x1A := prevS_some (by omega) (by rw [← hr1]; exact hx1)
          refine r_geq m.sY (fun h4 => ?_) (fun h4 => ?_) <;> conv => cbv
          · have sb : upP (prevS l i1) xA = false := by rw [pv]; exact decide_eq_false (by omega)
            refine hF _ _ ?_
            conv => cbv
            exact hQ _ (congrArg PV.bool (by rw [okSt, q, dx, slG_bad (.inr sb)]; rfl))   -- leaf 1
          · have sp : upP (prevS l i1) xA = true := by rw [pv]; exact decide_eq_true (by omega)
            refine r_addf m.sX (by omega) (by omega) fun r2 hr2 => ?_
            conv => cbv
            have tr2 : Int.toNat r2 = Int.toNat i1 + 1 := by omega
            refine hE _ r2 ?_ ?_ ⟨(by (try dsimp only); first | omega | (simp only [List.length_nil]; omega)), (by (try dsimp only); first | omega | (simp only [List.length_nil]; omega)), (by (try dsimp only) <;> (rw [q, dx, slG_step h2 sp, tr2, show r2 = i1 + 1 by omega, pn]))⟩ (by first | omega | (dsimp only; omega))
            · cbv
            · cbv
        · have sp : upP (prevS l i1) xA = true := by rw [prevS_zero h3]; rfl
          refine r_addf m.sX (by omega) (by omega) fun r3 hr3 => ?_
          conv => cbv
          have tr3 : Int.toNat r3 = Int.toNat i1 + 1 := by omega
          refine hE _ r3 ?_ ?_ ⟨(by (try dsimp only); first | omega | (simp only [List.length_nil]; omega)), (by (try dsimp only); first | omega | (simp only [List.length_nil]; omega)), (by (try dsimp only) <;> (rw [q, dx, slG_step h2 sp, tr3, show r3 = i1 + 1 by omega, pn]))⟩ (by first | omega | (dsimp only; omega))
          · cbv
          · cbv
      · refine hF _ _ ?_
        conv => cbv
        exact hQ _ (congrArg PV.bool (by rw [okSt, q, dx, slG_bad (.inl h2)]; rfl))   -- leaf 2
    · have dz_i1 := drop_end (xs := l) (i := Int.toNat i1) (by omega)
      have tz_i1 := take_end (xs := l) (i := Int.toNat i1) (by omega)
      refine hF _ _ ?_
      conv => cbv
      refine r_lenR m.sX fun n2 hn2 mn2 => ?_
      conv => cbv
      refine r_leq m.sX (fun h5 => ?_) (fun h5 => ?_) <;> conv => cbv
      · exact hQ _ (congrArg PV.bool (by rw [okSt, q, dz_i1, decide_eq_true (by omega)]; rfl))   -- leaf 3
      · exact hQ _ (congrArg PV.bool (by rw [okSt, q, dz_i1, decide_eq_false (by omega)]; rfl))   -- leaf 4

theorem ruTables_ok (l : List Slip) (most : Int) (hl : ∀ x ∈ l, (1 ≤ x.1 ∧ x.1 ≤ 200) ∧ (0 ≤ x.2 ∧ x.2 ≤ 20)) (hn : (l.length : Int) ≤ 8) (hb : 0 ≤ most ∧ most ≤ 400) : OkA Try.prog 291 [.isl 2 (rows cSlip l), .int .i64 most] (· = .fr 24 1 (rows (cSl 1 cInt) (ruTab l most))) :=
  OkA.unnil 24 1 (fn_intro envOk fieldsOk mixed Try.func291 rfl fun κ X Y L Q m hQ => by
    conv => cbv
    refine r_loopF (α := List Int × Int) m 78 [0, 1, 6] [⟨5, 41, 3, 1, 0⟩] (fun σ => [(0, .isl 2 (rows cSlip l)), (1, .int .i64 most), (5, .osl 41 0), (6, .int .i64 σ.2)]) (fun σ => [(41, 0, .row 3 1 (rows cInt σ.1))])
      (fun σ => (0 ≤ σ.2 ∧ σ.2 ≤ most + 1) ∧ (σ.1 = List.replicate σ.2.toNat 1048576)) (fun σ => (most + 1 - σ.2).toNat) ([], 0) ?_ ?_ ?_ ?_
    · cbv
    · (try dsimp only); simp only [rows_cons, rows_nil]; cbv
    · exact ⟨(by (try dsimp only) <;> first | omega | rfl | (simp [*]; done)), (by (try dsimp only) <;> (rfl))⟩
    rintro ⟨first, n⟩ ⟨nb, q⟩ E hE F hF
    dsimp only at nb q
    have lf : (first.length : Int) = n := by rw [q, List.length_replicate]; omega
    conv => cbv
    refine r_leq m.sX (fun h1 => ?_) (fun h1 => ?_) <;> conv => cbv
    · refine r_append1 (1048576) m.sX rfl (by first | omega | (dsimp only; omega)) (by first | omega | (dsimp only; omega)) fun first_2 hfirst_2 => ?_
      conv => cbv
      have lfirst_2 : (first_2.length : Int) = first.length + 1 := by rw [hfirst_2]; first | done | (simp; done) | (simp; omega)
      refine r_addf m.sX (by omega) (by omega) fun n_2 hn_2 => ?_
      conv => cbv
      refine hE _ (first_2, n_2) ?_ ?_ ⟨(by (try dsimp only) <;> first | omega | rfl | (simp [*]; done) | (rw [nb]; simp [*]; done)), (by (try dsimp only) <;> (rw [hfirst_2, q, show Int.toNat n_2 = Int.toNat n + 1 by omega, List.replicate_succ']))⟩ (by first | omega | (dsimp only; omega))
      · cbv
      · cbv
    · refine hF _ _ ?_
      conv => cbv
      refine r_oindex m.sX (by omega) (by omega) ?_
      conv => cbv
      obtain ⟨y1, hy1⟩ := get_ex (xs := first) (i := Int.toNat 0) (by omega)
      refine r_ostore (l := Int.toNat 0) 0 m.sX hy1 (Nat.le_of_ble_eq_true rfl) rfl fun first_3 hfirst_3 => ?_   -- first_3 = first.set 0 0
      have lfirst_3 : (first_3.length : Int) = first.length := by rw [hfirst_3]; first | done | (simp; done) | (simp; omega)
      have ef : first_3 = ruRow [] most := by rw [hfirst_3, q, show n = most + 1 by omega]; exact ruFirst hb.1
      conv => cbv
      refine r_lenR m.sX fun n1 hn1 mn1 => ?_
      conv => cbv
      refine r_loopF (α := List (List Int) × Int) m 78 [1, 26, 27, 28] [⟨7, 57, 24, 1, 0⟩] (fun σ => [(1, .int .i64 most), (7, .osl 57 0), (26, .isl 2 (rows cSlip l)), (27, .int .i64 n1), (28, .int .i64 σ.2)]) (fun σ => [(57, 0, .row 24 1 (rows (cSl 1 cInt) σ.1))])
        (fun σ => (0 ≤ σ.2) ∧ (σ.2 ≤ n1) ∧ (σ.1 = (List.range (σ.2.toNat + 1)).map fun i => ruRow ((l.take i).reverse) most) ∧ ((σ.1.length : Int) = σ.2 + 1)) (fun σ => (n1 - σ.2).toNat) ([first_3], 0) ?_ ?_ ?_ ?_
      · cbv
      · (try dsimp only); simp only [rows_cons, rows_nil]; cbv
      · exact ⟨(by (try dsimp only); first | omega | (simp only [List.length_nil]; omega)), (by (try dsimp only); first | omega | (simp only [List.length_nil]; omega)), (by (try dsimp only) <;> (rw [ef]; rfl)), (by (try dsimp only) <;> first | omega | rfl | (simp [*]; done))⟩
      rintro ⟨out, i1⟩ ⟨lo2, hi2, q2, ln⟩ E hE F hF
      dsimp only at lo2 hi2 q2 ln
      conv => cbv
      refine r_lss m.sX (fun h2 => ?_) (fun h2 => ?_) <;> conv => cbv
      · refine r_index m.sX (by omega) (by omega) fun v hxA => ?_
        obtain ⟨xA, xB⟩ := v
        conv => cbv
        have hx := hxA
        have mx := get_mem hx
        have dx := drop_cons hx
        have kx := take_snoc hx
        have jx : (i1 + 1).toNat = Int.toNat i1 + 1 := by omega
        have xb := hl _ mx
        try dsimp only at xb
        have lk : ∀ p ∈ (l.take (Int.toNat i1)).reverse, 1 ≤ p.1 := fun p hp => (hl p (List.mem_of_mem_take (List.mem_reverse.1 hp))).1.1
        refine r_loopF (α := List Int × Int) m 78 [1, 8, 11, 26, 27, 28] [⟨7, 57, 24, 1, 0⟩, ⟨9, 73, 0, 0, 0⟩, ⟨10, 81, 3, 1, 0⟩] (fun σ => [(1, .int .i64 most), (7, .osl 57 0), (8, .int .i64 i1), (9, .optr 73 0 2 0 0), (10, .osl 81 0), (11, .int .i64 σ.2), (26, .isl 2 (rows cSlip l)), (27, .int .i64 n1), (28, .int .i64 i1)]) (fun σ => [(57, 0, .row 24 1 (rows (cSl 1 cInt) out)), (73, 0, .box [.int .i64 xA, .int .i64 xB]), (81, 0, .row 3 1 (rows cInt σ.1))])
          (fun σ => (0 ≤ σ.2 ∧ σ.2 ≤ most + 1) ∧ (σ.1 = ruRow ((l.take (Int.toNat i1 + 1)).reverse) (σ.2 - 1))) (fun σ => (most + 1 - σ.2).toNat) ([], 0) ?_ ?_ ?_ ?_
        · cbv
        · (try dsimp only); simp only [rows_cons, rows_nil]; cbv
        · exact ⟨(by (try dsimp only) <;> first | omega | rfl | (simp [*]; done)), (by (try dsimp only) <;> (exact (ruRow_start _).symm))⟩
        rintro ⟨row, n_3⟩ ⟨nb3, q3⟩ E2 hE2 F2 hF2
        dsimp only at nb3 q3
        have lr : (row.length : Int) = n_3 := by rw [q3, ruRow_length]; omega
        conv => cbv
        refine r_leq m.sX (fun h3 => ?_) (fun h3 => ?_) <;> conv => cbv
        · refine r_loopF (α := Int × Int) m 78 [1, 8, 11, 12, 13, 26, 27, 28] [⟨7, 57, 24, 1, 0⟩, ⟨9, 73, 0, 0, 0⟩, ⟨10, 81, 3, 1, 0⟩] (fun σ => [(1, .int .i64 most), (7, .osl 57 0), (8, .int .i64 i1), (9, .optr 73 0 2 0 0), (10, .osl 81 0), (11, .int .i64 n_3), (12, .int .i64 σ.1), (13, .int .i64 σ.2), (26, .isl 2 (rows cSlip l)), (27, .int .i64 n1), (28, .int .i64 i1)]) (fun σ => [(57, 0, .row 24 1 (rows (cSl 1 cInt) out)), (73, 0, .box [.int .i64 xA, .int .i64 xB]), (81, 0, .row 3 1 (rows cInt row))])
            (fun σ => (0 ≤ σ.2 ∧ σ.2 ≤ 21) ∧ (∃ v, IsMin (Cand (l.take (Int.toNat i1)).reverse xA xB n_3 σ.2) v ∧ σ.1 = ruV v)) (fun σ => (21 - σ.2).toNat) (1048576, 0) ?_ ?_ ?_ ?_
          · cbv
          · cbv
          · exact ⟨(by (try dsimp only) <;> first | omega | rfl | (simp [*]; done)), (by (try dsimp only) <;> (exact ⟨-1, cand_zero _ _ _ _, rfl⟩))⟩
          rintro ⟨least, k⟩ ⟨kb, c⟩ E3 hE3 F3 hF3
          dsimp only at kb c
          obtain ⟨v, cv, ev⟩ := c
          have vb := cand_le lk xb.1.1 cv
          try dsimp only at vb
          have vg := cv.ge
          try dsimp only at vg
          have g1 := mul_bound kb.1 (show k ≤ 21 by omega) (show 0 ≤ xA by omega) xb.1.2
          try dsimp only at g1
          conv => cbv
          refine r_leq m.sX (fun h4 => ?_) (fun h4 => ?_) <;> conv => cbv
          · refine r_mulf m.sX (by omega) (by omega) fun r1 hr1 => ?_
            conv => cbv
            refine r_leq m.sX (fun h5 => ?_) (fun h5 => ?_) <;> conv => cbv
            · refine r_draw m (by kernel_rfl) ?_
              conv => cbv
              refine r_oindex m.sY (by omega) (by omega) ?_
              conv => cbv
              obtain ⟨x1, hx1⟩ := get_ex (xs := out) (i := Int.toNat i1) (by omega)
              have mx1 := get_mem hx1
              have dx1 := drop_cons hx1
              have kx1 := take_snoc hx1
              have jx1 : (i1 + 1).toNat = Int.toNat i1 + 1 := by omega
              have ex1 : x1 = ruRow ((l.take (Int.toNat i1)).reverse) most := by rw [q2] at hx1; exact (Option.some.inj ((ruTab_get (by omega)).symm.trans hx1)).symm
              have l1 : (x1.length : Int) = most + 1 := by rw [ex1, ruRow_length]; omega
              refine r_oload m.sY hx1 (Nat.le_of_ble_eq_true rfl) ?_
              conv => cbv
              refine r_mulf m.sY (by omega) (by omega) fun r2 hr2 => ?_
              conv => cbv
              refine r_subf m.sY (by omega) (by omega) fun r3 hr3 => ?_
              conv => cbv
              refine r_index m.sY (by omega) (by omega) fun x2 hx2 => ?_
              conv => cbv
              have mx2 := get_mem hx2
              have vx2 := nth_some hx2
              have ex2 : x2 = ruV (fewC (l.take (Int.toNat i1)).reverse (n_3 - k * xA)) := by rw [← vx2, ex1, ruRow_nth (by omega), Int.toNat_of_nonneg (by omega), hr3, hr2]
              have fb := fewC_bound lk (n := n_3 - k * xA) (by omega)
              try dsimp only at fb
              have mv := ruV_min (v := v) (f := fewC (l.take (Int.toNat i1)).reverse (n_3 - k * xA)) (k := k) (by omega) (by omega) (by omega)
              try dsimp only at mv
              have xs2 : -1 ≤ x2 ∧ x2 ≤ 1048576 := by rw [ex2, ruV]; split <;> omega
              refine r_addf m.sY (by omega) (by omega) fun r4 hr4 => ?_
              conv => cbv
              refine r_callFS (PV.int .i64) m.sY (l1Least_ok least r4) trivial fun least_2 hleast_2 => ?_
              conv => cbv
              try dsimp only at hleast_2
              refine r_addf m.sX (by omega) (by omega) fun k_2 hk_2 => ?_
              conv => cbv
              refine hE3 _ (least_2, k_2) ?_ ?_ ⟨(by (try dsimp only) <;> first | omega | rfl | (simp [*]; done) | (rw [kb]; simp [*]; done)), (by (try dsimp only) <;> (rw [hleast_2, hr4, ev, ex2, mv, hk_2]; rcases Int.lt_or_le (fewC (l.take (Int.toNat i1)).reverse (n_3 - k * xA)) 0 with hf | hf; exact ⟨v, cand_skip cv hf, by rw [if_pos hf]⟩; exact ⟨_, cand_take cv ⟨kb.1, h4⟩ hf, by rw [if_neg (by omega)]⟩))⟩ (by first | omega | (dsimp only; omega))
              · cbv
              · cbv
            · refine hF3 _ _ ?_
              conv => cbv
              refine r_append1 (least) m.sX rfl (by first | omega | (dsimp only; omega)) (by first | omega | (dsimp only; omega)) fun row_2 hrow_2 => ?_
              conv => cbv
              have lrow_2 : (row_2.length : Int) = row.length + 1 := by rw [hrow_2]; first | done | (simp; done) | (simp; omega)
              refine r_addf m.sX (by omega) (by omega) fun n_4 hn_4 => ?_
              conv => cbv
              refine hE2 _ (row_2, n_4) ?_ ?_ ⟨(by (try dsimp only) <;> first | omega | rfl | (simp [*]; done) | (rw [nb3]; simp [*]; done)), (by (try dsimp only) <;> (rw [hrow_2, q3, ev]; exact ruRow_snoc nb3.1 hn_4 (by rw [takeS hx]; congr 1; exact fewC_cons lk xb.1.1 (by omega) cv)))⟩ (by first | omega | (dsimp only; omega))
              · cbv
              · cbv
          · refine hF3 _ _ ?_
            conv => cbv
            refine r_append1 (least) m.sX rfl (by first | omega | (dsimp only; omega)) (by first | omega | (dsimp only; omega)) fun row_3 hrow_3 => ?_
            conv => cbv
            have lrow_3 : (row_3.length : Int) = row.length + 1 := by rw [hrow_3]; first | done | (simp; done) | (simp; omega)
            refine r_addf m.sX (by omega) (by omega) fun n_5 hn_5 => ?_
            conv => cbv
            refine hE2 _ (row_3, n_5) ?_ ?_ ⟨(by (try dsimp only) <;> first | omega | rfl | (simp [*]; done) | (rw [nb3]; simp [*]; done)), (by (try dsimp only) <;> (rw [hrow_3, q3, ev]; exact ruRow_snoc nb3.1 hn_5 (by rw [takeS hx]; congr 1; exact fewC_cons lk xb.1.1 (by omega) cv)))⟩ (by first | omega | (dsimp only; omega))
            · cbv
            · cbv
        · refine hF2 _ _ ?_
          conv => cbv
          refine r_append1 (row) m.sX rfl (by first | omega | (dsimp only; omega)) (by first | omega | (dsimp only; omega)) fun out_2 hout_2 => ?_
          conv => cbv
          have lout_2 : (out_2.length : Int) = out.length + 1 := by rw [hout_2]; first | done | (simp; done) | (simp; omega)
          refine r_addf m.sX (by omega) (by omega) fun r5 hr5 => ?_
          conv => cbv
          have tr5 : Int.toNat r5 = Int.toNat i1 + 1 := by omega
          refine hE _ (out_2, r5) ?_ ?_ ⟨(by (try dsimp only); first | omega | (simp only [List.length_nil]; omega)), (by (try dsimp only); first | omega | (simp only [List.length_nil]; omega)), (by (try dsimp only) <;> (rw [hout_2, q2, q3, show n_3 - 1 = most by omega]; exact ruTab_next lo2 hr5)), (by (try dsimp only) <;> first | omega | rfl | (simp [*]; done) | (rw [ln]; simp [*]; done))⟩ (by first | omega | (dsimp only; omega))
          · cbv
          · cbv
      · have dz_i1 := drop_end (xs := l) (i := Int.toNat i1) (by omega)
        have tz_i1 := take_end (xs := l) (i := Int.toNat i1) (by omega)
        refine hF _ _ ?_
        conv => cbv
        exact hQ (.fr 24 1 (rows (cSl 1 cInt) out)) (Eq.trans (by first | rfl | (simp only [lb, lbI, rows_cons, rows_nil, unnilT, unnil, unnilTI, unnilI]; done) | (simp only [lb, lbI, rows_cons, rows_nil, unnilT, unnil, unnilTI, unnilI]; rfl)) (congrArg (fun l => PV.fr 24 1 (rows (cSl 1 cInt) l)) (show out = ruTab l most from by rw [q2, show Int.toNat i1 = l.length by omega]; rfl))))   -- leaf 1

theorem ruLength_ok (n : Int)  : OkA Try.prog 286 [.int .i64 n] (· = .bool (inB n 1 400)) :=
  fn_intro envOk fieldsOk mixed Try.func286 rfl fun κ X Y L Q m hQ => by
    conv => cbv
    refine r_callB m.sX (l1In_ok n 1 400) (fun h1 => ?_) (fun h1 => ?_) <;> conv => cbv
    · exact hQ _ (congrArg PV.bool (by first | rfl | omega | (simp [*]; done) | (subst_vars; simp [*]; done)))   -- leaf 1
    · exact hQ _ (congrArg PV.bool (by first | rfl | omega | (simp [*]; done) | (subst_vars; simp [*]; done)))   -- leaf 2

theorem ruRule_ok (l : List Slip) (length : Int) (hl : ∀ x ∈ l, (1 ≤ x.1 ∧ x.1 ≤ 200) ∧ (0 ≤ x.2 ∧ x.2 ≤ 20)) (hn : (l.length : Int) ≤ 8) (hb : 0 ≤ length ∧ length ≤ 400) : OkA Try.prog 287 [.isl 2 (rows cSlip l), .int .i64 length] (· = (lb 3 1 cInt) (ruR l length)) :=
  OkA.unnil 3 1 (fn_intro envOk fieldsOk mixed Try.func287 rfl fun κ X Y L Q m hQ => by
    have lk0 : ∀ (i : Nat), ∀ p ∈ (l.take i).reverse, 1 ≤ p.1 := fun i p hp => (hl p (List.mem_of_mem_take (List.mem_reverse.1 hp))).1.1
    conv => cbv
    refine r_callF (fun l => PV.fr _ _ (rows _ l)) m.sX (ruTables_ok l length (by first | rfl | assumption | omega | (simp only [List.length_append, List.length_cons, List.length_nil] at *; omega)) (by first | rfl | assumption | omega | (simp only [List.length_append, List.length_cons, List.length_nil] at *; omega)) (by first | rfl | assumption | omega | (simp only [List.length_append, List.length_cons, List.length_nil] at *; omega))) fun tables htables => ?_
    conv => cbv
    have lt : (tables.length : Int) = l.length + 1 := by rw [htables, ruTab, List.length_map, List.length_range]; omega
    refine r_lenR m.sX fun n1 hn1 mn1 => ?_
    conv => cbv
    refine r_oindex m.sX (by omega) (by omega) ?_
    conv => cbv
    obtain ⟨x1, hx1⟩ := get_ex (xs := tables) (i := Int.toNat n1) (by omega)
    have mx1 := get_mem hx1
    have ex1 : x1 = ruRow l.reverse length := by rw [htables] at hx1; have := Option.some.inj ((ruTab_get (by omega)).symm.trans hx1); rw [← this, show Int.toNat n1 = l.length by omega, List.take_length]
    have l1 : (x1.length : Int) = length + 1 := by rw [ex1, ruRow_length]; omega
    refine r_oload m.sX hx1 (Nat.le_of_ble_eq_true rfl) ?_
    conv => cbv
    refine r_index m.sX (by omega) (by omega) fun x2 hx2 => ?_
    conv => cbv
    have mx2 := get_mem hx2
    have vx2 := nth_some hx2
    have ex2 : x2 = ruV (fewC l.reverse length) := by rw [← vx2, ex1, ruRow_nth (by omega), Int.toNat_of_nonneg hb.1]
    have fb := fewC_bound (l := l.reverse) (fun p hp => by have := lk0 l.length; rw [List.take_length] at this; exact this p hp) hb.1
    have fl := ruV_lt (v := fewC l.reverse length) (by omega)
    refine r_geq m.sX (fun h1 => ?_) (fun h1 => ?_) <;> conv => cbv
    · exact hQ (.tup [.nil, .bool false]) (Eq.trans (by first | rfl | (simp only [lb, lbI, rows_cons, rows_nil, unnilT, unnil, unnilTI, unnilI]; done) | (simp only [lb, lbI, rows_cons, rows_nil, unnilT, unnil, unnilTI, unnilI]; rfl)) (congrArg ((lb 3 1 cInt)) (show ([], false) = ruR l length from by rw [ruR, if_neg (by omega)])))   -- leaf 1
    · refine r_lenR m.sX fun n2 hn2 mn2 => ?_
      conv => cbv
      refine r_make cInt 0 m.sX rfl (by omega) (by omega) (by dsimp only; omega) (by omega) fun out hout => ?_   -- out = replicate n2
      have lout : (out.length : Int) = n2 := by rw [hout]; first | done | (simp; done) | (simp; omega)
      conv => cbv
      refine r_lenR m.sX fun n3 hn3 mn3 => ?_
      conv => cbv
      refine r_subf m.sX (by omega) (by omega) fun i hi => ?_
      conv => cbv
      refine r_loopF (α := Int × List Int × Int) m 87 [0, 1, 8] [⟨6, 49, 24, 1, 0⟩, ⟨7, 57, 3, 1, 0⟩] (fun σ => [(0, .isl 2 (rows cSlip l)), (1, .int .i64 σ.1), (6, .osl 49 0), (7, .osl 57 0), (8, .int .i64 σ.2.2)]) (fun σ => [(49, 0, .row 24 1 (rows (cSl 1 cInt) tables)), (57, 0, .row 3 1 (rows cInt σ.2.1))])
        (fun σ => (-1 ≤ σ.2.2 ∧ σ.2.2 < l.length) ∧ (0 ≤ σ.1 ∧ σ.1 ≤ length) ∧ (0 ≤ fewC ((l.take (σ.2.2 + 1).toNat).reverse) σ.1) ∧ ((σ.2.1.length : Int) = l.length) ∧ (σ.2.1 = List.replicate (σ.2.2 + 1).toNat 0 ++ σ.2.1.drop (σ.2.2 + 1).toNat) ∧ ((cntC l.reverse length).reverse = (cntC ((l.take (σ.2.2 + 1).toNat).reverse) σ.1).reverse ++ σ.2.1.drop (σ.2.2 + 1).toNat)) (fun σ => (σ.2.2 + 1).toNat) (length, out, i) ?_ ?_ ?_ ?_
      · cbv
      · cbv
      · exact ⟨(by (try dsimp only) <;> first | omega | rfl | (simp [*]; done)), (by (try dsimp only) <;> first | omega | rfl | (simp [*]; done)), (by (try dsimp only) <;> (rw [show Int.toNat (i + 1) = l.length by omega, List.take_length]; omega)), (by (try dsimp only) <;> first | omega | rfl | (simp [*]; done)), (by (try dsimp only) <;> (rw [hout, show Int.toNat (i + 1) = l.length by omega, show Int.toNat n2 = l.length by omega]; simp)), (by (try dsimp only) <;> (rw [hout, show Int.toNat (i + 1) = l.length by omega, show Int.toNat n2 = l.length by omega, List.take_length]; simp))⟩
      rintro ⟨length_2, out_2, i_2⟩ ⟨k1, nb, fbb, ln, q1, q2⟩ E hE F hF
      dsimp only at k1 nb fbb ln q1 q2
      conv => cbv
      refine r_geq m.sX (fun h2 => ?_) (fun h2 => ?_) <;> conv => cbv
      · have tn : Int.toNat (i_2 + 1) = Int.toNat i_2 + 1 := by omega
        have lk := lk0 (Int.toNat i_2)
        refine r_draw m (by kernel_rfl) ?_
        conv => cbv
        refine r_index m.sY (by omega) (by omega) fun v hx3A => ?_
        obtain ⟨x3A, x3B⟩ := v
        conv => cbv
        have hx3 := hx3A
        have mx3 := get_mem hx3
        have b4 := hl _ mx3
        try dsimp only at b4
        have fbc := fbb
        try dsimp only at fbc
        rw [tn, takeS hx3] at fbc
        have dv : length_2 / x3A ≤ length_2 := Int.ediv_le_self x3A nb.1
        have ef := fewC_bound (l := (x3A, x3B) :: (l.take (Int.toNat i_2)).reverse) (fun p hp => by rcases List.mem_cons.1 hp with rfl | hp; exact b4.1.1; exact lk p hp) nb.1
        try dsimp only at ef
        refine r_index m.sY (by omega) (by omega) fun v hx4A => ?_
        obtain ⟨x4A, x4B⟩ := v
        conv => cbv
        have hx4 := hx4A
        have mx4 := get_mem hx4
        obtain ⟨rfl, rfl⟩ : x3A = x4A ∧ x3B = x4B := by have := Option.some.inj (hx3.symm.trans hx4); simpa using this
        refine r_divf m.sY (by omega) (by omega) fun r1 hr1 br1 => ?_
        conv => cbv
        refine r_callFS (PV.int .i64) m.sY (l1Least_ok x3B r1) trivial fun k hk => ?_
        conv => cbv
        try dsimp only at hk
        refine r_loopF (α := Int) m 87 [0, 1, 8, 9] [⟨6, 49, 24, 1, 0⟩, ⟨7, 57, 3, 1, 0⟩] (fun σ => [(0, .isl 2 (rows cSlip l)), (1, .int .i64 length_2), (6, .osl 49 0), (7, .osl 57 0), (8, .int .i64 i_2), (9, .int .i64 σ)]) (fun σ => [(49, 0, .row 24 1 (rows (cSl 1 cInt) tables)), (57, 0, .row 3 1 (rows cInt out_2))])
          (fun σ => (0 ≤ σ ∧ σ ≤ min x3B (length_2 / x3A)) ∧ (∀ j, σ < j → j ≤ min x3B (length_2 / x3A) → best (l.take (Int.toNat i_2)).reverse x3A x3B length_2 j = false)) (fun σ => σ.toNat) k ?_ ?_ ?_ ?_
        · cbv
        · cbv
        · exact ⟨(by (try dsimp only) <;> first | omega | rfl | (simp [*]; done)), (by (try dsimp only) <;> (intro j a b; omega))⟩
        rintro k_2 ⟨mb, no⟩ E2 hE2 F2 hF2
        have g1 := mul_bound mb.1 (show k_2 ≤ 20 by omega) (show 0 ≤ x3A by omega) b4.1.2
        try dsimp only at g1
        have g3 : k_2 * x3A ≤ length_2 := (Int.le_ediv_iff_mul_le (by omega)).1 (show k_2 ≤ length_2 / x3A by omega)
        conv => cbv
        refine r_draw m (by kernel_rfl) ?_
        conv => cbv
        refine r_oindex m.sY (by omega) (by omega) ?_
        conv => cbv
        obtain ⟨x5, hx5⟩ := get_ex (xs := tables) (i := Int.toNat i_2) (by omega)
        have mx5 := get_mem hx5
        have ex5 : x5 = ruRow (l.take (Int.toNat i_2)).reverse length := by rw [htables] at hx5; exact (Option.some.inj ((ruTab_get (by omega)).symm.trans hx5)).symm
        have l5 : (x5.length : Int) = length + 1 := by rw [ex5, ruRow_length]; omega
        refine r_oload m.sY hx5 (Nat.le_of_ble_eq_true rfl) ?_
        conv => cbv
        refine r_index m.sY (by omega) (by omega) fun v hx6A => ?_
        obtain ⟨x6A, x6B⟩ := v
        conv => cbv
        have hx6 := hx6A
        have mx6 := get_mem hx6
        obtain ⟨rfl, rfl⟩ : x3A = x6A ∧ x3B = x6B := by have := Option.some.inj (hx3.symm.trans hx6); simpa using this
        refine r_mulf m.sY (by omega) (by omega) fun r2 hr2 => ?_
        conv => cbv
        refine r_subf m.sY (by omega) (by omega) fun r3 hr3 => ?_
        conv => cbv
        refine r_index m.sY (by omega) (by omega) fun x7 hx7 => ?_
        conv => cbv
        have mx7 := get_mem hx7
        have vx7 := nth_some hx7
        have ex7 : x7 = ruV (fewC (l.take (Int.toNat i_2)).reverse (length_2 - k_2 * x3A)) := by rw [← vx7, ex5, ruRow_nth (by omega), Int.toNat_of_nonneg (by omega), hr3, hr2]
        have fb7 := fewC_bound lk (n := length_2 - k_2 * x3A) (by omega)
        try dsimp only at fb7
        have fl7 := ruV_lt (v := fewC (l.take (Int.toNat i_2)).reverse (length_2 - k_2 * x3A)) (by omega)
        try dsimp only at fl7
        have xb7 : -1 ≤ x7 ∧ x7 ≤ 1048576 := by rw [ex7, ruV]; split <;> omega
        refine r_addf m.sY (by omega) (by omega) fun r4 hr4 => ?_
        conv => cbv
        refine r_addf m.sY (by omega) (by omega) fun r5 hr5 => ?_
        conv => cbv
        refine r_oindex m.sY (by omega) (by omega) ?_
        conv => cbv
        obtain ⟨x8, hx8⟩ := get_ex (xs := tables) (i := Int.toNat r5) (by omega)
        have mx8 := get_mem hx8
        have ex8 : x8 = ruRow (l.take (Int.toNat i_2 + 1)).reverse length := by rw [htables, show Int.toNat r5 = Int.toNat i_2 + 1 by omega] at hx8; exact (Option.some.inj ((ruTab_get (by omega)).symm.trans hx8)).symm
        have l8 : (x8.length : Int) = length + 1 := by rw [ex8, ruRow_length]; omega
        refine r_oload m.sY hx8 (Nat.le_of_ble_eq_true rfl) ?_
        conv => cbv
        refine r_index m.sY (by omega) (by omega) fun x9 hx9 => ?_
        conv => cbv
        have mx9 := get_mem hx9
        have vx9 := nth_some hx9
        have ex9 : x9 = fewC ((x3A, x3B) :: (l.take (Int.toNat i_2)).reverse) length_2 := by rw [← vx9, ex8, ruRow_nth (by omega), Int.toNat_of_nonneg (by omega), takeS hx3]; exact (ruV_lt (v := fewC ((x3A, x3B) :: (l.take (Int.toNat i_2)).reverse) length_2) (by omega)).2 fbc
        refine r_neq m.sY (fun h3 => ?_) (fun h3 => ?_) <;> conv => cbv
        · have bf : best (l.take (Int.toNat i_2)).reverse x3A x3B length_2 k_2 = false := by simp only [best, Bool.and_eq_false_iff, decide_eq_false_iff_not]; omega
          have kp : 1 ≤ k_2 := by obtain ⟨j, a, b, c⟩ := best_ex lk b4.1.1 fbc; rcases Int.lt_or_le k_2 j with h | h; rw [no j h b] at c; cases c; rcases (show j = k_2 ∨ j < k_2 by omega) with rfl | h; rw [bf] at c; cases c; omega
          refine r_subf m.sX (by omega) (by omega) fun k_3 hk_3 => ?_
          conv => cbv
          refine hE2 _ k_3 ?_ ?_ ⟨(by (try dsimp only) <;> first | omega | rfl | (simp [*]; done) | (rw [mb]; simp [*]; done)), (by (try dsimp only) <;> (intro j a b; rcases Int.lt_or_le k_2 j with h | h; exact no j h b; rw [show j = k_2 by omega]; exact bf))⟩ (by first | omega | (dsimp only; omega))
          · cbv
          · cbv
        · have bt : best (l.take (Int.toNat i_2)).reverse x3A x3B length_2 k_2 = true := by simp only [best, Bool.and_eq_true, decide_eq_true_eq]; omega
          have dm : down (best (l.take (Int.toNat i_2)).reverse x3A x3B length_2) (min x3B (length_2 / x3A)).toNat = k_2 := down_eq mb.1 (by omega) (.inl bt) fun j a b => no j a (by omega)
          refine hF2 _ _ ?_
          conv => cbv
          refine r_oindex m.sX (by omega) (by omega) ?_
          conv => cbv
          obtain ⟨y1, hy1⟩ := get_ex (xs := out_2) (i := Int.toNat i_2) (by omega)
          refine r_ostore (l := Int.toNat i_2) k_2 m.sX hy1 (Nat.le_of_ble_eq_true rfl) rfl fun out_3 hout_3 => ?_   -- out_3 = out_2.set i_2 k_2
          have lout_3 : (out_3.length : Int) = out_2.length := by rw [hout_3]; first | done | (simp; done) | (simp; omega)
          have qq : out_2 = List.replicate (Int.toNat i_2) 0 ++ 0 :: out_2.drop (Int.toNat i_2 + 1) := q1.trans (by rw [tn, List.replicate_succ', List.append_assoc]; rfl)
          have e4 : out_3 = List.replicate (Int.toNat i_2) 0 ++ k_2 :: out_2.drop (Int.toNat i_2 + 1) := by rw [hout_3]; exact (congrArg (fun z => List.set z (Int.toNat i_2) k_2) qq).trans (set_mid (by simp))
          have d4 : out_3.drop (Int.toNat i_2) = k_2 :: out_2.drop (Int.toNat i_2 + 1) := by rw [e4]; exact List.drop_left' (by simp)
          conv => cbv
          refine r_index m.sX (by omega) (by omega) fun v hx10A => ?_
          obtain ⟨x10A, x10B⟩ := v
          conv => cbv
          have hx10 := hx10A
          have mx10 := get_mem hx10
          obtain ⟨rfl, rfl⟩ : x3A = x10A ∧ x3B = x10B := by have := Option.some.inj (hx3.symm.trans hx10); simpa using this
          refine r_mulf m.sX (by omega) (by omega) fun r6 hr6 => ?_
          conv => cbv
          refine r_subf m.sX (by omega) (by omega) fun length_3 hlength_3 => ?_
          conv => cbv
          have en4 : length_3 = length_2 - k_2 * x3A := by omega
          refine r_subf m.sX (by omega) (by omega) fun i_3 hi_3 => ?_
          conv => cbv
          have ti : Int.toNat (i_3 + 1) = Int.toNat i_2 := by omega
          refine hE _ (length_3, out_3, i_3) ?_ ?_ ⟨(by (try dsimp only) <;> first | omega | rfl | (simp [*]; done) | (rw [k1]; simp [*]; done)), (by (try dsimp only) <;> first | omega | rfl | (simp [*]; done) | (rw [nb]; simp [*]; done)), (by (try dsimp only) <;> (rw [ti, en4]; exact (best_spec bt).1)), (by (try dsimp only) <;> first | omega | rfl | (simp [*]; done) | (rw [ln]; simp [*]; done)), (by (try dsimp only) <;> (rw [ti, d4]; exact e4)), (by (try dsimp only) <;> (rw [q2, tn, takeS hx3, cntC, dm, List.reverse_cons, List.append_assoc, ti, d4, en4]; rfl))⟩ (by first | omega | (dsimp only; omega))
          · cbv
          · cbv
      · refine hF _ _ ?_
        conv => cbv
        exact hQ (.tup [.fr 3 1 (rows cInt out_2), .bool true]) (Eq.trans (by first | rfl | (simp only [lb, lbI, rows_cons, rows_nil, unnilT, unnil, unnilTI, unnilI]; done) | (simp only [lb, lbI, rows_cons, rows_nil, unnilT, unnil, unnilTI, unnilI]; rfl)) (congrArg ((lb 3 1 cInt)) (show (out_2, true) = ruR l length from by rw [ruR, if_pos (by omega), q2, show Int.toNat (i_2 + 1) = 0 by omega]; rfl))))   -- leaf 2

theorem specRuleOf_ok (l : List Slip) (length : Int)  : OkA Try.prog 105 [.isl 2 (rows cSlip l), .int .i64 length] (· = (lb 3 1 cInt) (ruleA l length)) :=
  OkA.unnil 3 1 (fn_intro envOk fieldsOk mixed Try.func105 rfl fun κ X Y L Q m hQ => by
    conv => cbv
    refine r_callB m.sX (ruGood_ok l) (fun h1 => ?_) (fun h1 => ?_) <;> conv => cbv
    · obtain ⟨sl, sn⟩ := okSt_spec h1
      refine r_callB m.sX (ruLength_ok length) (fun h2 => ?_) (fun h2 => ?_) <;> conv => cbv
      · have b2 := inB_spec h2
        refine r_callF (lb 3 1 cInt) m.sX (ruRule_ok l length (by first | rfl | assumption | omega | (simp only [List.length_append, List.length_cons, List.length_nil] at *; omega)) (by first | rfl | assumption | omega | (simp only [List.length_append, List.length_cons, List.length_nil] at *; omega)) (by first | rfl | assumption | omega | (simp only [List.length_append, List.length_cons, List.length_nil] at *; omega))) fun v hv1 => ?_
        obtain ⟨v1, v2⟩ := v
        conv => cbv
        exact hQ (.tup [.fr 3 1 (rows cInt v1), .bool v2]) (Eq.trans (by first | rfl | (simp only [lb, lbI, rows_cons, rows_nil, unnilT, unnil, unnilTI, unnilI]; done) | (simp only [lb, lbI, rows_cons, rows_nil, unnilT, unnil, unnilTI, unnilI]; rfl)) (congrArg ((lb 3 1 cInt)) (show (v1, v2) = ruleA l length from by refine Eq.trans hv1 ?_; rw [ruR, ruleA, h1, h2]; split; rw [decide_eq_true (by assumption)]; rfl; rw [decide_eq_false (by assumption)]; rfl)))   -- leaf 1
      · exact hQ (.tup [.nil, .bool false]) (Eq.trans (by first | rfl | (simp only [lb, lbI, rows_cons, rows_nil, unnilT, unnil, unnilTI, unnilI]; done) | (simp only [lb, lbI, rows_cons, rows_nil, unnilT, unnil, unnilTI, unnilI]; rfl)) (congrArg ((lb 3 1 cInt)) (show ([], false) = ruleA l length from by rw [ruleA, h1, h2]; rfl)))   -- leaf 2
    · exact hQ (.tup [.nil, .bool false]) (Eq.trans (by first | rfl | (simp only [lb, lbI, rows_cons, rows_nil, unnilT, unnil, unnilTI, unnilI]; done) | (simp only [lb, lbI, rows_cons, rows_nil, unnilT, unnil, unnilTI, unnilI]; rfl)) (congrArg ((lb 3 1 cInt)) (show ([], false) = ruleA l length from by rw [ruleA, h1]; rfl))))   -- leaf 3

theorem specMissingFor_ok (l : List Slip) (length : Int)  : OkA Try.prog 111 [.isl 2 (rows cSlip l), .int .i64 length] (· = ib (missA l length)) :=
  fn_intro envOk fieldsOk mixed Try.func111 rfl fun κ X Y L Q m hQ => by
    conv => cbv
    refine r_callB m.sX (ruGood_ok l) (fun h1 => ?_) (fun h1 => ?_) <;> conv => cbv
    · obtain ⟨sl, sn⟩ := okSt_spec h1
      have lk : ∀ p ∈ l.reverse, 1 ≤ p.1 := fun p hp => (sl p (List.mem_reverse.1 hp)).1.1
      refine r_callB m.sX (ruLength_ok length) (fun h2 => ?_) (fun h2 => ?_) <;> conv => cbv
      · have b2 := inB_spec h2
        refine r_callF (fun l => PV.fr _ _ (rows _ l)) m.sX (ruTables_ok l 400 (by first | rfl | assumption | omega | (simp only [List.length_append, List.length_cons, List.length_nil] at *; omega)) (by first | rfl | assumption | omega | (simp only [List.length_append, List.length_cons, List.length_nil] at *; omega)) (by first | rfl | assumption | omega | (simp only [List.length_append, List.length_cons, List.length_nil] at *; omega))) fun v1 hv1 => ?_
        conv => cbv
        have l1 : (v1.length : Int) = l.length + 1 := by rw [hv1, ruTab, List.length_map, List.length_range]; omega
        refine r_lenR m.sX fun n1 hn1 mn1 => ?_
        conv => cbv
        refine r_oindex m.sX (by omega) (by omega) ?_
        conv => cbv
        obtain ⟨table, htable⟩ := get_ex (xs := v1) (i := Int.toNat n1) (by omega)
        have mtable := get_mem htable
        have et : table = ruRow l.reverse 400 := by rw [hv1] at htable; have := Option.some.inj ((ruTab_get (by omega)).symm.trans htable); rw [← this, show Int.toNat n1 = l.length by omega, List.take_length]
        have lr : (table.length : Int) = 401 := by rw [et, ruRow_length]; rfl
        refine r_oload m.sX htable (Nat.le_of_ble_eq_true rfl) ?_
        conv => cbv
        refine r_loopF (α := Int) m 35 [1, 6, 7] [] (fun σ => [(1, .int .i64 length), (6, .isl 1 (rows cInt table)), (7, .int .i64 σ)]) (fun σ => [])
          (fun σ => (length ≤ σ ∧ σ ≤ 401) ∧ (firstUp (canR l) (400 + 1 - length).toNat length = firstUp (canR l) (400 + 1 - σ).toNat σ)) (fun σ => (401 - σ).toNat) length ?_ ?_ ?_ ?_
        · cbv
        · cbv
        · exact ⟨(by (try dsimp only) <;> first | omega | rfl | (simp [*]; done)), (by (try dsimp only) <;> (rfl))⟩
        rintro n ⟨nb, q⟩ E hE F hF
        conv => cbv
        refine r_leq m.sX (fun h3 => ?_) (fun h3 => ?_) <;> conv => cbv
        · refine r_index m.sX (by omega) (by omega) fun x1 hx1 => ?_
          conv => cbv
          have mx1 := get_mem hx1
          have vx1 := nth_some hx1
          have e1 : x1 = ruV (fewC l.reverse n) := by rw [← vx1, et, ruRow_nth (by omega), Int.toNat_of_nonneg (by omega)]
          have fl := ruV_lt (v := fewC l.reverse n) (by have := fewC_bound lk (n := n) (by omega); omega)
          refine r_lss m.sX (fun h4 => ?_) (fun h4 => ?_) <;> conv => cbv
          · refine r_subf m.sX (by omega) (by omega) fun r1 hr1 => ?_
            conv => cbv
            refine hF _ _ ?_
            conv => cbv
            exact hQ (.tup [.int .i64 r1, .bool true]) (Eq.trans (by first | rfl | (simp only [lb, lbI, rows_cons, rows_nil, unnilT, unnil, unnilTI, unnilI]; done) | (simp only [lb, lbI, rows_cons, rows_nil, unnilT, unnil, unnilTI, unnilI]; rfl)) (congrArg (ib) (show (r1, true) = missA l length from by rw [missA, h1, h2, q, firstUp_hit (M := 400) h3 (decide_eq_true (show 0 ≤ fewC l.reverse n by omega)), hr1]; rfl)))   -- leaf 1
          · refine r_addf m.sX (by omega) (by omega) fun n_2 hn_2 => ?_
            conv => cbv
            refine hE _ n_2 ?_ ?_ ⟨(by (try dsimp only) <;> first | omega | rfl | (simp [*]; done) | (rw [nb]; simp [*]; done)), (by (try dsimp only) <;> (rw [q, hn_2]; exact firstUp_next (M := 400) h3 (decide_eq_false (by omega))))⟩ (by first | omega | (dsimp only; omega))
            · cbv
            · cbv
        · refine hF _ _ ?_
          conv => cbv
          exact hQ (.tup [.int .i64 0, .bool false]) (Eq.trans (by first | rfl | (simp only [lb, lbI, rows_cons, rows_nil, unnilT, unnil, unnilTI, unnilI]; done) | (simp only [lb, lbI, rows_cons, rows_nil, unnilT, unnil, unnilTI, unnilI]; rfl)) (congrArg (ib) (show (0, false) = missA l length from by rw [missA, h1, h2, q, show Int.toNat (400 + 1 - n) = 0 by omega]; rfl)))   -- leaf 2
      · exact hQ (.tup [.int .i64 0, .bool false]) (Eq.trans (by first | rfl | (simp only [lb, lbI, rows_cons, rows_nil, unnilT, unnil, unnilTI, unnilI]; done) | (simp only [lb, lbI, rows_cons, rows_nil, unnilT, unnil, unnilTI, unnilI]; rfl)) (congrArg (ib) (show (0, false) = missA l length from by rw [missA, h1, h2]; rfl)))   -- leaf 3
    · exact hQ (.tup [.int .i64 0, .bool false]) (Eq.trans (by first | rfl | (simp only [lb, lbI, rows_cons, rows_nil, unnilT, unnil, unnilTI, unnilI]; done) | (simp only [lb, lbI, rows_cons, rows_nil, unnilT, unnil, unnilTI, unnilI]; rfl)) (congrArg (ib) (show (0, false) = missA l length from by rw [missA, h1]; rfl)))   -- leaf 4

theorem specLengthsUpTo_ok (l : List Slip) (most : Int)  : OkA Try.prog 114 [.isl 2 (rows cSlip l), .int .i64 most] (· = (lb 3 1 cInt) (uptoA l most)) :=
  OkA.unnil 3 1 (fn_intro envOk fieldsOk mixed Try.func114 rfl fun κ X Y L Q m hQ => by
    conv => cbv
    refine r_callB m.sX (ruGood_ok l) (fun h1 => ?_) (fun h1 => ?_) <;> conv => cbv
    · obtain ⟨sl, sn⟩ := okSt_spec h1
      have lk : ∀ p ∈ l.reverse, 1 ≤ p.1 := fun p hp => (sl p (List.mem_reverse.1 hp)).1.1
      refine r_callB m.sX (l1In_ok most 0 400) (fun h2 => ?_) (fun h2 => ?_) <;> conv => cbv
      · have b2 := inB_spec h2
        refine r_callF (fun l => PV.fr _ _ (rows _ l)) m.sX (ruTables_ok l most (by first | rfl | assumption | omega | (simp only [List.length_append, List.length_cons, List.length_nil] at *; omega)) (by first | rfl | assumption | omega | (simp only [List.length_append, List.length_cons, List.length_nil] at *; omega)) (by first | rfl | assumption | omega | (simp only [List.length_append, List.length_cons, List.length_nil] at *; omega))) fun v1 hv1 => ?_
        conv => cbv
        have l1 : (v1.length : Int) = l.length + 1 := by rw [hv1, ruTab, List.length_map, List.length_range]; omega
        refine r_lenR m.sX fun n1 hn1 mn1 => ?_
        conv => cbv
        refine r_oindex m.sX (by omega) (by omega) ?_
        conv => cbv
        obtain ⟨x1, hx1⟩ := get_ex (xs := v1) (i := Int.toNat n1) (by omega)
        have mx1 := get_mem hx1
        have et : x1 = ruRow l.reverse most := by rw [hv1] at hx1; have := Option.some.inj ((ruTab_get (by omega)).symm.trans hx1); rw [← this, show Int.toNat n1 = l.length by omega, List.take_length]
        have lr : (x1.length : Int) = most + 1 := by rw [et, ruRow_length]; omega
        refine r_oload m.sX hx1 (Nat.le_of_ble_eq_true rfl) ?_
        conv => cbv
        refine r_lenR m.sX fun n2 hn2 mn2 => ?_
        conv => cbv
        refine r_loopF (α := List Int × Int) m 42 [23, 24, 25] [⟨6, 49, 3, 1, 0⟩] (fun σ => [(6, .osl 49 0), (23, .isl 1 (rows cInt x1)), (24, .int .i64 n2), (25, .int .i64 σ.2)]) (fun σ => [(49, 0, .row 3 1 (rows cInt σ.1))])
          (fun σ => (0 ≤ σ.2) ∧ (σ.2 ≤ n2) ∧ (filtR (canR l) (most + 1 - 1).toNat 1 = σ.1 ++ filtR (canR l) (most + 1 - max σ.2 1).toNat (max σ.2 1)) ∧ ((σ.1.length : Int) ≤ σ.2)) (fun σ => (n2 - σ.2).toNat) ([], 0) ?_ ?_ ?_ ?_
        · cbv
        · (try dsimp only); simp only [rows_cons, rows_nil]; cbv
        · exact ⟨(by (try dsimp only); first | omega | (simp only [List.length_nil]; omega)), (by (try dsimp only); first | omega | (simp only [List.length_nil]; omega)), (by (try dsimp only) <;> (rfl)), (by (try dsimp only) <;> first | omega | rfl | (simp [*]; done))⟩
        rintro ⟨out, i1⟩ ⟨lo1, hi1, q, ln⟩ E hE F hF
        dsimp only at lo1 hi1 q ln
        conv => cbv
        refine r_lss m.sX (fun h3 => ?_) (fun h3 => ?_) <;> conv => cbv
        · refine r_index m.sX (by omega) (by omega) fun k hk => ?_
          conv => cbv
          have mk := get_mem hk
          have dk := drop_cons hk
          have kk := take_snoc hk
          have jk : (i1 + 1).toNat = Int.toNat i1 + 1 := by omega
          have vk := nth_some hk
          have e1 : k = ruV (fewC l.reverse i1) := by rw [← vk, et, ruRow_nth (by omega), Int.toNat_of_nonneg (by omega)]
          have fl := ruV_lt (v := fewC l.reverse i1) (by have := fewC_bound lk (n := i1) (by omega); omega)
          refine r_gtr m.sX (fun h4 => ?_) (fun h4 => ?_) <;> conv => cbv
          · have mx : max i1 1 = i1 := by omega
            rw [mx, filtR_next (show i1 ≤ most by omega)] at q
            refine r_lss m.sX (fun h5 => ?_) (fun h5 => ?_) <;> conv => cbv
            · have pc : canR l i1 = true := decide_eq_true (show 0 ≤ fewC l.reverse i1 by omega)
              refine r_append1 (i1) m.sX rfl (by first | omega | (dsimp only; omega)) (by first | omega | (dsimp only; omega)) fun out_2 hout_2 => ?_
              conv => cbv
              have lout_2 : (out_2.length : Int) = out.length + 1 := by rw [hout_2]; first | done | (simp; done) | (simp; omega)
              refine r_addf m.sX (by omega) (by omega) fun r1 hr1 => ?_
              conv => cbv
              have tr1 : Int.toNat r1 = Int.toNat i1 + 1 := by omega
              refine hE _ (out_2, r1) ?_ ?_ ⟨(by (try dsimp only); first | omega | (simp only [List.length_nil]; omega)), (by (try dsimp only); first | omega | (simp only [List.length_nil]; omega)), (by (try dsimp only) <;> (first | (rw [q, if_pos pc, show max r1 1 = i1 + 1 by omega, hout_2]; simp) | (rw [q, if_neg pc, show max r1 1 = i1 + 1 by omega]; rfl) | (rw [q, mx, show max r1 1 = 1 by omega]))), (by (try dsimp only) <;> first | omega | rfl | (simp [*]; done) | (rw [ln]; simp [*]; done))⟩ (by first | omega | (dsimp only; omega))
              · cbv
              · cbv
            · have pc : ¬ canR l i1 = true := fun e => by have := of_decide_eq_true e; omega
              refine r_addf m.sX (by omega) (by omega) fun r2 hr2 => ?_
              conv => cbv
              have tr2 : Int.toNat r2 = Int.toNat i1 + 1 := by omega
              refine hE _ (out, r2) ?_ ?_ ⟨(by (try dsimp only); first | omega | (simp only [List.length_nil]; omega)), (by (try dsimp only); first | omega | (simp only [List.length_nil]; omega)), (by (try dsimp only) <;> (first | (rw [q, if_pos pc, show max r2 1 = i1 + 1 by omega, hout]; simp) | (rw [q, if_neg pc, show max r2 1 = i1 + 1 by omega]; rfl) | (rw [q, mx, show max r2 1 = 1 by omega]))), (by (try dsimp only) <;> first | omega | rfl | (simp [*]; done) | (rw [ln]; simp [*]; done))⟩ (by first | omega | (dsimp only; omega))
              · cbv
              · cbv
          · have mx : max i1 1 = 1 := by omega
            refine r_addf m.sX (by omega) (by omega) fun r3 hr3 => ?_
            conv => cbv
            have tr3 : Int.toNat r3 = Int.toNat i1 + 1 := by omega
            refine hE _ (out, r3) ?_ ?_ ⟨(by (try dsimp only); first | omega | (simp only [List.length_nil]; omega)), (by (try dsimp only); first | omega | (simp only [List.length_nil]; omega)), (by (try dsimp only) <;> (first | (rw [q, if_pos pc, show max r3 1 = i1 + 1 by omega, hout]; simp) | (rw [q, if_neg pc, show max r3 1 = i1 + 1 by omega]; rfl) | (rw [q, mx, show max r3 1 = 1 by omega]))), (by (try dsimp only) <;> first | omega | rfl | (simp [*]; done) | (rw [ln]; simp [*]; done))⟩ (by first | omega | (dsimp only; omega))
            · cbv
            · cbv
        · have dz_i1 := drop_end (xs := x1) (i := Int.toNat i1) (by omega)
          have tz_i1 := take_end (xs := x1) (i := Int.toNat i1) (by omega)
          refine hF _ _ ?_
          conv => cbv
          exact hQ (.tup [.fr 3 1 (rows cInt out), .bool true]) (Eq.trans (by first | rfl | (simp only [lb, lbI, rows_cons, rows_nil, unnilT, unnil, unnilTI, unnilI]; done) | (simp only [lb, lbI, rows_cons, rows_nil, unnilT, unnil, unnilTI, unnilI]; rfl)) (congrArg ((lb 3 1 cInt)) (show (out, true) = uptoA l most from by rw [uptoA, h1, h2, q, show Int.toNat (most + 1 - max i1 1) = 0 by omega, filtR, List.append_nil]; rfl)))   -- leaf 1
      · exact hQ (.tup [.nil, .bool false]) (Eq.trans (by first | rfl | (simp only [lb, lbI, rows_cons, rows_nil, unnilT, unnil, unnilTI, unnilI]; done) | (simp only [lb, lbI, rows_cons, rows_nil, unnilT, unnil, unnilTI, unnilI]; rfl)) (congrArg ((lb 3 1 cInt)) (show ([], false) = uptoA l most from by rw [uptoA, h1, h2]; rfl)))   -- leaf 2
    · exact hQ (.tup [.nil, .bool false]) (Eq.trans (by first | rfl | (simp only [lb, lbI, rows_cons, rows_nil, unnilT, unnil, unnilTI, unnilI]; done) | (simp only [lb, lbI, rows_cons, rows_nil, unnilT, unnil, unnilTI, unnilI]; rfl)) (congrArg ((lb 3 1 cInt)) (show ([], false) = uptoA l most from by rw [uptoA, h1]; rfl))))   -- leaf 3

theorem ruCounts_ok (l : List Slip) (counts : List Int)  : OkA Try.prog 292 [.isl 2 (rows cSlip l), .isl 1 (rows cInt counts)] (· = .bool (okCn l counts)) :=
  fn_intro envOk fieldsOk mixed Try.func292 rfl fun κ X Y L Q m hQ => by
    conv => cbv
    refine r_callB m.sX (ruGood_ok l) (fun h1 => ?_) (fun h1 => ?_) <;> conv => cbv
    · refine r_lenR m.sX fun n1 hn1 mn1 => ?_
      conv => cbv
      refine r_lenR m.sX fun n2 hn2 mn2 => ?_
      conv => cbv
      refine r_neq m.sX (fun h2 => ?_) (fun h2 => ?_) <;> conv => cbv
      · exact hQ _ (congrArg PV.bool (by rw [okCn, h1, decide_eq_false (by omega)]; rfl))   -- leaf 1
      · refine r_lenR m.sX fun n3 hn3 mn3 => ?_
        conv => cbv
        refine r_loopF (α := Int) m 33 [0, 17, 18, 19] [] (fun σ => [(0, .isl 2 (rows cSlip l)), (17, .isl 1 (rows cInt counts)), (18, .int .i64 n3), (19, .int .i64 σ)]) (fun σ => [])
          (fun σ => (0 ≤ σ) ∧ (σ ≤ n3) ∧ (cnG counts l = cnG (counts.drop σ.toNat) (l.drop σ.toNat))) (fun σ => (n3 - σ).toNat) 0 ?_ ?_ ?_ ?_
        · cbv
        · cbv
        · exact ⟨(by (try dsimp only); first | omega | (simp only [List.length_nil]; omega)), (by (try dsimp only); first | omega | (simp only [List.length_nil]; omega)), (by (try dsimp only) <;> first | omega | rfl | (simp [*]; done))⟩
        rintro i1 ⟨lo1, hi1, q⟩ E hE F hF
        conv => cbv
        refine r_lss m.sX (fun h3 => ?_) (fun h3 => ?_) <;> conv => cbv
        · refine r_index m.sX (by omega) (by omega) fun k hk => ?_
          conv => cbv
          have mk := get_mem hk
          have dk := drop_cons hk
          have kk := take_snoc hk
          have jk : (i1 + 1).toNat = Int.toNat i1 + 1 := by omega
          have vk := nth_some hk
          refine r_index m.sX (by omega) (by omega) fun v hx1A => ?_
          obtain ⟨x1A, x1B⟩ := v
          conv => cbv
          have hx1 := hx1A
          have mx1 := get_mem hx1
          have dx1 := drop_cons hx1
          have kx1 := take_snoc hx1
          have jx1 : (i1 + 1).toNat = Int.toNat i1 + 1 := by omega
          have cd := cnG_drop hk hx1
          try dsimp only at cd
          refine r_callB m.sX (l1In_ok k 0 x1B) (fun h4 => ?_) (fun h4 => ?_) <;> conv => cbv
          · refine r_addf m.sX (by omega) (by omega) fun r1 hr1 => ?_
            conv => cbv
            have tr1 : Int.toNat r1 = Int.toNat i1 + 1 := by omega
            refine hE _ r1 ?_ ?_ ⟨(by (try dsimp only); first | omega | (simp only [List.length_nil]; omega)), (by (try dsimp only); first | omega | (simp only [List.length_nil]; omega)), (by (try dsimp only) <;> (rw [q, cd, tr1, h4]; rfl))⟩ (by first | omega | (dsimp only; omega))
            · cbv
            · cbv
          · refine hF _ _ ?_
            conv => cbv
            exact hQ _ (congrArg PV.bool (by rw [okCn, h1, decide_eq_true (by omega), q, cd, h4]; rfl))   -- leaf 2
        · have dz_i1 := drop_end (xs := counts) (i := Int.toNat i1) (by omega)
          have tz_i1 := take_end (xs := counts) (i := Int.toNat i1) (by omega)
          refine hF _ _ ?_
          conv => cbv
          exact hQ _ (congrArg PV.bool (by rw [okCn, h1, decide_eq_true (by omega), q, dz_i1, List.drop_of_length_le (by omega)]; rfl))   -- leaf 3
    · exact hQ _ (congrArg PV.bool (by rw [okCn, h1]; rfl))   -- leaf 4

theorem specPiecesOf_ok (l : List Slip) (counts : List Int)  : OkA Try.prog 116 [.isl 2 (rows cSlip l), .isl 1 (rows cInt counts)] (· = iib (piecesA l counts)) :=
  fn_intro envOk fieldsOk mixed Try.func116 rfl fun κ X Y L Q m hQ => by
    conv => cbv
    refine r_callB m.sX (ruCounts_ok l counts) (fun h1 => ?_) (fun h1 => ?_) <;> conv => cbv
    · have oc := okCn_spec h1
      have o2 := oc.eq
      have o4 := oc.len
      refine r_lenR m.sX fun n1 hn1 mn1 => ?_
      conv => cbv
      refine r_loopF (α := Int × Int × Int) m 37 [0, 7, 8, 15, 16, 17] [] (fun σ => [(0, .isl 2 (rows cSlip l)), (7, .int .i64 σ.1), (8, .int .i64 σ.2.1), (15, .isl 1 (rows cInt counts)), (16, .int .i64 n1), (17, .int .i64 σ.2.2)]) (fun σ => [])
        (fun σ => (0 ≤ σ.2.2) ∧ (σ.2.2 ≤ n1) ∧ (σ.2.1 = dot (counts.take σ.2.2.toNat) ((l.map Prod.fst).take σ.2.2.toNat)) ∧ (0 ≤ σ.2.1 ∧ σ.2.1 ≤ 4000 * σ.2.2) ∧ (σ.1 = (counts.take σ.2.2.toNat).sum) ∧ (0 ≤ σ.1 ∧ σ.1 ≤ 20 * σ.2.2)) (fun σ => (n1 - σ.2.2).toNat) (0, 0, 0) ?_ ?_ ?_ ?_
      · cbv
      · cbv
      · exact ⟨(by (try dsimp only); first | omega | (simp only [List.length_nil]; omega)), (by (try dsimp only); first | omega | (simp only [List.length_nil]; omega)), (by (try dsimp only) <;> first | omega | rfl | (simp [*]; done)), (by (try dsimp only) <;> first | omega | rfl | (simp [*]; done)), (by (try dsimp only) <;> first | omega | rfl | (simp [*]; done)), (by (try dsimp only) <;> first | omega | rfl | (simp [*]; done))⟩
      rintro ⟨pieces, length, i1⟩ ⟨lo1, hi1, q, b, p, pb⟩ E hE F hF
      dsimp only at lo1 hi1 q b p pb
      conv => cbv
      refine r_lss m.sX (fun h2 => ?_) (fun h2 => ?_) <;> conv => cbv
      · refine r_index m.sX (by omega) (by omega) fun k hk => ?_
        conv => cbv
        have mk := get_mem hk
        have dk := drop_cons hk
        have kk := take_snoc hk
        have jk : (i1 + 1).toNat = Int.toNat i1 + 1 := by omega
        have vk := nth_some hk
        have bk := oc.mem _ mk
        refine r_addf m.sX (by omega) (by omega) fun pieces_2 hpieces_2 => ?_
        conv => cbv
        refine r_index m.sX (by omega) (by omega) fun v hx1A => ?_
        obtain ⟨x1A, x1B⟩ := v
        conv => cbv
        have hx1 := hx1A
        have mx1 := get_mem hx1
        have dx1 := drop_cons hx1
        have kx1 := take_snoc hx1
        have jx1 : (i1 + 1).toNat = Int.toNat i1 + 1 := by omega
        have bx := oc.sl _ mx1
        try dsimp only at bx
        have g1 := mul_bound bk.1 bk.2 (show 0 ≤ x1A by omega) bx.1.2
        try dsimp only at g1
        have hf : (l.map Prod.fst)[Int.toNat i1]? = some x1A := by rw [List.getElem?_map, hx1]; rfl
        have dt := dot_take2 hk hf
        try dsimp only at dt
        refine r_mulf m.sX (by omega) (by omega) fun r1 hr1 => ?_
        conv => cbv
        refine r_addf m.sX (by omega) (by omega) fun length_2 hlength_2 => ?_
        conv => cbv
        refine r_addf m.sX (by omega) (by omega) fun r2 hr2 => ?_
        conv => cbv
        have tr2 : Int.toNat r2 = Int.toNat i1 + 1 := by omega
        refine hE _ (pieces_2, length_2, r2) ?_ ?_ ⟨(by (try dsimp only); first | omega | (simp only [List.length_nil]; omega)), (by (try dsimp only); first | omega | (simp only [List.length_nil]; omega)), (by (try dsimp only) <;> (rw [hlength_2, hr1, q, tr2, dt])), (by (try dsimp only) <;> first | omega | rfl | (simp [*]; done) | (rw [b]; simp [*]; done)), (by (try dsimp only) <;> (rw [hpieces_2, p, tr2, sum_take hk])), (by (try dsimp only) <;> first | omega | rfl | (simp [*]; done) | (rw [pb]; simp [*]; done))⟩ (by first | omega | (dsimp only; omega))
        · cbv
        · cbv
      · have dz_i1 := drop_end (xs := counts) (i := Int.toNat i1) (by omega)
        have tz_i1 := take_end (xs := counts) (i := Int.toNat i1) (by omega)
        refine hF _ _ ?_
        conv => cbv
        exact hQ (.tup [.int .i64 pieces, .int .i64 length, .bool true]) (Eq.trans (by first | rfl | (simp only [lb, lbI, rows_cons, rows_nil, unnilT, unnil, unnilTI, unnilI]; done) | (simp only [lb, lbI, rows_cons, rows_nil, unnilT, unnil, unnilTI, unnilI]; rfl)) (congrArg (iib) (show (pieces, length, true) = piecesA l counts from by rw [piecesA, h1, q, p, tz_i1, List.take_of_length_le (by rw [List.length_map]; omega)]; rfl)))   -- leaf 1
    · exact hQ (.tup [.int .i64 0, .int .i64 0, .bool false]) (Eq.trans (by first | rfl | (simp only [lb, lbI, rows_cons, rows_nil, unnilT, unnil, unnilTI, unnilI]; done) | (simp only [lb, lbI, rows_cons, rows_nil, unnilT, unnil, unnilTI, unnilI]; rfl)) (congrArg (iib) (show (0, 0, false) = piecesA l counts from by rw [piecesA, h1]; rfl)))   -- leaf 2

theorem ruPut_ok (l : List Slip) (length : Int) (count : Int) (hl : l.length ≤ 1000) (hb : ∀ x ∈ l, 0 ≤ x.2 ∧ x.2 ≤ 1000000) (hc : 0 ≤ count ∧ count ≤ 1000) : OkA Try.prog 351 [.isl 2 (rows cSlip l), .int .i64 length, .int .i64 count] (fun r => ∃ (q : List Slip), r = .fr 230 2 (rows cSlip q) ∧ ((q.length : Int) ≤ l.length + 1) ∧ (∀ b : Int, 0 ≤ b → (∀ x ∈ l, 0 ≤ x.2 ∧ x.2 ≤ b) → ∀ x ∈ q, 0 ≤ x.2 ∧ x.2 ≤ b + count)) :=
  fn_intro envOk fieldsOk mixed Try.func351 rfl fun κ X Y L Q m hQ => by
    conv => cbv
    refine r_loopF (α := Int) m 64 [0, 1, 2, 7] [] (fun σ => [(0, .isl 2 (rows cSlip l)), (1, .int .i64 length), (2, .int .i64 count), (7, .int .i64 σ)]) (fun σ => [])
      (fun σ => 0 ≤ σ ∧ σ ≤ l.length) (fun σ => ((l.length : Int) - σ).toNat) 0 ?_ ?_ ?_ ?_
    · cbv
    · cbv
    · exact (by (try dsimp only) <;> first | omega | rfl | (simp [*]; done))
    rintro k kb E hE F hF
    conv => cbv
    refine r_lenR m.sX fun n1 hn1 mn1 => ?_
    conv => cbv
    refine r_lss m.sX (fun h1 => ?_) (fun h1 => ?_) <;> conv => cbv
    · refine r_index m.sX (by omega) (by omega) fun v hx1A => ?_
      obtain ⟨x1A, x1B⟩ := v
      conv => cbv
      have hx1 := hx1A
      have mx1 := get_mem hx1
      refine r_lss m.sX (fun h2 => ?_) (fun h2 => ?_) <;> conv => cbv
      · refine r_addf m.sX (by omega) (by omega) fun k_2 hk_2 => ?_
        conv => cbv
        refine hE _ k_2 ?_ ?_ (by (try dsimp only) <;> first | omega | rfl | (simp [*]; done) | (rw [kb]; simp [*]; done)) (by first | omega | (dsimp only; omega))
        · cbv
        · cbv
      · refine hF _ _ ?_
        conv => cbv
        refine r_append0R m.sX (by first | omega | (dsimp only; omega)) (by first | omega | (dsimp only; omega)) fun out hout => ?_
        conv => cbv
        have lout : (out.length : Int) = l.length := by rw [hout]; first | done | (simp; done) | (simp; omega)
        refine r_lenR m.sX fun n2 hn2 mn2 => ?_
        conv => cbv
        refine r_lss m.sX (fun h3 => ?_) (fun h3 => ?_) <;> conv => cbv
        · refine r_index m.sX (by omega) (by omega) fun v hx2A => ?_
          obtain ⟨x2A, x2B⟩ := v
          conv => cbv
          have hx2 := hx2A
          have mx2 := get_mem hx2
          obtain ⟨rfl, rfl⟩ : x1A = x2A ∧ x1B = x2B := by have := Option.some.inj (hx1.symm.trans hx2); simpa using this
          refine r_eql m.sX (fun h4 => ?_) (fun h4 => ?_) <;> conv => cbv
          · refine r_oindex m.sX (by omega) (by omega) ?_
            conv => cbv
            obtain ⟨⟨x3A, x3B⟩, hx3⟩ := get_ex (xs := out) (i := Int.toNat k) (by omega)
            have mx3 := get_mem hx3
            have b3 := hb _ (hout ▸ mx3)
            try dsimp only at b3
            refine r_oload m.sX hx3 (Nat.le_of_ble_eq_true rfl) ?_
            conv => cbv
            refine r_addf m.sX (by omega) (by omega) fun r1 hr1 => ?_
            conv => cbv
            refine r_oindex m.sX (by omega) (by omega) ?_
            conv => cbv
            obtain ⟨⟨y1A, y1B⟩, hy1⟩ := get_ex (xs := out) (i := Int.toNat k) (by omega)
            refine r_ostore (l := Int.toNat k) (y1A, r1) m.sX hy1 (Nat.le_of_ble_eq_true rfl) rfl fun zs1 hzs1 => ?_   -- zs1 = out.set k (y1A, r1)
            have lzs1 : (zs1.length : Int) = out.length := by rw [hzs1]; first | done | (simp; done) | (simp; omega)
            conv => cbv
            exact hQ (.fr 230 2 (rows cSlip zs1)) ⟨zs1, rfl, (by first | omega | exact fun b h0 hbb z hz => put_set (hzs1.trans (congrArg (fun w => List.set w _ _) hout)) hz hbb (by dsimp only; have := hbb _ (hout ▸ mx3); omega) (by omega)), (by first | omega | exact fun b h0 hbb z hz => put_set (hzs1.trans (congrArg (fun w => List.set w _ _) hout)) hz hbb (by dsimp only; have := hbb _ (hout ▸ mx3); omega) (by omega))⟩   -- leaf 1
          · refine r_draw m (by kernel_rfl) ?_
            conv => cbv
            refine r_islice (i := 0) (j := k) m.sY (by omega) (by omega) (by omega) fun zs2 hzs2 => ?_   -- zs2 = l[None:k]
            have lzs2 : (zs2.length : Int) = k - 0 := by rw [hzs2]; first | done | (simp; done) | (simp; omega)
            conv => cbv
            refine r_append0R m.sY (by first | omega | (dsimp only; omega)) (by first | omega | (dsimp only; omega)) fun zs3 hzs3 => ?_
            conv => cbv
            have lzs3 : (zs3.length : Int) = zs2.length := by rw [hzs3]; first | done | (simp; done) | (simp; omega)
            refine r_append1 ((length, count)) m.sY rfl (by first | omega | (dsimp only; omega)) (by first | omega | (dsimp only; omega)) fun zs4 hzs4 => ?_
            conv => cbv
            have lzs4 : (zs4.length : Int) = zs3.length + 1 := by rw [hzs4]; first | done | (simp; done) | (simp; omega)
            refine r_islice' (i := k) m.sY (by omega) (by omega) fun zs5 hzs5 => ?_   -- zs5 = l[k:None]
            have lzs5 : (zs5.length : Int) = l.length - k := by rw [hzs5]; first | done | (simp; done) | (simp; omega)
            conv => cbv
            refine r_append m.sY (by first | omega | (dsimp only; omega)) (by first | omega | (dsimp only; omega)) fun zs6 hzs6 => ?_
            conv => cbv
            have lzs6 : (zs6.length : Int) = zs4.length + zs5.length := by rw [hzs6]; first | done | (simp; done) | (simp; omega)
            exact hQ (.fr 230 2 (rows cSlip zs6)) ⟨zs6, rfl, (by first | omega | exact fun b h0 hbb z hz => put_in hzs2 hzs3 hzs4 hzs5 hzs6 hz hbb (by omega) (by dsimp only; omega)), (by first | omega | exact fun b h0 hbb z hz => put_in hzs2 hzs3 hzs4 hzs5 hzs6 hz hbb (by omega) (by dsimp only; omega))⟩   -- leaf 2
        · refine r_draw m (by kernel_rfl) ?_
          conv => cbv
          refine r_islice (i := 0) (j := k) m.sY (by omega) (by omega) (by omega) fun zs7 hzs7 => ?_   -- zs7 = l[None:k]
          have lzs7 : (zs7.length : Int) = k - 0 := by rw [hzs7]; first | done | (simp; done) | (simp; omega)
          conv => cbv
          refine r_append0R m.sY (by first | omega | (dsimp only; omega)) (by first | omega | (dsimp only; omega)) fun zs8 hzs8 => ?_
          conv => cbv
          have lzs8 : (zs8.length : Int) = zs7.length := by rw [hzs8]; first | done | (simp; done) | (simp; omega)
          refine r_append1 ((length, count)) m.sY rfl (by first | omega | (dsimp only; omega)) (by first | omega | (dsimp only; omega)) fun zs9 hzs9 => ?_
          conv => cbv
          have lzs9 : (zs9.length : Int) = zs8.length + 1 := by rw [hzs9]; first | done | (simp; done) | (simp; omega)
          refine r_islice' (i := k) m.sY (by omega) (by omega) fun zs10 hzs10 => ?_   -- zs10 = l[k:None]
          have lzs10 : (zs10.length : Int) = l.length - k := by rw [hzs10]; first | done | (simp; done) | (simp; omega)
          conv => cbv
          refine r_append m.sY (by first | omega | (dsimp only; omega)) (by first | omega | (dsimp only; omega)) fun zs11 hzs11 => ?_
          conv => cbv
          have lzs11 : (zs11.length : Int) = zs9.length + zs10.length := by rw [hzs11]; first | done | (simp; done) | (simp; omega)
          exact hQ (.fr 230 2 (rows cSlip zs11)) ⟨zs11, rfl, (by first | omega | exact fun b h0 hbb z hz => put_in hzs7 hzs8 hzs9 hzs10 hzs11 hz hbb (by omega) (by dsimp only; omega)), (by first | omega | exact fun b h0 hbb z hz => put_in hzs7 hzs8 hzs9 hzs10 hzs11 hz hbb (by omega) (by dsimp only; omega))⟩   -- leaf 3
    · refine hF _ _ ?_
      conv => cbv
      refine r_append0R m.sX (by first | omega | (dsimp only; omega)) (by first | omega | (dsimp only; omega)) fun out_2 hout_2 => ?_
      conv => cbv
      have lout_2 : (out_2.length : Int) = l.length := by rw [hout_2]; first | done | (simp; done) | (simp; omega)
      refine r_lenR m.sX fun n3 hn3 mn3 => ?_
      conv => cbv
      refine r_lss m.sX (fun h5 => ?_) (fun h5 => ?_) <;> conv => cbv
      · refine r_index m.sX (by omega) (by omega) fun v hx4A => ?_
        obtain ⟨x4A, x4B⟩ := v
        conv => cbv
        have hx4 := hx4A
        have mx4 := get_mem hx4
        refine r_eql m.sX (fun h6 => ?_) (fun h6 => ?_) <;> conv => cbv
        · refine r_oindex m.sX (by omega) (by omega) ?_
          conv => cbv
          obtain ⟨⟨x5A, x5B⟩, hx5⟩ := get_ex (xs := out_2) (i := Int.toNat k) (by omega)
          have mx5 := get_mem hx5
          have b3 := hb _ (hout_2 ▸ mx5)
          try dsimp only at b3
          refine r_oload m.sX hx5 (Nat.le_of_ble_eq_true rfl) ?_
          conv => cbv
          refine r_addf m.sX (by omega) (by omega) fun r2 hr2 => ?_
          conv => cbv
          refine r_oindex m.sX (by omega) (by omega) ?_
          conv => cbv
          obtain ⟨⟨y2A, y2B⟩, hy2⟩ := get_ex (xs := out_2) (i := Int.toNat k) (by omega)
          refine r_ostore (l := Int.toNat k) (y2A, r2) m.sX hy2 (Nat.le_of_ble_eq_true rfl) rfl fun zs12 hzs12 => ?_   -- zs12 = out_2.set k (y2A, r2)
          have lzs12 : (zs12.length : Int) = out_2.length := by rw [hzs12]; first | done | (simp; done) | (simp; omega)
          conv => cbv
          exact hQ (.fr 230 2 (rows cSlip zs12)) ⟨zs12, rfl, (by first | omega | exact fun b h0 hbb z hz => put_set (hzs12.trans (congrArg (fun w => List.set w _ _) hout_2)) hz hbb (by dsimp only; have := hbb _ (hout_2 ▸ mx5); omega) (by omega)), (by first | omega | exact fun b h0 hbb z hz => put_set (hzs12.trans (congrArg (fun w => List.set w _ _) hout_2)) hz hbb (by dsimp only; have := hbb _ (hout_2 ▸ mx5); omega) (by omega))⟩   -- leaf 4
        · refine r_draw m (by kernel_rfl) ?_
          conv => cbv
          refine r_islice (i := 0) (j := k) m.sY (by omega) (by omega) (by omega) fun zs13 hzs13 => ?_   -- zs13 = l[None:k]
          have lzs13 : (zs13.length : Int) = k - 0 := by rw [hzs13]; first | done | (simp; done) | (simp; omega)
          conv => cbv
          refine r_append0R m.sY (by first | omega | (dsimp only; omega)) (by first | omega | (dsimp only; omega)) fun zs14 hzs14 => ?_
          conv => cbv
          have lzs14 : (zs14.length : Int) = zs13.length := by rw [hzs14]; first | done | (simp; done) | (simp; omega)
          refine r_append1 ((length, count)) m.sY rfl (by first | omega | (dsimp only; omega)) (by first | omega | (dsimp only; omega)) fun zs15 hzs15 => ?_
          conv => cbv
          have lzs15 : (zs15.length : Int) = zs14.length + 1 := by rw [hzs15]; first | done | (simp; done) | (simp; omega)
          refine r_islice' (i := k) m.sY (by omega) (by omega) fun zs16 hzs16 => ?_   -- zs16 = l[k:None]
          have lzs16 : (zs16.length : Int) = l.length - k := by rw [hzs16]; first | done | (simp; done) | (simp; omega)
          conv => cbv
          refine r_append m.sY (by first | omega | (dsimp only; omega)) (by first | omega | (dsimp only; omega)) fun zs17 hzs17 => ?_
          conv => cbv
          have lzs17 : (zs17.length : Int) = zs15.length + zs16.length := by rw [hzs17]; first | done | (simp; done) | (simp; omega)
          exact hQ (.fr 230 2 (rows cSlip zs17)) ⟨zs17, rfl, (by first | omega | exact fun b h0 hbb z hz => put_in hzs13 hzs14 hzs15 hzs16 hzs17 hz hbb (by omega) (by dsimp only; omega)), (by first | omega | exact fun b h0 hbb z hz => put_in hzs13 hzs14 hzs15 hzs16 hzs17 hz hbb (by omega) (by dsimp only; omega))⟩   -- leaf 5
      · refine r_draw m (by kernel_rfl) ?_
        conv => cbv
        refine r_islice (i := 0) (j := k) m.sY (by omega) (by omega) (by omega) fun zs18 hzs18 => ?_   -- zs18 = l[None:k]
        have lzs18 : (zs18.length : Int) = k - 0 := by rw [hzs18]; first | done | (simp; done) | (simp; omega)
        conv => cbv
        refine r_append0R m.sY (by first | omega | (dsimp only; omega)) (by first | omega | (dsimp only; omega)) fun zs19 hzs19 => ?_
        conv => cbv
        have lzs19 : (zs19.length : Int) = zs18.length := by rw [hzs19]; first | done | (simp; done) | (simp; omega)
        refine r_append1 ((length, count)) m.sY rfl (by first | omega | (dsimp only; omega)) (by first | omega | (dsimp only; omega)) fun zs20 hzs20 => ?_
        conv => cbv
        have lzs20 : (zs20.length : Int) = zs19.length + 1 := by rw [hzs20]; first | done | (simp; done) | (simp; omega)
        refine r_islice' (i := k) m.sY (by omega) (by omega) fun zs21 hzs21 => ?_   -- zs21 = l[k:None]
        have lzs21 : (zs21.length : Int) = l.length - k := by rw [hzs21]; first | done | (simp; done) | (simp; omega)
        conv => cbv
        refine r_append m.sY (by first | omega | (dsimp only; omega)) (by first | omega | (dsimp only; omega)) fun zs22 hzs22 => ?_
        conv => cbv
        have lzs22 : (zs22.length : Int) = zs20.length + zs21.length := by rw [hzs22]; first | done | (simp; done) | (simp; omega)
        exact hQ (.fr 230 2 (rows cSlip zs22)) ⟨zs22, rfl, (by first | omega | exact fun b h0 hbb z hz => put_in hzs18 hzs19 hzs20 hzs21 hzs22 hz hbb (by omega) (by dsimp only; omega)), (by first | omega | exact fun b h0 hbb z hz => put_in hzs18 hzs19 hzs20 hzs21 hzs22 hz hbb (by omega) (by dsimp only; omega))⟩   -- leaf 6

end Go.Proofs.Ytpjmpgbgglhoeaa.Ai
