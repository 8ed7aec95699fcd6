/- Contracts of the reference's functions on forms. mk29.py turns what pg.py prints (a struct with rows of its own in the answer of stOwn). -/
import Derived.Test.YtbamclepgabciaaForm
import Derived.Test.YtbamclepgabciaaAiNest
namespace Go.Proofs.Ytbamclepgabciaa.Ai
open Go Go.Proofs
set_option linter.unusedSimpArgs false
set_option maxRecDepth 10000
set_option maxHeartbeats 4000000
set_option linter.unusedVariables false
theorem stNumbers_ok (n : Int) (l : List Int)  : OkA Try.prog 46 [.int .i64 n, .isl 1 (rows cInt l)] (· = .bool (decide ((l.length : Int) = n) && allB l 0 1000)) :=
  fn_intro envOk fieldsOk mixed Try.func46 rfl fun κ X Y L Q m hQ => by
    conv => cbv
    refine r_lenR m.sX fun n1 hn1 mn1 => ?_
    conv => cbv
    refine r_eql m.sX (fun h1 => ?_) (fun h1 => ?_) <;> conv => cbv
    · refine r_callB m.sX (l1All_ok l 0 1000) (fun h2 => ?_) (fun h2 => ?_) <;> conv => cbv
      · exact hQ _ (congrArg PV.bool (by rw [← hn1, decide_eq_true h1, h2]; rfl))   -- leaf 1
      · exact hQ _ (congrArg PV.bool (by rw [← hn1, decide_eq_true h1, h2]; rfl))   -- leaf 2
    · exact hQ _ (congrArg PV.bool (by rw [← hn1, decide_eq_false h1]; rfl))   -- leaf 3

theorem stGood_ok (free : List Int) (l : List PForm)  : OkA Try.prog 25 [.isl 1 (rows cInt free), .isl 2 (rows cForm l)] (· = .bool (formsB free l)) :=
  fn_intro envOk fieldsOk mixed Try.func25 rfl fun κ X Y L Q m hQ => by
    conv => cbv
    refine r_lenR m.sX fun n1 hn1 mn1 => ?_
    conv => cbv
    refine r_callB m.sX (l1In_ok n1 1 6) (fun h1 => ?_) (fun h1 => ?_) <;> conv => cbv
    · refine r_callB m.sX (l1All_ok free 0 1000) (fun h2 => ?_) (fun h2 => ?_) <;> conv => cbv
      · refine r_lenR m.sX fun n2 hn2 mn2 => ?_
        conv => cbv
        refine r_gtr m.sX (fun h3 => ?_) (fun h3 => ?_) <;> conv => cbv
        · exact hQ _ (congrArg PV.bool (by rw [formsB, ← hn1, h1, h2, decide_eq_false (by omega)]; simp))   -- leaf 1
        · refine r_lenR m.sX fun n3 hn3 mn3 => ?_
          conv => cbv
          refine r_loopF (α := Int) m 42 [0, 21, 22, 23] [] (fun σ => [(0, .isl 1 (rows cInt free)), (21, .isl 2 (rows cForm l)), (22, .int .i64 n3), (23, .int .i64 σ)]) (fun σ => [])
            (fun σ => (0 ≤ σ) ∧ (σ ≤ n3) ∧ (l.all (formB free.length) = (l.drop σ.toNat).all (formB free.length))) (fun σ => (n3 - σ).toNat) 0 ?_ ?_ ?_ ?_
          · cbv
          · cbv
          · exact ⟨(by (try dsimp only); first | omega | (simp only [List.length_nil]; omega) | (simp only [List.length_cons, List.length_nil]; omega)), (by (try dsimp only); first | omega | (simp only [List.length_nil]; omega) | (simp only [List.length_cons, List.length_nil]; omega)), (by (try dsimp only) <;> (rfl))⟩
          rintro i1 ⟨lo1, hi1, q⟩ E hE F hF
          conv => cbv
          refine r_lss m.sX (fun h4 => ?_) (fun h4 => ?_) <;> conv => cbv
          · refine r_index m.sX (by omega) (by omega) fun v hxA => ?_
            obtain ⟨xA, xB⟩ := v
            conv => cbv
            have hx := hxA
            have mx := get_mem hx
            have dx := drop_cons hx
            have kx := take_snoc hx
            have jx : (i1 + 1).toNat = Int.toNat i1 + 1 := by omega
            have ad := all_drop (p := formB free.length) hx
            try dsimp only at ad
            rw [formB_pair, Bool.and_comm (allB xA 0 1000), Bool.and_comm (allB xB 0 1000)] at ad
            refine r_lenR m.sX fun n4 hn4 mn4 => ?_
            conv => cbv
            refine r_callB m.sX (stNumbers_ok n4 xA) (fun h5 => ?_) (fun h5 => ?_) <;> conv => cbv
            · rw [hn4] at h5
              refine r_lenR m.sX fun n5 hn5 mn5 => ?_
              conv => cbv
              refine r_callB m.sX (stNumbers_ok n5 xB) (fun h6 => ?_) (fun h6 => ?_) <;> conv => cbv
              · rw [hn5] at h6
                refine r_addf m.sX (by omega) (by omega) fun r1 hr1 => ?_
                conv => cbv
                try have tr1 : Int.toNat r1 = Int.toNat i1 + 1 := by omega
                refine hE _ r1 ?_ ?_ ⟨(by (try dsimp only); first | omega | (simp only [List.length_nil]; omega) | (simp only [List.length_cons, List.length_nil]; omega)), (by (try dsimp only); first | omega | (simp only [List.length_nil]; omega) | (simp only [List.length_cons, List.length_nil]; omega)), (by (try dsimp only) <;> (rw [q, ad, h5, h6, tr1]; rfl))⟩ (by first | omega | (dsimp only; omega) | (cases again_2 <;> (simp at ol2 ⊢; omega)))
                · cbv
                · cbv
              · rw [hn5] at h6
                refine hF _ _ ?_
                conv => cbv
                exact hQ _ (congrArg PV.bool (by rw [formsB, q, ad, h5, h6]; rfl))   -- leaf 2
            · rw [hn4] at h5
              refine hF _ _ ?_
              conv => cbv
              exact hQ _ (congrArg PV.bool (by rw [formsB, q, ad, h5]; rfl))   -- leaf 3
          · have dz_i1 := drop_end (xs := l) (i := Int.toNat i1) (by omega)
            have tz_i1 := take_end (xs := l) (i := Int.toNat i1) (by omega)
            refine hF _ _ ?_
            conv => cbv
            exact hQ _ (congrArg PV.bool (by rw [formsB, q, dz_i1, ← hn1, h1, h2, decide_eq_true (by omega)]; rfl))   -- leaf 4
      · exact hQ _ (congrArg PV.bool (by rw [formsB, ← hn1, h1, h2]; simp))   -- leaf 5
    · exact hQ _ (congrArg PV.bool (by rw [formsB, ← hn1, h1]; simp))   -- leaf 6

theorem stAsked_ok (free : List Int) (l : List PForm) (i : Int)  : OkA Try.prog 40 [.isl 1 (rows cInt free), .isl 2 (rows cForm l), .int .i64 i] (· = .bool (askB free l i)) :=
  fn_intro envOk fieldsOk mixed Try.func40 rfl fun κ X Y L Q m hQ => by
    conv => cbv
    refine r_callB m.sX (stGood_ok free l) (fun h1 => ?_) (fun h1 => ?_) <;> conv => cbv
    · refine r_lenR m.sX fun n1 hn1 mn1 => ?_
      conv => cbv
      refine r_subf m.sX (by omega) (by omega) fun r1 hr1 => ?_
      conv => cbv
      refine r_callB m.sX (l1In_ok i 0 r1) (fun h2 => ?_) (fun h2 => ?_) <;> conv => cbv
      · exact hQ _ (congrArg PV.bool (by rw [askB, h1, ← hn1, ← hr1, h2]; rfl))   -- leaf 1
      · exact hQ _ (congrArg PV.bool (by rw [askB, h1, ← hn1, ← hr1, h2]; rfl))   -- leaf 2
    · exact hQ _ (congrArg PV.bool (by rw [askB, h1]; rfl))   -- leaf 3

theorem stSort_ok (free : List Int) (n : Int)  : OkA Try.prog 33 [.isl 1 (rows cInt free), .int .i64 n] (· = .bool (inB n 0 ((free.length : Int) - 1))) :=
  fn_intro envOk fieldsOk mixed Try.func33 rfl fun κ X Y L Q m hQ => by
    conv => cbv
    refine r_lenR m.sX fun n1 hn1 mn1 => ?_
    conv => cbv
    refine r_subf m.sX (by omega) (by omega) fun r1 hr1 => ?_
    conv => cbv
    refine r_callB m.sX (l1In_ok n 0 r1) (fun h1 => ?_) (fun h1 => ?_) <;> conv => cbv
    · exact hQ _ (congrArg PV.bool (by rw [← hn1, ← hr1, h1]))   -- leaf 1
    · exact hQ _ (congrArg PV.bool (by rw [← hn1, ← hr1, h1]))   -- leaf 2

theorem stCan_ok (free : List Int) (x : PForm) (hl : x.2.length ≤ free.length) : OkA Try.prog 41 [.isl 1 (rows cInt free), .agg (cForm x)] (· = .bool (canF free x)) := by
  obtain ⟨xA, xB⟩ := x
  try dsimp only at *
  exact fn_intro envOk fieldsOk mixed Try.func41 rfl fun κ X Y L Q m hQ => by
    conv => cbv
    refine r_lenR m.sX fun n1 hn1 mn1 => ?_
    conv => cbv
    refine r_loopF (α := Int) m 22 [0, 8, 9, 10] [] (fun σ => [(0, .isl 1 (rows cInt free)), (8, .isl 1 (rows cInt xB)), (9, .int .i64 n1), (10, .int .i64 σ)]) (fun σ => [])
      (fun σ => (0 ≤ σ) ∧ (σ ≤ n1) ∧ (∀ k, k < σ.toNat → nth xB k ≤ nth free k)) (fun σ => (n1 - σ).toNat) 0 ?_ ?_ ?_ ?_
    · cbv
    · cbv
    · exact ⟨(by (try dsimp only); first | omega | (simp only [List.length_nil]; omega) | (simp only [List.length_cons, List.length_nil]; omega)), (by (try dsimp only); first | omega | (simp only [List.length_nil]; omega) | (simp only [List.length_cons, List.length_nil]; omega)), (by (try dsimp only) <;> (intro k hk; simp at hk))⟩
    rintro i1 ⟨lo1, hi1, q⟩ E hE F hF
    conv => cbv
    refine r_lss m.sX (fun h1 => ?_) (fun h1 => ?_) <;> conv => cbv
    · refine r_index m.sX (by omega) (by omega) fun n hn => ?_
      conv => cbv
      have mn := get_mem hn
      have dn := drop_cons hn
      have kn := take_snoc hn
      have jn : (i1 + 1).toNat = Int.toNat i1 + 1 := by omega
      have vn := nth_some hn
      refine r_index m.sX (by omega) (by omega) fun x1 hx1 => ?_
      conv => cbv
      have mx1 := get_mem hx1
      have dx1 := drop_cons hx1
      have kx1 := take_snoc hx1
      have jx1 : (i1 + 1).toNat = Int.toNat i1 + 1 := by omega
      have vx1 := nth_some hx1
      refine r_gtr m.sX (fun h2 => ?_) (fun h2 => ?_) <;> conv => cbv
      · refine hF _ _ ?_
        conv => cbv
        exact hQ _ (congrArg PV.bool (by exact (canF_no (xA, xB) (k := i1.toNat) (by dsimp only; omega) (by dsimp only; rw [nth_some hn, nth_some hx1]; omega)).symm))   -- leaf 1
      · refine r_addf m.sX (by omega) (by omega) fun r1 hr1 => ?_
        conv => cbv
        try have tr1 : Int.toNat r1 = Int.toNat i1 + 1 := by omega
        refine hE _ r1 ?_ ?_ ⟨(by (try dsimp only); first | omega | (simp only [List.length_nil]; omega) | (simp only [List.length_cons, List.length_nil]; omega)), (by (try dsimp only); first | omega | (simp only [List.length_nil]; omega) | (simp only [List.length_cons, List.length_nil]; omega)), (by (try dsimp only) <;> (intro k hk; rcases (by omega : k < i1.toNat ∨ k = i1.toNat) with hk | rfl; exact q k hk; rw [nth_some hn, nth_some hx1]; omega))⟩ (by first | omega | (dsimp only; omega) | (cases again_2 <;> (simp at ol2 ⊢; omega)))
        · cbv
        · cbv
    · have dz_i1 := drop_end (xs := xB) (i := Int.toNat i1) (by omega)
      have tz_i1 := take_end (xs := xB) (i := Int.toNat i1) (by omega)
      refine hF _ _ ?_
      conv => cbv
      exact hQ _ (congrArg PV.bool (by exact (canF_yes (xA, xB) fun k hk => q k (by dsimp only at hk; omega)).symm))   -- leaf 2

theorem stSum_ok (a : List Int) (b : List Int) (hl : a.length = b.length) (hm : a.length ≤ 1000) (ha : allB a 0 1000000 = true) (hb : allB b 0 1000000 = true) : OkA Try.prog 43 [.isl 1 (rows cInt a), .isl 1 (rows cInt b)] (· = .fr 3 1 (rows cInt (plusL a b 1))) :=
  OkA.unnil 3 1 (fn_intro envOk fieldsOk mixed Try.func43 rfl fun κ X Y L Q m hQ => by
    conv => cbv
    refine r_callF (fun l => PV.fr _ _ (rows _ l)) m.sX (l1Own_ok a (by first | rfl | assumption | omega | (simp only [List.length_append, List.length_cons, List.length_nil] at *; omega))) fun out hout => ?_
    conv => cbv
    have lo : out.length = a.length := by rw [hout]
    refine r_lenR m.sX fun n1 hn1 mn1 => ?_
    conv => cbv
    refine r_loopF (α := List Int × Int) m 26 [10, 11, 12] [⟨5, 41, 3, 1, 0⟩] (fun σ => [(5, .osl 41 0), (10, .isl 1 (rows cInt b)), (11, .int .i64 n1), (12, .int .i64 σ.2)]) (fun σ => [(41, 0, .row 3 1 (rows cInt σ.1))])
      (fun σ => (0 ≤ σ.2) ∧ (σ.2 ≤ n1) ∧ (σ.1 = mixT a b 1 σ.2.toNat) ∧ (σ.1.length = a.length)) (fun σ => (n1 - σ.2).toNat) (out, 0) ?_ ?_ ?_ ?_
    · cbv
    · cbv
    · exact ⟨(by (try dsimp only); first | omega | (simp only [List.length_nil]; omega) | (simp only [List.length_cons, List.length_nil]; omega)), (by (try dsimp only); first | omega | (simp only [List.length_nil]; omega) | (simp only [List.length_cons, List.length_nil]; omega)), (by (try dsimp only) <;> (rw [hout]; exact (mixT_zero _ _ _).symm)), (by (try dsimp only) <;> (exact lo))⟩
    rintro ⟨out_2, i1⟩ ⟨lo1, hi1, q, ol⟩ E hE F hF
    dsimp only at lo1 hi1 q ol
    conv => cbv
    refine r_lss m.sX (fun h1 => ?_) (fun h1 => ?_) <;> conv => cbv
    · refine r_index m.sX (by omega) (by omega) fun n hn => ?_
      conv => cbv
      have mn := get_mem hn
      have dn := drop_cons hn
      have kn := take_snoc hn
      have jn : (i1 + 1).toNat = Int.toNat i1 + 1 := by omega
      have vn := nth_some hn
      have nb := nth_in hb hn
      have ma := mixT_at (a := a) (b := b) (f := 1) (n := i1.toNat) (by omega)
      rw [← q] at ma
      have an := allB_nth ha (k := i1.toNat) (by omega)
      refine r_oindex m.sX (by omega) (by omega) ?_
      conv => cbv
      obtain ⟨x1, hx1⟩ := get_ex (xs := out_2) (i := Int.toNat i1) (by omega)
      have mx1 := get_mem hx1
      have dx1 := drop_cons hx1
      have kx1 := take_snoc hx1
      have jx1 : (i1 + 1).toNat = Int.toNat i1 + 1 := by omega
      have vx1 := nth_some hx1
      have ex : x1 = nth a i1.toNat := Option.some.inj (hx1.symm.trans ma)
      refine r_oload m.sX hx1 (Nat.le_of_ble_eq_true rfl) ?_
      conv => cbv
      refine r_addf m.sX (by omega) (by omega) fun r1 hr1 => ?_
      conv => cbv
      refine r_oindex m.sX (by omega) (by omega) ?_
      conv => cbv
      obtain ⟨y1, hy1⟩ := get_ex (xs := out_2) (i := Int.toNat i1) (by omega)
      refine r_ostore (l := Int.toNat i1) r1 m.sX hy1 (Nat.le_of_ble_eq_true rfl) rfl fun out_3 hout_3 => ?_   -- out_3 = out_2.set i1 r1
      have lout_3 : (out_3.length : Int) = out_2.length := by rw [hout_3]; first | done | (simp; done) | (simp; omega)
      have lo : out.length = a.length := by rw [hout]
      conv => cbv
      refine r_addf m.sX (by omega) (by omega) fun r2 hr2 => ?_
      conv => cbv
      try have tr2 : Int.toNat r2 = Int.toNat i1 + 1 := by omega
      refine hE _ (out_3, r2) ?_ ?_ ⟨(by (try dsimp only); first | omega | (simp only [List.length_nil]; omega) | (simp only [List.length_cons, List.length_nil]; omega)), (by (try dsimp only); first | omega | (simp only [List.length_nil]; omega) | (simp only [List.length_cons, List.length_nil]; omega)), (by (try dsimp only) <;> (rw [tr2, ← mixT_step (by omega), ← q, hout_3, hr1, ex, nth_some hn, Int.one_mul])), (by (try dsimp only) <;> first | omega | rfl | (simp [*]; done) | (rw [ol]; simp [*]; done))⟩ (by first | omega | (dsimp only; omega) | (cases again_2 <;> (simp at ol2 ⊢; omega)))
      · cbv
      · cbv
    · have dz_i1 := drop_end (xs := b) (i := Int.toNat i1) (by omega)
      have tz_i1 := take_end (xs := b) (i := Int.toNat i1) (by omega)
      refine hF _ _ ?_
      conv => cbv
      exact hQ (.fr 3 1 (rows cInt out_2)) (Eq.trans (by first | rfl | (simp only [lb, lbI, rows_cons, rows_nil, unnilT, unnil, unnilTI, unnilI]; done) | (simp only [lb, lbI, rows_cons, rows_nil, unnilT, unnil, unnilTI, unnilI]; rfl)) (congrArg (fun l => PV.fr 3 1 (rows cInt l)) (show out_2 = plusL a b 1 from by rw [q, mixT_end (by omega)]))))   -- leaf 1

theorem stOrder_ok (free : List Int) (l : List PForm) (hf : formsW free l = true) : OkA Try.prog 26 [.isl 1 (rows cInt free), .isl 2 (rows cForm l)] (· = .fr 3 1 (rows cInt (orderA free l))) :=
  OkA.unnil 3 1 (fn_intro envOk fieldsOk mixed Try.func26 rfl fun κ X Y L Q m hQ => by
    have fl0 := forms_lenW hf
    have fs0 := formsW_spec hf
    conv => cbv
    refine r_loopF (α := List Int × List Int × Bool) m 40 [0, 1, 6] [⟨5, 41, 3, 1, 0⟩] (fun σ => [(0, .isl 1 (rows cInt σ.1)), (1, .isl 2 (rows cForm l)), (5, .osl 41 0), (6, .bool σ.2.2)]) (fun σ => [(41, 0, .row 3 1 (rows cInt σ.2.1))])
      (fun σ => (OrdI l.length σ.2.1) ∧ ((σ.2.1.length : Int) ≤ l.length) ∧ (σ.1.length = free.length) ∧ (allB σ.1 0 (2000 + 1000 * (σ.2.1.length : Int)) = true) ∧ (orderA free l = ordR l σ.1 σ.2.1) ∧ (σ.2.2 = false → firstG σ.1 σ.2.1 l 0 = -1)) (fun σ => (2 * (9 - (σ.2.1.length : Int)) + (if σ.2.2 then 1 else 0)).toNat) (free, [], true) ?_ ?_ ?_ ?_
    · cbv
    · (try dsimp only); (try simp only [rows_cons, rows_nil]); cbv
    · exact ⟨(by (try dsimp only) <;> (exact OrdI.nil _)), (by (try dsimp only) <;> first | omega | rfl | (simp [*]; done)), (by (try dsimp only) <;> (rfl)), (by (try dsimp only) <;> (simpa using fs0.2.2.1)), (by (try dsimp only) <;> (rfl)), (by (try dsimp only) <;> (intro h; cases h))⟩
    rintro ⟨free_2, out, again⟩ ⟨oi, ol, fe, fb, q, fq⟩ E hE F hF
    dsimp only at oi ol fe fb q fq
    conv => cbv
    rcases Bool.eq_false_or_eq_true again with rfl | rfl <;> conv => cbv
    · refine r_lenR m.sX fun n1 hn1 mn1 => ?_
      conv => cbv
      refine r_loopF (α := List Int × List Int × Bool × Int) m 40 [0, 1, 6, 10, 11, 12] [⟨5, 41, 3, 1, 0⟩] (fun σ => [(0, .isl 1 (rows cInt σ.1)), (1, .isl 2 (rows cForm l)), (5, .osl 41 0), (6, .bool σ.2.2.1), (10, .isl 2 (rows cForm l)), (11, .int .i64 n1), (12, .int .i64 σ.2.2.2)]) (fun σ => [(41, 0, .row 3 1 (rows cInt σ.2.1))])
        (fun σ => (0 ≤ σ.2.2.2) ∧ (σ.2.2.2 ≤ n1) ∧ (OrdI l.length σ.2.1) ∧ ((σ.2.1.length : Int) = out.length + (if σ.2.2.1 then 1 else 0)) ∧ ((σ.2.1.length : Int) ≤ l.length) ∧ (σ.1.length = free.length) ∧ (allB σ.1 0 (2000 + 1000 * (σ.2.1.length : Int)) = true) ∧ (orderA free l = ordR l σ.1 σ.2.1) ∧ (σ.2.2.1 = false → firstG σ.1 σ.2.1 l 0 = firstG σ.1 σ.2.1 (l.drop σ.2.2.2.toNat) σ.2.2.2)) (fun σ => (n1 - σ.2.2.2).toNat) (free_2, out, false, 0) ?_ ?_ ?_ ?_
      · cbv
      · cbv
      · exact ⟨(by (try dsimp only); first | omega | (simp only [List.length_nil]; omega) | (simp only [List.length_cons, List.length_nil]; omega)), (by (try dsimp only); first | omega | (simp only [List.length_nil]; omega) | (simp only [List.length_cons, List.length_nil]; omega)), (by (try dsimp only) <;> (exact oi)), (by (try dsimp only) <;> (simp)), (by (try dsimp only) <;> first | omega | rfl | (simp [*]; done)), (by (try dsimp only) <;> (exact fe)), (by (try dsimp only) <;> (exact fb)), (by (try dsimp only) <;> (exact q)), (by (try dsimp only) <;> (intro _; rfl))⟩
      rintro ⟨free_3, out_2, again_2, i1⟩ ⟨lo2, hi2, oi2, ol2, om2, fe2, fb2, q2, fq2⟩ E2 hE2 F2 hF2
      dsimp only at lo2 hi2 oi2 ol2 om2 fe2 fb2 q2 fq2
      conv => cbv
      refine r_lss m.sX (fun h1 => ?_) (fun h1 => ?_) <;> conv => cbv
      · refine r_index m.sX (by omega) (by omega) fun v hxA => ?_
        obtain ⟨xA, xB⟩ := v
        conv => cbv
        have hx := hxA
        have mx := get_mem hx
        have dx := drop_cons hx
        have kx := take_snoc hx
        have jx : (i1 + 1).toNat = Int.toNat i1 + 1 := by omega
        have fa := forms_atW hf hx
        try dsimp only at fa
        have fd := firstG_drop (free := free_3) (o := out_2) i1 hx
        try dsimp only at fd
        have B1 : allB xA 0 1000000 = true := allB_up fa.2.2.1 (by omega)
        have B2 : allB free_3 0 1000000 = true := allB_up fb2 (by omega)
        rcases Bool.eq_false_or_eq_true again_2 with rfl | rfl <;> conv => cbv
        · refine r_addf m.sX (by omega) (by omega) fun r1 hr1 => ?_
          conv => cbv
          try have tr1 : Int.toNat r1 = Int.toNat i1 + 1 := by omega
          refine hE2 _ (free_3, out_2, true, r1) ?_ ?_ ⟨(by (try dsimp only); first | omega | (simp only [List.length_nil]; omega) | (simp only [List.length_cons, List.length_nil]; omega)), (by (try dsimp only); first | omega | (simp only [List.length_nil]; omega) | (simp only [List.length_cons, List.length_nil]; omega)), (by (try dsimp only) <;> (first | (rw [hout_3]; exact oi3) | exact oi2)), (by (try dsimp only) <;> (first | exact ol2 | (simp at ol2 ⊢; omega))), (by (try dsimp only) <;> (first | exact om2 | (have z := oi3.len; rw [List.length_append] at z; simp only [List.length_cons, List.length_nil] at z; omega))), (by (try dsimp only) <;> (first | exact fe2 | (rw [hfree_4, plusL_len]; exact fe2))), (by (try dsimp only) <;> (first | exact fb2 | (rw [hfree_4, lout_3]; have z := allB_plus fb2 fa.2.2.1 (by omega); rw [show 2000 + 1000 * ((out_2.length : Int) + 1) = 2000 + 1000 * (out_2.length : Int) + 1000 by omega]; exact z))), (by (try dsimp only) <;> (first | exact q2 | (rw [q2, os, hfree_4, hout_3]))), (by (try dsimp only) <;> (intro e; first | exact absurd e (by decide) | (rw [show r2.toNat = i1.toNat + 1 by omega, hr2]; exact fn) | (rw [show r4.toNat = i1.toNat + 1 by omega, hr4]; exact fn)))⟩ (by first | omega | (dsimp only; omega) | (cases again_2 <;> (simp at ol2 ⊢; omega)))
          · cbv
          · cbv
        · refine .inl (r_callBO m.sX ((l1Has_ok out_2 i1).ok flat_bool) (fun h2 => ?_) (fun h2 => ?_)) <;> conv => cbv
          · have h2' : hasB out_2 i1 = true := h2
            have fn : firstG free_3 out_2 l 0 = firstG free_3 out_2 (l.drop (i1.toNat + 1)) (i1 + 1) := by rw [fq2 rfl, fd, h2']; rfl
            refine r_addf m.sX (by omega) (by omega) fun r2 hr2 => ?_
            conv => cbv
            try have tr2 : Int.toNat r2 = Int.toNat i1 + 1 := by omega
            refine hE2 _ (free_3, out_2, false, r2) ?_ ?_ ⟨(by (try dsimp only); first | omega | (simp only [List.length_nil]; omega) | (simp only [List.length_cons, List.length_nil]; omega)), (by (try dsimp only); first | omega | (simp only [List.length_nil]; omega) | (simp only [List.length_cons, List.length_nil]; omega)), (by (try dsimp only) <;> (first | (rw [hout_3]; exact oi3) | exact oi2)), (by (try dsimp only) <;> (first | exact ol2 | (simp at ol2 ⊢; omega))), (by (try dsimp only) <;> (first | exact om2 | (have z := oi3.len; rw [List.length_append] at z; simp only [List.length_cons, List.length_nil] at z; omega))), (by (try dsimp only) <;> (first | exact fe2 | (rw [hfree_4, plusL_len]; exact fe2))), (by (try dsimp only) <;> (first | exact fb2 | (rw [hfree_4, lout_3]; have z := allB_plus fb2 fa.2.2.1 (by omega); rw [show 2000 + 1000 * ((out_2.length : Int) + 1) = 2000 + 1000 * (out_2.length : Int) + 1000 by omega]; exact z))), (by (try dsimp only) <;> (first | exact q2 | (rw [q2, os, hfree_4, hout_3]))), (by (try dsimp only) <;> (intro e; first | exact absurd e (by decide) | (rw [show r2.toNat = i1.toNat + 1 by omega, hr2]; exact fn) | (rw [show r4.toNat = i1.toNat + 1 by omega, hr4]; exact fn)))⟩ (by first | omega | (dsimp only; omega) | (cases again_2 <;> (simp at ol2 ⊢; omega)))
            · cbv
            · cbv
          · have h2' : hasB out_2 i1 = false := h2
            refine r_callB m.sX (stCan_ok free_3 (xA, xB) (by first | rfl | assumption | omega | (simp only [List.length_append, List.length_cons, List.length_nil] at *; omega))) (fun h3 => ?_) (fun h3 => ?_) <;> conv => cbv
            · have fi : firstG free_3 out_2 l 0 = i1 := by rw [fq2 rfl, fd, h2', h3]; rfl
              have os := ordR_step oi2 (free := free_3) (by omega)
              try dsimp only at os
              rw [fi, heldAt_some hx] at os
              have oi3 := oi2.snoc (i := i1) (by omega) h2'
              try dsimp only at oi3
              refine r_append1 (i1) m.sX rfl (by first | omega | (dsimp only; omega)) (by first | omega | (dsimp only; omega)) fun out_3 hout_3 => ?_
              conv => cbv
              have lout_3 : (out_3.length : Int) = out_2.length + 1 := by rw [hout_3]; first | done | (simp; done) | (simp; omega)
              refine r_callF (fun l => PV.isl _ (rows _ l)) m.sX ((stSum_ok free_3 xA (by first | rfl | assumption | omega | (simp only [List.length_append, List.length_cons, List.length_nil] at *; omega)) (by first | rfl | assumption | omega | (simp only [List.length_append, List.length_cons, List.length_nil] at *; omega)) (by first | rfl | assumption | omega | (simp only [List.length_append, List.length_cons, List.length_nil] at *; omega)) (by first | rfl | assumption | omega | (simp only [List.length_append, List.length_cons, List.length_nil] at *; omega))).ice) fun free_4 hfree_4 => ?_
              conv => cbv
              try dsimp only at hfree_4
              refine r_addf m.sX (by omega) (by omega) fun r3 hr3 => ?_
              conv => cbv
              try have tr3 : Int.toNat r3 = Int.toNat i1 + 1 := by omega
              refine hE2 _ (free_4, out_3, true, r3) ?_ ?_ ⟨(by (try dsimp only); first | omega | (simp only [List.length_nil]; omega) | (simp only [List.length_cons, List.length_nil]; omega)), (by (try dsimp only); first | omega | (simp only [List.length_nil]; omega) | (simp only [List.length_cons, List.length_nil]; omega)), (by (try dsimp only) <;> (first | (rw [hout_3]; exact oi3) | exact oi2)), (by (try dsimp only) <;> (first | exact ol2 | (simp at ol2 ⊢; omega))), (by (try dsimp only) <;> (first | exact om2 | (have z := oi3.len; rw [List.length_append] at z; simp only [List.length_cons, List.length_nil] at z; omega))), (by (try dsimp only) <;> (first | exact fe2 | (rw [hfree_4, plusL_len]; exact fe2))), (by (try dsimp only) <;> (first | exact fb2 | (rw [hfree_4, lout_3]; have z := allB_plus fb2 fa.2.2.1 (by omega); rw [show 2000 + 1000 * ((out_2.length : Int) + 1) = 2000 + 1000 * (out_2.length : Int) + 1000 by omega]; exact z))), (by (try dsimp only) <;> (first | exact q2 | (rw [q2, os, hfree_4, hout_3]))), (by (try dsimp only) <;> (intro e; first | exact absurd e (by decide) | (rw [show r2.toNat = i1.toNat + 1 by omega, hr2]; exact fn) | (rw [show r4.toNat = i1.toNat + 1 by omega, hr4]; exact fn)))⟩ (by first | omega | (dsimp only; omega) | (cases again_2 <;> (simp at ol2 ⊢; omega)))
              · cbv
              · cbv
            · have fn : firstG free_3 out_2 l 0 = firstG free_3 out_2 (l.drop (i1.toNat + 1)) (i1 + 1) := by rw [fq2 rfl, fd, h2', h3]; rfl
              refine r_addf m.sX (by omega) (by omega) fun r4 hr4 => ?_
              conv => cbv
              try have tr4 : Int.toNat r4 = Int.toNat i1 + 1 := by omega
              refine hE2 _ (free_3, out_2, false, r4) ?_ ?_ ⟨(by (try dsimp only); first | omega | (simp only [List.length_nil]; omega) | (simp only [List.length_cons, List.length_nil]; omega)), (by (try dsimp only); first | omega | (simp only [List.length_nil]; omega) | (simp only [List.length_cons, List.length_nil]; omega)), (by (try dsimp only) <;> (first | (rw [hout_3]; exact oi3) | exact oi2)), (by (try dsimp only) <;> (first | exact ol2 | (simp at ol2 ⊢; omega))), (by (try dsimp only) <;> (first | exact om2 | (have z := oi3.len; rw [List.length_append] at z; simp only [List.length_cons, List.length_nil] at z; omega))), (by (try dsimp only) <;> (first | exact fe2 | (rw [hfree_4, plusL_len]; exact fe2))), (by (try dsimp only) <;> (first | exact fb2 | (rw [hfree_4, lout_3]; have z := allB_plus fb2 fa.2.2.1 (by omega); rw [show 2000 + 1000 * ((out_2.length : Int) + 1) = 2000 + 1000 * (out_2.length : Int) + 1000 by omega]; exact z))), (by (try dsimp only) <;> (first | exact q2 | (rw [q2, os, hfree_4, hout_3]))), (by (try dsimp only) <;> (intro e; first | exact absurd e (by decide) | (rw [show r2.toNat = i1.toNat + 1 by omega, hr2]; exact fn) | (rw [show r4.toNat = i1.toNat + 1 by omega, hr4]; exact fn)))⟩ (by first | omega | (dsimp only; omega) | (cases again_2 <;> (simp at ol2 ⊢; omega)))
              · cbv
              · cbv
      · have dz_i1 := drop_end (xs := l) (i := Int.toNat i1) (by omega)
        have tz_i1 := take_end (xs := l) (i := Int.toNat i1) (by omega)
        refine hF2 _ _ ?_
        conv => cbv
        refine hE _ (free_3, out_2, again_2) ?_ ?_ ⟨(by (try dsimp only) <;> (exact oi2)), (by (try dsimp only) <;> (exact om2)), (by (try dsimp only) <;> (exact fe2)), (by (try dsimp only) <;> (exact fb2)), (by (try dsimp only) <;> (exact q2)), (by (try dsimp only) <;> (intro e; rw [fq2 e, dz_i1, firstG]))⟩ (by first | omega | (dsimp only; omega) | (cases again_2 <;> (simp at ol2 ⊢; omega)))
        · cbv
        · cbv
    · refine hF _ _ ?_
      conv => cbv
      exact hQ (.fr 3 1 (rows cInt out)) (Eq.trans (by first | rfl | (simp only [lb, lbI, rows_cons, rows_nil, unnilT, unnil, unnilTI, unnilI]; done) | (simp only [lb, lbI, rows_cons, rows_nil, unnilT, unnil, unnilTI, unnilI]; rfl)) (congrArg (fun l => PV.fr 3 1 (rows cInt l)) (show out = orderA free l from by rw [q, ordR_end (by rw [fq rfl]; omega)]))))   -- leaf 1

theorem specCanFinish_ok (free : List Int) (l : List PForm) (i : Int)  : OkA Try.prog 19 [.isl 1 (rows cInt free), .isl 2 (rows cForm l), .int .i64 i] (· = bb (canA free l i)) :=
  fn_intro envOk fieldsOk mixed Try.func19 rfl fun κ X Y L Q m hQ => by
    conv => cbv
    refine r_callB m.sX (stAsked_ok free l i) (fun h1 => ?_) (fun h1 => ?_) <;> conv => cbv
    · obtain ⟨as1, as2, as3, x0, as4, as5⟩ := askB_spec h1
      refine r_index m.sX (by omega) (by omega) fun v hx1A => ?_
      obtain ⟨x1A, x1B⟩ := v
      conv => cbv
      have hx1 := hx1A
      have mx1 := get_mem hx1
      have fa := forms_at as1 hx1
      try dsimp only at fa
      have ce : canA free l i = (canF free (x1A, x1B), true) := by rw [canA, if_pos h1, wantAt_some hx1]; rfl
      refine r_callB m.sX (stCan_ok free (x1A, x1B) (by first | rfl | assumption | omega | (simp only [List.length_append, List.length_cons, List.length_nil] at *; omega))) (fun h2 => ?_) (fun h2 => ?_) <;> conv => cbv
      · exact hQ (.tup [.bool true, .bool true]) (Eq.trans (by first | rfl | (simp only [lb, lbI, rows_cons, rows_nil, unnilT, unnil, unnilTI, unnilI]; done) | (simp only [lb, lbI, rows_cons, rows_nil, unnilT, unnil, unnilTI, unnilI]; rfl)) (congrArg (bb) (show (true, true) = canA free l i from by rw [ce, h2])))   -- leaf 1
      · exact hQ (.tup [.bool false, .bool true]) (Eq.trans (by first | rfl | (simp only [lb, lbI, rows_cons, rows_nil, unnilT, unnil, unnilTI, unnilI]; done) | (simp only [lb, lbI, rows_cons, rows_nil, unnilT, unnil, unnilTI, unnilI]; rfl)) (congrArg (bb) (show (false, true) = canA free l i from by rw [ce, h2])))   -- leaf 2
    · exact hQ (.tup [.bool false, .bool false]) (Eq.trans (by first | rfl | (simp only [lb, lbI, rows_cons, rows_nil, unnilT, unnil, unnilTI, unnilI]; done) | (simp only [lb, lbI, rows_cons, rows_nil, unnilT, unnil, unnilTI, unnilI]; rfl)) (congrArg (bb) (show (false, false) = canA free l i from by rw [canA, if_neg (by rw [h1]; simp)])))   -- leaf 3

theorem specSafeOrder_ok (free : List Int) (l : List PForm)  : OkA Try.prog 7 [.isl 1 (rows cInt free), .isl 2 (rows cForm l)] (· = (lb 3 1 cInt) (safeOA free l)) :=
  OkA.unnil 3 1 (fn_intro envOk fieldsOk mixed Try.func7 rfl fun κ X Y L Q m hQ => by
    conv => cbv
    refine r_callB m.sX (stGood_ok free l) (fun h1 => ?_) (fun h1 => ?_) <;> conv => cbv
    · have fw0 := formsW_of h1
      have fl0 := forms_len h1
      have ol := (order_ordI free l).len
      refine r_callF (fun l => PV.fr _ _ (rows _ l)) m.sX (stOrder_ok free l (by first | rfl | assumption | omega | (simp only [List.length_append, List.length_cons, List.length_nil] at *; omega))) fun out hout => ?_
      conv => cbv
      refine r_lenR m.sX fun n1 hn1 mn1 => ?_
      conv => cbv
      refine r_lenR m.sX fun n2 hn2 mn2 => ?_
      conv => cbv
      refine r_lss m.sX (fun h2 => ?_) (fun h2 => ?_) <;> conv => cbv
      · exact hQ (.tup [.nil, .bool false]) (Eq.trans (by first | rfl | (simp only [lb, lbI, rows_cons, rows_nil, unnilT, unnil, unnilTI, unnilI]; done) | (simp only [lb, lbI, rows_cons, rows_nil, unnilT, unnil, unnilTI, unnilI]; rfl)) (congrArg ((lb 3 1 cInt)) (show ([], false) = safeOA free l from by exact safeOA_no2 (by rw [isSafeB, ← hout, decide_eq_false (by omega)]))))   -- leaf 1
      · exact hQ (.tup [.fr 3 1 (rows cInt out), .bool true]) (Eq.trans (by first | rfl | (simp only [lb, lbI, rows_cons, rows_nil, unnilT, unnil, unnilTI, unnilI]; done) | (simp only [lb, lbI, rows_cons, rows_nil, unnilT, unnil, unnilTI, unnilI]; rfl)) (congrArg ((lb 3 1 cInt)) (show (out, true) = safeOA free l from by rw [hout]; exact safeOA_yes h1 (by rw [hout] at hn1; omega))))   -- leaf 2
    · exact hQ (.tup [.nil, .bool false]) (Eq.trans (by first | rfl | (simp only [lb, lbI, rows_cons, rows_nil, unnilT, unnil, unnilTI, unnilI]; done) | (simp only [lb, lbI, rows_cons, rows_nil, unnilT, unnil, unnilTI, unnilI]; rfl)) (congrArg ((lb 3 1 cInt)) (show ([], false) = safeOA free l from by exact safeOA_no1 h1))))   -- leaf 3

theorem specStuckForms_ok (free : List Int) (l : List PForm)  : OkA Try.prog 9 [.isl 1 (rows cInt free), .isl 2 (rows cForm l)] (· = (lb 3 1 cInt) (stuckA free l)) :=
  OkA.unnil 3 1 (fn_intro envOk fieldsOk mixed Try.func9 rfl fun κ X Y L Q m hQ => by
    conv => cbv
    refine r_callB m.sX (stGood_ok free l) (fun h1 => ?_) (fun h1 => ?_) <;> conv => cbv
    · have fw0 := formsW_of h1
      have fl0 := forms_len h1
      refine r_callF (fun l => PV.fr _ _ (rows _ l)) m.sX (stOrder_ok free l (by first | rfl | assumption | omega | (simp only [List.length_append, List.length_cons, List.length_nil] at *; omega))) fun done hdone => ?_
      conv => cbv
      refine r_lenR m.sX fun n1 hn1 mn1 => ?_
      conv => cbv
      refine r_loopF (α := List Int × Int) m 31 [17, 18] [⟨6, 49, 3, 1, 0⟩, ⟨7, 57, 3, 1, 0⟩] (fun σ => [(6, .osl 49 0), (7, .osl 57 0), (17, .int .i64 n1), (18, .int .i64 σ.2)]) (fun σ => [(49, 0, .row 3 1 (rows cInt done)), (57, 0, .row 3 1 (rows cInt σ.1))])
        (fun σ => (0 ≤ σ.2) ∧ (σ.2 ≤ n1) ∧ (σ.1 = stuckG done σ.2.toNat) ∧ ((σ.1.length : Int) ≤ σ.2)) (fun σ => (n1 - σ.2).toNat) ([], 0) ?_ ?_ ?_ ?_
      · cbv
      · (try dsimp only); (try simp only [rows_cons, rows_nil]); cbv
      · exact ⟨(by (try dsimp only); first | omega | (simp only [List.length_nil]; omega) | (simp only [List.length_cons, List.length_nil]; omega)), (by (try dsimp only); first | omega | (simp only [List.length_nil]; omega) | (simp only [List.length_cons, List.length_nil]; omega)), (by (try dsimp only) <;> (rfl)), (by (try dsimp only) <;> first | omega | rfl | (simp [*]; done))⟩
      rintro ⟨out, i1⟩ ⟨lo1, hi1, q, ln⟩ E hE F hF
      dsimp only at lo1 hi1 q ln
      conv => cbv
      refine r_lss m.sX (fun h2 => ?_) (fun h2 => ?_) <;> conv => cbv
      · refine .inl (r_callBO m.sX ((l1Has_ok done i1).ok flat_bool) (fun h3 => ?_) (fun h3 => ?_)) <;> conv => cbv
        · have h3' : hasB done i1 = true := h3
          have sg := stuckG_step done i1.toNat
          refine r_addf m.sX (by omega) (by omega) fun r1 hr1 => ?_
          conv => cbv
          try have tr1 : Int.toNat r1 = Int.toNat i1 + 1 := by omega
          refine hE _ (out, r1) ?_ ?_ ⟨(by (try dsimp only); first | omega | (simp only [List.length_nil]; omega) | (simp only [List.length_cons, List.length_nil]; omega)), (by (try dsimp only); first | omega | (simp only [List.length_nil]; omega) | (simp only [List.length_cons, List.length_nil]; omega)), (by (try dsimp only) <;> (first | (rw [tr1, sg, if_pos (by rw [show ((i1.toNat : Nat) : Int) = i1 by omega]; exact h3')]; exact q) | (rw [tr1, sg, if_neg (by rw [show ((i1.toNat : Nat) : Int) = i1 by omega, h3']; simp), ← q, hout_2, show ((i1.toNat : Nat) : Int) = i1 by omega]))), (by (try dsimp only) <;> first | omega | rfl | (simp [*]; done) | (rw [ln]; simp [*]; done))⟩ (by first | omega | (dsimp only; omega) | (cases again_2 <;> (simp at ol2 ⊢; omega)))
          · cbv
          · cbv
        · have h3' : hasB done i1 = false := h3
          have sg := stuckG_step done i1.toNat
          refine r_append1 (i1) m.sX rfl (by first | omega | (dsimp only; omega)) (by first | omega | (dsimp only; omega)) fun out_2 hout_2 => ?_
          conv => cbv
          have lout_2 : (out_2.length : Int) = out.length + 1 := by rw [hout_2]; first | done | (simp; done) | (simp; omega)
          refine r_addf m.sX (by omega) (by omega) fun r2 hr2 => ?_
          conv => cbv
          try have tr2 : Int.toNat r2 = Int.toNat i1 + 1 := by omega
          refine hE _ (out_2, r2) ?_ ?_ ⟨(by (try dsimp only); first | omega | (simp only [List.length_nil]; omega) | (simp only [List.length_cons, List.length_nil]; omega)), (by (try dsimp only); first | omega | (simp only [List.length_nil]; omega) | (simp only [List.length_cons, List.length_nil]; omega)), (by (try dsimp only) <;> (first | (rw [tr2, sg, if_pos (by rw [show ((i1.toNat : Nat) : Int) = i1 by omega]; exact h3')]; exact q) | (rw [tr2, sg, if_neg (by rw [show ((i1.toNat : Nat) : Int) = i1 by omega, h3']; simp), ← q, hout_2, show ((i1.toNat : Nat) : Int) = i1 by omega]))), (by (try dsimp only) <;> first | omega | rfl | (simp [*]; done) | (rw [ln]; simp [*]; done))⟩ (by first | omega | (dsimp only; omega) | (cases again_2 <;> (simp at ol2 ⊢; omega)))
          · cbv
          · cbv
      · have dz_i1 := drop_end (xs := l) (i := Int.toNat i1) (by omega)
        have tz_i1 := take_end (xs := l) (i := Int.toNat i1) (by omega)
        refine hF _ _ ?_
        conv => cbv
        exact hQ (.tup [.fr 3 1 (rows cInt out), .bool true]) (Eq.trans (by first | rfl | (simp only [lb, lbI, rows_cons, rows_nil, unnilT, unnil, unnilTI, unnilI]; done) | (simp only [lb, lbI, rows_cons, rows_nil, unnilT, unnil, unnilTI, unnilI]; rfl)) (congrArg ((lb 3 1 cInt)) (show (out, true) = stuckA free l from by rw [stuckA, if_pos h1, q, hdone, show i1.toNat = l.length by omega])))   -- leaf 1
    · exact hQ (.tup [.nil, .bool false]) (Eq.trans (by first | rfl | (simp only [lb, lbI, rows_cons, rows_nil, unnilT, unnil, unnilTI, unnilI]; done) | (simp only [lb, lbI, rows_cons, rows_nil, unnilT, unnil, unnilTI, unnilI]; rfl)) (congrArg ((lb 3 1 cInt)) (show ([], false) = stuckA free l from by rw [stuckA, if_neg (by rw [h1]; simp)]))))   -- leaf 2

theorem specLeastCast_ok (free : List Int) (l : List PForm) (sort : Int)  : OkA Try.prog 14 [.isl 1 (rows cInt free), .isl 2 (rows cForm l), .int .i64 sort] (· = ib (leastA free l sort)) :=
  fn_intro envOk fieldsOk mixed Try.func14 rfl fun κ X Y L Q m hQ => by
    conv => cbv
    refine r_callB m.sX (stGood_ok free l) (fun h1 => ?_) (fun h1 => ?_) <;> conv => cbv
    · have fl0 := forms_len h1
      have fs0 := formsB_spec h1
      refine r_callB m.sX (stSort_ok free sort) (fun h2 => ?_) (fun h2 => ?_) <;> conv => cbv
      · have ib2 := inB_spec h2
        refine r_callF (fun l => PV.fr _ _ (rows _ l)) m.sX (l1Own_ok free (by first | rfl | assumption | omega | (simp only [List.length_append, List.length_cons, List.length_nil] at *; omega))) fun more hmore => ?_
        conv => cbv
        refine r_loopF (α := List Int × Int) m 40 [1, 2, 9] [⟨8, 65, 3, 1, 0⟩] (fun σ => [(1, .isl 2 (rows cForm l)), (2, .int .i64 sort), (8, .osl 65 0), (9, .int .i64 σ.2)]) (fun σ => [(65, 0, .row 3 1 (rows cInt σ.1))])
          (fun σ => (0 ≤ σ.2 ∧ σ.2 ≤ 1001) ∧ (σ.1 = castF free sort.toNat σ.2) ∧ (σ.1.length = free.length) ∧ (leastA free l sort = leastG free l sort.toNat (1001 - σ.2.toNat) σ.2)) (fun σ => (1001 - σ.2).toNat) (more, 0) ?_ ?_ ?_ ?_
        · cbv
        · cbv
        · exact ⟨(by (try dsimp only) <;> first | omega | rfl | (simp [*]; done)), (by (try dsimp only) <;> (rw [hmore, castF_zero (by omega)])), (by (try dsimp only) <;> (rw [hmore])), (by (try dsimp only) <;> (rw [leastA, if_pos (by rw [h1, h2]; rfl)]; rfl))⟩
        rintro ⟨more_2, n⟩ ⟨n0, mq, ml, q⟩ E hE F hF
        dsimp only at n0 mq ml q
        conv => cbv
        refine r_leq m.sX (fun h3 => ?_) (fun h3 => ?_) <;> conv => cbv
        · have fw : formsW more_2 l = true := by rw [mq]; exact castF_wide h1 (by omega) n0.1 h3
          have ls : leastG free l sort.toNat (1001 - n.toNat) n = if isSafeB (castF free sort.toNat n) l then (n, true) else leastG free l sort.toNat (1000 - n.toNat) (n + 1) := by rw [show 1001 - n.toNat = (1000 - n.toNat) + 1 by omega, leastG]
          rw [← mq] at ls
          refine .inl (r_callFO (fun l => PV.fr _ _ (rows _ l)) m.sX ((stOrder_ok more_2 l (by first | rfl | assumption | omega | (simp only [List.length_append, List.length_cons, List.length_nil] at *; omega))).ok (flat_fr flat_cInt)) fun v1 hv1 => ?_)
          conv => cbv
          refine r_lenR m.sX fun n1 hn1 mn1 => ?_
          conv => cbv
          refine r_lenR m.sX fun n2 hn2 mn2 => ?_
          conv => cbv
          refine r_eql m.sX (fun h4 => ?_) (fun h4 => ?_) <;> conv => cbv
          · have hs : isSafeB more_2 l = true := by rw [isSafeB, ← hv1, decide_eq_true (by omega)]
            refine hF _ _ ?_
            conv => cbv
            exact hQ (.tup [.int .i64 n, .bool true]) (Eq.trans (by first | rfl | (simp only [lb, lbI, rows_cons, rows_nil, unnilT, unnil, unnilTI, unnilI]; done) | (simp only [lb, lbI, rows_cons, rows_nil, unnilT, unnil, unnilTI, unnilI]; rfl)) (congrArg (ib) (show (n, true) = leastA free l sort from by rw [q, ls, if_pos hs])))   -- leaf 1
          · have hs : isSafeB more_2 l = false := by rw [isSafeB, ← hv1, decide_eq_false (by omega)]
            refine r_oindex m.sX (by omega) (by omega) ?_
            conv => cbv
            obtain ⟨x1, hx1⟩ := get_ex (xs := more_2) (i := Int.toNat sort) (by omega)
            have mx1 := get_mem hx1
            have vx1 := nth_some hx1
            have bx := nth_in (formsW_spec fw).2.2.1 hx1
            refine r_oload m.sX hx1 (Nat.le_of_ble_eq_true rfl) ?_
            conv => cbv
            refine r_addf m.sX (by omega) (by omega) fun r1 hr1 => ?_
            conv => cbv
            refine r_oindex m.sX (by omega) (by omega) ?_
            conv => cbv
            obtain ⟨y1, hy1⟩ := get_ex (xs := more_2) (i := Int.toNat sort) (by omega)
            refine r_ostore (l := Int.toNat sort) r1 m.sX hy1 (Nat.le_of_ble_eq_true rfl) rfl fun more_3 hmore_3 => ?_   -- more_3 = more_2.set sort r1
            have lmore_3 : (more_3.length : Int) = more_2.length := by rw [hmore_3]; first | done | (simp; done) | (simp; omega)
            conv => cbv
            refine r_addf m.sX (by omega) (by omega) fun n_2 hn_2 => ?_
            conv => cbv
            refine hE _ (more_3, n_2) ?_ ?_ ⟨(by (try dsimp only) <;> first | omega | rfl | (simp [*]; done) | (rw [n0]; simp [*]; done)), (by (try dsimp only) <;> (rw [hmore_3, hr1, hn_2, ← castF_next (by omega), ← mq, nth_some hx1])), (by (try dsimp only) <;> (rw [hmore_3, List.length_set]; exact ml)), (by (try dsimp only) <;> (rw [q, ls, if_neg (by rw [hs]; simp), hn_2, show 1001 - (n + 1).toNat = 1000 - n.toNat by omega]))⟩ (by first | omega | (dsimp only; omega) | (cases again_2 <;> (simp at ol2 ⊢; omega)))
            · cbv
            · cbv
        · refine hF _ _ ?_
          conv => cbv
          exact hQ (.tup [.int .i64 0, .bool false]) (Eq.trans (by first | rfl | (simp only [lb, lbI, rows_cons, rows_nil, unnilT, unnil, unnilTI, unnilI]; done) | (simp only [lb, lbI, rows_cons, rows_nil, unnilT, unnil, unnilTI, unnilI]; rfl)) (congrArg (ib) (show (0, false) = leastA free l sort from by rw [q, show 1001 - n.toNat = 0 by omega]; rfl)))   -- leaf 2
      · exact hQ (.tup [.int .i64 0, .bool false]) (Eq.trans (by first | rfl | (simp only [lb, lbI, rows_cons, rows_nil, unnilT, unnil, unnilTI, unnilI]; done) | (simp only [lb, lbI, rows_cons, rows_nil, unnilT, unnil, unnilTI, unnilI]; rfl)) (congrArg (ib) (show (0, false) = leastA free l sort from by rw [leastA, if_neg (by rw [h2]; simp)])))   -- leaf 3
    · exact hQ (.tup [.int .i64 0, .bool false]) (Eq.trans (by first | rfl | (simp only [lb, lbI, rows_cons, rows_nil, unnilT, unnil, unnilTI, unnilI]; done) | (simp only [lb, lbI, rows_cons, rows_nil, unnilT, unnil, unnilTI, unnilI]; rfl)) (congrArg (ib) (show (0, false) = leastA free l sort from by rw [leastA, if_neg (by rw [h1]; simp)])))   -- leaf 4

end Go.Proofs.Ytbamclepgabciaa.Ai
