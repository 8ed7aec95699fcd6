/- Contracts of the reference's functions on forms. mk29.py turns what pg.py prints (a struct with rows of its own in the answer of stOwn). -/
import Derived.Test.YtmlojdpfpccgoaaForm
import Derived.Test.YtmlojdpfpccgoaaAiNest
namespace Go.Proofs.Ytmlojdpfpccgoaa.Ai
open Go Go.Proofs
set_option linter.unusedSimpArgs false
set_option maxRecDepth 10000
set_option maxHeartbeats 4000000
set_option linter.unusedVariables false
theorem stNumbers_ok (n : Int) (l : List Int)  : OkA Try.prog 139 [.int .i64 n, .isl 1 (rows cInt l)] (· = .bool (decide ((l.length : Int) = n) && allB l 0 1000)) :=
  fn_intro envOk fieldsOk mixed Try.func139 rfl fun κ X Y L Q m hQ => by
    conv => cbv
    refine r_lenR m.sX fun n1 hn1 mn1 => ?_
    conv => cbv
    refine r_eql m.sX (fun h1 => ?_) (fun h1 => ?_) <;> conv => cbv
    · refine r_callB m.sX (l1All_ok l 0 1000) (fun h2 => ?_) (fun h2 => ?_) <;> conv => cbv
      · exact hQ _ (congrArg PV.bool (by rw [← hn1, decide_eq_true h1, h2]; rfl))   -- leaf 1
      · exact hQ _ (congrArg PV.bool (by rw [← hn1, decide_eq_true h1, h2]; rfl))   -- leaf 2
    · exact hQ _ (congrArg PV.bool (by rw [← hn1, decide_eq_false h1]; rfl))   -- leaf 3

theorem stGood_ok (free : List Int) (l : List PForm)  : OkA Try.prog 77 [.isl 1 (rows cInt free), .isl 2 (rows cForm l)] (· = .bool (formsB free l)) :=
  fn_intro envOk fieldsOk mixed Try.func77 rfl fun κ X Y L Q m hQ => by
    conv => cbv
    refine r_lenR m.sX fun n1 hn1 mn1 => ?_
    conv => cbv
    refine r_callB m.sX (l1In_ok n1 1 6) (fun h1 => ?_) (fun h1 => ?_) <;> conv => cbv
    · refine r_callB m.sX (l1All_ok free 0 1000) (fun h2 => ?_) (fun h2 => ?_) <;> conv => cbv
      · refine r_lenR m.sX fun n2 hn2 mn2 => ?_
        conv => cbv
        refine r_gtr m.sX (fun h3 => ?_) (fun h3 => ?_) <;> conv => cbv
        · exact hQ _ (congrArg PV.bool (by rw [formsB, ← hn1, h1, h2, decide_eq_false (by omega)]; simp))   -- leaf 1
        · refine r_lenR m.sX fun n3 hn3 mn3 => ?_
          conv => cbv
          refine r_loopF (α := Int) m 42 [0, 21, 22, 23] [] (fun σ => [(0, .isl 1 (rows cInt free)), (21, .isl 2 (rows cForm l)), (22, .int .i64 n3), (23, .int .i64 σ)]) (fun σ => [])
            (fun σ => (0 ≤ σ) ∧ (σ ≤ n3) ∧ (l.all (formB free.length) = (l.drop σ.toNat).all (formB free.length))) (fun σ => (n3 - σ).toNat) 0 ?_ ?_ ?_ ?_
          · cbv
          · cbv
          · exact ⟨(by (try dsimp only); first | omega | (simp only [List.length_nil]; omega) | (simp only [List.length_cons, List.length_nil]; omega)), (by (try dsimp only); first | omega | (simp only [List.length_nil]; omega) | (simp only [List.length_cons, List.length_nil]; omega)), (by (try dsimp only) <;> (rfl))⟩
          rintro i1 ⟨lo1, hi1, q⟩ E hE F hF
          conv => cbv
          refine r_lss m.sX (fun h4 => ?_) (fun h4 => ?_) <;> conv => cbv
          · refine r_index m.sX (by omega) (by omega) fun v hxA => ?_
            obtain ⟨xA, xB⟩ := v
            conv => cbv
            have hx := hxA
            have mx := get_mem hx
            have dx := drop_cons hx
            have kx := take_snoc hx
            have jx : (i1 + 1).toNat = Int.toNat i1 + 1 := by omega
            have ad := all_drop (p := formB free.length) hx
            try dsimp only at ad
            rw [formB_pair, Bool.and_comm (allB xA 0 1000), Bool.and_comm (allB xB 0 1000)] at ad
            refine r_lenR m.sX fun n4 hn4 mn4 => ?_
            conv => cbv
            refine r_callB m.sX (stNumbers_ok n4 xA) (fun h5 => ?_) (fun h5 => ?_) <;> conv => cbv
            · rw [hn4] at h5
              refine r_lenR m.sX fun n5 hn5 mn5 => ?_
              conv => cbv
              refine r_callB m.sX (stNumbers_ok n5 xB) (fun h6 => ?_) (fun h6 => ?_) <;> conv => cbv
              · rw [hn5] at h6
                refine r_addf m.sX (by omega) (by omega) fun r1 hr1 => ?_
                conv => cbv
                try have tr1 : Int.toNat r1 = Int.toNat i1 + 1 := by omega
                refine hE _ r1 ?_ ?_ ⟨(by (try dsimp only); first | omega | (simp only [List.length_nil]; omega) | (simp only [List.length_cons, List.length_nil]; omega)), (by (try dsimp only); first | omega | (simp only [List.length_nil]; omega) | (simp only [List.length_cons, List.length_nil]; omega)), (by (try dsimp only) <;> (rw [q, ad, h5, h6, tr1]; rfl))⟩ (by first | omega | (dsimp only; omega) | (cases again_2 <;> (simp at ol2 ⊢; omega)))
                · cbv
                · cbv
              · rw [hn5] at h6
                refine hF _ _ ?_
                conv => cbv
                exact hQ _ (congrArg PV.bool (by rw [formsB, q, ad, h5, h6]; rfl))   -- leaf 2
            · rw [hn4] at h5
              refine hF _ _ ?_
              conv => cbv
              exact hQ _ (congrArg PV.bool (by rw [formsB, q, ad, h5]; rfl))   -- leaf 3
          · have dz_i1 := drop_end (xs := l) (i := Int.toNat i1) (by omega)
            have tz_i1 := take_end (xs := l) (i := Int.toNat i1) (by omega)
            refine hF _ _ ?_
            conv => cbv
            exact hQ _ (congrArg PV.bool (by rw [formsB, q, dz_i1, ← hn1, h1, h2, decide_eq_true (by omega)]; rfl))   -- leaf 4
      · exact hQ _ (congrArg PV.bool (by rw [formsB, ← hn1, h1, h2]; simp))   -- leaf 5
    · exact hQ _ (congrArg PV.bool (by rw [formsB, ← hn1, h1]; simp))   -- leaf 6

theorem stAsked_ok (free : List Int) (l : List PForm) (i : Int)  : OkA Try.prog 92 [.isl 1 (rows cInt free), .isl 2 (rows cForm l), .int .i64 i] (· = .bool (askB free l i)) :=
  fn_intro envOk fieldsOk mixed Try.func92 rfl fun κ X Y L Q m hQ => by
    conv => cbv
    refine r_callB m.sX (stGood_ok free l) (fun h1 => ?_) (fun h1 => ?_) <;> conv => cbv
    · refine r_lenR m.sX fun n1 hn1 mn1 => ?_
      conv => cbv
      refine r_subf m.sX (by omega) (by omega) fun r1 hr1 => ?_
      conv => cbv
      refine r_callB m.sX (l1In_ok i 0 r1) (fun h2 => ?_) (fun h2 => ?_) <;> conv => cbv
      · exact hQ _ (congrArg PV.bool (by rw [askB, h1, ← hn1, ← hr1, h2]; rfl))   -- leaf 1
      · exact hQ _ (congrArg PV.bool (by rw [askB, h1, ← hn1, ← hr1, h2]; rfl))   -- leaf 2
    · exact hQ _ (congrArg PV.bool (by rw [askB, h1]; rfl))   -- leaf 3

theorem stSort_ok (free : List Int) (n : Int)  : OkA Try.prog 85 [.isl 1 (rows cInt free), .int .i64 n] (· = .bool (inB n 0 ((free.length : Int) - 1))) :=
  fn_intro envOk fieldsOk mixed Try.func85 rfl fun κ X Y L Q m hQ => by
    conv => cbv
    refine r_lenR m.sX fun n1 hn1 mn1 => ?_
    conv => cbv
    refine r_subf m.sX (by omega) (by omega) fun r1 hr1 => ?_
    conv => cbv
    refine r_callB m.sX (l1In_ok n 0 r1) (fun h1 => ?_) (fun h1 => ?_) <;> conv => cbv
    · exact hQ _ (congrArg PV.bool (by rw [← hn1, ← hr1, h1]))   -- leaf 1
    · exact hQ _ (congrArg PV.bool (by rw [← hn1, ← hr1, h1]))   -- leaf 2

theorem stCan_ok (free : List Int) (x : PForm) (hl : x.2.length ≤ free.length) : OkA Try.prog 93 [.isl 1 (rows cInt free), .agg (cForm x)] (· = .bool (canF free x)) := by
  obtain ⟨xA, xB⟩ := x
  try dsimp only at *
  exact fn_intro envOk fieldsOk mixed Try.func93 rfl fun κ X Y L Q m hQ => by
    conv => cbv
    refine r_lenR m.sX fun n1 hn1 mn1 => ?_
    conv => cbv
    refine r_loopF (α := Int) m 22 [0, 8, 9, 10] [] (fun σ => [(0, .isl 1 (rows cInt free)), (8, .isl 1 (rows cInt xB)), (9, .int .i64 n1), (10, .int .i64 σ)]) (fun σ => [])
      (fun σ => (0 ≤ σ) ∧ (σ ≤ n1) ∧ (∀ k, k < σ.toNat → nth xB k ≤ nth free k)) (fun σ => (n1 - σ).toNat) 0 ?_ ?_ ?_ ?_
    · cbv
    · cbv
    · exact ⟨(by (try dsimp only); first | omega | (simp only [List.length_nil]; omega) | (simp only [List.length_cons, List.length_nil]; omega)), (by (try dsimp only); first | omega | (simp only [List.length_nil]; omega) | (simp only [List.length_cons, List.length_nil]; omega)), (by (try dsimp only) <;> (intro k hk; simp at hk))⟩
    rintro i1 ⟨lo1, hi1, q⟩ E hE F hF
    conv => cbv
    refine r_lss m.sX (fun h1 => ?_) (fun h1 => ?_) <;> conv => cbv
    · refine r_index m.sX (by omega) (by omega) fun n hn => ?_
      conv => cbv
      have mn := get_mem hn
      have dn := drop_cons hn
      have kn := take_snoc hn
      have jn : (i1 + 1).toNat = Int.toNat i1 + 1 := by omega
      have vn := nth_some hn
      refine r_index m.sX (by omega) (by omega) fun x1 hx1 => ?_
      conv => cbv
      have mx1 := get_mem hx1
      have dx1 := drop_cons hx1
      have kx1 := take_snoc hx1
      have jx1 : (i1 + 1).toNat = Int.toNat i1 + 1 := by omega
      have vx1 := nth_some hx1
      refine r_gtr m.sX (fun h2 => ?_) (fun h2 => ?_) <;> conv => cbv
      · refine hF _ _ ?_
        conv => cbv
        exact hQ _ (congrArg PV.bool (by exact (canF_no (xA, xB) (k := i1.toNat) (by dsimp only; omega) (by dsimp only; rw [nth_some hn, nth_some hx1]; omega)).symm))   -- leaf 1
      · refine r_addf m.sX (by omega) (by omega) fun r1 hr1 => ?_
        conv => cbv
        try have tr1 : Int.toNat r1 = Int.toNat i1 + 1 := by omega
        refine hE _ r1 ?_ ?_ ⟨(by (try dsimp only); first | omega | (simp only [List.length_nil]; omega) | (simp only [List.length_cons, List.length_nil]; omega)), (by (try dsimp only); first | omega | (simp only [List.length_nil]; omega) | (simp only [List.length_cons, List.length_nil]; omega)), (by (try dsimp only) <;> (intro k hk; rcases (by omega : k < i1.toNat ∨ k = i1.toNat) with hk | rfl; exact q k hk; rw [nth_some hn, nth_some hx1]; omega))⟩ (by first | omega | (dsimp only; omega) | (cases again_2 <;> (simp at ol2 ⊢; omega)))
        · cbv
        · cbv
    · have dz_i1 := drop_end (xs := xB) (i := Int.toNat i1) (by omega)
      have tz_i1 := take_end (xs := xB) (i := Int.toNat i1) (by omega)
      refine hF _ _ ?_
      conv => cbv
      exact hQ _ (congrArg PV.bool (by exact (canF_yes (xA, xB) fun k hk => q k (by dsimp only at hk; omega)).symm))   -- leaf 2

theorem stSum_ok (a : List Int) (b : List Int) (hl : a.length = b.length) (hm : a.length ≤ 1000) (ha : allB a 0 1000000 = true) (hb : allB b 0 1000000 = true) : OkA Try.prog 95 [.isl 1 (rows cInt a), .isl 1 (rows cInt b)] (· = .fr 3 1 (rows cInt (plusL a b 1))) :=
  OkA.unnil 3 1 (fn_intro envOk fieldsOk mixed Try.func95 rfl fun κ X Y L Q m hQ => by
    conv => cbv
    refine r_callF (fun l => PV.fr _ _ (rows _ l)) m.sX (l1Own_ok a (by first | rfl | assumption | omega | (simp only [List.length_append, List.length_cons, List.length_nil] at *; omega))) fun out hout => ?_
    conv => cbv
    have lo : out.length = a.length := by rw [hout]
    refine r_lenR m.sX fun n1 hn1 mn1 => ?_
    conv => cbv
    refine r_loopF (α := List Int × Int) m 26 [10, 11, 12] [⟨5, 41, 3, 1, 0⟩] (fun σ => [(5, .osl 41 0), (10, .isl 1 (rows cInt b)), (11, .int .i64 n1), (12, .int .i64 σ.2)]) (fun σ => [(41, 0, .row 3 1 (rows cInt σ.1))])
      (fun σ => (0 ≤ σ.2) ∧ (σ.2 ≤ n1) ∧ (σ.1 = mixT a b 1 σ.2.toNat) ∧ (σ.1.length = a.length)) (fun σ => (n1 - σ.2).toNat) (out, 0) ?_ ?_ ?_ ?_
    · cbv
    · cbv
    · exact ⟨(by (try dsimp only); first | omega | (simp only [List.length_nil]; omega) | (simp only [List.length_cons, List.length_nil]; omega)), (by (try dsimp only); first | omega | (simp only [List.length_nil]; omega) | (simp only [List.length_cons, List.length_nil]; omega)), (by (try dsimp only) <;> (rw [hout]; exact (mixT_zero _ _ _).symm)), (by (try dsimp only) <;> (exact lo))⟩
    rintro ⟨out_2, i1⟩ ⟨lo1, hi1, q, ol⟩ E hE F hF
    dsimp only at lo1 hi1 q ol
    conv => cbv
    refine r_lss m.sX (fun h1 => ?_) (fun h1 => ?_) <;> conv => cbv
    · refine r_index m.sX (by omega) (by omega) fun n hn => ?_
      conv => cbv
      have mn := get_mem hn
      have dn := drop_cons hn
      have kn := take_snoc hn
      have jn : (i1 + 1).toNat = Int.toNat i1 + 1 := by omega
      have vn := nth_some hn
      have nb := nth_in hb hn
      have ma := mixT_at (a := a) (b := b) (f := 1) (n := i1.toNat) (by omega)
      rw [← q] at ma
      have an := allB_nth ha (k := i1.toNat) (by omega)
      refine r_oindex m.sX (by omega) (by omega) ?_
      conv => cbv
      obtain ⟨x1, hx1⟩ := get_ex (xs := out_2) (i := Int.toNat i1) (by omega)
      have mx1 := get_mem hx1
      have dx1 := drop_cons hx1
      have kx1 := take_snoc hx1
      have jx1 : (i1 + 1).toNat = Int.toNat i1 + 1 := by omega
      have vx1 := nth_some hx1
      have ex : x1 = nth a i1.toNat := Option.some.inj (hx1.symm.trans ma)
      refine r_oload m.sX hx1 (Nat.le_of_ble_eq_true rfl) ?_
      conv => cbv
      refine r_addf m.sX (by omega) (by omega) fun r1 hr1 => ?_
      conv => cbv
      refine r_oindex m.sX (by omega) (by omega) ?_
      conv => cbv
      obtain ⟨y1, hy1⟩ := get_ex (xs := out_2) (i := Int.toNat i1) (by omega)
      refine r_ostore (l := Int.toNat i1) r1 m.sX hy1 (Nat.le_of_ble_eq_true rfl) rfl fun out_3 hout_3 => ?_   -- out_3 = out_2.set i1 r1
      have lout_3 : (out_3.length : Int) = out_2.length := by rw [hout_3]; first | done | (simp; done) | (simp; omega)
      have lo : out.length = a.length := by rw [hout]
      conv => cbv
      refine r_addf m.sX (by omega) (by omega) fun r2 hr2 => ?_
      conv => cbv
      try have tr2 : Int.toNat r2 = Int.toNat i1 + 1 := by omega
      refine hE _ (out_3, r2) ?_ ?_ ⟨(by (try dsimp only); first | omega | (simp only [List.length_nil]; omega) | (simp only [List.length_cons, List.length_nil]; omega)), (by (try dsimp only); first | omega | (simp only [List.length_nil]; omega) | (simp only [List.length_cons, List.length_nil]; omega)), (by (try dsimp only) <;> (rw [tr2, ← mixT_step (by omega), ← q, hout_3, hr1, ex, nth_some hn, Int.one_mul])), (by (try dsimp only) <;> first | omega | rfl | (simp [*]; done) | (rw [ol]; simp [*]; done))⟩ (by first | omega | (dsimp only; omega) | (cases again_2 <;> (simp at ol2 ⊢; omega)))
      · cbv
      · cbv
    · have dz_i1 := drop_end (xs := b) (i := Int.toNat i1) (by omega)
      have tz_i1 := take_end (xs := b) (i := Int.toNat i1) (by omega)
      refine hF _ _ ?_
      conv => cbv
      exact hQ (.fr 3 1 (rows cInt out_2)) (Eq.trans (by first | rfl | (simp only [lb, lbI, rows_cons, rows_nil, unnilT, unnil, unnilTI, unnilI]; done) | (simp only [lb, lbI, rows_cons, rows_nil, unnilT, unnil, unnilTI, unnilI]; rfl)) (congrArg (fun l => PV.fr 3 1 (rows cInt l)) (show out_2 = plusL a b 1 from by rw [q, mixT_end (by omega)]))))   -- leaf 1

theorem stOrder_ok (free : List Int) (l : List PForm) (hf : formsB free l = true) : OkA Try.prog 78 [.isl 1 (rows cInt free), .isl 2 (rows cForm l)] (· = .fr 3 1 (rows cInt (orderA free l))) :=
  OkA.unnil 3 1 (fn_intro envOk fieldsOk mixed Try.func78 rfl fun κ X Y L Q m hQ => by
    have fl0 := forms_len hf
    have fs0 := formsB_spec hf
    conv => cbv
    refine r_loopF (α := List Int × List Int × Bool) m 40 [0, 1, 6] [⟨5, 41, 3, 1, 0⟩] (fun σ => [(0, .isl 1 (rows cInt σ.1)), (1, .isl 2 (rows cForm l)), (5, .osl 41 0), (6, .bool σ.2.2)]) (fun σ => [(41, 0, .row 3 1 (rows cInt σ.2.1))])
      (fun σ => (OrdI l.length σ.2.1) ∧ ((σ.2.1.length : Int) ≤ l.length) ∧ (σ.1.length = free.length) ∧ (allB σ.1 0 (1000 + 1000 * (σ.2.1.length : Int)) = true) ∧ (orderA free l = ordR l σ.1 σ.2.1) ∧ (σ.2.2 = false → firstG σ.1 σ.2.1 l 0 = -1)) (fun σ => (2 * (9 - (σ.2.1.length : Int)) + (if σ.2.2 then 1 else 0)).toNat) (free, [], true) ?_ ?_ ?_ ?_
    · cbv
    · (try dsimp only); (try simp only [rows_cons, rows_nil]); cbv
    · exact ⟨(by (try dsimp only) <;> (exact OrdI.nil _)), (by (try dsimp only) <;> first | omega | rfl | (simp [*]; done)), (by (try dsimp only) <;> (rfl)), (by (try dsimp only) <;> (simpa using fs0.2.2.1)), (by (try dsimp only) <;> (rfl)), (by (try dsimp only) <;> (intro h; cases h))⟩
    rintro ⟨free_2, out, again⟩ ⟨oi, ol, fe, fb, q, fq⟩ E hE F hF
    dsimp only at oi ol fe fb q fq
    conv => cbv
    rcases Bool.eq_false_or_eq_true again with rfl | rfl <;> conv => cbv
    · refine r_lenR m.sX fun n1 hn1 mn1 => ?_
      conv => cbv
      refine r_loopF (α := List Int × List Int × Bool × Int) m 40 [0, 1, 6, 10, 11, 12] [⟨5, 41, 3, 1, 0⟩] (fun σ => [(0, .isl 1 (rows cInt σ.1)), (1, .isl 2 (rows cForm l)), (5, .osl 41 0), (6, .bool σ.2.2.1), (10, .isl 2 (rows cForm l)), (11, .int .i64 n1), (12, .int .i64 σ.2.2.2)]) (fun σ => [(41, 0, .row 3 1 (rows cInt σ.2.1))])
        (fun σ => (0 ≤ σ.2.2.2) ∧ (σ.2.2.2 ≤ n1) ∧ (OrdI l.length σ.2.1) ∧ ((σ.2.1.length : Int) = out.length + (if σ.2.2.1 then 1 else 0)) ∧ ((σ.2.1.length : Int) ≤ l.length) ∧ (σ.1.length = free.length) ∧ (allB σ.1 0 (1000 + 1000 * (σ.2.1.length : Int)) = true) ∧ (orderA free l = ordR l σ.1 σ.2.1) ∧ (σ.2.2.1 = false → firstG σ.1 σ.2.1 l 0 = firstG σ.1 σ.2.1 (l.drop σ.2.2.2.toNat) σ.2.2.2)) (fun σ => (n1 - σ.2.2.2).toNat) (free_2, out, false, 0) ?_ ?_ ?_ ?_
      · cbv
      · cbv
      · exact ⟨(by (try dsimp only); first | omega | (simp only [List.length_nil]; omega) | (simp only [List.length_cons, List.length_nil]; omega)), (by (try dsimp only); first | omega | (simp only [List.length_nil]; omega) | (simp only [List.length_cons, List.length_nil]; omega)), (by (try dsimp only) <;> (exact oi)), (by (try dsimp only) <;> (simp)), (by (try dsimp only) <;> first | omega | rfl | (simp [*]; done)), (by (try dsimp only) <;> (exact fe)), (by (try dsimp only) <;> (exact fb)), (by (try dsimp only) <;> (exact q)), (by (try dsimp only) <;> (intro _; rfl))⟩
      rintro ⟨free_3, out_2, again_2, i1⟩ ⟨lo2, hi2, oi2, ol2, om2, fe2, fb2, q2, fq2⟩ E2 hE2 F2 hF2
      dsimp only at lo2 hi2 oi2 ol2 om2 fe2 fb2 q2 fq2
      conv => cbv
      refine r_lss m.sX (fun h1 => ?_) (fun h1 => ?_) <;> conv => cbv
      · refine r_index m.sX (by omega) (by omega) fun v hxA => ?_
        obtain ⟨xA, xB⟩ := v
        conv => cbv
        have hx := hxA
        have mx := get_mem hx
        have dx := drop_cons hx
        have kx := take_snoc hx
        have jx : (i1 + 1).toNat = Int.toNat i1 + 1 := by omega
        have fa := forms_at hf hx
        try dsimp only at fa
        have fd := firstG_drop (free := free_3) (o := out_2) i1 hx
        try dsimp only at fd
        have B1 : allB xA 0 1000000 = true := allB_up fa.2.2.1 (by omega)
        have B2 : allB free_3 0 1000000 = true := allB_up fb2 (by omega)
        rcases Bool.eq_false_or_eq_true again_2 with rfl | rfl <;> conv => cbv
        · refine r_addf m.sX (by omega) (by omega) fun r1 hr1 => ?_
          conv => cbv
          try have tr1 : Int.toNat r1 = Int.toNat i1 + 1 := by omega
          refine hE2 _ (free_3, out_2, true, r1) ?_ ?_ ⟨(by (try dsimp only); first | omega | (simp only [List.length_nil]; omega) | (simp only [List.length_cons, List.length_nil]; omega)), (by (try dsimp only); first | omega | (simp only [List.length_nil]; omega) | (simp only [List.length_cons, List.length_nil]; omega)), (by (try dsimp only) <;> (first | (rw [hout_3]; exact oi3) | exact oi2)), (by (try dsimp only) <;> (first | exact ol2 | (simp at ol2 ⊢; omega))), (by (try dsimp only) <;> (first | exact om2 | (have z := oi3.len; rw [List.length_append] at z; simp only [List.length_cons, List.length_nil] at z; omega))), (by (try dsimp only) <;> (first | exact fe2 | (rw [hfree_4, plusL_len]; exact fe2))), (by (try dsimp only) <;> (first | exact fb2 | (rw [hfree_4, lout_3]; have z := allB_plus fb2 fa.2.2.1 (by omega); rw [show 1000 + 1000 * ((out_2.length : Int) + 1) = 1000 + 1000 * (out_2.length : Int) + 1000 by omega]; exact z))), (by (try dsimp only) <;> (first | exact q2 | (rw [q2, os, hfree_4, hout_3]))), (by (try dsimp only) <;> (intro e; first | exact absurd e (by decide) | (rw [show r2.toNat = i1.toNat + 1 by omega, hr2]; exact fn) | (rw [show r4.toNat = i1.toNat + 1 by omega, hr4]; exact fn)))⟩ (by first | omega | (dsimp only; omega) | (cases again_2 <;> (simp at ol2 ⊢; omega)))
          · cbv
          · cbv
        · refine .inl (r_callBO m.sX ((l1Has_ok out_2 i1).ok flat_bool) (fun h2 => ?_) (fun h2 => ?_)) <;> conv => cbv
          · have h2' : hasB out_2 i1 = true := h2
            have fn : firstG free_3 out_2 l 0 = firstG free_3 out_2 (l.drop (i1.toNat + 1)) (i1 + 1) := by rw [fq2 rfl, fd, h2']; rfl
            refine r_addf m.sX (by omega) (by omega) fun r2 hr2 => ?_
            conv => cbv
            try have tr2 : Int.toNat r2 = Int.toNat i1 + 1 := by omega
            refine hE2 _ (free_3, out_2, false, r2) ?_ ?_ ⟨(by (try dsimp only); first | omega | (simp only [List.length_nil]; omega) | (simp only [List.length_cons, List.length_nil]; omega)), (by (try dsimp only); first | omega | (simp only [List.length_nil]; omega) | (simp only [List.length_cons, List.length_nil]; omega)), (by (try dsimp only) <;> (first | (rw [hout_3]; exact oi3) | exact oi2)), (by (try dsimp only) <;> (first | exact ol2 | (simp at ol2 ⊢; omega))), (by (try dsimp only) <;> (first | exact om2 | (have z := oi3.len; rw [List.length_append] at z; simp only [List.length_cons, List.length_nil] at z; omega))), (by (try dsimp only) <;> (first | exact fe2 | (rw [hfree_4, plusL_len]; exact fe2))), (by (try dsimp only) <;> (first | exact fb2 | (rw [hfree_4, lout_3]; have z := allB_plus fb2 fa.2.2.1 (by omega); rw [show 1000 + 1000 * ((out_2.length : Int) + 1) = 1000 + 1000 * (out_2.length : Int) + 1000 by omega]; exact z))), (by (try dsimp only) <;> (first | exact q2 | (rw [q2, os, hfree_4, hout_3]))), (by (try dsimp only) <;> (intro e; first | exact absurd e (by decide) | (rw [show r2.toNat = i1.toNat + 1 by omega, hr2]; exact fn) | (rw [show r4.toNat = i1.toNat + 1 by omega, hr4]; exact fn)))⟩ (by first | omega | (dsimp only; omega) | (cases again_2 <;> (simp at ol2 ⊢; omega)))
            · cbv
            · cbv
          · have h2' : hasB out_2 i1 = false := h2
            refine r_callB m.sX (stCan_ok free_3 (xA, xB) (by first | rfl | assumption | omega | (simp only [List.length_append, List.length_cons, List.length_nil] at *; omega))) (fun h3 => ?_) (fun h3 => ?_) <;> conv => cbv
            · have fi : firstG free_3 out_2 l 0 = i1 := by rw [fq2 rfl, fd, h2', h3]; rfl
              have os := ordR_step oi2 (free := free_3) (by omega)
              try dsimp only at os
              rw [fi, heldAt_some hx] at os
              have oi3 := oi2.snoc (i := i1) (by omega) h2'
              try dsimp only at oi3
              refine r_append1 (i1) m.sX rfl (by first | omega | (dsimp only; omega)) (by first | omega | (dsimp only; omega)) fun out_3 hout_3 => ?_
              conv => cbv
              have lout_3 : (out_3.length : Int) = out_2.length + 1 := by rw [hout_3]; first | done | (simp; done) | (simp; omega)
              refine r_callF (fun l => PV.isl _ (rows _ l)) m.sX ((stSum_ok free_3 xA (by first | rfl | assumption | omega | (simp only [List.length_append, List.length_cons, List.length_nil] at *; omega)) (by first | rfl | assumption | omega | (simp only [List.length_append, List.length_cons, List.length_nil] at *; omega)) (by first | rfl | assumption | omega | (simp only [List.length_append, List.length_cons, List.length_nil] at *; omega)) (by first | rfl | assumption | omega | (simp only [List.length_append, List.length_cons, List.length_nil] at *; omega))).ice) fun free_4 hfree_4 => ?_
              conv => cbv
              try dsimp only at hfree_4
              refine r_addf m.sX (by omega) (by omega) fun r3 hr3 => ?_
              conv => cbv
              try have tr3 : Int.toNat r3 = Int.toNat i1 + 1 := by omega
              refine hE2 _ (free_4, out_3, true, r3) ?_ ?_ ⟨(by (try dsimp only); first | omega | (simp only [List.length_nil]; omega) | (simp only [List.length_cons, List.length_nil]; omega)), (by (try dsimp only); first | omega | (simp only [List.length_nil]; omega) | (simp only [List.length_cons, List.length_nil]; omega)), (by (try dsimp only) <;> (first | (rw [hout_3]; exact oi3) | exact oi2)), (by (try dsimp only) <;> (first | exact ol2 | (simp at ol2 ⊢; omega))), (by (try dsimp only) <;> (first | exact om2 | (have z := oi3.len; rw [List.length_append] at z; simp only [List.length_cons, List.length_nil] at z; omega))), (by (try dsimp only) <;> (first | exact fe2 | (rw [hfree_4, plusL_len]; exact fe2))), (by (try dsimp only) <;> (first | exact fb2 | (rw [hfree_4, lout_3]; have z := allB_plus fb2 fa.2.2.1 (by omega); rw [show 1000 + 1000 * ((out_2.length : Int) + 1) = 1000 + 1000 * (out_2.length : Int) + 1000 by omega]; exact z))), (by (try dsimp only) <;> (first | exact q2 | (rw [q2, os, hfree_4, hout_3]))), (by (try dsimp only) <;> (intro e; first | exact absurd e (by decide) | (rw [show r2.toNat = i1.toNat + 1 by omega, hr2]; exact fn) | (rw [show r4.toNat = i1.toNat + 1 by omega, hr4]; exact fn)))⟩ (by first | omega | (dsimp only; omega) | (cases again_2 <;> (simp at ol2 ⊢; omega)))
              · cbv
              · cbv
            · have fn : firstG free_3 out_2 l 0 = firstG free_3 out_2 (l.drop (i1.toNat + 1)) (i1 + 1) := by rw [fq2 rfl, fd, h2', h3]; rfl
              refine r_addf m.sX (by omega) (by omega) fun r4 hr4 => ?_
              conv => cbv
              try have tr4 : Int.toNat r4 = Int.toNat i1 + 1 := by omega
              refine hE2 _ (free_3, out_2, false, r4) ?_ ?_ ⟨(by (try dsimp only); first | omega | (simp only [List.length_nil]; omega) | (simp only [List.length_cons, List.length_nil]; omega)), (by (try dsimp only); first | omega | (simp only [List.length_nil]; omega) | (simp only [List.length_cons, List.length_nil]; omega)), (by (try dsimp only) <;> (first | (rw [hout_3]; exact oi3) | exact oi2)), (by (try dsimp only) <;> (first | exact ol2 | (simp at ol2 ⊢; omega))), (by (try dsimp only) <;> (first | exact om2 | (have z := oi3.len; rw [List.length_append] at z; simp only [List.length_cons, List.length_nil] at z; omega))), (by (try dsimp only) <;> (first | exact fe2 | (rw [hfree_4, plusL_len]; exact fe2))), (by (try dsimp only) <;> (first | exact fb2 | (rw [hfree_4, lout_3]; have z := allB_plus fb2 fa.2.2.1 (by omega); rw [show 1000 + 1000 * ((out_2.length : Int) + 1) = 1000 + 1000 * (out_2.length : Int) + 1000 by omega]; exact z))), (by (try dsimp only) <;> (first | exact q2 | (rw [q2, os, hfree_4, hout_3]))), (by (try dsimp only) <;> (intro e; first | exact absurd e (by decide) | (rw [show r2.toNat = i1.toNat + 1 by omega, hr2]; exact fn) | (rw [show r4.toNat = i1.toNat + 1 by omega, hr4]; exact fn)))⟩ (by first | omega | (dsimp only; omega) | (cases again_2 <;> (simp at ol2 ⊢; omega)))
              · cbv
              · cbv
      · have dz_i1 := drop_end (xs := l) (i := Int.toNat i1) (by omega)
        have tz_i1 := take_end (xs := l) (i := Int.toNat i1) (by omega)
        refine hF2 _ _ ?_
        conv => cbv
        refine hE _ (free_3, out_2, again_2) ?_ ?_ ⟨(by (try dsimp only) <;> (exact oi2)), (by (try dsimp only) <;> (exact om2)), (by (try dsimp only) <;> (exact fe2)), (by (try dsimp only) <;> (exact fb2)), (by (try dsimp only) <;> (exact q2)), (by (try dsimp only) <;> (intro e; rw [fq2 e, dz_i1, firstG]))⟩ (by first | omega | (dsimp only; omega) | (cases again_2 <;> (simp at ol2 ⊢; omega)))
        · cbv
        · cbv
    · refine hF _ _ ?_
      conv => cbv
      exact hQ (.fr 3 1 (rows cInt out)) (Eq.trans (by first | rfl | (simp only [lb, lbI, rows_cons, rows_nil, unnilT, unnil, unnilTI, unnilI]; done) | (simp only [lb, lbI, rows_cons, rows_nil, unnilT, unnil, unnilTI, unnilI]; rfl)) (congrArg (fun l => PV.fr 3 1 (rows cInt l)) (show out = orderA free l from by rw [q, ordR_end (by rw [fq rfl]; omega)]))))   -- leaf 1

theorem specAllOfSort_ok (free : List Int) (l : List PForm) (sort : Int)  : OkA Try.prog 38 [.isl 1 (rows cInt free), .isl 2 (rows cForm l), .int .i64 sort] (· = ib (allA free l sort)) :=
  fn_intro envOk fieldsOk mixed Try.func38 rfl fun κ X Y L Q m hQ => by
    conv => cbv
    refine r_callB m.sX (stGood_ok free l) (fun h1 => ?_) (fun h1 => ?_) <;> conv => cbv
    · have fl0 := forms_len h1
      have fs0 := formsB_spec h1
      refine r_callB m.sX (stSort_ok free sort) (fun h2 => ?_) (fun h2 => ?_) <;> conv => cbv
      · have ib2 := inB_spec h2
        refine r_index m.sX (by omega) (by omega) fun sum hsum => ?_
        conv => cbv
        have msum := get_mem hsum
        have vsum := nth_some hsum
        have nb := nth_in fs0.2.2.1 hsum
        refine r_lenR m.sX fun n1 hn1 mn1 => ?_
        conv => cbv
        refine r_loopF (α := Int × Int) m 40 [2, 8, 25, 26, 27] [] (fun σ => [(2, .int .i64 sort), (8, .int .i64 σ.1), (25, .isl 2 (rows cForm l)), (26, .int .i64 n1), (27, .int .i64 σ.2)]) (fun σ => [])
          (fun σ => (0 ≤ σ.2) ∧ (σ.2 ≤ n1) ∧ (σ.1 = sum + sumH (l.take σ.2.toNat) sort.toNat) ∧ (0 ≤ σ.1 ∧ σ.1 ≤ 1000 + 1000 * σ.2)) (fun σ => (n1 - σ.2).toNat) (sum, 0) ?_ ?_ ?_ ?_
        · cbv
        · cbv
        · exact ⟨(by (try dsimp only); first | omega | (simp only [List.length_nil]; omega) | (simp only [List.length_cons, List.length_nil]; omega)), (by (try dsimp only); first | omega | (simp only [List.length_nil]; omega) | (simp only [List.length_cons, List.length_nil]; omega)), (by (try dsimp only) <;> (simp [sumH])), (by (try dsimp only) <;> first | omega | rfl | (simp [*]; done))⟩
        rintro ⟨sum_2, i1⟩ ⟨lo1, hi1, q, nb2⟩ E hE F hF
        dsimp only at lo1 hi1 q nb2
        conv => cbv
        refine r_lss m.sX (fun h3 => ?_) (fun h3 => ?_) <;> conv => cbv
        · refine r_index m.sX (by omega) (by omega) fun v hxA => ?_
          obtain ⟨xA, xB⟩ := v
          conv => cbv
          have hx := hxA
          have mx := get_mem hx
          have dx := drop_cons hx
          have kx := take_snoc hx
          have jx : (i1 + 1).toNat = Int.toNat i1 + 1 := by omega
          have fa := forms_at h1 hx
          try dsimp only at fa
          refine r_index m.sX (by omega) (by omega) fun x1 hx1 => ?_
          conv => cbv
          have mx1 := get_mem hx1
          have vx1 := nth_some hx1
          have xb := nth_in fa.2.2.1 hx1
          try dsimp only at xb
          refine r_addf m.sX (by omega) (by omega) fun sum_3 hsum_3 => ?_
          conv => cbv
          have nb := nth_in fs0.2.2.1 hsum
          try dsimp only at nb
          refine r_addf m.sX (by omega) (by omega) fun r1 hr1 => ?_
          conv => cbv
          try have tr1 : Int.toNat r1 = Int.toNat i1 + 1 := by omega
          refine hE _ (sum_3, r1) ?_ ?_ ⟨(by (try dsimp only); first | omega | (simp only [List.length_nil]; omega) | (simp only [List.length_cons, List.length_nil]; omega)), (by (try dsimp only); first | omega | (simp only [List.length_nil]; omega) | (simp only [List.length_cons, List.length_nil]; omega)), (by (try dsimp only) <;> (rw [tr1, sumH_take sort.toNat hx, nth_some hx1]; omega)), (by (try dsimp only) <;> first | omega | rfl | (simp [*]; done) | (rw [nb2]; simp [*]; done))⟩ (by first | omega | (dsimp only; omega) | (cases again_2 <;> (simp at ol2 ⊢; omega)))
          · cbv
          · cbv
        · have dz_i1 := drop_end (xs := l) (i := Int.toNat i1) (by omega)
          have tz_i1 := take_end (xs := l) (i := Int.toNat i1) (by omega)
          refine hF _ _ ?_
          conv => cbv
          exact hQ (.tup [.int .i64 sum_2, .bool true]) (Eq.trans (by first | rfl | (simp only [lb, lbI, rows_cons, rows_nil, unnilT, unnil, unnilTI, unnilI]; done) | (simp only [lb, lbI, rows_cons, rows_nil, unnilT, unnil, unnilTI, unnilI]; rfl)) (congrArg (ib) (show (sum_2, true) = allA free l sort from by rw [allA, if_pos (by rw [h1, h2]; rfl), q, tz_i1, nth_some hsum])))   -- leaf 1
      · exact hQ (.tup [.int .i64 0, .bool false]) (Eq.trans (by first | rfl | (simp only [lb, lbI, rows_cons, rows_nil, unnilT, unnil, unnilTI, unnilI]; done) | (simp only [lb, lbI, rows_cons, rows_nil, unnilT, unnil, unnilTI, unnilI]; rfl)) (congrArg (ib) (show (0, false) = allA free l sort from by rw [allA, if_neg (by rw [h2]; simp)])))   -- leaf 2
    · exact hQ (.tup [.int .i64 0, .bool false]) (Eq.trans (by first | rfl | (simp only [lb, lbI, rows_cons, rows_nil, unnilT, unnil, unnilTI, unnilI]; done) | (simp only [lb, lbI, rows_cons, rows_nil, unnilT, unnil, unnilTI, unnilI]; rfl)) (congrArg (ib) (show (0, false) = allA free l sort from by rw [allA, if_neg (by rw [h1]; simp)])))   -- leaf 3

theorem specLackingFor_ok (free : List Int) (l : List PForm) (i : Int)  : OkA Try.prog 33 [.isl 1 (rows cInt free), .isl 2 (rows cForm l), .int .i64 i] (· = (lb 3 1 cInt) (lackA free l i)) :=
  OkA.unnil 3 1 (fn_intro envOk fieldsOk mixed Try.func33 rfl fun κ X Y L Q m hQ => by
    conv => cbv
    refine r_callB m.sX (stAsked_ok free l i) (fun h1 => ?_) (fun h1 => ?_) <;> conv => cbv
    · obtain ⟨as1, as2, as3, x0, as4, as5⟩ := askB_spec h1
      have FB := (formsB_spec as1).2.2.1
      have fl0 := forms_len as1
      refine r_index m.sX (by omega) (by omega) fun v hx1A => ?_
      obtain ⟨x1A, x1B⟩ := v
      conv => cbv
      have hx1 := hx1A
      have mx1 := get_mem hx1
      have fa := forms_at as1 hx1
      try dsimp only at fa
      refine r_lenR m.sX fun n1 hn1 mn1 => ?_
      conv => cbv
      refine r_loopF (α := List Int × Int) m 39 [0, 20, 21, 22] [⟨8, 65, 3, 1, 0⟩] (fun σ => [(0, .isl 1 (rows cInt free)), (8, .osl 65 0), (20, .isl 1 (rows cInt x1B)), (21, .int .i64 n1), (22, .int .i64 σ.2)]) (fun σ => [(65, 0, .row 3 1 (rows cInt σ.1))])
        (fun σ => (0 ≤ σ.2) ∧ (σ.2 ≤ n1) ∧ (σ.1 = lackT free x1B σ.2.toNat) ∧ ((σ.1.length : Int) = σ.2)) (fun σ => (n1 - σ.2).toNat) ([], 0) ?_ ?_ ?_ ?_
      · cbv
      · (try dsimp only); (try simp only [rows_cons, rows_nil]); cbv
      · exact ⟨(by (try dsimp only); first | omega | (simp only [List.length_nil]; omega) | (simp only [List.length_cons, List.length_nil]; omega)), (by (try dsimp only); first | omega | (simp only [List.length_nil]; omega) | (simp only [List.length_cons, List.length_nil]; omega)), (by (try dsimp only) <;> (rfl)), (by (try dsimp only) <;> first | omega | rfl | (simp [*]; done))⟩
      rintro ⟨out, i1⟩ ⟨lo1, hi1, q, ln⟩ E hE F hF
      dsimp only at lo1 hi1 q ln
      conv => cbv
      refine r_lss m.sX (fun h2 => ?_) (fun h2 => ?_) <;> conv => cbv
      · refine r_index m.sX (by omega) (by omega) fun n hn => ?_
        conv => cbv
        have mn := get_mem hn
        have dn := drop_cons hn
        have kn := take_snoc hn
        have jn : (i1 + 1).toNat = Int.toNat i1 + 1 := by omega
        have vn := nth_some hn
        have nb := nth_in fa.2.2.2 hn
        try dsimp only at nb
        refine r_index m.sX (by omega) (by omega) fun x2 hx2 => ?_
        conv => cbv
        have mx2 := get_mem hx2
        have dx2 := drop_cons hx2
        have kx2 := take_snoc hx2
        have jx2 : (i1 + 1).toNat = Int.toNat i1 + 1 := by omega
        have vx2 := nth_some hx2
        have xb := nth_in FB hx2
        try dsimp only at xb
        refine r_subf m.sX (by omega) (by omega) fun r1 hr1 => ?_
        conv => cbv
        refine r_callF (PV.int .i64) m.sX (l1Most_ok 0 r1) fun r2 hr2 => ?_
        conv => cbv
        try dsimp only at hr2
        refine r_append1 (r2) m.sX rfl (by first | omega | (dsimp only; omega)) (by first | omega | (dsimp only; omega)) fun out_2 hout_2 => ?_
        conv => cbv
        have lout_2 : (out_2.length : Int) = out.length + 1 := by rw [hout_2]; first | done | (simp; done) | (simp; omega)
        refine r_addf m.sX (by omega) (by omega) fun r3 hr3 => ?_
        conv => cbv
        try have tr3 : Int.toNat r3 = Int.toNat i1 + 1 := by omega
        refine hE _ (out_2, r3) ?_ ?_ ⟨(by (try dsimp only); first | omega | (simp only [List.length_nil]; omega) | (simp only [List.length_cons, List.length_nil]; omega)), (by (try dsimp only); first | omega | (simp only [List.length_nil]; omega) | (simp only [List.length_cons, List.length_nil]; omega)), (by (try dsimp only) <;> (rw [tr3, lackT_step, nth_some hn, nth_some hx2, ← q, hout_2, hr2, hr1])), (by (try dsimp only) <;> first | omega | rfl | (simp [*]; done) | (rw [ln]; simp [*]; done))⟩ (by first | omega | (dsimp only; omega) | (cases again_2 <;> (simp at ol2 ⊢; omega)))
        · cbv
        · cbv
      · have dz_i1 := drop_end (xs := x1B) (i := Int.toNat i1) (by omega)
        have tz_i1 := take_end (xs := x1B) (i := Int.toNat i1) (by omega)
        refine hF _ _ ?_
        conv => cbv
        exact hQ (.tup [.fr 3 1 (rows cInt out), .bool true]) (Eq.trans (by first | rfl | (simp only [lb, lbI, rows_cons, rows_nil, unnilT, unnil, unnilTI, unnilI]; done) | (simp only [lb, lbI, rows_cons, rows_nil, unnilT, unnil, unnilTI, unnilI]; rfl)) (congrArg ((lb 3 1 cInt)) (show (out, true) = lackA free l i from by rw [lackA, if_pos h1, wantAt_some hx1, q, lackL, show i1.toNat = x1B.length by omega])))   -- leaf 1
    · exact hQ (.tup [.nil, .bool false]) (Eq.trans (by first | rfl | (simp only [lb, lbI, rows_cons, rows_nil, unnilT, unnil, unnilTI, unnilI]; done) | (simp only [lb, lbI, rows_cons, rows_nil, unnilT, unnil, unnilTI, unnilI]; rfl)) (congrArg ((lb 3 1 cInt)) (show ([], false) = lackA free l i from by rw [lackA, if_neg (by rw [h1]; simp)]))))   -- leaf 2

theorem specCanFinish_ok (free : List Int) (l : List PForm) (i : Int)  : OkA Try.prog 22 [.isl 1 (rows cInt free), .isl 2 (rows cForm l), .int .i64 i] (· = bb (canA free l i)) :=
  fn_intro envOk fieldsOk mixed Try.func22 rfl fun κ X Y L Q m hQ => by
    conv => cbv
    refine r_callB m.sX (stAsked_ok free l i) (fun h1 => ?_) (fun h1 => ?_) <;> conv => cbv
    · obtain ⟨as1, as2, as3, x0, as4, as5⟩ := askB_spec h1
      refine r_index m.sX (by omega) (by omega) fun v hx1A => ?_
      obtain ⟨x1A, x1B⟩ := v
      conv => cbv
      have hx1 := hx1A
      have mx1 := get_mem hx1
      have fa := forms_at as1 hx1
      try dsimp only at fa
      have ce : canA free l i = (canF free (x1A, x1B), true) := by rw [canA, if_pos h1, wantAt_some hx1]; rfl
      refine r_callB m.sX (stCan_ok free (x1A, x1B) (by first | rfl | assumption | omega | (simp only [List.length_append, List.length_cons, List.length_nil] at *; omega))) (fun h2 => ?_) (fun h2 => ?_) <;> conv => cbv
      · exact hQ (.tup [.bool true, .bool true]) (Eq.trans (by first | rfl | (simp only [lb, lbI, rows_cons, rows_nil, unnilT, unnil, unnilTI, unnilI]; done) | (simp only [lb, lbI, rows_cons, rows_nil, unnilT, unnil, unnilTI, unnilI]; rfl)) (congrArg (bb) (show (true, true) = canA free l i from by rw [ce, h2])))   -- leaf 1
      · exact hQ (.tup [.bool false, .bool true]) (Eq.trans (by first | rfl | (simp only [lb, lbI, rows_cons, rows_nil, unnilT, unnil, unnilTI, unnilI]; done) | (simp only [lb, lbI, rows_cons, rows_nil, unnilT, unnil, unnilTI, unnilI]; rfl)) (congrArg (bb) (show (false, true) = canA free l i from by rw [ce, h2])))   -- leaf 2
    · exact hQ (.tup [.bool false, .bool false]) (Eq.trans (by first | rfl | (simp only [lb, lbI, rows_cons, rows_nil, unnilT, unnil, unnilTI, unnilI]; done) | (simp only [lb, lbI, rows_cons, rows_nil, unnilT, unnil, unnilTI, unnilI]; rfl)) (congrArg (bb) (show (false, false) = canA free l i from by rw [canA, if_neg (by rw [h1]; simp)])))   -- leaf 3

theorem specWaitsFor_ok (free : List Int) (l : List PForm) (i : Int) (k : Int)  : OkA Try.prog 36 [.isl 1 (rows cInt free), .isl 2 (rows cForm l), .int .i64 i, .int .i64 k] (· = bb (waitsFA free l i k)) :=
  fn_intro envOk fieldsOk mixed Try.func36 rfl fun κ X Y L Q m hQ => by
    conv => cbv
    refine r_callB m.sX (stAsked_ok free l i) (fun h1 => ?_) (fun h1 => ?_) <;> conv => cbv
    · obtain ⟨as1, as2, as3, x0, as4, as5⟩ := askB_spec h1
      have fl0 := forms_len as1
      refine r_lenR m.sX fun n1 hn1 mn1 => ?_
      conv => cbv
      refine r_subf m.sX (by omega) (by omega) fun r1 hr1 => ?_
      conv => cbv
      refine r_callB m.sX (l1In_ok k 0 r1) (fun h2 => ?_) (fun h2 => ?_) <;> conv => cbv
      · have kb := inB_spec h2
        have h2' : askB free l k = true := by rw [askB, as1, ← hn1, ← hr1, h2]; rfl
        refine r_eql m.sX (fun h3 => ?_) (fun h3 => ?_) <;> conv => cbv
        · exact hQ (.tup [.bool false, .bool false]) (Eq.trans (by first | rfl | (simp only [lb, lbI, rows_cons, rows_nil, unnilT, unnil, unnilTI, unnilI]; done) | (simp only [lb, lbI, rows_cons, rows_nil, unnilT, unnil, unnilTI, unnilI]; rfl)) (congrArg (bb) (show (false, false) = waitsFA free l i k from by rw [waitsFA, if_neg (by simp [h3])])))   -- leaf 1
        · refine r_index m.sX (by omega) (by omega) fun v hx1A => ?_
          obtain ⟨x1A, x1B⟩ := v
          conv => cbv
          have hx1 := hx1A
          have mx1 := get_mem hx1
          have fa := forms_at as1 hx1
          try dsimp only at fa
          have we : (decide (i ≠ k)) = true := decide_eq_true h3
          have wa : waitsFA free l i k = (waitG free x1B (heldAt l k) x1B.length, true) := by rw [waitsFA, if_pos (by rw [h1, h2', we]; rfl), wantAt_some hx1]
          refine r_lenR m.sX fun n2 hn2 mn2 => ?_
          conv => cbv
          refine r_loopF (α := Int) m 59 [0, 1, 3, 34, 35, 36] [] (fun σ => [(0, .isl 1 (rows cInt free)), (1, .isl 2 (rows cForm l)), (3, .int .i64 k), (34, .isl 1 (rows cInt x1B)), (35, .int .i64 n2), (36, .int .i64 σ)]) (fun σ => [])
            (fun σ => (0 ≤ σ) ∧ (σ ≤ n2) ∧ (waitG free x1B (heldAt l k) σ.toNat = false)) (fun σ => (n2 - σ).toNat) 0 ?_ ?_ ?_ ?_
          · cbv
          · cbv
          · exact ⟨(by (try dsimp only); first | omega | (simp only [List.length_nil]; omega) | (simp only [List.length_cons, List.length_nil]; omega)), (by (try dsimp only); first | omega | (simp only [List.length_nil]; omega) | (simp only [List.length_cons, List.length_nil]; omega)), (by (try dsimp only) <;> (rfl))⟩
          rintro i1 ⟨lo1, hi1, q⟩ E hE F hF
          conv => cbv
          refine r_lss m.sX (fun h4 => ?_) (fun h4 => ?_) <;> conv => cbv
          · refine r_index m.sX (by omega) (by omega) fun want hwant => ?_
            conv => cbv
            have mwant := get_mem hwant
            have dwant := drop_cons hwant
            have kwant := take_snoc hwant
            have jwant : (i1 + 1).toNat = Int.toNat i1 + 1 := by omega
            have vwant := nth_some hwant
            have ws := waitG_step free x1B (heldAt l k) i1.toNat
            try dsimp only at ws
            refine r_index m.sX (by omega) (by omega) fun x2 hx2 => ?_
            conv => cbv
            have mx2 := get_mem hx2
            have dx2 := drop_cons hx2
            have kx2 := take_snoc hx2
            have jx2 : (i1 + 1).toNat = Int.toNat i1 + 1 := by omega
            have vx2 := nth_some hx2
            rw [nth_some hwant, nth_some hx2] at ws
            refine r_gtr m.sX (fun h5 => ?_) (fun h5 => ?_) <;> conv => cbv
            · refine r_index m.sX (by omega) (by omega) fun v hx3A => ?_
              obtain ⟨x3A, x3B⟩ := v
              conv => cbv
              have hx3 := hx3A
              have mx3 := get_mem hx3
              have fb := forms_at as1 hx3
              try dsimp only at fb
              refine r_index m.sX (by omega) (by omega) fun x4 hx4 => ?_
              conv => cbv
              have mx4 := get_mem hx4
              have dx4 := drop_cons hx4
              have kx4 := take_snoc hx4
              have jx4 : (i1 + 1).toNat = Int.toNat i1 + 1 := by omega
              have vx4 := nth_some hx4
              have hh : nth (heldAt l k) i1.toNat = x4 := by rw [heldAt_some hx3]; exact nth_some hx4
              refine r_gtr m.sX (fun h6 => ?_) (fun h6 => ?_) <;> conv => cbv
              · have yes : waitG free x1B (heldAt l k) x1B.length = true := waitG_mono (n := i1.toNat + 1) (by rw [ws, q, decide_eq_true (by omega), decide_eq_true (by omega)]; rfl) (by omega)
                refine hF _ _ ?_
                conv => cbv
                exact hQ (.tup [.bool true, .bool true]) (Eq.trans (by first | rfl | (simp only [lb, lbI, rows_cons, rows_nil, unnilT, unnil, unnilTI, unnilI]; done) | (simp only [lb, lbI, rows_cons, rows_nil, unnilT, unnil, unnilTI, unnilI]; rfl)) (congrArg (bb) (show (true, true) = waitsFA free l i k from by rw [wa, yes])))   -- leaf 2
              · refine r_addf m.sX (by omega) (by omega) fun r2 hr2 => ?_
                conv => cbv
                try have tr2 : Int.toNat r2 = Int.toNat i1 + 1 := by omega
                refine hE _ r2 ?_ ?_ ⟨(by (try dsimp only); first | omega | (simp only [List.length_nil]; omega) | (simp only [List.length_cons, List.length_nil]; omega)), (by (try dsimp only); first | omega | (simp only [List.length_nil]; omega) | (simp only [List.length_cons, List.length_nil]; omega)), (by (try dsimp only) <;> (first | (rw [tr2, ws, q, hh, decide_eq_false (show ¬ x4 > 0 by omega)]; simp) | (rw [tr2, ws, q, decide_eq_false (show ¬ want > x2 by omega)]; simp)))⟩ (by first | omega | (dsimp only; omega) | (cases again_2 <;> (simp at ol2 ⊢; omega)))
                · cbv
                · cbv
            · refine r_addf m.sX (by omega) (by omega) fun r3 hr3 => ?_
              conv => cbv
              try have tr3 : Int.toNat r3 = Int.toNat i1 + 1 := by omega
              refine hE _ r3 ?_ ?_ ⟨(by (try dsimp only); first | omega | (simp only [List.length_nil]; omega) | (simp only [List.length_cons, List.length_nil]; omega)), (by (try dsimp only); first | omega | (simp only [List.length_nil]; omega) | (simp only [List.length_cons, List.length_nil]; omega)), (by (try dsimp only) <;> (first | (rw [tr3, ws, q, hh, decide_eq_false (show ¬ x4 > 0 by omega)]; simp) | (rw [tr3, ws, q, decide_eq_false (show ¬ want > x2 by omega)]; simp)))⟩ (by first | omega | (dsimp only; omega) | (cases again_2 <;> (simp at ol2 ⊢; omega)))
              · cbv
              · cbv
          · have dz_i1 := drop_end (xs := x1B) (i := Int.toNat i1) (by omega)
            have tz_i1 := take_end (xs := x1B) (i := Int.toNat i1) (by omega)
            refine hF _ _ ?_
            conv => cbv
            exact hQ (.tup [.bool false, .bool true]) (Eq.trans (by first | rfl | (simp only [lb, lbI, rows_cons, rows_nil, unnilT, unnil, unnilTI, unnilI]; done) | (simp only [lb, lbI, rows_cons, rows_nil, unnilT, unnil, unnilTI, unnilI]; rfl)) (congrArg (bb) (show (false, true) = waitsFA free l i k from by rw [wa, ← show i1.toNat = x1B.length by omega, q])))   -- leaf 3
      · have h2' : askB free l k = false := by rw [askB, as1, ← hn1, ← hr1, h2]; rfl
        exact hQ (.tup [.bool false, .bool false]) (Eq.trans (by first | rfl | (simp only [lb, lbI, rows_cons, rows_nil, unnilT, unnil, unnilTI, unnilI]; done) | (simp only [lb, lbI, rows_cons, rows_nil, unnilT, unnil, unnilTI, unnilI]; rfl)) (congrArg (bb) (show (false, false) = waitsFA free l i k from by rw [waitsFA, if_neg (by rw [h2']; simp)])))   -- leaf 4
    · exact hQ (.tup [.bool false, .bool false]) (Eq.trans (by first | rfl | (simp only [lb, lbI, rows_cons, rows_nil, unnilT, unnil, unnilTI, unnilI]; done) | (simp only [lb, lbI, rows_cons, rows_nil, unnilT, unnil, unnilTI, unnilI]; rfl)) (congrArg (bb) (show (false, false) = waitsFA free l i k from by rw [waitsFA, if_neg (by rw [h1]; simp)])))   -- leaf 5

end Go.Proofs.Ytmlojdpfpccgoaa.Ai
