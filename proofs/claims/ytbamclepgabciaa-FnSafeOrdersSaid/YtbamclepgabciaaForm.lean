/- Contracts of the functions on forms. -/
import Derived.Test.YtbamclepgabciaaSafeLaw
import Derived.Test.YtbamclepgabciaaAiIceM
import Derived.Test.YtbamclepgabciaaUnTwo
namespace Go.Proofs.Ytbamclepgabciaa.Ai
open Go Go.Proofs
set_option linter.unusedSimpArgs false
set_option maxRecDepth 10000
set_option maxHeartbeats 4000000
set_option linter.unusedVariables false
theorem forms_len {free : List Int} {l : List PForm} (h : formsB free l = true) : free.length ≤ 6 ∧ l.length ≤ 8 := by
  have := formsB_spec h; omega
theorem forms_at {free : List Int} {l : List PForm} (h : formsB free l = true) {i : Nat} {x : PForm} (hx : l[i]? = some x) : x.1.length = free.length ∧ x.2.length = free.length ∧ allB x.1 0 1000 = true ∧ allB x.2 0 1000 = true := formB_spec ((formsB_spec h).1 _ (List.mem_of_getElem? hx))
theorem forms_lenW {free : List Int} {l : List PForm} (h : formsW free l = true) : free.length ≤ 6 ∧ l.length ≤ 8 := by
  have := formsW_spec h; omega
theorem forms_atW {free : List Int} {l : List PForm} (h : formsW free l = true) {i : Nat} {x : PForm} (hx : l[i]? = some x) : x.1.length = free.length ∧ x.2.length = free.length ∧ allB x.1 0 1000 = true ∧ allB x.2 0 1000 = true := formB_spec ((formsW_spec h).1 _ (List.mem_of_getElem? hx))
theorem nth_in {l : List Int} {k : Nat} {x : Int} {a b : Int} (h : allB l a b = true) (hx : l[k]? = some x) : a ≤ x ∧ x ≤ b := allB_mem h x (List.mem_of_getElem? hx)
theorem areHeld_ok (l : List Int) (sorts : Int)  : OkA Try.prog 29 [.isl 1 (rows cInt l), .int .i64 sorts] (· = .bool (allB l 0 1000 && decide ((l.length : Int) = sorts))) :=
  fn_intro envOk fieldsOk mixed Try.func29 rfl fun κ X Y L Q m hQ => by
    conv => cbv
    refine r_lenR m.sX fun n1 hn1 mn1 => ?_
    conv => cbv
    refine r_loopF (α := Int) m 21 [0, 1, 7, 8, 9] [] (fun σ => [(0, .isl 1 (rows cInt l)), (1, .int .i64 sorts), (7, .isl 1 (rows cInt l)), (8, .int .i64 n1), (9, .int .i64 σ)]) (fun σ => [])
      (fun σ => (0 ≤ σ) ∧ (σ ≤ n1) ∧ (allB l 0 1000 = allB (l.drop σ.toNat) 0 1000)) (fun σ => (n1 - σ).toNat) 0 ?_ ?_ ?_ ?_
    · cbv
    · cbv
    · exact ⟨(by (try dsimp only); first | omega | (simp only [List.length_nil]; omega) | (simp only [List.length_cons, List.length_nil]; omega)), (by (try dsimp only); first | omega | (simp only [List.length_nil]; omega) | (simp only [List.length_cons, List.length_nil]; omega)), (by (try dsimp only) <;> (rfl))⟩
    rintro i1 ⟨lo1, hi1, q⟩ E hE F hF
    conv => cbv
    refine r_lss m.sX (fun h1 => ?_) (fun h1 => ?_) <;> conv => cbv
    · refine r_index m.sX (by omega) (by omega) fun n hn => ?_
      conv => cbv
      have mn := get_mem hn
      have dn := drop_cons hn
      have kn := take_snoc hn
      have jn : (i1 + 1).toNat = Int.toNat i1 + 1 := by omega
      have vn := nth_some hn
      have ad := allB_drop (a := 0) (b := 1000) hn
      refine r_callB m.sX (within_ok n 0 1000) (fun h2 => ?_) (fun h2 => ?_) <;> conv => cbv
      · refine r_addf m.sX (by omega) (by omega) fun r1 hr1 => ?_
        conv => cbv
        try have tr1 : Int.toNat r1 = Int.toNat i1 + 1 := by omega
        refine hE _ r1 ?_ ?_ ⟨(by (try dsimp only); first | omega | (simp only [List.length_nil]; omega) | (simp only [List.length_cons, List.length_nil]; omega)), (by (try dsimp only); first | omega | (simp only [List.length_nil]; omega) | (simp only [List.length_cons, List.length_nil]; omega)), (by (try dsimp only) <;> (rw [q, ad, h2, Bool.true_and, tr1]))⟩ (by first | omega | (dsimp only; omega))
        · cbv
        · cbv
      · refine hF _ _ ?_
        conv => cbv
        exact hQ _ (congrArg PV.bool (by rw [q, ad, h2]; rfl))   -- leaf 1
    · have dz_i1 := drop_end (xs := l) (i := Int.toNat i1) (by omega)
      have tz_i1 := take_end (xs := l) (i := Int.toNat i1) (by omega)
      refine hF _ _ ?_
      conv => cbv
      refine r_lenR m.sX fun n2 hn2 mn2 => ?_
      conv => cbv
      refine r_eql m.sX (fun h3 => ?_) (fun h3 => ?_) <;> conv => cbv
      · exact hQ _ (congrArg PV.bool (by rw [q, dz_i1, allB_nil, decide_eq_true (by omega)]; rfl))   -- leaf 2
      · exact hQ _ (congrArg PV.bool (by rw [q, dz_i1, allB_nil, decide_eq_false (by omega)]; rfl))   -- leaf 3

theorem AreForms_ok (free : List Int) (l : List PForm)  : OkA Try.prog 11 [.isl 1 (rows cInt free), .isl 2 (rows cForm l)] (· = .bool (formsB free l)) :=
  fn_intro envOk fieldsOk mixed Try.func11 rfl fun κ X Y L Q m hQ => by
    conv => cbv
    refine r_lenR m.sX fun n1 hn1 mn1 => ?_
    conv => cbv
    refine r_loopF (α := Int) m 42 [0, 1, 7, 8, 9] [] (fun σ => [(0, .isl 1 (rows cInt free)), (1, .isl 2 (rows cForm l)), (7, .isl 2 (rows cForm l)), (8, .int .i64 n1), (9, .int .i64 σ)]) (fun σ => [])
      (fun σ => (0 ≤ σ) ∧ (σ ≤ n1) ∧ (l.all (formB free.length) = (l.drop σ.toNat).all (formB free.length))) (fun σ => (n1 - σ).toNat) 0 ?_ ?_ ?_ ?_
    · cbv
    · cbv
    · exact ⟨(by (try dsimp only); first | omega | (simp only [List.length_nil]; omega) | (simp only [List.length_cons, List.length_nil]; omega)), (by (try dsimp only); first | omega | (simp only [List.length_nil]; omega) | (simp only [List.length_cons, List.length_nil]; omega)), (by (try dsimp only) <;> (rfl))⟩
    rintro i1 ⟨lo1, hi1, q⟩ E hE F hF
    conv => cbv
    refine r_lss m.sX (fun h1 => ?_) (fun h1 => ?_) <;> conv => cbv
    · refine r_index m.sX (by omega) (by omega) fun v hxA => ?_
      obtain ⟨xA, xB⟩ := v
      conv => cbv
      have hx := hxA
      have mx := get_mem hx
      have dx := drop_cons hx
      have kx := take_snoc hx
      have jx : (i1 + 1).toNat = Int.toNat i1 + 1 := by omega
      have ad := all_drop (p := formB free.length) hx
      try dsimp only at ad
      rw [formB_pair] at ad
      refine r_lenR m.sX fun n2 hn2 mn2 => ?_
      conv => cbv
      refine r_callB m.sX (areHeld_ok xA n2) (fun h2 => ?_) (fun h2 => ?_) <;> conv => cbv
      · rw [hn2] at h2
        refine r_lenR m.sX fun n3 hn3 mn3 => ?_
        conv => cbv
        refine r_callB m.sX (areHeld_ok xB n3) (fun h3 => ?_) (fun h3 => ?_) <;> conv => cbv
        · rw [hn3] at h3
          refine r_addf m.sX (by omega) (by omega) fun r1 hr1 => ?_
          conv => cbv
          try have tr1 : Int.toNat r1 = Int.toNat i1 + 1 := by omega
          refine hE _ r1 ?_ ?_ ⟨(by (try dsimp only); first | omega | (simp only [List.length_nil]; omega) | (simp only [List.length_cons, List.length_nil]; omega)), (by (try dsimp only); first | omega | (simp only [List.length_nil]; omega) | (simp only [List.length_cons, List.length_nil]; omega)), (by (try dsimp only) <;> (rw [q, ad, h2, h3, tr1]; rfl))⟩ (by first | omega | (dsimp only; omega))
          · cbv
          · cbv
        · rw [hn3] at h3
          refine hF _ _ ?_
          conv => cbv
          exact hQ _ (congrArg PV.bool (by rw [formsB, q, ad, h2, h3]; rfl))   -- leaf 1
      · rw [hn2] at h2
        refine hF _ _ ?_
        conv => cbv
        exact hQ _ (congrArg PV.bool (by rw [formsB, q, ad, h2]; rfl))   -- leaf 2
    · have dz_i1 := drop_end (xs := l) (i := Int.toNat i1) (by omega)
      have tz_i1 := take_end (xs := l) (i := Int.toNat i1) (by omega)
      refine hF _ _ ?_
      conv => cbv
      refine r_lenR m.sX fun n4 hn4 mn4 => ?_
      conv => cbv
      refine r_callB m.sX (within_ok n4 1 6) (fun h4 => ?_) (fun h4 => ?_) <;> conv => cbv
      · refine r_lenR m.sX fun n5 hn5 mn5 => ?_
        conv => cbv
        refine r_callB m.sX (areHeld_ok free n5) (fun h5 => ?_) (fun h5 => ?_) <;> conv => cbv
        · have h5a : allB free 0 1000 = true := by simp only [Bool.and_eq_true] at h5; exact h5.1
          refine r_lenR m.sX fun n6 hn6 mn6 => ?_
          conv => cbv
          refine r_leq m.sX (fun h6 => ?_) (fun h6 => ?_) <;> conv => cbv
          · exact hQ _ (congrArg PV.bool (by rw [formsB, q, dz_i1, ← hn4, h4, h5a, decide_eq_true (by omega)]; rfl))   -- leaf 3
          · exact hQ _ (congrArg PV.bool (by rw [formsB, q, dz_i1, ← hn4, h4, h5a, decide_eq_false (by omega)]; rfl))   -- leaf 4
        · have h5a : allB free 0 1000 = false := by rw [hn5] at h5; simpa using h5
          exact hQ _ (congrArg PV.bool (by rw [formsB, q, dz_i1, ← hn4, h4, h5a]; rfl))   -- leaf 5
      · exact hQ _ (congrArg PV.bool (by rw [formsB, q, dz_i1, ← hn4, h4]; rfl))   -- leaf 6

theorem isForm_ok (free : List Int) (l : List PForm) (i : Int)  : OkA Try.prog 36 [.isl 1 (rows cInt free), .isl 2 (rows cForm l), .int .i64 i] (· = .bool (askB free l i)) :=
  fn_intro envOk fieldsOk mixed Try.func36 rfl fun κ X Y L Q m hQ => by
    conv => cbv
    refine r_callB m.sX (AreForms_ok free l) (fun h1 => ?_) (fun h1 => ?_) <;> conv => cbv
    · refine r_lenR m.sX fun n1 hn1 mn1 => ?_
      conv => cbv
      refine r_subf m.sX (by omega) (by omega) fun r1 hr1 => ?_
      conv => cbv
      refine r_callB m.sX (within_ok i 0 r1) (fun h2 => ?_) (fun h2 => ?_) <;> conv => cbv
      · exact hQ _ (congrArg PV.bool (by rw [askB, h1, ← hn1, ← hr1, h2]; rfl))   -- leaf 1
      · exact hQ _ (congrArg PV.bool (by rw [askB, h1, ← hn1, ← hr1, h2]; rfl))   -- leaf 2
    · exact hQ _ (congrArg PV.bool (by rw [askB, h1]; rfl))   -- leaf 3

theorem hasNumber_ok (l : List Int) (n : Int)  : OkA Try.prog 27 [.isl 1 (rows cInt l), .int .i64 n] (· = .bool (hasB l n)) :=
  fn_intro envOk fieldsOk mixed Try.func27 rfl fun κ X Y L Q m hQ => by
    conv => cbv
    refine r_lenR m.sX fun n1 hn1 mn1 => ?_
    conv => cbv
    refine r_loopF (α := Int) m 17 [1, 7, 8, 9] [] (fun σ => [(1, .int .i64 n), (7, .isl 1 (rows cInt l)), (8, .int .i64 n1), (9, .int .i64 σ)]) (fun σ => [])
      (fun σ => (0 ≤ σ) ∧ (σ ≤ n1) ∧ (n ∉ l.take σ.toNat)) (fun σ => (n1 - σ).toNat) 0 ?_ ?_ ?_ ?_
    · cbv
    · cbv
    · exact ⟨(by (try dsimp only); first | omega | (simp only [List.length_nil]; omega) | (simp only [List.length_cons, List.length_nil]; omega)), (by (try dsimp only); first | omega | (simp only [List.length_nil]; omega) | (simp only [List.length_cons, List.length_nil]; omega)), (by (try dsimp only) <;> (simp))⟩
    rintro i1 ⟨lo1, hi1, q⟩ E hE F hF
    conv => cbv
    refine r_lss m.sX (fun h1 => ?_) (fun h1 => ?_) <;> conv => cbv
    · refine r_index m.sX (by omega) (by omega) fun x hx => ?_
      conv => cbv
      have mx := get_mem hx
      have dx := drop_cons hx
      have kx := take_snoc hx
      have jx : (i1 + 1).toNat = Int.toNat i1 + 1 := by omega
      have vx := nth_some hx
      refine r_eql m.sX (fun h2 => ?_) (fun h2 => ?_) <;> conv => cbv
      · refine hF _ _ ?_
        conv => cbv
        exact hQ _ (congrArg PV.bool (by rw [hasB, decide_eq_true (by rw [← h2]; exact mx)]))   -- leaf 1
      · refine r_addf m.sX (by omega) (by omega) fun r1 hr1 => ?_
        conv => cbv
        try have tr1 : Int.toNat r1 = Int.toNat i1 + 1 := by omega
        refine hE _ r1 ?_ ?_ ⟨(by (try dsimp only); first | omega | (simp only [List.length_nil]; omega) | (simp only [List.length_cons, List.length_nil]; omega)), (by (try dsimp only); first | omega | (simp only [List.length_nil]; omega) | (simp only [List.length_cons, List.length_nil]; omega)), (by (try dsimp only) <;> (rw [tr1, kx, List.mem_append, List.mem_singleton]; exact fun e => e.elim q fun e => h2 e.symm))⟩ (by first | omega | (dsimp only; omega))
        · cbv
        · cbv
    · have dz_i1 := drop_end (xs := l) (i := Int.toNat i1) (by omega)
      have tz_i1 := take_end (xs := l) (i := Int.toNat i1) (by omega)
      refine hF _ _ ?_
      conv => cbv
      exact hQ _ (congrArg PV.bool (by rw [hasB, decide_eq_false (by rw [← tz_i1]; exact q)]))   -- leaf 2

theorem plus_ok (a : List Int) (b : List Int) (factor : Int) (hl : a.length ≤ b.length) (hn : a.length ≤ 1000) (ha : allB a 0 1000000 = true) (hb : allB b 0 1000000 = true) (hf : -1 ≤ factor ∧ factor ≤ 1) : OkA Try.prog 39 [.isl 1 (rows cInt a), .isl 1 (rows cInt b), .int .i64 factor] (· = .fr 3 1 (rows cInt (plusL a b factor))) :=
  OkA.unnil 3 1 (fn_intro envOk fieldsOk mixed Try.func39 rfl fun κ X Y L Q m hQ => by
    conv => cbv
    refine r_lenR m.sX fun n1 hn1 mn1 => ?_
    conv => cbv
    refine r_loopF (α := List Int × Int) m 31 [1, 2, 11, 12, 13] [⟨7, 57, 3, 1, 0⟩] (fun σ => [(1, .isl 1 (rows cInt b)), (2, .int .i64 factor), (7, .osl 57 0), (11, .isl 1 (rows cInt a)), (12, .int .i64 n1), (13, .int .i64 σ.2)]) (fun σ => [(57, 0, .row 3 1 (rows cInt σ.1))])
      (fun σ => (0 ≤ σ.2) ∧ (σ.2 ≤ n1) ∧ (σ.1 = plusT a b factor σ.2.toNat) ∧ ((σ.1.length : Int) = σ.2)) (fun σ => (n1 - σ.2).toNat) ([], 0) ?_ ?_ ?_ ?_
    · cbv
    · (try dsimp only); (try simp only [rows_cons, rows_nil]); cbv
    · exact ⟨(by (try dsimp only); first | omega | (simp only [List.length_nil]; omega) | (simp only [List.length_cons, List.length_nil]; omega)), (by (try dsimp only); first | omega | (simp only [List.length_nil]; omega) | (simp only [List.length_cons, List.length_nil]; omega)), (by (try dsimp only) <;> (rfl)), (by (try dsimp only) <;> first | omega | rfl | (simp [*]; done))⟩
    rintro ⟨list, i1⟩ ⟨lo1, hi1, q, ln⟩ E hE F hF
    dsimp only at lo1 hi1 q ln
    conv => cbv
    refine r_lss m.sX (fun h1 => ?_) (fun h1 => ?_) <;> conv => cbv
    · refine r_index m.sX (by omega) (by omega) fun n hn => ?_
      conv => cbv
      have mn := get_mem hn
      have dn := drop_cons hn
      have kn := take_snoc hn
      have jn : (i1 + 1).toNat = Int.toNat i1 + 1 := by omega
      have vn := nth_some hn
      have nb := nth_in ha hn
      refine r_index m.sX (by omega) (by omega) fun x1 hx1 => ?_
      conv => cbv
      have mx1 := get_mem hx1
      have dx1 := drop_cons hx1
      have kx1 := take_snoc hx1
      have jx1 : (i1 + 1).toNat = Int.toNat i1 + 1 := by omega
      have vx1 := nth_some hx1
      have xb := nth_in hb hx1
      have mb := mul_small hf xb
      refine r_mulf m.sX (by first | omega | (subst_vars; omega)) (by first | omega | (subst_vars; omega)) fun r1 hr1 => ?_
      conv => cbv
      refine r_addf m.sX (by omega) (by omega) fun r2 hr2 => ?_
      conv => cbv
      refine r_append1 (r2) m.sX rfl (by first | omega | (dsimp only; omega)) (by first | omega | (dsimp only; omega)) fun list_2 hlist_2 => ?_
      conv => cbv
      have llist_2 : (list_2.length : Int) = list.length + 1 := by rw [hlist_2]; first | done | (simp; done) | (simp; omega)
      refine r_addf m.sX (by omega) (by omega) fun r3 hr3 => ?_
      conv => cbv
      try have tr3 : Int.toNat r3 = Int.toNat i1 + 1 := by omega
      refine hE _ (list_2, r3) ?_ ?_ ⟨(by (try dsimp only); first | omega | (simp only [List.length_nil]; omega) | (simp only [List.length_cons, List.length_nil]; omega)), (by (try dsimp only); first | omega | (simp only [List.length_nil]; omega) | (simp only [List.length_cons, List.length_nil]; omega)), (by (try dsimp only) <;> (rw [tr3, plusT_step, nth_some hn, nth_some hx1, ← q, hlist_2, hr2, hr1])), (by (try dsimp only) <;> first | omega | rfl | (simp [*]; done) | (rw [ln]; simp [*]; done))⟩ (by first | omega | (dsimp only; omega))
      · cbv
      · cbv
    · have dz_i1 := drop_end (xs := a) (i := Int.toNat i1) (by omega)
      have tz_i1 := take_end (xs := a) (i := Int.toNat i1) (by omega)
      refine hF _ _ ?_
      conv => cbv
      exact hQ (.fr 3 1 (rows cInt list)) (Eq.trans (by first | rfl | (simp only [giveI, Ai.unnil2, unnilI, Ai.ice, ice1, ice0, List.map_cons, List.map_nil, rows_nil]; done) | (simp only [lb,  lbI, rows_cons, rows_nil, unnilT, unnil, unnilTI, unnilI]; done) | (simp only [lb, lbI, rows_cons, rows_nil, unnilT, unnil, unnilTI, unnilI]; rfl)) (congrArg (fun l => PV.fr 3 1 (rows cInt l)) (show list = plusL a b factor from by rw [q, plusL, show i1.toNat = a.length by omega]))))   -- leaf 1

theorem cloneForms_ok (l : List PForm) (hl : l.length ≤ 1000) (hs : ∀ x ∈ l, x.1.length ≤ 1000 ∧ x.2.length ≤ 1000) : OkA Try.prog 38 [.isl 2 (rows cForm l)] (· = .fr 33 2 (rows cForm (l))) :=
  OkA.unnil 33 2 (fn_intro envOk fieldsOk mixed Try.func38 rfl fun κ X Y L Q m hQ => by
    conv => cbv
    refine r_lenR m.sX fun n1 hn1 mn1 => ?_
    conv => cbv
    refine r_loopF (α := List PForm × Int) m 27 [7, 8, 9] [⟨3, 25, 33, 2, 0⟩] (fun σ => [(3, .osl 25 0), (7, .isl 2 (rows cForm l)), (8, .int .i64 n1), (9, .int .i64 σ.2)]) (fun σ => [(25, 0, .row 33 2 (rows cForm σ.1))])
      (fun σ => (0 ≤ σ.2) ∧ (σ.2 ≤ n1) ∧ (σ.1 = l.take σ.2.toNat) ∧ ((σ.1.length : Int) = σ.2)) (fun σ => (n1 - σ.2).toNat) ([], 0) ?_ ?_ ?_ ?_
    · cbv
    · (try dsimp only); (try simp only [rows_cons, rows_nil]); cbv
    · exact ⟨(by (try dsimp only); first | omega | (simp only [List.length_nil]; omega) | (simp only [List.length_cons, List.length_nil]; omega)), (by (try dsimp only); first | omega | (simp only [List.length_nil]; omega) | (simp only [List.length_cons, List.length_nil]; omega)), (by (try dsimp only) <;> (rfl)), (by (try dsimp only) <;> first | omega | rfl | (simp [*]; done))⟩
    rintro ⟨next, i1⟩ ⟨lo1, hi1, q, ln⟩ E hE F hF
    dsimp only at lo1 hi1 q ln
    conv => cbv
    refine r_lss m.sX (fun h1 => ?_) (fun h1 => ?_) <;> conv => cbv
    · refine r_index m.sX (by omega) (by omega) fun v hxA => ?_
      obtain ⟨xA, xB⟩ := v
      conv => cbv
      have hx := hxA
      have mx := get_mem hx
      have dx := drop_cons hx
      have kx := take_snoc hx
      have jx : (i1 + 1).toNat = Int.toNat i1 + 1 := by omega
      have xs := hs _ mx
      try dsimp only at xs
      refine r_draw m (by kernel_rfl) ?_
      conv => cbv
      refine r_append0R m.sY (by first | omega | (dsimp only; omega)) (by first | omega | (dsimp only; omega)) fun zs1 hzs1 => ?_
      conv => cbv
      have lzs1 : (zs1.length : Int) = xA.length := by rw [hzs1]; first | done | (simp; done) | (simp; omega)
      refine r_append0R m.sY (by first | omega | (dsimp only; omega)) (by first | omega | (dsimp only; omega)) fun zs2 hzs2 => ?_
      conv => cbv
      have lzs2 : (zs2.length : Int) = xB.length := by rw [hzs2]; first | done | (simp; done) | (simp; omega)
      refine r_append1 ((zs1, zs2)) m.sY rfl (by first | omega | (dsimp only; omega)) (by first | omega | (dsimp only; omega)) fun next_2 hnext_2 => ?_
      conv => cbv
      have lnext_2 : (next_2.length : Int) = next.length + 1 := by rw [hnext_2]; first | done | (simp; done) | (simp; omega)
      refine r_addf m.sX (by omega) (by omega) fun r1 hr1 => ?_
      conv => cbv
      try have tr1 : Int.toNat r1 = Int.toNat i1 + 1 := by omega
      refine hE _ (next_2, r1) ?_ ?_ ⟨(by (try dsimp only); first | omega | (simp only [List.length_nil]; omega) | (simp only [List.length_cons, List.length_nil]; omega)), (by (try dsimp only); first | omega | (simp only [List.length_nil]; omega) | (simp only [List.length_cons, List.length_nil]; omega)), (by (try dsimp only) <;> (rw [tr1, kx, ← q, hnext_2, hzs1, hzs2])), (by (try dsimp only) <;> first | omega | rfl | (simp [*]; done) | (rw [ln]; simp [*]; done))⟩ (by first | omega | (dsimp only; omega))
      · cbv
      · cbv
    · have dz_i1 := drop_end (xs := l) (i := Int.toNat i1) (by omega)
      have tz_i1 := take_end (xs := l) (i := Int.toNat i1) (by omega)
      refine hF _ _ ?_
      conv => cbv
      exact hQ (.fr 33 2 (rows cForm next)) (Eq.trans (by first | rfl | (simp only [giveI, Ai.unnil2, unnilI, Ai.ice, ice1, ice0, List.map_cons, List.map_nil, rows_nil]; done) | (simp only [lb,  lbI, rows_cons, rows_nil, unnilT, unnil, unnilTI, unnilI]; done) | (simp only [lb, lbI, rows_cons, rows_nil, unnilT, unnil, unnilTI, unnilI]; rfl)) (congrArg (fun l => PV.fr 33 2 (rows cForm l)) (show next = l from by rw [q, tz_i1]))))   -- leaf 1

theorem canFinish_ok (free : List Int) (x : PForm) (hl : x.2.length ≤ free.length) : OkA Try.prog 37 [.isl 1 (rows cInt free), .agg (cForm x)] (· = .bool (canF free x)) := by
  obtain ⟨xA, xB⟩ := x
  try dsimp only at *
  exact fn_intro envOk fieldsOk mixed Try.func37 rfl fun κ X Y L Q m hQ => by
    conv => cbv
    refine r_lenR m.sX fun n1 hn1 mn1 => ?_
    conv => cbv
    refine r_loopF (α := Int) m 22 [0, 8, 9, 10] [] (fun σ => [(0, .isl 1 (rows cInt free)), (8, .isl 1 (rows cInt xB)), (9, .int .i64 n1), (10, .int .i64 σ)]) (fun σ => [])
      (fun σ => (0 ≤ σ) ∧ (σ ≤ n1) ∧ (∀ k, k < σ.toNat → nth xB k ≤ nth free k)) (fun σ => (n1 - σ).toNat) 0 ?_ ?_ ?_ ?_
    · cbv
    · cbv
    · exact ⟨(by (try dsimp only); first | omega | (simp only [List.length_nil]; omega) | (simp only [List.length_cons, List.length_nil]; omega)), (by (try dsimp only); first | omega | (simp only [List.length_nil]; omega) | (simp only [List.length_cons, List.length_nil]; omega)), (by (try dsimp only) <;> (intro k hk; simp at hk))⟩
    rintro i1 ⟨lo1, hi1, q⟩ E hE F hF
    conv => cbv
    refine r_lss m.sX (fun h1 => ?_) (fun h1 => ?_) <;> conv => cbv
    · refine r_index m.sX (by omega) (by omega) fun n hn => ?_
      conv => cbv
      have mn := get_mem hn
      have dn := drop_cons hn
      have kn := take_snoc hn
      have jn : (i1 + 1).toNat = Int.toNat i1 + 1 := by omega
      have vn := nth_some hn
      refine r_index m.sX (by omega) (by omega) fun x1 hx1 => ?_
      conv => cbv
      have mx1 := get_mem hx1
      have dx1 := drop_cons hx1
      have kx1 := take_snoc hx1
      have jx1 : (i1 + 1).toNat = Int.toNat i1 + 1 := by omega
      have vx1 := nth_some hx1
      refine r_gtr m.sX (fun h2 => ?_) (fun h2 => ?_) <;> conv => cbv
      · refine hF _ _ ?_
        conv => cbv
        exact hQ _ (congrArg PV.bool (by exact (canF_no (xA, xB) (k := i1.toNat) (by dsimp only; omega) (by dsimp only; rw [nth_some hn, nth_some hx1]; omega)).symm))   -- leaf 1
      · refine r_addf m.sX (by omega) (by omega) fun r1 hr1 => ?_
        conv => cbv
        try have tr1 : Int.toNat r1 = Int.toNat i1 + 1 := by omega
        refine hE _ r1 ?_ ?_ ⟨(by (try dsimp only); first | omega | (simp only [List.length_nil]; omega) | (simp only [List.length_cons, List.length_nil]; omega)), (by (try dsimp only); first | omega | (simp only [List.length_nil]; omega) | (simp only [List.length_cons, List.length_nil]; omega)), (by (try dsimp only) <;> (intro k hk; rcases (by omega : k < i1.toNat ∨ k = i1.toNat) with hk | rfl; exact q k hk; rw [nth_some hn, nth_some hx1]; omega))⟩ (by first | omega | (dsimp only; omega))
        · cbv
        · cbv
    · have dz_i1 := drop_end (xs := xB) (i := Int.toNat i1) (by omega)
      have tz_i1 := take_end (xs := xB) (i := Int.toNat i1) (by omega)
      refine hF _ _ ?_
      conv => cbv
      exact hQ _ (congrArg PV.bool (by exact (canF_yes (xA, xB) fun k hk => q k (by dsimp only at hk; omega)).symm))   -- leaf 2

theorem finishing_ok (free : List Int) (l : List PForm) (hf : formsW free l = true) : OkA Try.prog 24 [.isl 1 (rows cInt free), .isl 2 (rows cForm l)] (· = .fr 3 1 (rows cInt (orderA free l))) :=
  OkA.unnil 3 1 (fn_intro envOk fieldsOk mixed Try.func24 rfl fun κ X Y L Q m hQ => by
    have fl0 := forms_lenW hf
    have fs0 := formsW_spec hf
    conv => cbv
    refine r_loopF (α := List Int × List Int × Int) m 38 [0, 1, 6] [⟨5, 41, 3, 1, 0⟩] (fun σ => [(0, .isl 1 (rows cInt σ.1)), (1, .isl 2 (rows cForm l)), (5, .osl 41 0), (6, .int .i64 σ.2.2)]) (fun σ => [(41, 0, .row 3 1 (rows cInt σ.2.1))])
      (fun σ => (0 ≤ σ.2.2 ∧ σ.2.2 ≤ l.length) ∧ (OrdI l.length σ.2.1) ∧ ((σ.2.1.length : Int) ≤ l.length) ∧ (σ.1.length = free.length) ∧ (allB σ.1 0 (2000 + 1000 * (σ.2.1.length : Int)) = true) ∧ (orderA free l = ordR l σ.1 σ.2.1) ∧ (firstG σ.1 σ.2.1 l 0 = firstG σ.1 σ.2.1 (l.drop σ.2.2.toNat) σ.2.2)) (fun σ => (9 * (8 - (σ.2.1.length : Int)) + (9 - σ.2.2)).toNat) (free, [], 0) ?_ ?_ ?_ ?_
    · cbv
    · (try dsimp only); (try simp only [rows_cons, rows_nil]); cbv
    · exact ⟨(by (try dsimp only) <;> first | omega | rfl | (simp [*]; done)), (by (try dsimp only) <;> (exact OrdI.nil _)), (by (try dsimp only) <;> first | omega | rfl | (simp [*]; done)), (by (try dsimp only) <;> (rfl)), (by (try dsimp only) <;> (simpa using fs0.2.2.1)), (by (try dsimp only) <;> (rfl)), (by (try dsimp only) <;> (rfl))⟩
    rintro ⟨free_2, order, i⟩ ⟨ib, oi, ol, fe, fb, q, fq⟩ E hE F hF
    dsimp only at ib oi ol fe fb q fq
    conv => cbv
    refine r_lenR m.sX fun n1 hn1 mn1 => ?_
    conv => cbv
    refine r_lss m.sX (fun h1 => ?_) (fun h1 => ?_) <;> conv => cbv
    · refine .inl (r_callBO m.sX ((hasNumber_ok order i).ok flat_bool) (fun h2 => ?_) (fun h2 => ?_)) <;> conv => cbv
      · obtain ⟨x0, hx0⟩ := get_ex (xs := l) (i := i.toNat) (by omega)
        have fn : firstG free_2 order l 0 = firstG free_2 order (l.drop (i.toNat + 1)) (i + 1) := by rw [fq, firstG_drop i hx0, h2]; rfl
        refine r_addf m.sX (by omega) (by omega) fun i_2 hi_2 => ?_
        conv => cbv
        refine hE _ (free_2, order, i_2) ?_ ?_ ⟨(by (try dsimp only) <;> first | omega | rfl | (simp [*]; done) | (rw [ib]; simp [*]; done)), (by (try dsimp only) <;> (first | (rw [horder_2]; exact oi2) | exact oi)), (by (try dsimp only) <;> (first | (have z := oi2.len; rw [List.length_append] at z; simp only [List.length_cons, List.length_nil] at z; omega) | omega)), (by (try dsimp only) <;> (first | (rw [hfree_3, plusL_len]; exact fe) | exact fe)), (by (try dsimp only) <;> (first | (rw [hfree_3, lorder_2]; have z := allB_plus fb fa.2.2.1 (by omega); rw [show 2000 + 1000 * ((order.length : Int) + 1) = 2000 + 1000 * (order.length : Int) + 1000 by omega]; exact z) | exact fb)), (by (try dsimp only) <;> (first | (rw [q, os, hfree_3, horder_2]) | exact q)), (by (try dsimp only) <;> (first | rfl | (rw [show i_4.toNat = i.toNat + 1 by omega, hi_4]; exact fn) | (rw [show i_2.toNat = i.toNat + 1 by omega, hi_2]; exact fn) | (rw [show i_3.toNat = 0 by omega, show i_3 = 0 by omega]; rfl)))⟩ (by first | omega | (dsimp only; omega))
        · cbv
        · cbv
      · refine r_index m.sX (by omega) (by omega) fun v hx1A => ?_
        obtain ⟨x1A, x1B⟩ := v
        conv => cbv
        have hx1 := hx1A
        have mx1 := get_mem hx1
        have fa := forms_atW hf hx1
        try dsimp only at fa
        have fd := firstG_drop (free := free_2) (o := order) i hx1
        try dsimp only at fd
        have B1 : allB x1A 0 1000000 = true := allB_up fa.2.2.1 (by omega)
        have B2 : allB free_2 0 1000000 = true := allB_up fb (by omega)
        refine r_callB m.sX (canFinish_ok free_2 (x1A, x1B) (by first | rfl | assumption | omega | (simp only [List.length_append, List.length_cons, List.length_nil] at *; omega))) (fun h3 => ?_) (fun h3 => ?_) <;> conv => cbv
        · have fi : firstG free_2 order l 0 = i := by rw [fq, fd, h2, h3]; rfl
          have os := ordR_step oi (free := free_2) (by omega)
          try dsimp only at os
          rw [fi, heldAt_some hx1] at os
          have oi2 := oi.snoc (i := i) (by omega) h2
          try dsimp only at oi2
          refine r_index m.sX (by omega) (by omega) fun v hx2A => ?_
          obtain ⟨x2A, x2B⟩ := v
          conv => cbv
          have hx2 := hx2A
          have mx2 := get_mem hx2
          obtain ⟨rfl, rfl⟩ : x1A = x2A ∧ x1B = x2B := by have := Option.some.inj (hx1.symm.trans hx2); simpa using this
          refine r_callF (fun l => PV.isl _ (rows _ l)) m.sX ((plus_ok free_2 x1A 1 (by first | rfl | assumption | omega | (simp only [List.length_append, List.length_cons, List.length_nil] at *; omega)) (by first | rfl | assumption | omega | (simp only [List.length_append, List.length_cons, List.length_nil] at *; omega)) (by first | rfl | assumption | omega | (simp only [List.length_append, List.length_cons, List.length_nil] at *; omega)) (by first | rfl | assumption | omega | (simp only [List.length_append, List.length_cons, List.length_nil] at *; omega)) (by first | rfl | assumption | omega | (simp only [List.length_append, List.length_cons, List.length_nil] at *; omega))).ice) fun free_3 hfree_3 => ?_
          conv => cbv
          try dsimp only at hfree_3
          refine r_append1 (i) m.sX rfl (by first | omega | (dsimp only; omega)) (by first | omega | (dsimp only; omega)) fun order_2 horder_2 => ?_
          conv => cbv
          have lorder_2 : (order_2.length : Int) = order.length + 1 := by rw [horder_2]; first | done | (simp; done) | (simp; omega)
          refine r_addf m.sX (by omega) (by omega) fun i_3 hi_3 => ?_
          conv => cbv
          refine hE _ (free_3, order_2, i_3) ?_ ?_ ⟨(by (try dsimp only) <;> first | omega | rfl | (simp [*]; done) | (rw [ib]; simp [*]; done)), (by (try dsimp only) <;> (first | (rw [horder_2]; exact oi2) | exact oi)), (by (try dsimp only) <;> (first | (have z := oi2.len; rw [List.length_append] at z; simp only [List.length_cons, List.length_nil] at z; omega) | omega)), (by (try dsimp only) <;> (first | (rw [hfree_3, plusL_len]; exact fe) | exact fe)), (by (try dsimp only) <;> (first | (rw [hfree_3, lorder_2]; have z := allB_plus fb fa.2.2.1 (by omega); rw [show 2000 + 1000 * ((order.length : Int) + 1) = 2000 + 1000 * (order.length : Int) + 1000 by omega]; exact z) | exact fb)), (by (try dsimp only) <;> (first | (rw [q, os, hfree_3, horder_2]) | exact q)), (by (try dsimp only) <;> (first | rfl | (rw [show i_4.toNat = i.toNat + 1 by omega, hi_4]; exact fn) | (rw [show i_2.toNat = i.toNat + 1 by omega, hi_2]; exact fn) | (rw [show i_3.toNat = 0 by omega, show i_3 = 0 by omega]; rfl)))⟩ (by first | omega | (dsimp only; omega))
          · cbv
          · cbv
        · have fn : firstG free_2 order l 0 = firstG free_2 order (l.drop (i.toNat + 1)) (i + 1) := by rw [fq, fd, h2, h3]; rfl
          refine r_addf m.sX (by omega) (by omega) fun i_4 hi_4 => ?_
          conv => cbv
          refine hE _ (free_2, order, i_4) ?_ ?_ ⟨(by (try dsimp only) <;> first | omega | rfl | (simp [*]; done) | (rw [ib]; simp [*]; done)), (by (try dsimp only) <;> (first | (rw [horder_2]; exact oi2) | exact oi)), (by (try dsimp only) <;> (first | (have z := oi2.len; rw [List.length_append] at z; simp only [List.length_cons, List.length_nil] at z; omega) | omega)), (by (try dsimp only) <;> (first | (rw [hfree_3, plusL_len]; exact fe) | exact fe)), (by (try dsimp only) <;> (first | (rw [hfree_3, lorder_2]; have z := allB_plus fb fa.2.2.1 (by omega); rw [show 2000 + 1000 * ((order.length : Int) + 1) = 2000 + 1000 * (order.length : Int) + 1000 by omega]; exact z) | exact fb)), (by (try dsimp only) <;> (first | (rw [q, os, hfree_3, horder_2]) | exact q)), (by (try dsimp only) <;> (first | rfl | (rw [show i_4.toNat = i.toNat + 1 by omega, hi_4]; exact fn) | (rw [show i_2.toNat = i.toNat + 1 by omega, hi_2]; exact fn) | (rw [show i_3.toNat = 0 by omega, show i_3 = 0 by omega]; rfl)))⟩ (by first | omega | (dsimp only; omega))
          · cbv
          · cbv
    · refine hF _ _ ?_
      conv => cbv
      exact hQ (.fr 3 1 (rows cInt order)) (Eq.trans (by first | rfl | (simp only [giveI, Ai.unnil2, unnilI, Ai.ice, ice1, ice0, List.map_cons, List.map_nil, rows_nil]; done) | (simp only [lb,  lbI, rows_cons, rows_nil, unnilT, unnil, unnilTI, unnilI]; done) | (simp only [lb, lbI, rows_cons, rows_nil, unnilT, unnil, unnilTI, unnilI]; rfl)) (congrArg (fun l => PV.fr 3 1 (rows cInt l)) (show order = orderA free l from by rw [q, ordR_end (by rw [fq, List.drop_of_length_le (by omega), firstG]; omega)]))))   -- leaf 1

theorem isSafe_ok (free : List Int) (l : List PForm) (hf : formsW free l = true) : OkA Try.prog 23 [.isl 1 (rows cInt free), .isl 2 (rows cForm l)] (· = .bool (isSafeB free l)) :=
  fn_intro envOk fieldsOk mixed Try.func23 rfl fun κ X Y L Q m hQ => by
    conv => cbv
    refine r_callF (fun l => PV.fr _ _ (rows _ l)) m.sX (finishing_ok free l (by first | rfl | assumption | omega | (simp only [List.length_append, List.length_cons, List.length_nil] at *; omega))) fun v1 hv1 => ?_
    conv => cbv
    refine r_lenR m.sX fun n1 hn1 mn1 => ?_
    conv => cbv
    refine r_lenR m.sX fun n2 hn2 mn2 => ?_
    conv => cbv
    refine r_eql m.sX (fun h1 => ?_) (fun h1 => ?_) <;> conv => cbv
    · exact hQ _ (congrArg PV.bool (by rw [isSafeB, ← hv1, decide_eq_true (by omega)]))   -- leaf 1
    · exact hQ _ (congrArg PV.bool (by rw [isSafeB, ← hv1, decide_eq_false (by omega)]))   -- leaf 2

noncomputable def giveI (p : List Int × List PForm × Bool) : PV := .tup [.isl 1 (rows cInt p.1), .isl 2 (rows cForm p.2.1), .bool p.2.2]
theorem StuckForms_ok (free : List Int) (l : List PForm)  : OkA Try.prog 8 [.isl 1 (rows cInt free), .isl 2 (rows cForm l)] (· = (lb 3 1 cInt) (stuckA free l)) :=
  OkA.unnil 3 1 (fn_intro envOk fieldsOk mixed Try.func8 rfl fun κ X Y L Q m hQ => by
    conv => cbv
    refine r_callB m.sX (AreForms_ok free l) (fun h1 => ?_) (fun h1 => ?_) <;> conv => cbv
    · have fl0 := forms_len h1
      have fw0 := formsW_of h1
      refine r_callF (fun l => PV.fr _ _ (rows _ l)) m.sX (finishing_ok free l (by first | rfl | assumption | omega | (simp only [List.length_append, List.length_cons, List.length_nil] at *; omega))) fun order horder => ?_
      conv => cbv
      refine r_lenR m.sX fun n1 hn1 mn1 => ?_
      conv => cbv
      refine r_loopF (α := List Int × Int) m 33 [19, 20] [⟨6, 49, 3, 1, 0⟩, ⟨7, 57, 3, 1, 0⟩] (fun σ => [(6, .osl 49 0), (7, .osl 57 0), (19, .int .i64 n1), (20, .int .i64 σ.2)]) (fun σ => [(49, 0, .row 3 1 (rows cInt order)), (57, 0, .row 3 1 (rows cInt σ.1))])
        (fun σ => (0 ≤ σ.2) ∧ (σ.2 ≤ n1) ∧ (σ.1 = stuckG order σ.2.toNat) ∧ ((σ.1.length : Int) ≤ σ.2)) (fun σ => (n1 - σ.2).toNat) ([], 0) ?_ ?_ ?_ ?_
      · cbv
      · (try dsimp only); (try simp only [rows_cons, rows_nil]); cbv
      · exact ⟨(by (try dsimp only); first | omega | (simp only [List.length_nil]; omega) | (simp only [List.length_cons, List.length_nil]; omega)), (by (try dsimp only); first | omega | (simp only [List.length_nil]; omega) | (simp only [List.length_cons, List.length_nil]; omega)), (by (try dsimp only) <;> (rfl)), (by (try dsimp only) <;> first | omega | rfl | (simp [*]; done))⟩
      rintro ⟨list, i1⟩ ⟨lo1, hi1, q, ln⟩ E hE F hF
      dsimp only at lo1 hi1 q ln
      conv => cbv
      refine r_lss m.sX (fun h2 => ?_) (fun h2 => ?_) <;> conv => cbv
      · refine .inl (r_callBO m.sX ((hasNumber_ok order i1).ok flat_bool) (fun h3 => ?_) (fun h3 => ?_)) <;> conv => cbv
        · have sg := stuckG_step order i1.toNat
          refine r_addf m.sX (by omega) (by omega) fun r1 hr1 => ?_
          conv => cbv
          try have tr1 : Int.toNat r1 = Int.toNat i1 + 1 := by omega
          refine hE _ (list, r1) ?_ ?_ ⟨(by (try dsimp only); first | omega | (simp only [List.length_nil]; omega) | (simp only [List.length_cons, List.length_nil]; omega)), (by (try dsimp only); first | omega | (simp only [List.length_nil]; omega) | (simp only [List.length_cons, List.length_nil]; omega)), (by (try dsimp only) <;> (first | (rw [tr1, sg, if_pos (by rw [show ((i1.toNat : Nat) : Int) = i1 by omega]; exact h3)]; exact q) | (rw [tr1, sg, if_neg (by rw [show ((i1.toNat : Nat) : Int) = i1 by omega, h3]; simp), ← q, hlist_2, show ((i1.toNat : Nat) : Int) = i1 by omega]))), (by (try dsimp only) <;> first | omega | rfl | (simp [*]; done) | (rw [ln]; simp [*]; done))⟩ (by first | omega | (dsimp only; omega))
          · cbv
          · cbv
        · have sg := stuckG_step order i1.toNat
          refine r_append1 (i1) m.sX rfl (by first | omega | (dsimp only; omega)) (by first | omega | (dsimp only; omega)) fun list_2 hlist_2 => ?_
          conv => cbv
          have llist_2 : (list_2.length : Int) = list.length + 1 := by rw [hlist_2]; first | done | (simp; done) | (simp; omega)
          refine r_addf m.sX (by omega) (by omega) fun r2 hr2 => ?_
          conv => cbv
          try have tr2 : Int.toNat r2 = Int.toNat i1 + 1 := by omega
          refine hE _ (list_2, r2) ?_ ?_ ⟨(by (try dsimp only); first | omega | (simp only [List.length_nil]; omega) | (simp only [List.length_cons, List.length_nil]; omega)), (by (try dsimp only); first | omega | (simp only [List.length_nil]; omega) | (simp only [List.length_cons, List.length_nil]; omega)), (by (try dsimp only) <;> (first | (rw [tr2, sg, if_pos (by rw [show ((i1.toNat : Nat) : Int) = i1 by omega]; exact h3)]; exact q) | (rw [tr2, sg, if_neg (by rw [show ((i1.toNat : Nat) : Int) = i1 by omega, h3]; simp), ← q, hlist_2, show ((i1.toNat : Nat) : Int) = i1 by omega]))), (by (try dsimp only) <;> first | omega | rfl | (simp [*]; done) | (rw [ln]; simp [*]; done))⟩ (by first | omega | (dsimp only; omega))
          · cbv
          · cbv
      · have dz_i1 := drop_end (xs := l) (i := Int.toNat i1) (by omega)
        have tz_i1 := take_end (xs := l) (i := Int.toNat i1) (by omega)
        refine hF _ _ ?_
        conv => cbv
        exact hQ (.tup [.fr 3 1 (rows cInt list), .bool true]) (Eq.trans (by first | rfl | (simp only [giveI, Ai.unnil2, unnilI, Ai.ice, ice1, ice0, List.map_cons, List.map_nil, rows_nil]; done) | (simp only [lb,  lbI, rows_cons, rows_nil, unnilT, unnil, unnilTI, unnilI]; done) | (simp only [lb, lbI, rows_cons, rows_nil, unnilT, unnil, unnilTI, unnilI]; rfl)) (congrArg ((lb 3 1 cInt)) (show (list, true) = stuckA free l from by rw [stuckA, if_pos h1, q, horder, show i1.toNat = l.length by omega])))   -- leaf 1
    · exact hQ (.tup [.fr 3 1 [], .bool false]) (Eq.trans (by first | rfl | (simp only [giveI, Ai.unnil2, unnilI, Ai.ice, ice1, ice0, List.map_cons, List.map_nil, rows_nil]; done) | (simp only [lb,  lbI, rows_cons, rows_nil, unnilT, unnil, unnilTI, unnilI]; done) | (simp only [lb, lbI, rows_cons, rows_nil, unnilT, unnil, unnilTI, unnilI]; rfl)) (congrArg ((lb 3 1 cInt)) (show ([], false) = stuckA free l from by rw [stuckA, if_neg (by rw [h1]; simp)]))))   -- leaf 2

theorem CanFinish_ok (free : List Int) (l : List PForm) (i : Int)  : OkA Try.prog 18 [.isl 1 (rows cInt free), .isl 2 (rows cForm l), .int .i64 i] (· = bb (canA free l i)) :=
  fn_intro envOk fieldsOk mixed Try.func18 rfl fun κ X Y L Q m hQ => by
    conv => cbv
    refine r_callB m.sX (isForm_ok free l i) (fun h1 => ?_) (fun h1 => ?_) <;> conv => cbv
    · obtain ⟨as1, as2, as3, x0, as4, as5⟩ := askB_spec h1
      refine r_index m.sX (by omega) (by omega) fun v hx1A => ?_
      obtain ⟨x1A, x1B⟩ := v
      conv => cbv
      have hx1 := hx1A
      have mx1 := get_mem hx1
      have fa := forms_at as1 hx1
      try dsimp only at fa
      have ce : canA free l i = (canF free (x1A, x1B), true) := by rw [canA, if_pos h1, wantAt_some hx1]; rfl
      refine r_callB m.sX (canFinish_ok free (x1A, x1B) (by first | rfl | assumption | omega | (simp only [List.length_append, List.length_cons, List.length_nil] at *; omega))) (fun h2 => ?_) (fun h2 => ?_) <;> conv => cbv
      · exact hQ (.tup [.bool true, .bool true]) (Eq.trans (by first | rfl | (simp only [giveI, Ai.unnil2, unnilI, Ai.ice, ice1, ice0, List.map_cons, List.map_nil, rows_nil]; done) | (simp only [lb,  lbI, rows_cons, rows_nil, unnilT, unnil, unnilTI, unnilI]; done) | (simp only [lb, lbI, rows_cons, rows_nil, unnilT, unnil, unnilTI, unnilI]; rfl)) (congrArg (bb) (show (true, true) = canA free l i from by rw [ce, h2])))   -- leaf 1
      · exact hQ (.tup [.bool false, .bool true]) (Eq.trans (by first | rfl | (simp only [giveI, Ai.unnil2, unnilI, Ai.ice, ice1, ice0, List.map_cons, List.map_nil, rows_nil]; done) | (simp only [lb,  lbI, rows_cons, rows_nil, unnilT, unnil, unnilTI, unnilI]; done) | (simp only [lb, lbI, rows_cons, rows_nil, unnilT, unnil, unnilTI, unnilI]; rfl)) (congrArg (bb) (show (false, true) = canA free l i from by rw [ce, h2])))   -- leaf 2
    · exact hQ (.tup [.bool false, .bool false]) (Eq.trans (by first | rfl | (simp only [giveI, Ai.unnil2, unnilI, Ai.ice, ice1, ice0, List.map_cons, List.map_nil, rows_nil]; done) | (simp only [lb,  lbI, rows_cons, rows_nil, unnilT, unnil, unnilTI, unnilI]; done) | (simp only [lb, lbI, rows_cons, rows_nil, unnilT, unnil, unnilTI, unnilI]; rfl)) (congrArg (bb) (show (false, false) = canA free l i from by rw [canA, if_neg (by rw [h1]; simp)])))   -- leaf 3

theorem SafeOrder_ok (free : List Int) (l : List PForm)  : OkA Try.prog 6 [.isl 1 (rows cInt free), .isl 2 (rows cForm l)] (· = (lb 3 1 cInt) (safeOA free l)) :=
  OkA.unnil 3 1 (fn_intro envOk fieldsOk mixed Try.func6 rfl fun κ X Y L Q m hQ => by
    conv => cbv
    refine r_callB m.sX (AreForms_ok free l) (fun h1 => ?_) (fun h1 => ?_) <;> conv => cbv
    · have fw0 := formsW_of h1
      have fl0 := forms_len h1
      refine r_callB m.sX (isSafe_ok free l (by first | rfl | assumption | omega | (simp only [List.length_append, List.length_cons, List.length_nil] at *; omega))) (fun h2 => ?_) (fun h2 => ?_) <;> conv => cbv
      · refine r_callF (fun l => PV.fr _ _ (rows _ l)) m.sX (finishing_ok free l (by first | rfl | assumption | omega | (simp only [List.length_append, List.length_cons, List.length_nil] at *; omega))) fun v1 hv1 => ?_
        conv => cbv
        exact hQ (.tup [.fr 3 1 (rows cInt v1), .bool true]) (Eq.trans (by first | rfl | (simp only [giveI, Ai.unnil2, unnilI, Ai.ice, ice1, ice0, List.map_cons, List.map_nil, rows_nil]; done) | (simp only [lb,  lbI, rows_cons, rows_nil, unnilT, unnil, unnilTI, unnilI]; done) | (simp only [lb, lbI, rows_cons, rows_nil, unnilT, unnil, unnilTI, unnilI]; rfl)) (congrArg ((lb 3 1 cInt)) (show (v1, true) = safeOA free l from by rw [hv1]; exact safeOA_yes h1 (by simpa [isSafeB] using h2))))   -- leaf 1
      · exact hQ (.tup [.fr 3 1 [], .bool false]) (Eq.trans (by first | rfl | (simp only [giveI, Ai.unnil2, unnilI, Ai.ice, ice1, ice0, List.map_cons, List.map_nil, rows_nil]; done) | (simp only [lb,  lbI, rows_cons, rows_nil, unnilT, unnil, unnilTI, unnilI]; done) | (simp only [lb, lbI, rows_cons, rows_nil, unnilT, unnil, unnilTI, unnilI]; rfl)) (congrArg ((lb 3 1 cInt)) (show ([], false) = safeOA free l from by exact safeOA_no2 h2)))   -- leaf 2
    · exact hQ (.tup [.fr 3 1 [], .bool false]) (Eq.trans (by first | rfl | (simp only [giveI, Ai.unnil2, unnilI, Ai.ice, ice1, ice0, List.map_cons, List.map_nil, rows_nil]; done) | (simp only [lb,  lbI, rows_cons, rows_nil, unnilT, unnil, unnilTI, unnilI]; done) | (simp only [lb, lbI, rows_cons, rows_nil, unnilT, unnil, unnilTI, unnilI]; rfl)) (congrArg ((lb 3 1 cInt)) (show ([], false) = safeOA free l from by exact safeOA_no1 h1))))   -- leaf 3

theorem LeastCast_ok (free : List Int) (l : List PForm) (sort : Int)  : OkA Try.prog 13 [.isl 1 (rows cInt free), .isl 2 (rows cForm l), .int .i64 sort] (· = ib (leastA free l sort)) :=
  fn_intro envOk fieldsOk mixed Try.func13 rfl fun κ X Y L Q m hQ => by
    conv => cbv
    refine r_callB m.sX (AreForms_ok free l) (fun h1 => ?_) (fun h1 => ?_) <;> conv => cbv
    · have fl0 := forms_len h1
      have fs0 := formsB_spec h1
      refine r_lenR m.sX fun n1 hn1 mn1 => ?_
      conv => cbv
      refine r_subf m.sX (by omega) (by omega) fun r1 hr1 => ?_
      conv => cbv
      refine r_callB m.sX (within_ok sort 0 r1) (fun h2 => ?_) (fun h2 => ?_) <;> conv => cbv
      · have ib2 := inB_spec h2
        refine r_append0R m.sX (by first | omega | (dsimp only; omega)) (by first | omega | (dsimp only; omega)) fun more hmore => ?_
        conv => cbv
        have lmore : (more.length : Int) = free.length := by rw [hmore]; first | done | (simp; done) | (simp; omega)
        refine r_loopF (α := List Int × Int) m 39 [1, 2, 9] [⟨8, 65, 3, 1, 0⟩] (fun σ => [(1, .isl 2 (rows cForm l)), (2, .int .i64 sort), (8, .osl 65 0), (9, .int .i64 σ.2)]) (fun σ => [(65, 0, .row 3 1 (rows cInt σ.1))])
          (fun σ => (0 ≤ σ.2 ∧ σ.2 ≤ 1001) ∧ (σ.1 = castF free sort.toNat σ.2) ∧ (σ.1.length = free.length) ∧ (leastA free l sort = leastG free l sort.toNat (1001 - σ.2.toNat) σ.2)) (fun σ => (1001 - σ.2).toNat) (more, 0) ?_ ?_ ?_ ?_
        · cbv
        · cbv
        · exact ⟨(by (try dsimp only) <;> first | omega | rfl | (simp [*]; done)), (by (try dsimp only) <;> (rw [hmore, castF_zero (by omega)])), (by (try dsimp only) <;> (rw [hmore])), (by (try dsimp only) <;> (rw [leastA, if_pos (by rw [h1, ← hn1, ← hr1, h2]; rfl)]; rfl))⟩
        rintro ⟨more_2, n⟩ ⟨n0, mq, ml, q⟩ E hE F hF
        dsimp only at n0 mq ml q
        conv => cbv
        refine r_leq m.sX (fun h3 => ?_) (fun h3 => ?_) <;> conv => cbv
        · have fw : formsW more_2 l = true := by rw [mq]; exact castF_wide h1 (by omega) n0.1 h3
          have ls : leastG free l sort.toNat (1001 - n.toNat) n = if isSafeB (castF free sort.toNat n) l then (n, true) else leastG free l sort.toNat (1000 - n.toNat) (n + 1) := by rw [show 1001 - n.toNat = (1000 - n.toNat) + 1 by omega, leastG]
          rw [← mq] at ls
          refine .inl (r_callBO m.sX ((isSafe_ok more_2 l (by first | rfl | assumption | omega | (simp only [List.length_append, List.length_cons, List.length_nil] at *; omega))).ok flat_bool) (fun h4 => ?_) (fun h4 => ?_)) <;> conv => cbv
          · refine hF _ _ ?_
            conv => cbv
            exact hQ (.tup [.int .i64 n, .bool true]) (Eq.trans (by first | rfl | (simp only [giveI, Ai.unnil2, unnilI, Ai.ice, ice1, ice0, List.map_cons, List.map_nil, rows_nil]; done) | (simp only [lb,  lbI, rows_cons, rows_nil, unnilT, unnil, unnilTI, unnilI]; done) | (simp only [lb, lbI, rows_cons, rows_nil, unnilT, unnil, unnilTI, unnilI]; rfl)) (congrArg (ib) (show (n, true) = leastA free l sort from by rw [q, ls, if_pos h4])))   -- leaf 1
          · refine r_oindex m.sX (by omega) (by omega) ?_
            conv => cbv
            obtain ⟨x1, hx1⟩ := get_ex (xs := more_2) (i := Int.toNat sort) (by omega)
            have mx1 := get_mem hx1
            have vx1 := nth_some hx1
            have bx := nth_in (formsW_spec fw).2.2.1 hx1
            refine r_oload m.sX hx1 (Nat.le_of_ble_eq_true rfl) ?_
            conv => cbv
            refine r_addf m.sX (by omega) (by omega) fun r2 hr2 => ?_
            conv => cbv
            refine r_oindex m.sX (by omega) (by omega) ?_
            conv => cbv
            obtain ⟨y1, hy1⟩ := get_ex (xs := more_2) (i := Int.toNat sort) (by omega)
            refine r_ostore (l := Int.toNat sort) r2 m.sX hy1 (Nat.le_of_ble_eq_true rfl) rfl fun more_3 hmore_3 => ?_   -- more_3 = more_2.set sort r2
            have lmore_3 : (more_3.length : Int) = more_2.length := by rw [hmore_3]; first | done | (simp; done) | (simp; omega)
            conv => cbv
            refine r_addf m.sX (by omega) (by omega) fun n_2 hn_2 => ?_
            conv => cbv
            refine hE _ (more_3, n_2) ?_ ?_ ⟨(by (try dsimp only) <;> first | omega | rfl | (simp [*]; done) | (rw [n0]; simp [*]; done)), (by (try dsimp only) <;> (rw [hmore_3, hr2, hn_2, ← castF_next (by omega), ← mq, nth_some hx1])), (by (try dsimp only) <;> (rw [hmore_3, List.length_set]; exact ml)), (by (try dsimp only) <;> (rw [q, ls, if_neg (by rw [h4]; simp), hn_2, show 1001 - (n + 1).toNat = 1000 - n.toNat by omega]))⟩ (by first | omega | (dsimp only; omega))
            · cbv
            · cbv
        · refine hF _ _ ?_
          conv => cbv
          exact hQ (.tup [.int .i64 0, .bool false]) (Eq.trans (by first | rfl | (simp only [giveI, Ai.unnil2, unnilI, Ai.ice, ice1, ice0, List.map_cons, List.map_nil, rows_nil]; done) | (simp only [lb,  lbI, rows_cons, rows_nil, unnilT, unnil, unnilTI, unnilI]; done) | (simp only [lb, lbI, rows_cons, rows_nil, unnilT, unnil, unnilTI, unnilI]; rfl)) (congrArg (ib) (show (0, false) = leastA free l sort from by rw [q, show 1001 - n.toNat = 0 by omega]; rfl)))   -- leaf 2
      · exact hQ (.tup [.int .i64 0, .bool false]) (Eq.trans (by first | rfl | (simp only [giveI, Ai.unnil2, unnilI, Ai.ice, ice1, ice0, List.map_cons, List.map_nil, rows_nil]; done) | (simp only [lb,  lbI, rows_cons, rows_nil, unnilT, unnil, unnilTI, unnilI]; done) | (simp only [lb, lbI, rows_cons, rows_nil, unnilT, unnil, unnilTI, unnilI]; rfl)) (congrArg (ib) (show (0, false) = leastA free l sort from by rw [leastA, if_neg (by rw [← hn1, ← hr1, h2]; simp)])))   -- leaf 3
    · exact hQ (.tup [.int .i64 0, .bool false]) (Eq.trans (by first | rfl | (simp only [giveI, Ai.unnil2, unnilI, Ai.ice, ice1, ice0, List.map_cons, List.map_nil, rows_nil]; done) | (simp only [lb,  lbI, rows_cons, rows_nil, unnilT, unnil, unnilTI, unnilI]; done) | (simp only [lb, lbI, rows_cons, rows_nil, unnilT, unnil, unnilTI, unnilI]; rfl)) (congrArg (ib) (show (0, false) = leastA free l sort from by rw [leastA, if_neg (by rw [h1]; simp)])))   -- leaf 4

end Go.Proofs.Ytbamclepgabciaa.Ai
