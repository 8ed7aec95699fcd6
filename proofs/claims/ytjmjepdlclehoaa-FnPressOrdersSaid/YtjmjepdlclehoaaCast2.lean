/- Contracts of the functions on castings: what is asked, orders, answers. -/
import Derived.Test.YtjmjepdlclehoaaCast
import Derived.Test.YtjmjepdlclehoaaCommon
namespace Go.Proofs.Ytjmjepdlclehoaa.Ai
open Go Go.RowKit Go.Proofs
set_option linter.unusedSimpArgs false
set_option maxRecDepth 10000
set_option maxHeartbeats 4000000
set_option linter.unusedVariables false
section
variable {P : Program} {X : Req → (PV → Prop) → Prop} {K : PV → Prop} {t kt et : Nat} {n : Int}
theorem r_mput (h : Std P false X) {l : List Int} (hu : P.underlying t = some (.map kt et)) (hk : P.underlying kt = some (.int .i64)) (H : ∀ z, z = putM l n → K (.isl 1 (rows cInt z))) : X (.mput t (rows cInt l) n) K := by
  rw [h.eq]
  refine ⟨⟨kt, et, hu, hk⟩, l, rows_eq _ _, ?_⟩
  have := H _ rfl
  rw [rows_eq] at this
  exact this
theorem r_mput0 (h : Std P false X) (hu : P.underlying t = some (.map kt et)) (hk : P.underlying kt = some (.int .i64)) (H : ∀ z, z = [n] → K (.isl 1 (rows cInt z))) : X (.mput t [] n) K := by
  rw [h.eq]
  refine ⟨⟨kt, et, hu, hk⟩, [], rfl, ?_⟩
  have := H [n] rfl
  rw [rows_eq] at this
  exact this
theorem r_mget (h : Std P false X) {l : List Int} (hu : P.underlying t = some (.map kt et)) (hk : P.underlying kt = some (.int .i64)) (he : P.underlying et = some .bool) (hz : ∀ w, (zeroValue et).run P w = .ok (.bool false) w)
    (H1 : n ∈ l → K (.bool true)) (H2 : n ∉ l → K (.bool false)) : X (.mget t (rows cInt l) n) K := by
  rw [h.eq]
  refine ⟨⟨kt, et, hu, hk, he, hz⟩, l, rows_eq _ _, ?_⟩
  by_cases e : n ∈ l
  · rw [decide_eq_true e]; exact H1 e
  · rw [decide_eq_false e]; exact H2 e
end
theorem hasNumber_ok (l : List Int) (n : Int)  : OkA Try.prog 136 [.isl 1 (rows cInt l), .int .i64 n] (· = .bool (decide (n ∈ l))) :=
  fn_intro envOk fieldsOk mixed Try.func136 rfl fun κ X Y L Q m hQ => by
    conv => cbv
    refine r_lenR m.sX fun n1 hn1 mn1 => ?_
    conv => cbv
    refine r_loopF (α := Int) m 17 [1, 7, 8, 9] [] (fun σ => [(1, .int .i64 n), (7, .isl 1 (rows cInt l)), (8, .int .i64 n1), (9, .int .i64 σ)]) (fun σ => [])
      (fun σ => (0 ≤ σ) ∧ (σ ≤ n1) ∧ (decide (n ∈ l) = decide (n ∈ l.drop σ.toNat))) (fun σ => (n1 - σ).toNat) 0 ?_ ?_ ?_ ?_
    · cbv
    · cbv
    · exact ⟨(by (try dsimp only); first | omega | (simp only [List.length_nil]; omega) | (simp only [List.length_cons, List.length_nil]; omega)), (by (try dsimp only); first | omega | (simp only [List.length_nil]; omega) | (simp only [List.length_cons, List.length_nil]; omega)), (by (try dsimp only) <;> first | omega | rfl | (simp [*]; done))⟩
    rintro i1 ⟨lo1, hi1, q⟩ E hE F hF
    conv => cbv
    refine r_lss m.sX (fun h1 => ?_) (fun h1 => ?_) <;> conv => cbv
    · refine r_index m.sX (by omega) (by omega) fun x hx => ?_
      conv => cbv
      have mx := get_mem hx
      have dx := drop_cons hx
      have kx := take_snoc hx
      have jx : (i1 + 1).toNat = Int.toNat i1 + 1 := by omega
      have vx := nth_some hx
      refine r_eql m.sX (fun h2 => ?_) (fun h2 => ?_) <;> conv => cbv
      · refine hF _ _ ?_
        conv => cbv
        exact hQ _ (congrArg PV.bool (by rw [q]; simp [*]))   -- leaf 1
      · refine r_addf m.sX (by omega) (by omega) fun r1 hr1 => ?_
        conv => cbv
        try have tr1 : Int.toNat r1 = Int.toNat i1 + 1 := by omega
        refine hE _ r1 ?_ ?_ ⟨(by (try dsimp only); first | omega | (simp only [List.length_nil]; omega) | (simp only [List.length_cons, List.length_nil]; omega)), (by (try dsimp only); first | omega | (simp only [List.length_nil]; omega) | (simp only [List.length_cons, List.length_nil]; omega)), (by (try dsimp only) <;> (rw [q, dx, tr1]; simp [Ne.symm h2]))⟩ (by first | omega | (dsimp only; omega))
        · cbv
        · cbv
    · have dz_i1 := drop_end (xs := l) (i := Int.toNat i1) (by omega)
      have tz_i1 := take_end (xs := l) (i := Int.toNat i1) (by omega)
      refine hF _ _ ?_
      conv => cbv
      exact hQ _ (congrArg PV.bool (by rw [q]; simp [*]))   -- leaf 2

theorem putM_mem {l : List Int} {n x : Int} : x ∈ putM l n ↔ x ∈ l ∨ x = n := by
  unfold putM
  split
  · rename_i h
    constructor
    · exact .inl
    · rintro (h2 | rfl)
      · exact h2
      · simpa using h
  · simp
theorem isDifferent_ok (l : List Int) (n : Int) (hn : 0 ≤ n ∧ n ≤ 1000000) : OkA Try.prog 135 [.isl 1 (rows cInt l), .int .i64 n] (· = .bool (fineB n l)) :=
  fn_intro envOk fieldsOk mixed Try.func135 rfl fun κ X Y L Q m hQ => by
    conv => cbv
    refine r_lenR m.sX fun n1 hn1 mn1 => ?_
    conv => cbv
    refine r_loopF (α := List Int × Int) m 28 [1, 9, 10, 11] [⟨5, 41, 3, 1, 0⟩] (fun σ => [(1, .int .i64 n), (5, .osl 41 0), (9, .isl 1 (rows cInt l)), (10, .int .i64 n1), (11, .int .i64 σ.2)]) (fun σ => [(41, 0, .map (rows cInt σ.1))])
      (fun σ => (0 ≤ σ.2) ∧ (σ.2 ≤ n1) ∧ (∀ x, x ∈ σ.1 ↔ x ∈ l.take σ.2.toNat) ∧ (fineB n (l.take σ.2.toNat) = true)) (fun σ => (n1 - σ.2).toNat) ([], 0) ?_ ?_ ?_ ?_
    · cbv
    · (try dsimp only); (try simp only [rows_cons, rows_nil]); cbv
    · exact ⟨(by (try dsimp only); first | omega | (simp only [List.length_nil]; omega) | (simp only [List.length_cons, List.length_nil]; omega)), (by (try dsimp only); first | omega | (simp only [List.length_nil]; omega) | (simp only [List.length_cons, List.length_nil]; omega)), (by (try dsimp only) <;> (simp)), (by (try dsimp only) <;> (rfl))⟩
    rintro ⟨seen, i1⟩ ⟨lo1, hi1, s, q⟩ E hE F hF
    dsimp only at lo1 hi1 s q
    conv => cbv
    refine r_lss m.sX (fun h1 => ?_) (fun h1 => ?_) <;> conv => cbv
    · refine r_index m.sX (by omega) (by omega) fun i hi => ?_
      conv => cbv
      have mi := get_mem hi
      have di := drop_cons hi
      have ki := take_snoc hi
      have ji : (i1 + 1).toNat = Int.toNat i1 + 1 := by omega
      have vi := nth_some hi
      refine r_subf m.sX (by omega) (by omega) fun r1 hr1 => ?_
      conv => cbv
      refine r_callB m.sX (within_ok i 0 r1) (fun h2 => ?_) (fun h2 => ?_) <;> conv => cbv
      · refine r_mget (l := seen) m.sX rfl rfl rfl (fun w => by kernel_rfl) (fun h3 => ?_) (fun h3 => ?_) <;> conv => cbv   -- i among seen
        · refine hF _ _ ?_
          conv => cbv
          exact hQ _ (congrArg PV.bool (by rw [fine_bad hi (fun hh => hh.2 ((s i).1 h3))]))   -- leaf 1
        · refine r_mput (l := seen) m.sX rfl rfl fun ks1 hks1 => ?_   -- ks1: the key i into seen
          conv => cbv
          refine r_addf m.sX (by omega) (by omega) fun r2 hr2 => ?_
          conv => cbv
          try have tr2 : Int.toNat r2 = Int.toNat i1 + 1 := by omega
          refine hE _ (ks1, r2) ?_ ?_ ⟨(by (try dsimp only); first | omega | (simp only [List.length_nil]; omega) | (simp only [List.length_cons, List.length_nil]; omega)), (by (try dsimp only); first | omega | (simp only [List.length_nil]; omega) | (simp only [List.length_cons, List.length_nil]; omega)), (by (try dsimp only) <;> (intro x; rw [hks1, tr2, ki, putM_mem, s]; simp)), (by (try dsimp only) <;> (have hb := inB_spec h2; rw [tr2]; exact (fine_next hi).2 ⟨q, ⟨by omega, by omega⟩, fun hh => h3 ((s i).2 hh)⟩))⟩ (by first | omega | (dsimp only; omega))
          · cbv
          · cbv
      · refine hF _ _ ?_
        conv => cbv
        exact hQ _ (congrArg PV.bool (by rw [fine_bad hi (fun hh => by have h4 : inB i 0 r1 = true := inB_of (by omega); rw [h2] at h4; cases h4)]))   -- leaf 2
    · have dz_i1 := drop_end (xs := l) (i := Int.toNat i1) (by omega)
      have tz_i1 := take_end (xs := l) (i := Int.toNat i1) (by omega)
      refine hF _ _ ?_
      conv => cbv
      exact hQ _ (congrArg PV.bool (by rw [tz_i1] at q; rw [q]))   -- leaf 3

theorem isCastOrder_ok (m_ : CMach) (l : List Casting) (order : List Int)  : OkA Try.prog 72 [.agg (cMachine m_), .isl 2 (rows cCasting l), .isl 1 (rows cInt order)] (· = .bool (okM m_ && okCs l && fineB l.length order)) := by
  obtain ⟨m_A, m_B, m_C⟩ := m_
  try dsimp only at *
  exact fn_intro envOk fieldsOk mixed Try.func72 rfl fun κ X Y L Q m hQ => by
    conv => cbv
    refine r_callB m.sX (IsMachine_ok (m_A, m_B, m_C)) (fun h1 => ?_) (fun h1 => ?_) <;> conv => cbv
    · refine r_callB m.sX (AreCastings_ok l) (fun h2 => ?_) (fun h2 => ?_) <;> conv => cbv
      · have ll := okCs_len h2
        try dsimp only at ll
        refine r_lenR m.sX fun n1 hn1 mn1 => ?_
        conv => cbv
        refine r_callB m.sX (isDifferent_ok order n1 (by first | rfl | assumption | omega | (simp only [List.length_append, List.length_cons, List.length_nil] at *; omega))) (fun h3 => ?_) (fun h3 => ?_) <;> conv => cbv
        · exact hQ _ (congrArg PV.bool (by first | (subst hn1; simp [*]; done) | (simp [*]; done)))   -- leaf 1
        · exact hQ _ (congrArg PV.bool (by first | (subst hn1; simp [*]; done) | (simp [*]; done)))   -- leaf 2
      · exact hQ _ (congrArg PV.bool (by first | (subst hn1; simp [*]; done) | (simp [*]; done)))   -- leaf 3
    · exact hQ _ (congrArg PV.bool (by first | (subst hn1; simp [*]; done) | (simp [*]; done)))   -- leaf 4

theorem OrderTime_ok (m_ : CMach) (l : List Casting) (order : List Int)  : OkA Try.prog 12 [.agg (cMachine m_), .isl 2 (rows cCasting l), .isl 1 (rows cInt order)] (· = ib (if okM m_ && okCs l && fineB l.length order then (timeF m_ l order, true) else (0, false))) := by
  obtain ⟨m_A, m_B, m_C⟩ := m_
  try dsimp only at *
  exact fn_intro envOk fieldsOk mixed Try.func12 rfl fun κ X Y L Q m hQ => by
    conv => cbv
    refine r_callB m.sX (isCastOrder_ok (m_A, m_B, m_C) l order) (fun h1 => ?_) (fun h1 => ?_) <;> conv => cbv
    · obtain ⟨⟨g1, g2⟩, g3⟩ : (okM (m_A, m_B, m_C) = true ∧ okCs l = true) ∧ fineB l.length order = true := by simpa only [Bool.and_eq_true] using h1
      refine r_callF (PV.int .i64) m.sX (time_ok (m_A, m_B, m_C) l order (by first | rfl | assumption | omega | (simp only [List.length_append, List.length_cons, List.length_nil] at *; omega)) (by first | rfl | assumption | omega | (simp only [List.length_append, List.length_cons, List.length_nil] at *; omega)) (by first | rfl | assumption | omega | (simp only [List.length_append, List.length_cons, List.length_nil] at *; omega))) fun r1 hr1 => ?_
      conv => cbv
      try dsimp only at hr1
      exact hQ (.tup [.int .i64 r1, .bool true]) (Eq.trans (by first | rfl | (simp only [lb, lbI, rows_cons, rows_nil, unnilT, unnil, unnilTI, unnilI]; done) | (simp only [lb, lbI, rows_cons, rows_nil, unnilT, unnil, unnilTI, unnilI]; rfl)) (congrArg (ib) (show (r1, true) = if okM (m_A, m_B, m_C) && okCs l && fineB l.length order then (timeF (m_A, m_B, m_C) l order, true) else (0, false) from by simp [*])))   -- leaf 1
    · exact hQ (.tup [.int .i64 0, .bool false]) (Eq.trans (by first | rfl | (simp only [lb, lbI, rows_cons, rows_nil, unnilT, unnil, unnilTI, unnilI]; done) | (simp only [lb, lbI, rows_cons, rows_nil, unnilT, unnil, unnilTI, unnilI]; rfl)) (congrArg (ib) (show (0, false) = if okM (m_A, m_B, m_C) && okCs l && fineB l.length order then (timeF (m_A, m_B, m_C) l order, true) else (0, false) from by simp [*])))   -- leaf 2

end Go.Proofs.Ytjmjepdlclehoaa.Ai
