/- Contracts of what is asked of castings: orders, ends, changes, what is done. -/
import Derived.Test.YtjmjepdlclehoaaCast2
import Derived.Test.YtjmjepdlclehoaaThaw
namespace Go.Proofs.Ytjmjepdlclehoaa.Ai
open Go Go.Proofs
set_option linter.unusedSimpArgs false
set_option maxRecDepth 10000
set_option maxHeartbeats 4000000
set_option linter.unusedVariables false
theorem nodup_next {o : List Int} {k : Nat} {x : Int} (hx : o[k]? = some x) (h : (o.take k).Nodup) (hn : x ∉ o.take k) : (o.take (k + 1)).Nodup := by
  rw [List.take_add_one, hx, List.nodup_append]
  exact ⟨h, by simp, fun a ha b hb e => by simp at hb; subst hb; subst e; exact hn ha⟩
theorem nodup_bad {o : List Int} {k : Nat} {x : Int} (hx : o[k]? = some x) (hn : x ∈ o.take k) : ¬ o.Nodup := fun h => by
  have h2 : (o.take (k + 1)).Nodup := h.sublist (List.take_sublist _ _)
  rw [List.take_add_one, hx, List.nodup_append] at h2
  exact h2.2.2 x hn x (by simp) rfl
def askB (m : CMach) (l : List Casting) (o : List Int) : Bool := okM m && okCs l && fineB l.length o
theorem askB_spec {m : CMach} {l : List Casting} {o : List Int} (h : askB m l o = true) : okM m = true ∧ okCs l = true ∧ fineB l.length o = true := by
  simp only [askB, Bool.and_eq_true] at h
  exact ⟨h.1.1, h.1.2, h.2⟩
theorem ends_bound {m : CMach} {l : List Casting} (hm : okM m = true) (hl : okCs l = true) : ∀ (o : List Int) (b t : Int), 0 ≤ t → (∀ x ∈ o, 0 ≤ x ∧ x < l.length) → ∀ e ∈ endsG m l b t o, t ≤ e ∧ e ≤ t + 7000000 * o.length
  | [], _, _, _, _, e, he => by cases he
  | i :: r, b, t, ht, ho, e, he => by
    have hi := ho i (by simp)
    obtain ⟨x, hx⟩ : ∃ x, l[i.toNat]? = some x := ⟨_, List.getElem?_eq_getElem (by omega)⟩
    have h1 := timeC_bound hm (okCs_mem hl (List.mem_of_getElem? hx))
    have h2 := okM_spec hm
    have h3 : t ≤ stepT m l b t i ∧ stepT m l b t i ≤ t + 7000000 := by
      unfold stepT; rw [castAt_some hx]; split <;> omega
    rw [endsG] at he
    simp only [List.length_cons]
    rcases List.mem_cons.1 he with rfl | he
    · omega
    · have h4 := ends_bound hm hl r _ _ (show 0 ≤ stepT m l b t i by omega) (fun x hx => ho x (by simp [hx])) e he
      omega
theorem ends_fits {m : CMach} {l : List Casting} {o : List Int} (h : askB m l o = true) : SumFits (endsG m l m.1 0 o) ∧ (∀ e ∈ endsG m l m.1 0 o, 0 ≤ e ∧ e ≤ 56000000) ∧ o.length ≤ 8 := by
  obtain ⟨h1, h2, h3⟩ := askB_spec h
  have h4 := okCs_len h2
  have h5 := diff_len _ _ (fineB_diff.1 h3)
  have h6 := ends_bound h1 h2 o m.1 0 (Int.le_refl _) (fineB_iff.1 h3).2
  refine ⟨sumfits_of 56000000 (fun e he => by have := h6 e he; omega) (by rw [endsG_length]; omega), fun e he => by have := h6 e he; omega, by omega⟩
def doneN (ends : List Int) (minutes : Int) : Int := ((ends.filter fun e => decide (e ≤ minutes)).length : Int)
theorem doneN_snoc (a : List Int) (e minutes : Int) : doneN (a ++ [e]) minutes = doneN a minutes + if e ≤ minutes then 1 else 0 := by
  unfold doneN
  rw [List.filter_append, List.length_append]
  by_cases h : e ≤ minutes <;> simp [h]
def timeAns (m : CMach) (l : List Casting) (o : List Int) : Int × Bool := if askB m l o then (timeF m l o, true) else (0, false)
def chgAns (m : CMach) (l : List Casting) (o : List Int) : Int × Bool := if askB m l o then (chgG l m.1 o, true) else (0, false)
def endsAns (m : CMach) (l : List Casting) (o : List Int) : List Int × Bool := if askB m l o then (endsG m l m.1 0 o, true) else ([], false)
def doneAns (m : CMach) (l : List Casting) (o : List Int) (minutes : Int) : Int × Bool := if askB m l o && inB minutes 0 100000 then (doneN (endsG m l m.1 0 o) minutes, true) else (0, false)
def meanAns (m : CMach) (l : List Casting) (o : List Int) : Int × Int × Bool := if askB m l o && decide (o ≠ []) then ((endsG m l m.1 0 o).sum, o.length, true) else (0, 0, false)
theorem csAsked_ok (m_ : CMach) (l : List Casting) (order : List Int)  : OkA Try.prog 86 [.agg (cMachine m_), .isl 2 (rows cCasting l), .isl 1 (rows cInt order)] (· = .bool (askB m_ l order)) := by
  obtain ⟨m_A, m_B, m_C⟩ := m_
  try dsimp only at *
  exact fn_intro envOk fieldsOk mixed Try.func86 rfl fun κ X Y L Q m hQ => by
    conv => cbv
    refine r_callB m.sX (csMachine_ok (m_A, m_B, m_C)) (fun h1 => ?_) (fun h1 => ?_) <;> conv => cbv
    · refine r_callB m.sX (csGood_ok l) (fun h2 => ?_) (fun h2 => ?_) <;> conv => cbv
      · refine r_lenR m.sX fun n1 hn1 mn1 => ?_
        conv => cbv
        refine r_subf m.sX (by omega) (by omega) fun r1 hr1 => ?_
        conv => cbv
        refine r_callB m.sX (l1All_ok order 0 r1) (fun h3 => ?_) (fun h3 => ?_) <;> conv => cbv
        · have e3 : allB order 0 ((l.length : Int) - 1) = true := by rw [← hn1, ← hr1]; exact h3
          refine r_lenR m.sX fun n2 hn2 mn2 => ?_
          conv => cbv
          refine r_loopF (α := Int) m 38 [2, 25, 26, 27] [] (fun σ => [(2, .isl 1 (rows cInt order)), (25, .isl 1 (rows cInt order)), (26, .int .i64 n2), (27, .int .i64 σ)]) (fun σ => [])
            (fun σ => (0 ≤ σ) ∧ (σ ≤ n2) ∧ ((order.take σ.toNat).Nodup)) (fun σ => (n2 - σ).toNat) 0 ?_ ?_ ?_ ?_
          · cbv
          · cbv
          · exact ⟨(by (try dsimp only); first | omega | (simp only [List.length_nil]; omega) | (simp only [List.length_cons, List.length_nil]; omega)), (by (try dsimp only); first | omega | (simp only [List.length_nil]; omega) | (simp only [List.length_cons, List.length_nil]; omega)), (by (try dsimp only) <;> (simp))⟩
          rintro i1 ⟨lo1, hi1, q⟩ E hE F hF
          conv => cbv
          refine r_lss m.sX (fun h4 => ?_) (fun h4 => ?_) <;> conv => cbv
          · refine r_index m.sX (by omega) (by omega) fun i hi => ?_
            conv => cbv
            have mi := get_mem hi
            have di := drop_cons hi
            have ki := take_snoc hi
            have ji : (i1 + 1).toNat = Int.toNat i1 + 1 := by omega
            have vi := nth_some hi
            refine r_islice (i := 0) (j := i1) m.sX (by omega) (by omega) (by omega) fun zs1 hzs1 => ?_   -- zs1 = order[None:i1]
            have lzs1 : (zs1.length : Int) = i1 - 0 := by rw [hzs1]; first | done | (simp; done) | (simp; omega)
            have zq : zs1 = order.take i1.toNat := by rw [hzs1]; simp
            conv => cbv
            refine r_callB m.sX (l1Has_ok zs1 i) (fun h5 => ?_) (fun h5 => ?_) <;> conv => cbv
            · refine hF _ _ ?_
              conv => cbv
              exact hQ _ (congrArg PV.bool (by rw [askB, fineB, decide_eq_false (nodup_bad hi (by rw [← zq]; exact of_decide_eq_true h5))]; simp))   -- leaf 1
            · refine r_addf m.sX (by omega) (by omega) fun r2 hr2 => ?_
              conv => cbv
              try have tr2 : Int.toNat r2 = Int.toNat i1 + 1 := by omega
              refine hE _ r2 ?_ ?_ ⟨(by (try dsimp only); first | omega | (simp only [List.length_nil]; omega) | (simp only [List.length_cons, List.length_nil]; omega)), (by (try dsimp only); first | omega | (simp only [List.length_nil]; omega) | (simp only [List.length_cons, List.length_nil]; omega)), (by (try dsimp only) <;> (rw [tr2]; exact nodup_next hi q (by rw [← zq]; exact of_decide_eq_false h5)))⟩ (by first | omega | (dsimp only; omega))
              · cbv
              · cbv
          · have dz_i1 := drop_end (xs := order) (i := Int.toNat i1) (by omega)
            have tz_i1 := take_end (xs := order) (i := Int.toNat i1) (by omega)
            refine hF _ _ ?_
            conv => cbv
            exact hQ _ (congrArg PV.bool (by rw [tz_i1] at q; rw [askB, fineB, decide_eq_true q]; simp [*]))   -- leaf 2
        · have e3 : allB order 0 ((l.length : Int) - 1) = false := by rw [← hn1, ← hr1]; exact h3
          exact hQ _ (congrArg PV.bool (by simp [askB, fineB, *]))   -- leaf 3
      · exact hQ _ (congrArg PV.bool (by simp [askB, fineB, *]))   -- leaf 4
    · exact hQ _ (congrArg PV.bool (by simp [askB, fineB, *]))   -- leaf 5

theorem specOrderTime_ok (m_ : CMach) (l : List Casting) (order : List Int)  : OkA Try.prog 21 [.agg (cMachine m_), .isl 2 (rows cCasting l), .isl 1 (rows cInt order)] (· = ib (timeAns m_ l order)) := by
  obtain ⟨m_A, m_B, m_C⟩ := m_
  try dsimp only at *
  exact fn_intro envOk fieldsOk mixed Try.func21 rfl fun κ X Y L Q m hQ => by
    conv => cbv
    refine r_callB m.sX (csAsked_ok (m_A, m_B, m_C) l order) (fun h1 => ?_) (fun h1 => ?_) <;> conv => cbv
    · obtain ⟨g1, g2, g3⟩ := askB_spec h1
      refine r_callF (PV.int .i64) m.sX (csLast_ok (m_A, m_B, m_C) l order (by first | rfl | assumption | omega | (simp only [List.length_append, List.length_cons, List.length_nil] at *; omega)) (by first | rfl | assumption | omega | (simp only [List.length_append, List.length_cons, List.length_nil] at *; omega)) (by first | rfl | assumption | omega | (simp only [List.length_append, List.length_cons, List.length_nil] at *; omega))) fun r1 hr1 => ?_
      conv => cbv
      try dsimp only at hr1
      exact hQ (.tup [.int .i64 r1, .bool true]) (Eq.trans (by first | rfl | (simp only [lb, lbI, rows_cons, rows_nil, unnilT, unnil, unnilTI, unnilI]; done) | (simp only [lb, lbI, rows_cons, rows_nil, unnilT, unnil, unnilTI, unnilI]; rfl)) (congrArg (ib) (show (r1, true) = timeAns (m_A, m_B, m_C) l order from by simp [timeAns, *])))   -- leaf 1
    · exact hQ (.tup [.int .i64 0, .bool false]) (Eq.trans (by first | rfl | (simp only [lb, lbI, rows_cons, rows_nil, unnilT, unnil, unnilTI, unnilI]; done) | (simp only [lb, lbI, rows_cons, rows_nil, unnilT, unnil, unnilTI, unnilI]; rfl)) (congrArg (ib) (show (0, false) = timeAns (m_A, m_B, m_C) l order from by simp [timeAns, *])))   -- leaf 2

theorem ChangesIn_ok (m_ : CMach) (l : List Casting) (order : List Int)  : OkA Try.prog 24 [.agg (cMachine m_), .isl 2 (rows cCasting l), .isl 1 (rows cInt order)] (· = ib (chgAns m_ l order)) := by
  obtain ⟨m_A, m_B, m_C⟩ := m_
  try dsimp only at *
  exact fn_intro envOk fieldsOk mixed Try.func24 rfl fun κ X Y L Q m hQ => by
    conv => cbv
    refine r_callB m.sX (isCastOrder_ok (m_A, m_B, m_C) l order) (fun h1 => ?_) (fun h1 => ?_) <;> conv => cbv
    · obtain ⟨⟨g1, g2⟩, g3⟩ : (okM (m_A, m_B, m_C) = true ∧ okCs l = true) ∧ fineB l.length order = true := by simpa only [Bool.and_eq_true] using h1
      refine r_callF (li 3 1 cInt) m.sX (ends_ok (m_A, m_B, m_C) l order (by first | rfl | assumption | omega | (simp only [List.length_append, List.length_cons, List.length_nil] at *; omega)) (by first | rfl | assumption | omega | (simp only [List.length_append, List.length_cons, List.length_nil] at *; omega)) (by first | rfl | assumption | omega | (simp only [List.length_append, List.length_cons, List.length_nil] at *; omega))) fun v hv1 => ?_
      obtain ⟨v1, changes⟩ := v
      conv => cbv
      try dsimp only at hv1
      have el := (Prod.mk.inj hv1).2
      try dsimp only at el
      exact hQ (.tup [.int .i64 changes, .bool true]) (Eq.trans (by first | rfl | (simp only [lb, lbI, rows_cons, rows_nil, unnilT, unnil, unnilTI, unnilI]; done) | (simp only [lb, lbI, rows_cons, rows_nil, unnilT, unnil, unnilTI, unnilI]; rfl)) (congrArg (ib) (show (changes, true) = chgAns (m_A, m_B, m_C) l order from by simp [chgAns, askB, *])))   -- leaf 1
    · exact hQ (.tup [.int .i64 0, .bool false]) (Eq.trans (by first | rfl | (simp only [lb, lbI, rows_cons, rows_nil, unnilT, unnil, unnilTI, unnilI]; done) | (simp only [lb, lbI, rows_cons, rows_nil, unnilT, unnil, unnilTI, unnilI]; rfl)) (congrArg (ib) (show (0, false) = chgAns (m_A, m_B, m_C) l order from by simp [chgAns, askB, *])))   -- leaf 2

theorem specChangesIn_ok (m_ : CMach) (l : List Casting) (order : List Int)  : OkA Try.prog 25 [.agg (cMachine m_), .isl 2 (rows cCasting l), .isl 1 (rows cInt order)] (· = ib (chgAns m_ l order)) := by
  obtain ⟨m_A, m_B, m_C⟩ := m_
  try dsimp only at *
  exact fn_intro envOk fieldsOk mixed Try.func25 rfl fun κ X Y L Q m hQ => by
    conv => cbv
    refine r_callB m.sX (csAsked_ok (m_A, m_B, m_C) l order) (fun h1 => ?_) (fun h1 => ?_) <;> conv => cbv
    · obtain ⟨g1, g2, g3⟩ := askB_spec h1
      refine r_callF (li 3 1 cInt) m.sX (csEnds_ok (m_A, m_B, m_C) l order (by first | rfl | assumption | omega | (simp only [List.length_append, List.length_cons, List.length_nil] at *; omega)) (by first | rfl | assumption | omega | (simp only [List.length_append, List.length_cons, List.length_nil] at *; omega)) (by first | rfl | assumption | omega | (simp only [List.length_append, List.length_cons, List.length_nil] at *; omega))) fun v hv1 => ?_
      obtain ⟨v1, changes⟩ := v
      conv => cbv
      try dsimp only at hv1
      have el := (Prod.mk.inj hv1).2
      try dsimp only at el
      exact hQ (.tup [.int .i64 changes, .bool true]) (Eq.trans (by first | rfl | (simp only [lb, lbI, rows_cons, rows_nil, unnilT, unnil, unnilTI, unnilI]; done) | (simp only [lb, lbI, rows_cons, rows_nil, unnilT, unnil, unnilTI, unnilI]; rfl)) (congrArg (ib) (show (changes, true) = chgAns (m_A, m_B, m_C) l order from by simp [chgAns, *])))   -- leaf 1
    · exact hQ (.tup [.int .i64 0, .bool false]) (Eq.trans (by first | rfl | (simp only [lb, lbI, rows_cons, rows_nil, unnilT, unnil, unnilTI, unnilI]; done) | (simp only [lb, lbI, rows_cons, rows_nil, unnilT, unnil, unnilTI, unnilI]; rfl)) (congrArg (ib) (show (0, false) = chgAns (m_A, m_B, m_C) l order from by simp [chgAns, *])))   -- leaf 2

theorem EndsOf_ok (m_ : CMach) (l : List Casting) (order : List Int)  : OkA Try.prog 22 [.agg (cMachine m_), .isl 2 (rows cCasting l), .isl 1 (rows cInt order)] (· = (lb 3 1 cInt) (endsAns m_ l order)) := by
  obtain ⟨m_A, m_B, m_C⟩ := m_
  try dsimp only at *
  exact OkA.unnil 3 1 (fn_intro envOk fieldsOk mixed Try.func22 rfl fun κ X Y L Q m hQ => by
    conv => cbv
    refine r_callB m.sX (isCastOrder_ok (m_A, m_B, m_C) l order) (fun h1 => ?_) (fun h1 => ?_) <;> conv => cbv
    · obtain ⟨⟨g1, g2⟩, g3⟩ : (okM (m_A, m_B, m_C) = true ∧ okCs l = true) ∧ fineB l.length order = true := by simpa only [Bool.and_eq_true] using h1
      refine r_callF (li 3 1 cInt) m.sX (ends_ok (m_A, m_B, m_C) l order (by first | rfl | assumption | omega | (simp only [List.length_append, List.length_cons, List.length_nil] at *; omega)) (by first | rfl | assumption | omega | (simp only [List.length_append, List.length_cons, List.length_nil] at *; omega)) (by first | rfl | assumption | omega | (simp only [List.length_append, List.length_cons, List.length_nil] at *; omega))) fun v hlist => ?_
      obtain ⟨list, v1⟩ := v
      conv => cbv
      try dsimp only at hlist
      have el := (Prod.mk.inj hlist).1
      try dsimp only at el
      exact hQ (.tup [.fr 3 1 (rows cInt list), .bool true]) (Eq.trans (by first | rfl | (simp only [lb, lbI, rows_cons, rows_nil, unnilT, unnil, unnilTI, unnilI]; done) | (simp only [lb, lbI, rows_cons, rows_nil, unnilT, unnil, unnilTI, unnilI]; rfl)) (congrArg ((lb 3 1 cInt)) (show (list, true) = endsAns (m_A, m_B, m_C) l order from by simp [endsAns, askB, *])))   -- leaf 1
    · exact hQ (.tup [.fr 3 1 [], .bool false]) (Eq.trans (by first | rfl | (simp only [lb, lbI, rows_cons, rows_nil, unnilT, unnil, unnilTI, unnilI]; done) | (simp only [lb, lbI, rows_cons, rows_nil, unnilT, unnil, unnilTI, unnilI]; rfl)) (congrArg ((lb 3 1 cInt)) (show ([], false) = endsAns (m_A, m_B, m_C) l order from by simp [endsAns, askB, *]))))   -- leaf 2

theorem specEndsOf_ok (m_ : CMach) (l : List Casting) (order : List Int)  : OkA Try.prog 23 [.agg (cMachine m_), .isl 2 (rows cCasting l), .isl 1 (rows cInt order)] (· = (lb 3 1 cInt) (endsAns m_ l order)) := by
  obtain ⟨m_A, m_B, m_C⟩ := m_
  try dsimp only at *
  exact OkA.unnil 3 1 (fn_intro envOk fieldsOk mixed Try.func23 rfl fun κ X Y L Q m hQ => by
    conv => cbv
    refine r_callB m.sX (csAsked_ok (m_A, m_B, m_C) l order) (fun h1 => ?_) (fun h1 => ?_) <;> conv => cbv
    · obtain ⟨g1, g2, g3⟩ := askB_spec h1
      refine r_callF (li 3 1 cInt) m.sX (csEnds_ok (m_A, m_B, m_C) l order (by first | rfl | assumption | omega | (simp only [List.length_append, List.length_cons, List.length_nil] at *; omega)) (by first | rfl | assumption | omega | (simp only [List.length_append, List.length_cons, List.length_nil] at *; omega)) (by first | rfl | assumption | omega | (simp only [List.length_append, List.length_cons, List.length_nil] at *; omega))) fun v hends => ?_
      obtain ⟨ends, v1⟩ := v
      conv => cbv
      try dsimp only at hends
      have el := (Prod.mk.inj hends).1
      try dsimp only at el
      exact hQ (.tup [.fr 3 1 (rows cInt ends), .bool true]) (Eq.trans (by first | rfl | (simp only [lb, lbI, rows_cons, rows_nil, unnilT, unnil, unnilTI, unnilI]; done) | (simp only [lb, lbI, rows_cons, rows_nil, unnilT, unnil, unnilTI, unnilI]; rfl)) (congrArg ((lb 3 1 cInt)) (show (ends, true) = endsAns (m_A, m_B, m_C) l order from by simp [endsAns, *])))   -- leaf 1
    · exact hQ (.tup [.nil, .bool false]) (Eq.trans (by first | rfl | (simp only [lb, lbI, rows_cons, rows_nil, unnilT, unnil, unnilTI, unnilI]; done) | (simp only [lb, lbI, rows_cons, rows_nil, unnilT, unnil, unnilTI, unnilI]; rfl)) (congrArg ((lb 3 1 cInt)) (show ([], false) = endsAns (m_A, m_B, m_C) l order from by simp [endsAns, *]))))   -- leaf 2

theorem DoneBy_ok (m_ : CMach) (l : List Casting) (order : List Int) (minutes : Int)  : OkA Try.prog 30 [.agg (cMachine m_), .isl 2 (rows cCasting l), .isl 1 (rows cInt order), .int .i64 minutes] (· = ib (doneAns m_ l order minutes)) := by
  obtain ⟨m_A, m_B, m_C⟩ := m_
  try dsimp only at *
  exact fn_intro envOk fieldsOk mixed Try.func30 rfl fun κ X Y L Q m hQ => by
    conv => cbv
    refine r_callB m.sX (isCastOrder_ok (m_A, m_B, m_C) l order) (fun h1 => ?_) (fun h1 => ?_) <;> conv => cbv
    · obtain ⟨⟨g1, g2⟩, g3⟩ : (okM (m_A, m_B, m_C) = true ∧ okCs l = true) ∧ fineB l.length order = true := by simpa only [Bool.and_eq_true] using h1
      refine r_callB m.sX (isMinutes_ok minutes) (fun h2 => ?_) (fun h2 => ?_) <;> conv => cbv
      · refine r_callF (li 3 1 cInt) m.sX (ends_ok (m_A, m_B, m_C) l order (by first | rfl | assumption | omega | (simp only [List.length_append, List.length_cons, List.length_nil] at *; omega)) (by first | rfl | assumption | omega | (simp only [List.length_append, List.length_cons, List.length_nil] at *; omega)) (by first | rfl | assumption | omega | (simp only [List.length_append, List.length_cons, List.length_nil] at *; omega))) fun v hlist => ?_
        obtain ⟨list, v1⟩ := v
        conv => cbv
        try dsimp only at hlist
        have el := (Prod.mk.inj hlist).1
        try dsimp only at el
        refine r_lenR m.sX fun n1 hn1 mn1 => ?_
        conv => cbv
        refine r_loopF (α := Int × Int) m 45 [3, 10, 33, 34] [⟨32, 257, 3, 1, 0⟩] (fun σ => [(3, .int .i64 minutes), (10, .int .i64 σ.1), (32, .osl 257 0), (33, .int .i64 n1), (34, .int .i64 σ.2)]) (fun σ => [(257, 0, .row 3 1 (rows cInt list))])
          (fun σ => (0 ≤ σ.2) ∧ (σ.2 ≤ n1) ∧ (σ.1 = doneN (list.take σ.2.toNat) minutes) ∧ (0 ≤ σ.1 ∧ σ.1 ≤ σ.2)) (fun σ => (n1 - σ.2).toNat) (0, 0) ?_ ?_ ?_ ?_
        · cbv
        · cbv
        · exact ⟨(by (try dsimp only); first | omega | (simp only [List.length_nil]; omega) | (simp only [List.length_cons, List.length_nil]; omega)), (by (try dsimp only); first | omega | (simp only [List.length_nil]; omega) | (simp only [List.length_cons, List.length_nil]; omega)), (by (try dsimp only) <;> first | omega | rfl | (simp [*]; done)), (by (try dsimp only) <;> first | omega | rfl | (simp [*]; done))⟩
        rintro ⟨n, i1⟩ ⟨lo1, hi1, q, nb⟩ E hE F hF
        dsimp only at lo1 hi1 q nb
        conv => cbv
        refine r_lss m.sX (fun h3 => ?_) (fun h3 => ?_) <;> conv => cbv
        · refine r_oindex m.sX (by omega) (by omega) ?_
          conv => cbv
          obtain ⟨end_, hend_⟩ := get_ex (xs := list) (i := Int.toNat i1) (by omega)
          have mend_ := get_mem hend_
          have dend_ := drop_cons hend_
          have kend_ := take_snoc hend_
          have jend_ : (i1 + 1).toNat = Int.toNat i1 + 1 := by omega
          have vend_ := nth_some hend_
          refine r_oload m.sX hend_ (Nat.le_of_ble_eq_true rfl) ?_
          conv => cbv
          refine r_leq m.sX (fun h4 => ?_) (fun h4 => ?_) <;> conv => cbv
          · refine r_addf m.sX (by omega) (by omega) fun n_2 hn_2 => ?_
            conv => cbv
            refine r_addf m.sX (by omega) (by omega) fun r1 hr1 => ?_
            conv => cbv
            try have tr1 : Int.toNat r1 = Int.toNat i1 + 1 := by omega
            refine hE _ (n_2, r1) ?_ ?_ ⟨(by (try dsimp only); first | omega | (simp only [List.length_nil]; omega) | (simp only [List.length_cons, List.length_nil]; omega)), (by (try dsimp only); first | omega | (simp only [List.length_nil]; omega) | (simp only [List.length_cons, List.length_nil]; omega)), (by (try dsimp only) <;> (rw [tr1, kend_, doneN_snoc, ← q]; first | (rw [if_pos (by omega)]; omega) | (rw [if_neg (by omega)]; omega))), (by (try dsimp only) <;> first | omega | rfl | (simp [*]; done) | (rw [nb]; simp [*]; done))⟩ (by first | omega | (dsimp only; omega))
            · cbv
            · cbv
          · refine r_addf m.sX (by omega) (by omega) fun r2 hr2 => ?_
            conv => cbv
            try have tr2 : Int.toNat r2 = Int.toNat i1 + 1 := by omega
            refine hE _ (n, r2) ?_ ?_ ⟨(by (try dsimp only); first | omega | (simp only [List.length_nil]; omega) | (simp only [List.length_cons, List.length_nil]; omega)), (by (try dsimp only); first | omega | (simp only [List.length_nil]; omega) | (simp only [List.length_cons, List.length_nil]; omega)), (by (try dsimp only) <;> (rw [tr2, kend_, doneN_snoc, ← q]; first | (rw [if_pos (by omega)]; omega) | (rw [if_neg (by omega)]; omega))), (by (try dsimp only) <;> first | omega | rfl | (simp [*]; done) | (rw [nb]; simp [*]; done))⟩ (by first | omega | (dsimp only; omega))
            · cbv
            · cbv
        · have dz_i1 := drop_end (xs := list) (i := Int.toNat i1) (by omega)
          have tz_i1 := take_end (xs := list) (i := Int.toNat i1) (by omega)
          refine hF _ _ ?_
          conv => cbv
          exact hQ (.tup [.int .i64 n, .bool true]) (Eq.trans (by first | rfl | (simp only [lb, lbI, rows_cons, rows_nil, unnilT, unnil, unnilTI, unnilI]; done) | (simp only [lb, lbI, rows_cons, rows_nil, unnilT, unnil, unnilTI, unnilI]; rfl)) (congrArg (ib) (show (n, true) = doneAns (m_A, m_B, m_C) l order minutes from by rw [q, tz_i1, el, doneAns, askB, h1, h2]; rfl)))   -- leaf 1
      · exact hQ (.tup [.int .i64 0, .bool false]) (Eq.trans (by first | rfl | (simp only [lb, lbI, rows_cons, rows_nil, unnilT, unnil, unnilTI, unnilI]; done) | (simp only [lb, lbI, rows_cons, rows_nil, unnilT, unnil, unnilTI, unnilI]; rfl)) (congrArg (ib) (show (0, false) = doneAns (m_A, m_B, m_C) l order minutes from by simp [doneAns, askB, *])))   -- leaf 2
    · exact hQ (.tup [.int .i64 0, .bool false]) (Eq.trans (by first | rfl | (simp only [lb, lbI, rows_cons, rows_nil, unnilT, unnil, unnilTI, unnilI]; done) | (simp only [lb, lbI, rows_cons, rows_nil, unnilT, unnil, unnilTI, unnilI]; rfl)) (congrArg (ib) (show (0, false) = doneAns (m_A, m_B, m_C) l order minutes from by simp [doneAns, askB, *])))   -- leaf 3

theorem specDoneBy_ok (m_ : CMach) (l : List Casting) (order : List Int) (minutes : Int)  : OkA Try.prog 31 [.agg (cMachine m_), .isl 2 (rows cCasting l), .isl 1 (rows cInt order), .int .i64 minutes] (· = ib (doneAns m_ l order minutes)) := by
  obtain ⟨m_A, m_B, m_C⟩ := m_
  try dsimp only at *
  exact fn_intro envOk fieldsOk mixed Try.func31 rfl fun κ X Y L Q m hQ => by
    conv => cbv
    refine r_callB m.sX (csAsked_ok (m_A, m_B, m_C) l order) (fun h1 => ?_) (fun h1 => ?_) <;> conv => cbv
    · obtain ⟨g1, g2, g3⟩ := askB_spec h1
      refine r_callB m.sX (csMinutes_ok minutes) (fun h2 => ?_) (fun h2 => ?_) <;> conv => cbv
      · refine r_callF (li 3 1 cInt) m.sX (csEnds_ok (m_A, m_B, m_C) l order (by first | rfl | assumption | omega | (simp only [List.length_append, List.length_cons, List.length_nil] at *; omega)) (by first | rfl | assumption | omega | (simp only [List.length_append, List.length_cons, List.length_nil] at *; omega)) (by first | rfl | assumption | omega | (simp only [List.length_append, List.length_cons, List.length_nil] at *; omega))) fun v hends => ?_
        obtain ⟨ends, v1⟩ := v
        conv => cbv
        try dsimp only at hends
        have el := (Prod.mk.inj hends).1
        try dsimp only at el
        refine r_lenR m.sX fun n1 hn1 mn1 => ?_
        conv => cbv
        refine r_loopF (α := Int × Int) m 45 [3, 10, 33, 34] [⟨32, 257, 3, 1, 0⟩] (fun σ => [(3, .int .i64 minutes), (10, .int .i64 σ.1), (32, .osl 257 0), (33, .int .i64 n1), (34, .int .i64 σ.2)]) (fun σ => [(257, 0, .row 3 1 (rows cInt ends))])
          (fun σ => (0 ≤ σ.2) ∧ (σ.2 ≤ n1) ∧ (σ.1 = doneN (ends.take σ.2.toNat) minutes) ∧ (0 ≤ σ.1 ∧ σ.1 ≤ σ.2)) (fun σ => (n1 - σ.2).toNat) (0, 0) ?_ ?_ ?_ ?_
        · cbv
        · cbv
        · exact ⟨(by (try dsimp only); first | omega | (simp only [List.length_nil]; omega) | (simp only [List.length_cons, List.length_nil]; omega)), (by (try dsimp only); first | omega | (simp only [List.length_nil]; omega) | (simp only [List.length_cons, List.length_nil]; omega)), (by (try dsimp only) <;> first | omega | rfl | (simp [*]; done)), (by (try dsimp only) <;> first | omega | rfl | (simp [*]; done))⟩
        rintro ⟨n, i1⟩ ⟨lo1, hi1, q, nb⟩ E hE F hF
        dsimp only at lo1 hi1 q nb
        conv => cbv
        refine r_lss m.sX (fun h3 => ?_) (fun h3 => ?_) <;> conv => cbv
        · refine r_oindex m.sX (by omega) (by omega) ?_
          conv => cbv
          obtain ⟨end_, hend_⟩ := get_ex (xs := ends) (i := Int.toNat i1) (by omega)
          have mend_ := get_mem hend_
          have dend_ := drop_cons hend_
          have kend_ := take_snoc hend_
          have jend_ : (i1 + 1).toNat = Int.toNat i1 + 1 := by omega
          have vend_ := nth_some hend_
          refine r_oload m.sX hend_ (Nat.le_of_ble_eq_true rfl) ?_
          conv => cbv
          refine r_leq m.sX (fun h4 => ?_) (fun h4 => ?_) <;> conv => cbv
          · refine r_addf m.sX (by omega) (by omega) fun n_2 hn_2 => ?_
            conv => cbv
            refine r_addf m.sX (by omega) (by omega) fun r1 hr1 => ?_
            conv => cbv
            try have tr1 : Int.toNat r1 = Int.toNat i1 + 1 := by omega
            refine hE _ (n_2, r1) ?_ ?_ ⟨(by (try dsimp only); first | omega | (simp only [List.length_nil]; omega) | (simp only [List.length_cons, List.length_nil]; omega)), (by (try dsimp only); first | omega | (simp only [List.length_nil]; omega) | (simp only [List.length_cons, List.length_nil]; omega)), (by (try dsimp only) <;> (rw [tr1, kend_, doneN_snoc, ← q]; first | (rw [if_pos (by omega)]; omega) | (rw [if_neg (by omega)]; omega))), (by (try dsimp only) <;> first | omega | rfl | (simp [*]; done) | (rw [nb]; simp [*]; done))⟩ (by first | omega | (dsimp only; omega))
            · cbv
            · cbv
          · refine r_addf m.sX (by omega) (by omega) fun r2 hr2 => ?_
            conv => cbv
            try have tr2 : Int.toNat r2 = Int.toNat i1 + 1 := by omega
            refine hE _ (n, r2) ?_ ?_ ⟨(by (try dsimp only); first | omega | (simp only [List.length_nil]; omega) | (simp only [List.length_cons, List.length_nil]; omega)), (by (try dsimp only); first | omega | (simp only [List.length_nil]; omega) | (simp only [List.length_cons, List.length_nil]; omega)), (by (try dsimp only) <;> (rw [tr2, kend_, doneN_snoc, ← q]; first | (rw [if_pos (by omega)]; omega) | (rw [if_neg (by omega)]; omega))), (by (try dsimp only) <;> first | omega | rfl | (simp [*]; done) | (rw [nb]; simp [*]; done))⟩ (by first | omega | (dsimp only; omega))
            · cbv
            · cbv
        · have dz_i1 := drop_end (xs := ends) (i := Int.toNat i1) (by omega)
          have tz_i1 := take_end (xs := ends) (i := Int.toNat i1) (by omega)
          refine hF _ _ ?_
          conv => cbv
          exact hQ (.tup [.int .i64 n, .bool true]) (Eq.trans (by first | rfl | (simp only [lb, lbI, rows_cons, rows_nil, unnilT, unnil, unnilTI, unnilI]; done) | (simp only [lb, lbI, rows_cons, rows_nil, unnilT, unnil, unnilTI, unnilI]; rfl)) (congrArg (ib) (show (n, true) = doneAns (m_A, m_B, m_C) l order minutes from by rw [q, tz_i1, el, doneAns, h1, h2]; rfl)))   -- leaf 1
      · exact hQ (.tup [.int .i64 0, .bool false]) (Eq.trans (by first | rfl | (simp only [lb, lbI, rows_cons, rows_nil, unnilT, unnil, unnilTI, unnilI]; done) | (simp only [lb, lbI, rows_cons, rows_nil, unnilT, unnil, unnilTI, unnilI]; rfl)) (congrArg (ib) (show (0, false) = doneAns (m_A, m_B, m_C) l order minutes from by simp [doneAns, *])))   -- leaf 2
    · exact hQ (.tup [.int .i64 0, .bool false]) (Eq.trans (by first | rfl | (simp only [lb, lbI, rows_cons, rows_nil, unnilT, unnil, unnilTI, unnilI]; done) | (simp only [lb, lbI, rows_cons, rows_nil, unnilT, unnil, unnilTI, unnilI]; rfl)) (congrArg (ib) (show (0, false) = doneAns (m_A, m_B, m_C) l order minutes from by simp [doneAns, *])))   -- leaf 3

theorem MeanEnd_ok (m_ : CMach) (l : List Casting) (order : List Int)  : OkA Try.prog 32 [.agg (cMachine m_), .isl 2 (rows cCasting l), .isl 1 (rows cInt order)] (· = iib (meanAns m_ l order)) := by
  obtain ⟨m_A, m_B, m_C⟩ := m_
  try dsimp only at *
  exact fn_intro envOk fieldsOk mixed Try.func32 rfl fun κ X Y L Q m hQ => by
    conv => cbv
    refine r_callB m.sX (isCastOrder_ok (m_A, m_B, m_C) l order) (fun h1 => ?_) (fun h1 => ?_) <;> conv => cbv
    · obtain ⟨⟨g1, g2⟩, g3⟩ : (okM (m_A, m_B, m_C) = true ∧ okCs l = true) ∧ fineB l.length order = true := by simpa only [Bool.and_eq_true] using h1
      have ha : askB (m_A, m_B, m_C) l order = true := h1
      refine r_lenR m.sX fun n1 hn1 mn1 => ?_
      conv => cbv
      refine r_eql m.sX (fun h2 => ?_) (fun h2 => ?_) <;> conv => cbv
      · exact hQ (.tup [.int .i64 0, .int .i64 0, .bool false]) (Eq.trans (by first | rfl | (simp only [lb, lbI, rows_cons, rows_nil, unnilT, unnil, unnilTI, unnilI]; done) | (simp only [lb, lbI, rows_cons, rows_nil, unnilT, unnil, unnilTI, unnilI]; rfl)) (congrArg (iib) (show (0, 0, false) = meanAns (m_A, m_B, m_C) l order from by rw [meanAns, List.length_eq_zero_iff.1 (show order.length = 0 by omega)]; simp)))   -- leaf 1
      · refine r_callF (li 3 1 cInt) m.sX (ends_ok (m_A, m_B, m_C) l order (by first | rfl | assumption | omega | (simp only [List.length_append, List.length_cons, List.length_nil] at *; omega)) (by first | rfl | assumption | omega | (simp only [List.length_append, List.length_cons, List.length_nil] at *; omega)) (by first | rfl | assumption | omega | (simp only [List.length_append, List.length_cons, List.length_nil] at *; omega))) fun v hlist => ?_
        obtain ⟨list, v1⟩ := v
        conv => cbv
        try dsimp only at hlist
        have el := (Prod.mk.inj hlist).1
        try dsimp only at el
        have hf : SumFits list := by rw [el]; exact (ends_fits ha).1
        refine .inl (r_callFO intPV m.sX ((sum_ok list (by first | rfl | assumption | omega | (simp only [List.length_append, List.length_cons, List.length_nil] at *; omega))).ok flat_int) fun r1 hr1 => ?_)
        conv => cbv
        try dsimp only at hr1
        refine r_lenR m.sX fun n2 hn2 mn2 => ?_
        conv => cbv
        exact hQ (.tup [.int .i64 r1, .int .i64 n2, .bool true]) (Eq.trans (by first | rfl | (simp only [lb, lbI, rows_cons, rows_nil, unnilT, unnil, unnilTI, unnilI]; done) | (simp only [lb, lbI, rows_cons, rows_nil, unnilT, unnil, unnilTI, unnilI]; rfl)) (congrArg (iib) (show (r1, n2, true) = meanAns (m_A, m_B, m_C) l order from by rw [meanAns, ha, (by rw [decide_eq_true_eq]; intro e; exact h2 (by rw [hn1, e]; rfl) : decide (order ≠ []) = true), hr1, hn2, el, endsG_length]; rfl)))   -- leaf 2
    · exact hQ (.tup [.int .i64 0, .int .i64 0, .bool false]) (Eq.trans (by first | rfl | (simp only [lb, lbI, rows_cons, rows_nil, unnilT, unnil, unnilTI, unnilI]; done) | (simp only [lb, lbI, rows_cons, rows_nil, unnilT, unnil, unnilTI, unnilI]; rfl)) (congrArg (iib) (show (0, 0, false) = meanAns (m_A, m_B, m_C) l order from by simp [meanAns, askB, *])))   -- leaf 3

theorem specMeanEnd_ok (m_ : CMach) (l : List Casting) (order : List Int)  : OkA Try.prog 33 [.agg (cMachine m_), .isl 2 (rows cCasting l), .isl 1 (rows cInt order)] (· = iib (meanAns m_ l order)) := by
  obtain ⟨m_A, m_B, m_C⟩ := m_
  try dsimp only at *
  exact fn_intro envOk fieldsOk mixed Try.func33 rfl fun κ X Y L Q m hQ => by
    conv => cbv
    refine r_callB m.sX (csAsked_ok (m_A, m_B, m_C) l order) (fun h1 => ?_) (fun h1 => ?_) <;> conv => cbv
    · obtain ⟨g1, g2, g3⟩ := askB_spec h1
      refine r_lenR m.sX fun n1 hn1 mn1 => ?_
      conv => cbv
      refine r_eql m.sX (fun h2 => ?_) (fun h2 => ?_) <;> conv => cbv
      · exact hQ (.tup [.int .i64 0, .int .i64 0, .bool false]) (Eq.trans (by first | rfl | (simp only [lb, lbI, rows_cons, rows_nil, unnilT, unnil, unnilTI, unnilI]; done) | (simp only [lb, lbI, rows_cons, rows_nil, unnilT, unnil, unnilTI, unnilI]; rfl)) (congrArg (iib) (show (0, 0, false) = meanAns (m_A, m_B, m_C) l order from by rw [meanAns, List.length_eq_zero_iff.1 (show order.length = 0 by omega)]; simp)))   -- leaf 1
      · refine r_callF (li 3 1 cInt) m.sX (csEnds_ok (m_A, m_B, m_C) l order (by first | rfl | assumption | omega | (simp only [List.length_append, List.length_cons, List.length_nil] at *; omega)) (by first | rfl | assumption | omega | (simp only [List.length_append, List.length_cons, List.length_nil] at *; omega)) (by first | rfl | assumption | omega | (simp only [List.length_append, List.length_cons, List.length_nil] at *; omega))) fun v hends => ?_
        obtain ⟨ends, v1⟩ := v
        conv => cbv
        try dsimp only at hends
        have el := (Prod.mk.inj hends).1
        try dsimp only at el
        have hf : SumFits ends := by rw [el]; exact (ends_fits h1).1
        refine r_lenR m.sX fun n2 hn2 mn2 => ?_
        conv => cbv
        refine r_loopF (α := Int × Int) m 44 [2, 9, 32, 33] [⟨31, 249, 3, 1, 0⟩] (fun σ => [(2, .isl 1 (rows cInt order)), (9, .int .i64 σ.1), (31, .osl 249 0), (32, .int .i64 n2), (33, .int .i64 σ.2)]) (fun σ => [(249, 0, .row 3 1 (rows cInt ends))])
          (fun σ => (0 ≤ σ.2) ∧ (σ.2 ≤ n2) ∧ (σ.1 = (ends.take σ.2.toNat).sum)) (fun σ => (n2 - σ.2).toNat) (0, 0) ?_ ?_ ?_ ?_
        · cbv
        · cbv
        · exact ⟨(by (try dsimp only); first | omega | (simp only [List.length_nil]; omega) | (simp only [List.length_cons, List.length_nil]; omega)), (by (try dsimp only); first | omega | (simp only [List.length_nil]; omega) | (simp only [List.length_cons, List.length_nil]; omega)), (by (try dsimp only) <;> first | omega | rfl | (simp [*]; done))⟩
        rintro ⟨sum, i1⟩ ⟨lo1, hi1, q⟩ E hE F hF
        dsimp only at lo1 hi1 q
        have bq := hf i1.toNat
        try dsimp only at bq
        conv => cbv
        refine r_lss m.sX (fun h3 => ?_) (fun h3 => ?_) <;> conv => cbv
        · refine r_oindex m.sX (by omega) (by omega) ?_
          conv => cbv
          obtain ⟨end_, hend_⟩ := get_ex (xs := ends) (i := Int.toNat i1) (by omega)
          have mend_ := get_mem hend_
          have dend_ := drop_cons hend_
          have kend_ := take_snoc hend_
          have jend_ : (i1 + 1).toNat = Int.toNat i1 + 1 := by omega
          have vend_ := nth_some hend_
          have bn := hf (i1.toNat + 1)
          try dsimp only at bn
          rw [sum_take hend_] at bn
          refine r_oload m.sX hend_ (Nat.le_of_ble_eq_true rfl) ?_
          conv => cbv
          refine r_addf m.sX (by omega) (by omega) fun sum_2 hsum_2 => ?_
          conv => cbv
          refine r_addf m.sX (by omega) (by omega) fun r1 hr1 => ?_
          conv => cbv
          try have tr1 : Int.toNat r1 = Int.toNat i1 + 1 := by omega
          refine hE _ (sum_2, r1) ?_ ?_ ⟨(by (try dsimp only); first | omega | (simp only [List.length_nil]; omega) | (simp only [List.length_cons, List.length_nil]; omega)), (by (try dsimp only); first | omega | (simp only [List.length_nil]; omega) | (simp only [List.length_cons, List.length_nil]; omega)), (by (try dsimp only) <;> (rw [tr1, sum_take hend_]; omega))⟩ (by first | omega | (dsimp only; omega))
          · cbv
          · cbv
        · have dz_i1 := drop_end (xs := ends) (i := Int.toNat i1) (by omega)
          have tz_i1 := take_end (xs := ends) (i := Int.toNat i1) (by omega)
          refine hF _ _ ?_
          conv => cbv
          refine r_lenR m.sX fun n3 hn3 mn3 => ?_
          conv => cbv
          exact hQ (.tup [.int .i64 sum, .int .i64 n3, .bool true]) (Eq.trans (by first | rfl | (simp only [lb, lbI, rows_cons, rows_nil, unnilT, unnil, unnilTI, unnilI]; done) | (simp only [lb, lbI, rows_cons, rows_nil, unnilT, unnil, unnilTI, unnilI]; rfl)) (congrArg (iib) (show (sum, n3, true) = meanAns (m_A, m_B, m_C) l order from by rw [meanAns, h1, (by rw [decide_eq_true_eq]; intro e; exact h2 (by rw [hn1, e]; rfl) : decide (order ≠ []) = true), q, tz_i1, el, hn3]; rfl)))   -- leaf 2
    · exact hQ (.tup [.int .i64 0, .int .i64 0, .bool false]) (Eq.trans (by first | rfl | (simp only [lb, lbI, rows_cons, rows_nil, unnilT, unnil, unnilTI, unnilI]; done) | (simp only [lb, lbI, rows_cons, rows_nil, unnilT, unnil, unnilTI, unnilI]; rfl)) (congrArg (iib) (show (0, 0, false) = meanAns (m_A, m_B, m_C) l order from by simp [meanAns, *])))   -- leaf 3

end Go.Proofs.Ytjmjepdlclehoaa.Ai
