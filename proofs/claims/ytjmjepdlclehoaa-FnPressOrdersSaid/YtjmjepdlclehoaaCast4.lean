/- Contracts of the reference's searches: most castings, the best order, shares. -/
import Derived.Test.YtjmjepdlclehoaaCast3
import Derived.Test.YtjmjepdlclehoaaShare4
import Derived.Laws.Bits64b
import Derived.Test.YtjmjepdlclehoaaAiTypesU
namespace Go.Proofs.Ytjmjepdlclehoaa.Ai
open Go Go.RowKit Go.Proofs
set_option linter.unusedSimpArgs false
set_option maxRecDepth 10000
set_option maxHeartbeats 4000000
set_option linter.unusedVariables false
section
variable {P : Program} {X : Req → (PV → Prop) → Prop} {K : PV → Prop} {k yk : IntKind} {m n : Int} {b : Bool}
theorem r_shl (h : Std P b X) (h1 : 0 ≤ n) (h2 : n ≤ k.bits) (H : ∀ r, r = k.wrap (m * 2 ^ n.toNat) → K (.int k r)) : X (.shift .shl k m yk n) K := by rw [h.eq]; exact ⟨h1, h2, H _ rfl⟩
end
theorem OkA.iceR {P : Program} {f : FuncId} {args : List PV} {Q : PV → Prop} (h : OkA P f args (fun r => Q (Ai.ice r))) : OkA P f args Q := (OkA.iceE h).mono fun _ ⟨_, q, e⟩ => by rw [e]; exact q
theorem range_drop {n i : Nat} (h : i < n) : (List.range n).drop i = i :: (List.range n).drop (i + 1) := by
  rw [List.drop_eq_getElem_cons (by simpa using h)]; simp
/-! ### Most castings -/
def mostStepG (G : List Int → List Int → List Int) (m : CMach) (l : List Casting) (minutes : Int) (o b : List Int) (i : Nat) : List Int :=
  if b.length = l.length then b else if (i : Int) ∈ o then b else if timeF m l (o ++ [(i : Int)]) ≤ minutes then G (o ++ [(i : Int)]) b else b
def mostB (G : List Int → List Int → List Int) (m : CMach) (l : List Casting) (minutes : Int) (o best : List Int) : List Int := (List.range l.length).foldl (mostStepG G m l minutes o) (if best.length < o.length then o else best)
theorem mostG_keep {G : List Int → List Int → List Int} {m : CMach} {l : List Casting} {minutes : Int} {o b : List Int} (h : b.length = l.length) : ∀ (is : List Nat), is.foldl (mostStepG G m l minutes o) b = b
  | [] => rfl
  | i :: r => by rw [List.foldl_cons, mostStepG, if_pos h]; exact mostG_keep h r
theorem mostS_succ (m : CMach) (l : List Casting) (minutes : Int) (k : Nat) (o best : List Int) : mostS m l minutes (k + 1) o best = mostB (mostS m l minutes k) m l minutes o best := rfl
theorem mostS_zero {m : CMach} {l : List Casting} {minutes : Int} {o best : List Int} (ho : o.length = l.length) (hb : best.length ≤ l.length) (G : List Int → List Int → List Int) : mostS m l minutes 0 o best = mostB G m l minutes o best := by
  rw [mostS, mostB, mostG_keep]
  split <;> omega
theorem most_len {m : CMach} {l : List Casting} {minutes : Int} : ∀ (k : Nat) (o best : List Int), o.length + k ≤ l.length → best.length ≤ l.length → (mostS m l minutes k o best).length ≤ l.length
  | 0, o, best, ho, hb => by rw [mostS]; split <;> omega
  | k + 1, o, best, ho, hb => by
    rw [mostS_succ, mostB]
    have h0 : (if best.length < o.length then o else best).length ≤ l.length := by split <;> omega
    revert h0
    generalize (if best.length < o.length then o else best) = b0
    generalize List.range l.length = is
    induction is generalizing b0 with
    | nil => intro h; exact h
    | cons i r ih =>
      intro h
      rw [List.foldl_cons]
      refine ih _ ?_
      unfold mostStepG
      split
      · exact h
      · split
        · exact h
        · split
          · exact most_len k _ _ (by simp only [List.length_append, List.length_cons, List.length_nil]; omega) h
          · exact h
theorem diff_nat {n : Nat} {o : List Int} (h : Diff n o) {i : Int} (h0 : 0 ≤ i) (h1 : i < n) (hn : i ∉ o) : Diff n (o ++ [i]) := by
  refine ⟨?_, fun x hx => ?_⟩
  · rw [List.nodup_append]
    exact ⟨h.1, by simp, fun a ha b hb e => by simp at hb; subst hb; exact hn (e ▸ ha)⟩
  · rcases List.mem_append.1 hx with hx | hx
    · exact h.2 x hx
    · simp at hx; subst hx; omega
theorem csMost_body (m_ : CMach) (l : List Casting) (order : List Int) (minutes : Int) (best : List Int) (hm : okM m_ = true) (hl : okCs l = true) (hd : Diff l.length order) (hb : best.length ≤ l.length) (G : List Int → List Int → List Int) (hG : ∀ o b : List Int, (∃ i, o = order ++ [i]) → Diff l.length o → b.length ≤ l.length → (G o b).length ≤ l.length) (ih : ∀ o b : List Int, (∃ i, o = order ++ [i]) → Diff l.length o → b.length ≤ l.length → OkA Try.prog 78 [.agg (cMachine m_), .isl 2 (rows cCasting l), .isl 1 (rows cInt o), .int .i64 minutes, .isl 1 (rows cInt b)] (· = .isl 1 (rows cInt (G o b)))) : OkA Try.prog 78 [.agg (cMachine m_), .isl 2 (rows cCasting l), .isl 1 (rows cInt order), .int .i64 minutes, .isl 1 (rows cInt best)] (· = .isl 1 (rows cInt (mostB G m_ l minutes order best))) := by
  obtain ⟨m_A, m_B, m_C⟩ := m_
  try dsimp only at *
  exact OkA.iceI 1 (fn_intro envOk fieldsOk mixed Try.func78 rfl fun κ X Y L Q m hQ => by
    have ll := okCs_len hl
    try dsimp only at ll
    have od := diff_len _ _ hd
    try dsimp only at od
    conv => cbv
    refine r_lenR m.sX fun n1 hn1 mn1 => ?_
    conv => cbv
    refine r_lenR m.sX fun n2 hn2 mn2 => ?_
    conv => cbv
    refine r_gtr m.sX (fun h1 => ?_) (fun h1 => ?_) <;> conv => cbv
    · refine r_lenR m.sX fun n3 hn3 mn3 => ?_
      conv => cbv
      refine r_loopF (α := List Int × Int) m 55 [1, 2, 3, 4, 20, 21] [⟨5, 41, 0, 0, 0⟩] (fun σ => [(1, .isl 2 (rows cCasting l)), (2, .isl 1 (rows cInt order)), (3, .int .i64 minutes), (4, .isl 1 (rows cInt σ.1)), (5, .optr 41 0 3 0 0), (20, .int .i64 n3), (21, .int .i64 σ.2)]) (fun σ => [(41, 0, .box [.int .i64 m_A, .int .i64 m_B, .int .i64 m_C])])
        (fun σ => (0 ≤ σ.2) ∧ (σ.2 ≤ n3) ∧ (mostB G (m_A, m_B, m_C) l minutes order best = ((List.range l.length).drop σ.2.toNat).foldl (mostStepG G (m_A, m_B, m_C) l minutes order) σ.1) ∧ (σ.1.length ≤ l.length)) (fun σ => (n3 - σ.2).toNat) (order, 0) ?_ ?_ ?_ ?_
      · cbv
      · cbv
      · exact ⟨(by (try dsimp only); first | omega | (simp only [List.length_nil]; omega) | (simp only [List.length_cons, List.length_nil]; omega)), (by (try dsimp only); first | omega | (simp only [List.length_nil]; omega) | (simp only [List.length_cons, List.length_nil]; omega)), (by (try dsimp only) <;> ((rw [mostB, if_pos (by omega)]; rfl))), (by (try dsimp only) <;> first | omega | rfl | (simp [*]; done))⟩
      rintro ⟨best_2, i1⟩ ⟨lo1, hi1, q, bl⟩ E hE F hF
      dsimp only at lo1 hi1 q bl
      conv => cbv
      refine r_lss m.sX (fun h2 => ?_) (fun h2 => ?_) <;> conv => cbv
      · have rd := range_drop (n := l.length) (i := i1.toNat) (by omega)
        try dsimp only at rd
        rw [rd, List.foldl_cons] at q
        refine r_lenR m.sX fun n4 hn4 mn4 => ?_
        conv => cbv
        refine r_lenR m.sX fun n5 hn5 mn5 => ?_
        conv => cbv
        refine r_eql m.sX (fun h3 => ?_) (fun h3 => ?_) <;> conv => cbv
        · refine hF _ _ ?_
          conv => cbv
          exact hQ (.isl 1 (rows cInt best_2)) (Eq.trans (by first | rfl | (simp only [lb, lbI, rows_cons, rows_nil, unnilT, unnil, unnilTI, unnilI]; done) | (simp only [lb, lbI, rows_cons, rows_nil, unnilT, unnil, unnilTI, unnilI]; rfl)) (congrArg (fun l => PV.isl 1 (rows cInt l)) (show best_2 = mostB G (m_A, m_B, m_C) l minutes order best from by rw [q, mostStepG, if_pos (by omega), mostG_keep (by omega)])))   -- leaf 1
        · have n3 : best_2.length ≠ l.length := by omega
          refine r_callF (fun l => PV.fr _ _ (rows _ l)) m.sX (l1Own_ok order (by omega)) fun v1 hv1 => ?_
          conv => cbv
          try dsimp only at hv1
          have lv1 := congrArg List.length hv1
          try dsimp only at lv1
          refine r_append1 (i1) m.sX rfl (by first | omega | (dsimp only; omega)) (by first | omega | (dsimp only; omega)) fun next hnext => ?_
          conv => cbv
          have lnext : (next.length : Int) = v1.length + 1 := by rw [hnext]; first | done | (simp; done) | (simp; omega)
          rw [hv1] at hnext
          refine r_callB m.sX (l1Has_ok order i1) (fun h4 => ?_) (fun h4 => ?_) <;> conv => cbv
          · have ei1 : ((i1.toNat : Nat) : Int) = i1 := by omega
            refine r_addf m.sX (by omega) (by omega) fun r1 hr1 => ?_
            conv => cbv
            try have tr1 : Int.toNat r1 = Int.toNat i1 + 1 := by omega
            refine hE _ (best_2, r1) ?_ ?_ ⟨(by (try dsimp only); first | omega | (simp only [List.length_nil]; omega) | (simp only [List.length_cons, List.length_nil]; omega)), (by (try dsimp only); first | omega | (simp only [List.length_nil]; omega) | (simp only [List.length_cons, List.length_nil]; omega)), (by (try dsimp only) <;> (first | (rw [q, tr1, mostStepG, if_neg n3, if_pos (by rw [ei1]; exact of_decide_eq_true h4)]; done) | (rw [q, tr3, hbest_3, mostStepG, if_neg n3, if_neg (by rw [ei1]; exact of_decide_eq_false h4), ei1, ← hnext, ← hr2, if_pos h5]; done) | (rw [q, tr4, mostStepG, if_neg n3, if_neg (by rw [ei1]; exact of_decide_eq_false h4), ei1, ← hnext, ← hr2, if_neg (by omega)]; done))), (by (try dsimp only) <;> first | omega | rfl | (simp [*]; done) | (rw [bl]; simp [*]; done))⟩ (by first | omega | (dsimp only; omega))
            · cbv
            · cbv
          · have dnext : Diff l.length next := by rw [hnext]; exact diff_nat hd lo1 (by omega) (of_decide_eq_false h4)
            have fnext := fineB_diff.2 dnext
            try dsimp only at fnext
            have ei1 : ((i1.toNat : Nat) : Int) = i1 := by omega
            refine .inl (r_callFO intPV m.sX ((csLast_ok (m_A, m_B, m_C) l next (by first | rfl | assumption | omega | (simp only [List.length_append, List.length_cons, List.length_nil] at *; omega)) (by first | rfl | assumption | omega | (simp only [List.length_append, List.length_cons, List.length_nil] at *; omega)) (by first | rfl | assumption | omega | (simp only [List.length_append, List.length_cons, List.length_nil] at *; omega))).ok flat_int) fun r2 hr2 => ?_)
            conv => cbv
            try dsimp only at hr2
            refine r_leq m.sX (fun h5 => ?_) (fun h5 => ?_) <;> conv => cbv
            · refine .inr (r_pcallF (fun l => PV.isl _ (rows _ l)) m.sX (ih next best_2 ⟨_, hnext⟩ dnext (by omega)) fun best_3 hbest_3 => ?_)
              conv => cbv
              have gl := hG next best_2 ⟨_, hnext⟩ dnext bl
              try dsimp only at gl
              rw [← hbest_3] at gl
              refine r_addf m.sX (by omega) (by omega) fun r3 hr3 => ?_
              conv => cbv
              try have tr3 : Int.toNat r3 = Int.toNat i1 + 1 := by omega
              refine hE _ (best_3, r3) ?_ ?_ ⟨(by (try dsimp only); first | omega | (simp only [List.length_nil]; omega) | (simp only [List.length_cons, List.length_nil]; omega)), (by (try dsimp only); first | omega | (simp only [List.length_nil]; omega) | (simp only [List.length_cons, List.length_nil]; omega)), (by (try dsimp only) <;> (first | (rw [q, tr1, mostStepG, if_neg n3, if_pos (by rw [ei1]; exact of_decide_eq_true h4)]; done) | (rw [q, tr3, hbest_3, mostStepG, if_neg n3, if_neg (by rw [ei1]; exact of_decide_eq_false h4), ei1, ← hnext, ← hr2, if_pos h5]; done) | (rw [q, tr4, mostStepG, if_neg n3, if_neg (by rw [ei1]; exact of_decide_eq_false h4), ei1, ← hnext, ← hr2, if_neg (by omega)]; done))), (by (try dsimp only) <;> first | omega | rfl | (simp [*]; done) | (rw [bl]; simp [*]; done))⟩ (by first | omega | (dsimp only; omega))
              · cbv
              · cbv
            · refine r_addf m.sX (by omega) (by omega) fun r4 hr4 => ?_
              conv => cbv
              try have tr4 : Int.toNat r4 = Int.toNat i1 + 1 := by omega
              refine hE _ (best_2, r4) ?_ ?_ ⟨(by (try dsimp only); first | omega | (simp only [List.length_nil]; omega) | (simp only [List.length_cons, List.length_nil]; omega)), (by (try dsimp only); first | omega | (simp only [List.length_nil]; omega) | (simp only [List.length_cons, List.length_nil]; omega)), (by (try dsimp only) <;> (first | (rw [q, tr1, mostStepG, if_neg n3, if_pos (by rw [ei1]; exact of_decide_eq_true h4)]; done) | (rw [q, tr3, hbest_3, mostStepG, if_neg n3, if_neg (by rw [ei1]; exact of_decide_eq_false h4), ei1, ← hnext, ← hr2, if_pos h5]; done) | (rw [q, tr4, mostStepG, if_neg n3, if_neg (by rw [ei1]; exact of_decide_eq_false h4), ei1, ← hnext, ← hr2, if_neg (by omega)]; done))), (by (try dsimp only) <;> first | omega | rfl | (simp [*]; done) | (rw [bl]; simp [*]; done))⟩ (by first | omega | (dsimp only; omega))
              · cbv
              · cbv
      · have dz_i1 := drop_end (xs := l) (i := Int.toNat i1) (by omega)
        have tz_i1 := take_end (xs := l) (i := Int.toNat i1) (by omega)
        refine hF _ _ ?_
        conv => cbv
        exact hQ (.isl 1 (rows cInt best_2)) (Eq.trans (by first | rfl | (simp only [lb, lbI, rows_cons, rows_nil, unnilT, unnil, unnilTI, unnilI]; done) | (simp only [lb, lbI, rows_cons, rows_nil, unnilT, unnil, unnilTI, unnilI]; rfl)) (congrArg (fun l => PV.isl 1 (rows cInt l)) (show best_2 = mostB G (m_A, m_B, m_C) l minutes order best from by rw [q, List.drop_of_length_le (by simp; omega)]; rfl)))   -- leaf 2
    · refine r_lenR m.sX fun n6 hn6 mn6 => ?_
      conv => cbv
      refine r_loopF (α := List Int × Int) m 55 [1, 2, 3, 4, 20, 21] [⟨5, 41, 0, 0, 0⟩] (fun σ => [(1, .isl 2 (rows cCasting l)), (2, .isl 1 (rows cInt order)), (3, .int .i64 minutes), (4, .isl 1 (rows cInt σ.1)), (5, .optr 41 0 3 0 0), (20, .int .i64 n6), (21, .int .i64 σ.2)]) (fun σ => [(41, 0, .box [.int .i64 m_A, .int .i64 m_B, .int .i64 m_C])])
        (fun σ => (0 ≤ σ.2) ∧ (σ.2 ≤ n6) ∧ (mostB G (m_A, m_B, m_C) l minutes order best = ((List.range l.length).drop σ.2.toNat).foldl (mostStepG G (m_A, m_B, m_C) l minutes order) σ.1) ∧ (σ.1.length ≤ l.length)) (fun σ => (n6 - σ.2).toNat) (best, 0) ?_ ?_ ?_ ?_
      · cbv
      · cbv
      · exact ⟨(by (try dsimp only); first | omega | (simp only [List.length_nil]; omega) | (simp only [List.length_cons, List.length_nil]; omega)), (by (try dsimp only); first | omega | (simp only [List.length_nil]; omega) | (simp only [List.length_cons, List.length_nil]; omega)), (by (try dsimp only) <;> ((rw [mostB, if_neg (by omega)]; rfl))), (by (try dsimp only) <;> first | omega | rfl | (simp [*]; done))⟩
      rintro ⟨best_4, i2⟩ ⟨lo2, hi2, q, bl⟩ E hE F hF
      dsimp only at lo2 hi2 q bl
      conv => cbv
      refine r_lss m.sX (fun h6 => ?_) (fun h6 => ?_) <;> conv => cbv
      · have rd := range_drop (n := l.length) (i := i2.toNat) (by omega)
        try dsimp only at rd
        rw [rd, List.foldl_cons] at q
        refine r_lenR m.sX fun n7 hn7 mn7 => ?_
        conv => cbv
        refine r_lenR m.sX fun n8 hn8 mn8 => ?_
        conv => cbv
        refine r_eql m.sX (fun h7 => ?_) (fun h7 => ?_) <;> conv => cbv
        · refine hF _ _ ?_
          conv => cbv
          exact hQ (.isl 1 (rows cInt best_4)) (Eq.trans (by first | rfl | (simp only [lb, lbI, rows_cons, rows_nil, unnilT, unnil, unnilTI, unnilI]; done) | (simp only [lb, lbI, rows_cons, rows_nil, unnilT, unnil, unnilTI, unnilI]; rfl)) (congrArg (fun l => PV.isl 1 (rows cInt l)) (show best_4 = mostB G (m_A, m_B, m_C) l minutes order best from by rw [q, mostStepG, if_pos (by omega), mostG_keep (by omega)])))   -- leaf 3
        · have n3 : best_4.length ≠ l.length := by omega
          refine r_callF (fun l => PV.fr _ _ (rows _ l)) m.sX (l1Own_ok order (by omega)) fun v2 hv2 => ?_
          conv => cbv
          try dsimp only at hv2
          have lv2 := congrArg List.length hv2
          try dsimp only at lv2
          refine r_append1 (i2) m.sX rfl (by first | omega | (dsimp only; omega)) (by first | omega | (dsimp only; omega)) fun next_2 hnext_2 => ?_
          conv => cbv
          have lnext_2 : (next_2.length : Int) = v2.length + 1 := by rw [hnext_2]; first | done | (simp; done) | (simp; omega)
          rw [hv2] at hnext_2
          refine r_callB m.sX (l1Has_ok order i2) (fun h8 => ?_) (fun h8 => ?_) <;> conv => cbv
          · have ei1 : ((i2.toNat : Nat) : Int) = i2 := by omega
            refine r_addf m.sX (by omega) (by omega) fun r5 hr5 => ?_
            conv => cbv
            try have tr5 : Int.toNat r5 = Int.toNat i2 + 1 := by omega
            refine hE _ (best_4, r5) ?_ ?_ ⟨(by (try dsimp only); first | omega | (simp only [List.length_nil]; omega) | (simp only [List.length_cons, List.length_nil]; omega)), (by (try dsimp only); first | omega | (simp only [List.length_nil]; omega) | (simp only [List.length_cons, List.length_nil]; omega)), (by (try dsimp only) <;> (first | (rw [q, tr5, mostStepG, if_neg n3, if_pos (by rw [ei1]; exact of_decide_eq_true h8)]; done) | (rw [q, tr7, hbest_5, mostStepG, if_neg n3, if_neg (by rw [ei1]; exact of_decide_eq_false h8), ei1, ← hnext_2, ← hr6, if_pos h9]; done) | (rw [q, tr8, mostStepG, if_neg n3, if_neg (by rw [ei1]; exact of_decide_eq_false h8), ei1, ← hnext_2, ← hr6, if_neg (by omega)]; done))), (by (try dsimp only) <;> first | omega | rfl | (simp [*]; done) | (rw [bl]; simp [*]; done))⟩ (by first | omega | (dsimp only; omega))
            · cbv
            · cbv
          · have dnext_2 : Diff l.length next_2 := by rw [hnext_2]; exact diff_nat hd lo2 (by omega) (of_decide_eq_false h8)
            have fnext := fineB_diff.2 dnext_2
            try dsimp only at fnext
            have ei1 : ((i2.toNat : Nat) : Int) = i2 := by omega
            refine .inl (r_callFO intPV m.sX ((csLast_ok (m_A, m_B, m_C) l next_2 (by first | rfl | assumption | omega | (simp only [List.length_append, List.length_cons, List.length_nil] at *; omega)) (by first | rfl | assumption | omega | (simp only [List.length_append, List.length_cons, List.length_nil] at *; omega)) (by first | rfl | assumption | omega | (simp only [List.length_append, List.length_cons, List.length_nil] at *; omega))).ok flat_int) fun r6 hr6 => ?_)
            conv => cbv
            try dsimp only at hr6
            refine r_leq m.sX (fun h9 => ?_) (fun h9 => ?_) <;> conv => cbv
            · refine .inr (r_pcallF (fun l => PV.isl _ (rows _ l)) m.sX (ih next_2 best_4 ⟨_, hnext_2⟩ dnext_2 (by omega)) fun best_5 hbest_5 => ?_)
              conv => cbv
              have gl := hG next_2 best_4 ⟨_, hnext_2⟩ dnext_2 bl
              try dsimp only at gl
              rw [← hbest_5] at gl
              refine r_addf m.sX (by omega) (by omega) fun r7 hr7 => ?_
              conv => cbv
              try have tr7 : Int.toNat r7 = Int.toNat i2 + 1 := by omega
              refine hE _ (best_5, r7) ?_ ?_ ⟨(by (try dsimp only); first | omega | (simp only [List.length_nil]; omega) | (simp only [List.length_cons, List.length_nil]; omega)), (by (try dsimp only); first | omega | (simp only [List.length_nil]; omega) | (simp only [List.length_cons, List.length_nil]; omega)), (by (try dsimp only) <;> (first | (rw [q, tr5, mostStepG, if_neg n3, if_pos (by rw [ei1]; exact of_decide_eq_true h8)]; done) | (rw [q, tr7, hbest_5, mostStepG, if_neg n3, if_neg (by rw [ei1]; exact of_decide_eq_false h8), ei1, ← hnext_2, ← hr6, if_pos h9]; done) | (rw [q, tr8, mostStepG, if_neg n3, if_neg (by rw [ei1]; exact of_decide_eq_false h8), ei1, ← hnext_2, ← hr6, if_neg (by omega)]; done))), (by (try dsimp only) <;> first | omega | rfl | (simp [*]; done) | (rw [bl]; simp [*]; done))⟩ (by first | omega | (dsimp only; omega))
              · cbv
              · cbv
            · refine r_addf m.sX (by omega) (by omega) fun r8 hr8 => ?_
              conv => cbv
              try have tr8 : Int.toNat r8 = Int.toNat i2 + 1 := by omega
              refine hE _ (best_4, r8) ?_ ?_ ⟨(by (try dsimp only); first | omega | (simp only [List.length_nil]; omega) | (simp only [List.length_cons, List.length_nil]; omega)), (by (try dsimp only); first | omega | (simp only [List.length_nil]; omega) | (simp only [List.length_cons, List.length_nil]; omega)), (by (try dsimp only) <;> (first | (rw [q, tr5, mostStepG, if_neg n3, if_pos (by rw [ei1]; exact of_decide_eq_true h8)]; done) | (rw [q, tr7, hbest_5, mostStepG, if_neg n3, if_neg (by rw [ei1]; exact of_decide_eq_false h8), ei1, ← hnext_2, ← hr6, if_pos h9]; done) | (rw [q, tr8, mostStepG, if_neg n3, if_neg (by rw [ei1]; exact of_decide_eq_false h8), ei1, ← hnext_2, ← hr6, if_neg (by omega)]; done))), (by (try dsimp only) <;> first | omega | rfl | (simp [*]; done) | (rw [bl]; simp [*]; done))⟩ (by first | omega | (dsimp only; omega))
              · cbv
              · cbv
      · have dz_i2 := drop_end (xs := l) (i := Int.toNat i2) (by omega)
        have tz_i2 := take_end (xs := l) (i := Int.toNat i2) (by omega)
        refine hF _ _ ?_
        conv => cbv
        exact hQ (.isl 1 (rows cInt best_4)) (Eq.trans (by first | rfl | (simp only [lb, lbI, rows_cons, rows_nil, unnilT, unnil, unnilTI, unnilI]; done) | (simp only [lb, lbI, rows_cons, rows_nil, unnilT, unnil, unnilTI, unnilI]; rfl)) (congrArg (fun l => PV.isl 1 (rows cInt l)) (show best_4 = mostB G (m_A, m_B, m_C) l minutes order best from by rw [q, List.drop_of_length_le (by simp; omega)]; rfl))))   -- leaf 4

theorem csMost_go {m : CMach} {l : List Casting} {minutes : Int} (hm : okM m = true) (hl : okCs l = true) : ∀ (k : Nat) (o b : List Int), o.length + k = l.length → Diff l.length o → b.length ≤ l.length → OkA Try.prog 78 [.agg (cMachine m), .isl 2 (rows cCasting l), .isl 1 (rows cInt o), .int .i64 minutes, .isl 1 (rows cInt b)] (· = .isl 1 (rows cInt (mostS m l minutes k o b)))
  | 0, o, b, hk, hd, hb => by
    rw [mostS_zero (by omega) hb (fun _ b => b)]
    exact csMost_body m l o minutes b hm hl hd hb (fun _ b => b) (fun o b _ _ h => h) (fun o2 b2 ⟨i, e⟩ hd2 _ => by
      have := diff_len _ _ hd2
      rw [e, List.length_append] at this
      simp only [List.length_cons, List.length_nil] at this
      omega)
  | k + 1, o, b, hk, hd, hb => by
    rw [mostS_succ]
    refine csMost_body m l o minutes b hm hl hd hb (mostS m l minutes k) (fun o2 b2 ⟨i, e⟩ hd2 hb2 => ?_) (fun o2 b2 ⟨i, e⟩ hd2 hb2 => ?_)
    · exact most_len k _ _ (by rw [e, List.length_append]; simp only [List.length_cons, List.length_nil]; omega) hb2
    · exact csMost_go hm hl k o2 b2 (by rw [e, List.length_append]; simp only [List.length_cons, List.length_nil]; omega) hd2 hb2
theorem RepArg.nil_isl {w : World} {I : Nat → Prop} {v : Value} (h : RepArg w I .nil v) (sz : Nat) : RepArg w I (.isl sz []) v := by
  cases h with
  | one h => cases h; exact .one (.isl0 sz none 0 (Nat.zero_le _))
theorem csMost_ok (m : CMach) (l : List Casting) (minutes : Int) (hm : okM m = true) (hl : okCs l = true) (h0 : 0 ≤ minutes) : OkA Try.prog 78 [.agg (cMachine m), .isl 2 (rows cCasting l), .nil, .int .i64 minutes, .nil] (· = .isl 1 (rows cInt (mostF m l minutes))) := by
  have h := csMost_go (minutes := minutes) hm hl l.length [] [] (by simp) (diff_nil _) (by simp)
  rw [most_eq hm (okAll_of hl) l.length [] [] (by simp) h0] at h
  refine ⟨h.1, fun w I vs hI ha => h.2 w I vs hI ?_⟩
  rw [rows_nil]
  cases ha with
  | cons a1 ha => cases ha with
    | cons a2 ha => cases ha with
      | cons a3 ha => cases ha with
        | cons a4 ha => cases ha with
          | cons a5 ha => exact .cons a1 (.cons a2 (.cons (a3.nil_isl 1) (.cons a4 (.cons (a5.nil_isl 1) ha))))
/-! ### The best order -/
noncomputable def liI {α : Type} (n : Nat) (f : α → List PV) (v : List α × Int) : PV := .tup [.isl n (rows f v.1), .int .i64 v.2]
def bestStepG (G : List Int → List Int × Int → List Int × Int) (o : List Int) (b : List Int × Int) (i : Nat) : List Int × Int := if (i : Int) ∈ o then b else G (o ++ [(i : Int)]) b
def bestB (G : List Int → List Int × Int → List Int × Int) (m : CMach) (l : List Casting) (o : List Int) (a : List Int × Int) : List Int × Int :=
  if o.length = l.length then (if a.1.length < l.length ∨ timeF m l o < a.2 then (o, timeF m l o) else a) else if a.1.length = l.length ∧ 0 < o.length ∧ a.2 ≤ timeF m l o then a else (List.range l.length).foldl (bestStepG G o) a
theorem bestS_zero {m : CMach} {l : List Casting} {o : List Int} {a : List Int × Int} (ho : o.length = l.length) (G : List Int → List Int × Int → List Int × Int) : bestS m l 0 o a = bestB G m l o a := by
  rw [bestS, bestB, if_pos ho]
theorem bestS_succ {m : CMach} {l : List Casting} {k : Nat} {o : List Int} {a : List Int × Int} (ho : o.length ≠ l.length) : bestS m l (k + 1) o a = bestB (bestS m l k) m l o a := by
  rw [bestS, bestB, if_neg ho]; rfl
/-! ### Shares -/
theorem csShared_ok (m_ : CMach) (n : CMach) (l : List Casting) (share : List Int) (hm : okM m_ = true) (hn : okM n = true) (hl : okCs l = true) (hs : share.length = l.length) : OkA Try.prog 71 [.agg (cMachine m_), .agg (cMachine n), .isl 2 (rows cCasting l), .isl 1 (rows cInt share)] (· = .int .i64 (costS m_ n l share)) := by
  obtain ⟨m_A, m_B, m_C⟩ := m_
  obtain ⟨nA, nB, nC⟩ := n
  try dsimp only at *
  exact fn_intro envOk fieldsOk mixed Try.func71 rfl fun κ X Y L Q m hQ => by
    have ll := okCs_len hl
    try dsimp only at ll
    conv => cbv
    refine r_lenR m.sX fun n1 hn1 mn1 => ?_
    conv => cbv
    refine r_loopF (α := List Int × List Int × Int) m 40 [2, 13, 14, 15] [⟨4, 33, 0, 0, 0⟩, ⟨5, 41, 0, 0, 0⟩, ⟨9, 73, 3, 1, 0⟩, ⟨10, 81, 3, 1, 0⟩] (fun σ => [(2, .isl 2 (rows cCasting l)), (4, .optr 33 0 3 0 0), (5, .optr 41 0 3 0 0), (9, .osl 73 0), (10, .osl 81 0), (13, .isl 1 (rows cInt share)), (14, .int .i64 n1), (15, .int .i64 σ.2.2)]) (fun σ => [(33, 0, .box [.int .i64 m_A, .int .i64 m_B, .int .i64 m_C]), (41, 0, .box [.int .i64 nA, .int .i64 nB, .int .i64 nC]), (73, 0, .row 3 1 (rows cInt σ.1)), (81, 0, .row 3 1 (rows cInt σ.2.1))])
      (fun σ => (0 ≤ σ.2.2) ∧ (σ.2.2 ≤ n1) ∧ (pickG true 0 share = σ.1 ++ pickG true σ.2.2 (share.drop σ.2.2.toNat)) ∧ (pickG false 0 share = σ.2.1 ++ pickG false σ.2.2 (share.drop σ.2.2.toNat)) ∧ ((σ.1.length : Int) ≤ σ.2.2) ∧ ((σ.2.1.length : Int) ≤ σ.2.2)) (fun σ => (n1 - σ.2.2).toNat) ([], [], 0) ?_ ?_ ?_ ?_
    · cbv
    · (try dsimp only); (try simp only [rows_cons, rows_nil]); cbv
    · exact ⟨(by (try dsimp only); first | omega | (simp only [List.length_nil]; omega) | (simp only [List.length_cons, List.length_nil]; omega)), (by (try dsimp only); first | omega | (simp only [List.length_nil]; omega) | (simp only [List.length_cons, List.length_nil]; omega)), (by (try dsimp only) <;> first | omega | rfl | (simp [*]; done)), (by (try dsimp only) <;> first | omega | rfl | (simp [*]; done)), (by (try dsimp only) <;> first | omega | rfl | (simp [*]; done)), (by (try dsimp only) <;> first | omega | rfl | (simp [*]; done))⟩
    rintro ⟨first, second, i1⟩ ⟨lo1, hi1, q1, q2, l1, l2⟩ E hE F hF
    dsimp only at lo1 hi1 q1 q2 l1 l2
    conv => cbv
    refine r_lss m.sX (fun h1 => ?_) (fun h1 => ?_) <;> conv => cbv
    · refine r_index m.sX (by omega) (by omega) fun k hk => ?_
      conv => cbv
      have mk := get_mem hk
      have dk := drop_cons hk
      have kk := take_snoc hk
      have jk : (i1 + 1).toNat = Int.toNat i1 + 1 := by omega
      have vk := nth_some hk
      rw [dk, pickG] at q1 q2
      refine r_eql m.sX (fun h2 => ?_) (fun h2 => ?_) <;> conv => cbv
      · refine r_append1 (i1) m.sX rfl (by first | omega | (dsimp only; omega)) (by first | omega | (dsimp only; omega)) fun first_2 hfirst_2 => ?_
        conv => cbv
        have lfirst_2 : (first_2.length : Int) = first.length + 1 := by rw [hfirst_2]; first | done | (simp; done) | (simp; omega)
        refine r_addf m.sX (by omega) (by omega) fun r1 hr1 => ?_
        conv => cbv
        try have tr1 : Int.toNat r1 = Int.toNat i1 + 1 := by omega
        refine hE _ (first_2, second, r1) ?_ ?_ ⟨(by (try dsimp only); first | omega | (simp only [List.length_nil]; omega) | (simp only [List.length_cons, List.length_nil]; omega)), (by (try dsimp only); first | omega | (simp only [List.length_nil]; omega) | (simp only [List.length_cons, List.length_nil]; omega)), (by (try dsimp only) <;> (first | (rw [q1, hfirst_2, tr1, show r1 = i1 + 1 from hr1]; simp [h2]; done) | (rw [q1, tr1, show r2 = i1 + 1 from hr2]; simp [h2]; done))), (by (try dsimp only) <;> (first | (rw [q2, tr1, show r1 = i1 + 1 from hr1]; simp [h2]; done) | (rw [q2, hsecond_2, tr1, show r2 = i1 + 1 from hr2]; simp [h2]; done))), (by (try dsimp only) <;> first | omega | rfl | (simp [*]; done) | (rw [l1]; simp [*]; done)), (by (try dsimp only) <;> first | omega | rfl | (simp [*]; done) | (rw [l2]; simp [*]; done))⟩ (by first | omega | (dsimp only; omega))
        · cbv
        · cbv
      · refine r_append1 (i1) m.sX rfl (by first | omega | (dsimp only; omega)) (by first | omega | (dsimp only; omega)) fun second_2 hsecond_2 => ?_
        conv => cbv
        have lsecond_2 : (second_2.length : Int) = second.length + 1 := by rw [hsecond_2]; first | done | (simp; done) | (simp; omega)
        refine r_addf m.sX (by omega) (by omega) fun r2 hr2 => ?_
        conv => cbv
        try have tr2 : Int.toNat r2 = Int.toNat i1 + 1 := by omega
        refine hE _ (first, second_2, r2) ?_ ?_ ⟨(by (try dsimp only); first | omega | (simp only [List.length_nil]; omega) | (simp only [List.length_cons, List.length_nil]; omega)), (by (try dsimp only); first | omega | (simp only [List.length_nil]; omega) | (simp only [List.length_cons, List.length_nil]; omega)), (by (try dsimp only) <;> (first | (rw [q1, hfirst_2, tr2, show r1 = i1 + 1 from hr1]; simp [h2]; done) | (rw [q1, tr2, show r2 = i1 + 1 from hr2]; simp [h2]; done))), (by (try dsimp only) <;> (first | (rw [q2, tr2, show r1 = i1 + 1 from hr1]; simp [h2]; done) | (rw [q2, hsecond_2, tr2, show r2 = i1 + 1 from hr2]; simp [h2]; done))), (by (try dsimp only) <;> first | omega | rfl | (simp [*]; done) | (rw [l1]; simp [*]; done)), (by (try dsimp only) <;> first | omega | rfl | (simp [*]; done) | (rw [l2]; simp [*]; done))⟩ (by first | omega | (dsimp only; omega))
        · cbv
        · cbv
    · rw [List.drop_of_length_le (by omega), pickG, List.append_nil] at q1 q2
      have f1 : fineB l.length first = true := by rw [← q1]; exact pick_fine true (by omega)
      have f2 : fineB l.length second = true := by rw [← q2]; exact pick_fine false (by omega)
      have dz_i1 := drop_end (xs := share) (i := Int.toNat i1) (by omega)
      have tz_i1 := take_end (xs := share) (i := Int.toNat i1) (by omega)
      refine hF _ _ ?_
      conv => cbv
      refine r_draw m (by kernel_rfl) ?_
      conv => cbv
      refine .inl (r_callFSO intPV m.sY ((csLast_ok (m_A, m_B, m_C) l first (by first | rfl | assumption | omega | (simp only [List.length_append, List.length_cons, List.length_nil] at *; omega)) (by first | rfl | assumption | omega | (simp only [List.length_append, List.length_cons, List.length_nil] at *; omega)) (by first | rfl | assumption | omega | (simp only [List.length_append, List.length_cons, List.length_nil] at *; omega))).ok flat_int) trivial fun r3 hr3 => ?_)
      conv => cbv
      try dsimp only at hr3
      refine .inl (r_callFSO intPV m.sY ((csLast_ok (nA, nB, nC) l second (by first | rfl | assumption | omega | (simp only [List.length_append, List.length_cons, List.length_nil] at *; omega)) (by first | rfl | assumption | omega | (simp only [List.length_append, List.length_cons, List.length_nil] at *; omega)) (by first | rfl | assumption | omega | (simp only [List.length_append, List.length_cons, List.length_nil] at *; omega))).ok flat_int) trivial fun r4 hr4 => ?_)
      conv => cbv
      try dsimp only at hr4
      refine r_callFS (PV.int .i64) m.sY (l1Most_ok r3 r4) trivial fun r5 hr5 => ?_
      conv => cbv
      try dsimp only at hr5
      exact hQ (.int .i64 r5) (Eq.trans (by first | rfl | (simp only [lb, lbI, rows_cons, rows_nil, unnilT, unnil, unnilTI, unnilI]; done) | (simp only [lb, lbI, rows_cons, rows_nil, unnilT, unnil, unnilTI, unnilI]; rfl)) (congrArg (PV.int .i64) (show r5 = costS (m_A, m_B, m_C) (nA, nB, nC) l share from by rw [hr5, hr3, hr4, costS, q1, q2])))   -- leaf 1

theorem bits_at {n c : Nat} (hn : n ≤ 8) (hc : c < 2 ^ n) : (sharesL n)[c]? = some (bitsL n c) := by
  have h := bits_shares ⟨n, by omega⟩
  rw [← h, List.getElem?_map, List.getElem?_range hc]; rfl
theorem bits_at_ (n c : Nat) (hn : n ≤ 8) (hc : c < 2 ^ n) : (sharesL n)[c]? = some (bitsL n c) := bits_at hn hc
theorem bits_take {n c i : Nat} (h : i < n) : (bitsL n c).take (i + 1) = (bitsL n c).take i ++ [((c / 2 ^ (n - 1 - i) % 2 : Nat) : Int)] := by
  unfold bitsL
  rw [List.take_add_one, List.getElem?_map, List.getElem?_range h]; rfl
theorem pow_wrap {k : Nat} (hk : k ≤ 8) : IntKind.i64.wrap (1 * 2 ^ k) = ((2 ^ k : Nat) : Int) ∧ 2 ^ k ≤ 256 := by
  have : ∀ k : Fin 9, IntKind.i64.wrap (1 * 2 ^ k.val) = ((2 ^ k.val : Nat) : Int) ∧ 2 ^ k.val ≤ 256 := by decide
  exact this ⟨k, by omega⟩
theorem wrapU_id {n : Int} (h0 : 0 ≤ n) (h1 : n ≤ 100) : IntKind.u64.wrap n = n := by
  simp [IntKind.wrap, IntKind.bits, IntKind.signed]; omega
theorem and_one : ∀ x : Fin 257, bits .and .i64 (x.val : Int) 1 = ((x.val % 2 : Nat) : Int) := by decide +kernel
theorem bit_of {c : Int} (h0 : 0 ≤ c) (h1 : c ≤ 256) (k : Nat) : bits .and .i64 (c / 2 ^ k) 1 = ((c.toNat / 2 ^ k % 2 : Nat) : Int) := by
  have e : c / 2 ^ k = ((c.toNat / 2 ^ k : Nat) : Int) := by
    rw [Int.natCast_ediv, Int.toNat_of_nonneg h0, Int.natCast_pow]; rfl
  have hle : c.toNat / 2 ^ k ≤ c.toNat := Nat.div_le_self _ _
  rw [e]
  exact and_one ⟨c.toNat / 2 ^ k, by omega⟩
theorem shares_count : ∀ n : Nat, (sharesL n).length = 2 ^ n
  | 0 => rfl
  | n + 1 => by rw [sharesL, List.length_append, List.length_map, List.length_map, shares_count n, Nat.pow_succ]; omega
theorem share_next {m n : CMach} {l : List Casting} {c : Nat} {s : List Int} {a : List Int × Int} (hc : (sharesL l.length)[c]? = some s) (h : a = ((sharesL l.length).take c).foldl (shareStep m n l) ([], -1)) :
    shareStep m n l a s = ((sharesL l.length).take (c + 1)).foldl (shareStep m n l) ([], -1) := by
  rw [take_snoc hc, List.foldl_append, ← h]; rfl
theorem specShareOfMachines_ok (m_ : CMach) (n : CMach) (l : List Casting)  : OkA Try.prog 10 [.agg (cMachine m_), .agg (cMachine n), .isl 2 (rows cCasting l)] (· = (lic 3 1 cInt) (shareAns m_ n l)) := by
  obtain ⟨m_A, m_B, m_C⟩ := m_
  obtain ⟨nA, nB, nC⟩ := n
  try dsimp only at *
  exact OkA.unnil 3 1 (fn_intro U.envOk U.fieldsOk mixed Try.func10 rfl fun κ X Y L Q m hQ => by
    conv => cbv
    refine r_callB m.sX (csMachine_ok (m_A, m_B, m_C)) (fun h1 => ?_) (fun h1 => ?_) <;> conv => cbv
    · refine r_callB m.sX (csMachine_ok (nA, nB, nC)) (fun h2 => ?_) (fun h2 => ?_) <;> conv => cbv
      · refine r_callB m.sX (csGood_ok l) (fun h3 => ?_) (fun h3 => ?_) <;> conv => cbv
        · have ll := okCs_len h3
          try dsimp only at ll
          have pw := pow_wrap ll
          try dsimp only at pw
          refine r_loopF (α := List Int × Int × Int) m 70 [2, 10, 11] [⟨3, 25, 0, 0, 0⟩, ⟨4, 33, 0, 0, 0⟩, ⟨9, 73, 3, 1, 0⟩] (fun σ => [(2, .isl 2 (rows cCasting l)), (3, .optr 25 0 3 0 0), (4, .optr 33 0 3 0 0), (9, .osl 73 0), (10, .int .i64 σ.2.1), (11, .int .i64 σ.2.2)]) (fun σ => [(25, 0, .box [.int .i64 m_A, .int .i64 m_B, .int .i64 m_C]), (33, 0, .box [.int .i64 nA, .int .i64 nB, .int .i64 nC]), (73, 0, .row 3 1 (rows cInt σ.1))])
            (fun σ => (0 ≤ σ.2.2 ∧ σ.2.2 ≤ ((2 ^ l.length : Nat) : Int)) ∧ ((σ.1, σ.2.1) = ((sharesL l.length).take σ.2.2.toNat).foldl (shareStep (m_A, m_B, m_C) (nA, nB, nC) l) ([], -1))) (fun σ => (((2 ^ l.length : Nat) : Int) - σ.2.2).toNat) ([], -1, 0) ?_ ?_ ?_ ?_
          · cbv
          · (try dsimp only); (try simp only [rows_cons, rows_nil]); cbv
          · exact ⟨(by (try dsimp only) <;> (exact ⟨Int.le_refl _, Int.natCast_nonneg _⟩)), (by (try dsimp only) <;> first | omega | rfl | (simp [*]; done))⟩
          rintro ⟨best, least, code⟩ ⟨cb, q⟩ E hE F hF
          dsimp only at cb q
          conv => cbv
          refine r_lenR m.sX fun n1 hn1 mn1 => ?_
          conv => cbv
          refine r_conv m.sX fun r1 hr1 => ?_   -- r1 = uint of n1
          have er1 : r1 = n1 := by rw [hr1]; exact wrapU_id (by omega) (by omega)
          conv => cbv
          refine r_shl m.sX (by omega) (by simp only [IntKind.bits]; omega) fun r2 hr2 => ?_   -- r2 = 1 shl r1
          have er2 : r2 = ((2 ^ l.length : Nat) : Int) := by rw [hr2, er1, hn1, Int.toNat_natCast]; exact pw.1
          conv => cbv
          refine r_lss m.sX (fun h4 => ?_) (fun h4 => ?_) <;> conv => cbv
          · refine r_lenR m.sX fun n2 hn2 mn2 => ?_
            conv => cbv
            refine r_loopF (α := List Int × Int) m 70 [2, 10, 11, 37, 38] [⟨3, 25, 0, 0, 0⟩, ⟨4, 33, 0, 0, 0⟩, ⟨9, 73, 3, 1, 0⟩, ⟨12, 97, 3, 1, 0⟩] (fun σ => [(2, .isl 2 (rows cCasting l)), (3, .optr 25 0 3 0 0), (4, .optr 33 0 3 0 0), (9, .osl 73 0), (10, .int .i64 least), (11, .int .i64 code), (12, .osl 97 0), (37, .int .i64 n2), (38, .int .i64 σ.2)]) (fun σ => [(25, 0, .box [.int .i64 m_A, .int .i64 m_B, .int .i64 m_C]), (33, 0, .box [.int .i64 nA, .int .i64 nB, .int .i64 nC]), (73, 0, .row 3 1 (rows cInt best)), (97, 0, .row 3 1 (rows cInt σ.1))])
              (fun σ => (0 ≤ σ.2) ∧ (σ.2 ≤ n2) ∧ (σ.1 = (bitsL l.length code.toNat).take σ.2.toNat) ∧ ((σ.1.length : Int) = σ.2)) (fun σ => (n2 - σ.2).toNat) ([], 0) ?_ ?_ ?_ ?_
            · cbv
            · (try dsimp only); (try simp only [rows_cons, rows_nil]); cbv
            · exact ⟨(by (try dsimp only); first | omega | (simp only [List.length_nil]; omega) | (simp only [List.length_cons, List.length_nil]; omega)), (by (try dsimp only); first | omega | (simp only [List.length_nil]; omega) | (simp only [List.length_cons, List.length_nil]; omega)), (by (try dsimp only) <;> (simp)), (by (try dsimp only) <;> first | omega | rfl | (simp [*]; done))⟩
            rintro ⟨share, i1⟩ ⟨lo2, hi2, q2, sl⟩ E2 hE2 F2 hF2
            dsimp only at lo2 hi2 q2 sl
            conv => cbv
            refine r_lss m.sX (fun h5 => ?_) (fun h5 => ?_) <;> conv => cbv
            · refine r_lenR m.sX fun n3 hn3 mn3 => ?_
              conv => cbv
              refine r_subf m.sX (by omega) (by omega) fun r3 hr3 => ?_
              conv => cbv
              refine r_subf m.sX (by omega) (by omega) fun r4 hr4 => ?_
              conv => cbv
              refine r_conv m.sX fun r5 hr5 => ?_   -- r5 = uint of r4
              have er5 : r5 = r4 := by rw [hr5]; exact wrapU_id (by omega) (by omega)
              conv => cbv
              refine r_shr m.sX (by omega) (by simp only [IntKind.bits]; omega) fun r6 hr6 => ?_   -- r6 = code shr r5
              conv => cbv
              refine r_and m.sX fun r7 hr7 => ?_   -- r7 = r6 and 1
              have er7 : r7 = ((code.toNat / 2 ^ (l.length - 1 - i1.toNat) % 2 : Nat) : Int) := by rw [hr7, hr6, bit_of (by omega) (by omega), show r5.toNat = l.length - 1 - i1.toNat by omega]
              conv => cbv
              refine r_append1 (r7) m.sX rfl (by first | omega | (dsimp only; omega)) (by first | omega | (dsimp only; omega)) fun share_2 hshare_2 => ?_
              conv => cbv
              have lshare_2 : (share_2.length : Int) = share.length + 1 := by rw [hshare_2]; first | done | (simp; done) | (simp; omega)
              refine r_addf m.sX (by omega) (by omega) fun r8 hr8 => ?_
              conv => cbv
              try have tr8 : Int.toNat r8 = Int.toNat i1 + 1 := by omega
              refine hE2 _ (share_2, r8) ?_ ?_ ⟨(by (try dsimp only); first | omega | (simp only [List.length_nil]; omega) | (simp only [List.length_cons, List.length_nil]; omega)), (by (try dsimp only); first | omega | (simp only [List.length_nil]; omega) | (simp only [List.length_cons, List.length_nil]; omega)), (by (try dsimp only) <;> (rw [tr8, hshare_2, q2, bits_take (by omega), er7])), (by (try dsimp only) <;> first | omega | rfl | (simp [*]; done) | (rw [sl]; simp [*]; done))⟩ (by first | omega | (dsimp only; omega))
              · cbv
              · cbv
            · have hb := bits_at_ l.length code.toNat ll (by omega)
              try dsimp only at hb
              rw [List.take_of_length_le (by simp [bitsL]; omega)] at q2
              rw [← q2] at hb
              have sn := share_next hb q
              try dsimp only at sn
              have dz_i1 := drop_end (xs := l) (i := Int.toNat i1) (by omega)
              have tz_i1 := take_end (xs := l) (i := Int.toNat i1) (by omega)
              refine hF2 _ _ ?_
              conv => cbv
              refine .inl (r_callFO intPV m.sX ((csShared_ok (m_A, m_B, m_C) (nA, nB, nC) l share (by first | rfl | assumption | omega | (simp only [List.length_append, List.length_cons, List.length_nil] at *; omega)) (by first | rfl | assumption | omega | (simp only [List.length_append, List.length_cons, List.length_nil] at *; omega)) (by first | rfl | assumption | omega | (simp only [List.length_append, List.length_cons, List.length_nil] at *; omega)) (by first | rfl | assumption | omega | (simp only [List.length_append, List.length_cons, List.length_nil] at *; omega))).ok flat_int) fun end_ hend_ => ?_)
              conv => cbv
              try dsimp only at hend_
              refine r_lss m.sX (fun h6 => ?_) (fun h6 => ?_) <;> conv => cbv
              · refine r_addf m.sX (by omega) (by omega) fun code_2 hcode_2 => ?_
                conv => cbv
                refine hE _ (share, end_, code_2) ?_ ?_ ⟨(by (try dsimp only) <;> first | omega | rfl | (simp [*]; done) | (rw [cb]; simp [*]; done)), (by (try dsimp only) <;> (first | (rw [show code_2.toNat = code.toNat + 1 by omega, ← sn, shareStep, if_pos (.inl h6), hend_]; done) | (rw [show code_3.toNat = code.toNat + 1 by omega, ← sn, shareStep, if_pos (.inr (by rw [← hend_]; exact h7)), hend_]; done) | (rw [show code_4.toNat = code.toNat + 1 by omega, ← sn, shareStep, if_neg (by rw [← hend_]; dsimp only; omega)]; done)))⟩ (by first | omega | (dsimp only; omega))
                · cbv
                · cbv
              · refine r_lss m.sX (fun h7 => ?_) (fun h7 => ?_) <;> conv => cbv
                · refine r_addf m.sX (by omega) (by omega) fun code_3 hcode_3 => ?_
                  conv => cbv
                  refine hE _ (share, end_, code_3) ?_ ?_ ⟨(by (try dsimp only) <;> first | omega | rfl | (simp [*]; done) | (rw [cb]; simp [*]; done)), (by (try dsimp only) <;> (first | (rw [show code_2.toNat = code.toNat + 1 by omega, ← sn, shareStep, if_pos (.inl h6), hend_]; done) | (rw [show code_3.toNat = code.toNat + 1 by omega, ← sn, shareStep, if_pos (.inr (by rw [← hend_]; exact h7)), hend_]; done) | (rw [show code_4.toNat = code.toNat + 1 by omega, ← sn, shareStep, if_neg (by rw [← hend_]; dsimp only; omega)]; done)))⟩ (by first | omega | (dsimp only; omega))
                  · cbv
                  · cbv
                · refine r_addf m.sX (by omega) (by omega) fun code_4 hcode_4 => ?_
                  conv => cbv
                  refine hE _ (best, least, code_4) ?_ ?_ ⟨(by (try dsimp only) <;> first | omega | rfl | (simp [*]; done) | (rw [cb]; simp [*]; done)), (by (try dsimp only) <;> (first | (rw [show code_2.toNat = code.toNat + 1 by omega, ← sn, shareStep, if_pos (.inl h6), hend_]; done) | (rw [show code_3.toNat = code.toNat + 1 by omega, ← sn, shareStep, if_pos (.inr (by rw [← hend_]; exact h7)), hend_]; done) | (rw [show code_4.toNat = code.toNat + 1 by omega, ← sn, shareStep, if_neg (by rw [← hend_]; dsimp only; omega)]; done)))⟩ (by first | omega | (dsimp only; omega))
                  · cbv
                  · cbv
          · refine hF _ _ ?_
            conv => cbv
            exact hQ (.tup [.fr 3 1 (rows cInt best), .int .i64 least, .bool true]) (Eq.trans (by first | rfl | (simp only [lic, licI, lb, lbI, rows_cons, rows_nil, unnilT, unnil, unnilTI, unnilI]; done) | (simp only [lic, licI, lb, lbI, rows_cons, rows_nil, unnilT, unnil, unnilTI, unnilI]; rfl)) (congrArg ((lic 3 1 cInt)) (show (best, least, true) = shareAns (m_A, m_B, m_C) (nA, nB, nC) l from by rw [List.take_of_length_le (by rw [shares_count]; omega)] at q; rw [shareAns, h1, h2, h3, shareF, ← q]; rfl)))   -- leaf 1
        · exact hQ (.tup [.nil, .int .i64 0, .bool false]) (Eq.trans (by first | rfl | (simp only [lic, licI, lb, lbI, rows_cons, rows_nil, unnilT, unnil, unnilTI, unnilI]; done) | (simp only [lic, licI, lb, lbI, rows_cons, rows_nil, unnilT, unnil, unnilTI, unnilI]; rfl)) (congrArg ((lic 3 1 cInt)) (show ([], 0, false) = shareAns (m_A, m_B, m_C) (nA, nB, nC) l from by simp [shareAns, *])))   -- leaf 2
      · exact hQ (.tup [.nil, .int .i64 0, .bool false]) (Eq.trans (by first | rfl | (simp only [lic, licI, lb, lbI, rows_cons, rows_nil, unnilT, unnil, unnilTI, unnilI]; done) | (simp only [lic, licI, lb, lbI, rows_cons, rows_nil, unnilT, unnil, unnilTI, unnilI]; rfl)) (congrArg ((lic 3 1 cInt)) (show ([], 0, false) = shareAns (m_A, m_B, m_C) (nA, nB, nC) l from by simp [shareAns, *])))   -- leaf 3
    · exact hQ (.tup [.nil, .int .i64 0, .bool false]) (Eq.trans (by first | rfl | (simp only [lic, licI, lb, lbI, rows_cons, rows_nil, unnilT, unnil, unnilTI, unnilI]; done) | (simp only [lic, licI, lb, lbI, rows_cons, rows_nil, unnilT, unnil, unnilTI, unnilI]; rfl)) (congrArg ((lic 3 1 cInt)) (show ([], 0, false) = shareAns (m_A, m_B, m_C) (nA, nB, nC) l from by simp [shareAns, *]))))   -- leaf 4

theorem specMostCastings_ok (m_ : CMach) (l : List Casting) (minutes : Int)  : OkA Try.prog 15 [.agg (cMachine m_), .isl 2 (rows cCasting l), .int .i64 minutes] (· = (lbI 1 cInt) (mostAns m_ l minutes)) := by
  obtain ⟨m_A, m_B, m_C⟩ := m_
  try dsimp only at *
  exact OkA.iceI 1 (fn_intro envOk fieldsOk mixed Try.func15 rfl fun κ X Y L Q m hQ => by
    conv => cbv
    refine r_callB m.sX (csMachine_ok (m_A, m_B, m_C)) (fun h1 => ?_) (fun h1 => ?_) <;> conv => cbv
    · refine r_callB m.sX (csGood_ok l) (fun h2 => ?_) (fun h2 => ?_) <;> conv => cbv
      · refine r_callB m.sX (csMinutes_ok minutes) (fun h3 => ?_) (fun h3 => ?_) <;> conv => cbv
        · refine r_callF (fun l => PV.isl _ (rows _ l)) m.sX (csMost_ok (m_A, m_B, m_C) l minutes (by assumption) (by assumption) (by have := inB_spec h3; omega)) fun v1 hv1 => ?_
          conv => cbv
          try dsimp only at hv1
          exact hQ (.tup [.isl 1 (rows cInt v1), .bool true]) (Eq.trans (by first | rfl | (simp only [lb, lbI, rows_cons, rows_nil, unnilT, unnil, unnilTI, unnilI]; done) | (simp only [lb, lbI, rows_cons, rows_nil, unnilT, unnil, unnilTI, unnilI]; rfl)) (congrArg ((lbI 1 cInt)) (show (v1, true) = mostAns (m_A, m_B, m_C) l minutes from by simp [mostAns, *])))   -- leaf 1
        · exact hQ (.tup [.nil, .bool false]) (Eq.trans (by first | rfl | (simp only [lb, lbI, rows_cons, rows_nil, unnilT, unnil, unnilTI, unnilI]; done) | (simp only [lb, lbI, rows_cons, rows_nil, unnilT, unnil, unnilTI, unnilI]; rfl)) (congrArg ((lbI 1 cInt)) (show ([], false) = mostAns (m_A, m_B, m_C) l minutes from by simp [mostAns, *])))   -- leaf 2
      · exact hQ (.tup [.nil, .bool false]) (Eq.trans (by first | rfl | (simp only [lb, lbI, rows_cons, rows_nil, unnilT, unnil, unnilTI, unnilI]; done) | (simp only [lb, lbI, rows_cons, rows_nil, unnilT, unnil, unnilTI, unnilI]; rfl)) (congrArg ((lbI 1 cInt)) (show ([], false) = mostAns (m_A, m_B, m_C) l minutes from by simp [mostAns, *])))   -- leaf 3
    · exact hQ (.tup [.nil, .bool false]) (Eq.trans (by first | rfl | (simp only [lb, lbI, rows_cons, rows_nil, unnilT, unnil, unnilTI, unnilI]; done) | (simp only [lb, lbI, rows_cons, rows_nil, unnilT, unnil, unnilTI, unnilI]; rfl)) (congrArg ((lbI 1 cInt)) (show ([], false) = mostAns (m_A, m_B, m_C) l minutes from by simp [mostAns, *]))))   -- leaf 4

end Go.Proofs.Ytjmjepdlclehoaa.Ai
