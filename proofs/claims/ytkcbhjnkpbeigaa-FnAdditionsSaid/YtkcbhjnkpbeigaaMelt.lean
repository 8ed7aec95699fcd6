/- Contracts of the functions on melts and blends. -/
import Derived.Test.YtkcbhjnkpbeigaaMeltLaw
import Derived.Test.YtkcbhjnkpbeigaaLit
namespace Go.Proofs.Ytkcbhjnkpbeigaa.Ai
open Go Go.Proofs
set_option maxRecDepth 10000
set_option maxHeartbeats 4000000
set_option linter.unusedVariables false


theorem isGrams_ok (n : Int)  : OkA Try.prog 151 [.int .i64 n] (· = .bool (inB n 0 1000000)) :=
  fn_intro envOk fieldsOk mixed Try.func151 rfl fun κ X Y L Q m hQ => by
    conv => cbv
    refine r_callB m.sX (within_ok n 0 1000000) (fun h1 => ?_) (fun h1 => ?_) <;> conv => cbv
    · exact hQ _ (congrArg PV.bool (by exact h1.symm))   -- leaf 1
    · exact hQ _ (congrArg PV.bool (by exact h1.symm))   -- leaf 2

theorem IsMelt_ok (m_ : Melt)  : OkA Try.prog 93 [.agg (cMelt m_)] (· = .bool (okMelt m_)) := by
  obtain ⟨m_A, m_B, m_C⟩ := m_
  try dsimp only at *
  exact fn_intro envOk fieldsOk mixed Try.func93 rfl fun κ X Y L Q m hQ => by
    conv => cbv
    refine r_callB m.sX (isGrams_ok m_A) (fun h1 => ?_) (fun h1 => ?_) <;> conv => cbv
    · refine r_callB m.sX (isGrams_ok m_B) (fun h2 => ?_) (fun h2 => ?_) <;> conv => cbv
      · refine r_callB m.sX (isGrams_ok m_C) (fun h3 => ?_) (fun h3 => ?_) <;> conv => cbv
        · exact hQ _ (congrArg PV.bool (by first | rfl | omega | (simp [okMelt, *]; done) | (subst_vars; simp [okMelt, *]; done)))   -- leaf 1
        · exact hQ _ (congrArg PV.bool (by first | rfl | omega | (simp [okMelt, *]; done) | (subst_vars; simp [okMelt, *]; done)))   -- leaf 2
      · exact hQ _ (congrArg PV.bool (by first | rfl | omega | (simp [okMelt, *]; done) | (subst_vars; simp [okMelt, *]; done)))   -- leaf 3
    · exact hQ _ (congrArg PV.bool (by first | rfl | omega | (simp [okMelt, *]; done) | (subst_vars; simp [okMelt, *]; done)))   -- leaf 4

theorem grams_ok (m_ : Melt) (hm : okMelt m_ = true) : OkA Try.prog 79 [.agg (cMelt m_)] (· = .int .i64 (gr m_)) := by
  obtain ⟨m_A, m_B, m_C⟩ := m_
  try dsimp only at *
  exact fn_intro envOk fieldsOk mixed Try.func79 rfl fun κ X Y L Q m hQ => by
    have bm := okMelt_spec hm
    try dsimp only at bm
    conv => cbv
    refine r_addf m.sX (by omega) (by omega) fun r1 hr1 => ?_
    conv => cbv
    refine r_addf m.sX (by omega) (by omega) fun r2 hr2 => ?_
    conv => cbv
    exact hQ (.int .i64 r2) (Eq.trans (by first | rfl | (simp only [lb, lbI, rows_cons, rows_nil, unnilT, unnil, unnilTI, unnilI]; done) | (simp only [lb, lbI, rows_cons, rows_nil, unnilT, unnil, unnilTI, unnilI]; rfl)) (congrArg (PV.int .i64) (show r2 = gr (m_A, m_B, m_C) from by rw [hr2, hr1]; rfl)))   -- leaf 1

theorem isMetal_ok (m_ : Melt)  : OkA Try.prog 76 [.agg (cMelt m_)] (· = .bool (okMetal m_)) := by
  obtain ⟨m_A, m_B, m_C⟩ := m_
  try dsimp only at *
  exact fn_intro envOk fieldsOk mixed Try.func76 rfl fun κ X Y L Q m hQ => by
    conv => cbv
    refine r_callB m.sX (IsMelt_ok (m_A, m_B, m_C)) (fun h1 => ?_) (fun h1 => ?_) <;> conv => cbv
    · refine r_callF (PV.int .i64) m.sX (grams_ok (m_A, m_B, m_C) (by first | rfl | assumption | omega | (simp only [List.length_append, List.length_cons, List.length_nil] at *; omega))) fun r1 hr1 => ?_
      conv => cbv
      try dsimp only at hr1
      refine r_gtr m.sX (fun h2 => ?_) (fun h2 => ?_) <;> conv => cbv
      · exact hQ _ (congrArg PV.bool (by rw [okMetal, h1, decide_eq_true (by omega)]; rfl))   -- leaf 1
      · exact hQ _ (congrArg PV.bool (by rw [okMetal, h1, decide_eq_false (by omega)]; rfl))   -- leaf 2
    · exact hQ _ (congrArg PV.bool (by rw [okMetal, h1]; rfl))   -- leaf 3

theorem areShares_ok (low : Int) (high : Int)  : OkA Try.prog 89 [.int .i64 low, .int .i64 high] (· = .bool (okSh low high)) :=
  fn_intro envOk fieldsOk mixed Try.func89 rfl fun κ X Y L Q m hQ => by
    conv => cbv
    refine r_geq m.sX (fun h1 => ?_) (fun h1 => ?_) <;> conv => cbv
    · refine r_leq m.sX (fun h2 => ?_) (fun h2 => ?_) <;> conv => cbv
      · refine r_leq m.sX (fun h3 => ?_) (fun h3 => ?_) <;> conv => cbv
        · exact hQ _ (congrArg PV.bool (by rw [okSh, decide_eq_true (by omega), decide_eq_true (by omega), decide_eq_true (by omega)]; rfl))   -- leaf 1
        · exact hQ _ (congrArg PV.bool (by rw [okSh, decide_eq_true (by omega), decide_eq_true (by omega), decide_eq_false (by omega)]; rfl))   -- leaf 2
      · exact hQ _ (congrArg PV.bool (by rw [okSh, decide_eq_true (by omega), decide_eq_false (by omega)]; rfl))   -- leaf 3
    · exact hQ _ (congrArg PV.bool (by rw [okSh, decide_eq_false (by omega)]; rfl))   -- leaf 4

theorem IsBlend_ok (b : Blend)  : OkA Try.prog 18 [.agg (cBlend b)] (· = .bool (okBlend b)) := by
  obtain ⟨bA, bB, bC, bD⟩ := b
  try dsimp only at *
  exact fn_intro envOk fieldsOk mixed Try.func18 rfl fun κ X Y L Q m hQ => by
    conv => cbv
    refine r_callB m.sX (areShares_ok bA bB) (fun h1 => ?_) (fun h1 => ?_) <;> conv => cbv
    · refine r_callB m.sX (areShares_ok bC bD) (fun h2 => ?_) (fun h2 => ?_) <;> conv => cbv
      · exact hQ _ (congrArg PV.bool (by first | rfl | omega | (simp [okBlend, *]; done) | (subst_vars; simp [okBlend, *]; done)))   -- leaf 1
      · exact hQ _ (congrArg PV.bool (by first | rfl | omega | (simp [okBlend, *]; done) | (subst_vars; simp [okBlend, *]; done)))   -- leaf 2
    · exact hQ _ (congrArg PV.bool (by first | rfl | omega | (simp [okBlend, *]; done) | (subst_vars; simp [okBlend, *]; done)))   -- leaf 3

theorem meParts_ok (m_ : Melt)  : OkA Try.prog 152 [.agg (cMelt m_)] (· = .fr 3 1 (rows cInt ([m_.1, m_.2.1, m_.2.2]))) := by
  obtain ⟨m_A, m_B, m_C⟩ := m_
  try dsimp only at *
  exact OkA.unnil 3 1 (fn_intro envOk fieldsOk mixed Try.func152 rfl fun κ X Y L Q m hQ => by
    conv => cbv
    exact hQ (.fr 3 1 [[.int .i64 m_A], [.int .i64 m_B], [.int .i64 m_C]]) (Eq.trans (by first | rfl | (simp only [lb, lbI, rows_cons, rows_nil, unnilT, unnil, unnilTI, unnilI]; done) | (simp only [lb, lbI, rows_cons, rows_nil, unnilT, unnil, unnilTI, unnilI]; rfl)) (congrArg (fun l => PV.fr 3 1 (rows cInt l)) (show [m_A, m_B, m_C] = [m_A, m_B, m_C] from by rfl))))   -- leaf 1

theorem meGood_ok (m_ : Melt)  : OkA Try.prog 95 [.agg (cMelt m_)] (· = .bool (okMelt m_)) := by
  obtain ⟨m_A, m_B, m_C⟩ := m_
  try dsimp only at *
  exact fn_intro envOk fieldsOk mixed Try.func95 rfl fun κ X Y L Q m hQ => by
    conv => cbv
    refine r_callF (fun l => PV.fr _ _ (rows _ l)) m.sX (meParts_ok (m_A, m_B, m_C)) fun v1 hv1 => ?_
    conv => cbv
    try dsimp only at hv1
    refine .inl (r_callBO m.sX ((l1All_ok v1 0 1000000).ok flat_bool) (fun h1 => ?_) (fun h1 => ?_)) <;> conv => cbv
    · exact hQ _ (congrArg PV.bool (by rw [← h1, hv1]; simp [okMelt, allB]))   -- leaf 1
    · exact hQ _ (congrArg PV.bool (by rw [← h1, hv1]; simp [okMelt, allB]))   -- leaf 2

theorem meGrams_ok (m_ : Melt) (hm : okMelt m_ = true) : OkA Try.prog 82 [.agg (cMelt m_)] (· = .int .i64 (gr m_)) := by
  obtain ⟨m_A, m_B, m_C⟩ := m_
  try dsimp only at *
  exact fn_intro envOk fieldsOk mixed Try.func82 rfl fun κ X Y L Q m hQ => by
    have bm := okMelt_spec hm
    try dsimp only at bm
    conv => cbv
    refine r_addf m.sX (by omega) (by omega) fun r1 hr1 => ?_
    conv => cbv
    refine r_addf m.sX (by omega) (by omega) fun r2 hr2 => ?_
    conv => cbv
    exact hQ (.int .i64 r2) (Eq.trans (by first | rfl | (simp only [lb, lbI, rows_cons, rows_nil, unnilT, unnil, unnilTI, unnilI]; done) | (simp only [lb, lbI, rows_cons, rows_nil, unnilT, unnil, unnilTI, unnilI]; rfl)) (congrArg (PV.int .i64) (show r2 = gr (m_A, m_B, m_C) from by rw [hr2, hr1]; rfl)))   -- leaf 1

theorem meBlend_ok (b : Blend)  : OkA Try.prog 96 [.agg (cBlend b)] (· = .bool (okBlend b)) := by
  obtain ⟨bA, bB, bC, bD⟩ := b
  try dsimp only at *
  exact fn_intro envOk fieldsOk mixed Try.func96 rfl fun κ X Y L Q m hQ => by
    conv => cbv
    refine r_callB m.sX (l1In_ok bA 0 1000) (fun h1 => ?_) (fun h1 => ?_) <;> conv => cbv
    · refine r_callB m.sX (l1In_ok bB bA 1000) (fun h2 => ?_) (fun h2 => ?_) <;> conv => cbv
      · refine r_callB m.sX (l1In_ok bC 0 1000) (fun h3 => ?_) (fun h3 => ?_) <;> conv => cbv
        · refine r_callB m.sX (l1In_ok bD bC 1000) (fun h4 => ?_) (fun h4 => ?_) <;> conv => cbv
          · exact hQ _ (congrArg PV.bool (by rw [okBlend, ← okSh_eq, ← okSh_eq]; simp [*]))   -- leaf 1
          · exact hQ _ (congrArg PV.bool (by rw [okBlend, ← okSh_eq, ← okSh_eq]; simp [*]))   -- leaf 2
        · exact hQ _ (congrArg PV.bool (by rw [okBlend, ← okSh_eq, ← okSh_eq]; simp [*]))   -- leaf 3
      · exact hQ _ (congrArg PV.bool (by rw [okBlend, ← okSh_eq, ← okSh_eq]; simp [*]))   -- leaf 4
    · exact hQ _ (congrArg PV.bool (by rw [okBlend, ← okSh_eq, ← okSh_eq]; simp [*]))   -- leaf 5

theorem meAsked_ok (m_ : Melt) (b : Blend)  : OkA Try.prog 80 [.agg (cMelt m_), .agg (cBlend b)] (· = .bool (okMetal m_ && okBlend b)) := by
  obtain ⟨m_A, m_B, m_C⟩ := m_
  obtain ⟨bA, bB, bC, bD⟩ := b
  try dsimp only at *
  exact fn_intro envOk fieldsOk mixed Try.func80 rfl fun κ X Y L Q m hQ => by
    conv => cbv
    refine r_callB m.sX (meGood_ok (m_A, m_B, m_C)) (fun h1 => ?_) (fun h1 => ?_) <;> conv => cbv
    · refine r_callF (PV.int .i64) m.sX (meGrams_ok (m_A, m_B, m_C) (by first | rfl | assumption | omega | (simp only [List.length_append, List.length_cons, List.length_nil] at *; omega))) fun r1 hr1 => ?_
      conv => cbv
      try dsimp only at hr1
      refine r_gtr m.sX (fun h2 => ?_) (fun h2 => ?_) <;> conv => cbv
      · refine r_callB m.sX (meBlend_ok (bA, bB, bC, bD)) (fun h3 => ?_) (fun h3 => ?_) <;> conv => cbv
        · exact hQ _ (congrArg PV.bool (by rw [okMetal, h1, decide_eq_true (by omega), h3]; rfl))   -- leaf 1
        · exact hQ _ (congrArg PV.bool (by rw [okMetal, h1, decide_eq_true (by omega), h3]; rfl))   -- leaf 2
      · exact hQ _ (congrArg PV.bool (by rw [okMetal, h1, decide_eq_false (by omega)]; rfl))   -- leaf 3
    · exact hQ _ (congrArg PV.bool (by rw [okMetal, h1]; rfl))   -- leaf 4

theorem meUp_ok (a : Int) (b : Int) (ha : 1 ≤ a ∧ a ≤ 10000000000) (hb : 1 ≤ b ∧ b ≤ 10000000000) : OkA Try.prog 148 [.int .i64 a, .int .i64 b] (· = .int .i64 ((a + b - 1) / b)) :=
  fn_intro envOk fieldsOk mixed Try.func148 rfl fun κ X Y L Q m hQ => by
    conv => cbv
    refine r_addf m.sX (by omega) (by omega) fun r1 hr1 => ?_
    conv => cbv
    refine r_subf m.sX (by omega) (by omega) fun r2 hr2 => ?_
    conv => cbv
    refine r_divf m.sX (by omega) (by omega) fun r3 hr3 br3 => ?_
    conv => cbv
    refine r_callF (PV.int .i64) m.sX (l1Most_ok 0 r3) fun r4 hr4 => ?_
    conv => cbv
    exact hQ (.int .i64 r4) (Eq.trans (by first | rfl | (simp only [lb, lbI, rows_cons, rows_nil, unnilT, unnil, unnilTI, unnilI]; done) | (simp only [lb, lbI, rows_cons, rows_nil, unnilT, unnil, unnilTI, unnilI]; rfl)) (congrArg (PV.int .i64) (show r4 = (a + b - 1) / b from by rw [hr4, ← hr1, ← hr2, ← hr3]; omega)))   -- leaf 1

theorem meAdd_ok (grams : Int) (all : Int) (share : Int) (hg : 0 ≤ grams ∧ grams ≤ 1000000) (ha : 0 ≤ all ∧ all ≤ 3000000) (hs : 0 ≤ share ∧ share ≤ 1000) : OkA Try.prog 81 [.int .i64 grams, .int .i64 all, .int .i64 share] (· = ib (upF (share * all - 1000 * grams) (1000 - share))) :=
  fn_intro envOk fieldsOk mixed Try.func81 rfl fun κ X Y L Q m hQ => by
    have mb := mul_bound hs.1 hs.2 ha.1 ha.2
    conv => cbv
    refine r_mulf m.sX (by first | omega | (subst_vars; omega)) (by first | omega | (subst_vars; omega)) fun r1 hr1 => ?_
    conv => cbv
    refine r_mulf m.sX (by first | omega | (subst_vars; omega)) (by first | omega | (subst_vars; omega)) fun r2 hr2 => ?_
    conv => cbv
    refine r_subf m.sX (by omega) (by omega) fun lack hlack => ?_
    conv => cbv
    have el : share * all - 1000 * grams = lack := by omega
    refine r_leq m.sX (fun h1 => ?_) (fun h1 => ?_) <;> conv => cbv
    · exact hQ (.tup [.int .i64 0, .bool true]) (Eq.trans (by first | rfl | (simp only [lb, lbI, rows_cons, rows_nil, unnilT, unnil, unnilTI, unnilI]; done) | (simp only [lb, lbI, rows_cons, rows_nil, unnilT, unnil, unnilTI, unnilI]; rfl)) (congrArg (ib) (show (0, true) = upF (share * all - 1000 * grams) (1000 - share) from by rw [el, upF, if_pos (by omega)])))   -- leaf 1
    · refine r_eql m.sX (fun h2 => ?_) (fun h2 => ?_) <;> conv => cbv
      · exact hQ (.tup [.int .i64 0, .bool false]) (Eq.trans (by first | rfl | (simp only [lb, lbI, rows_cons, rows_nil, unnilT, unnil, unnilTI, unnilI]; done) | (simp only [lb, lbI, rows_cons, rows_nil, unnilT, unnil, unnilTI, unnilI]; rfl)) (congrArg (ib) (show (0, false) = upF (share * all - 1000 * grams) (1000 - share) from by rw [el, upF, if_neg (by omega), if_pos (.inl (by omega))])))   -- leaf 2
      · refine r_subf m.sX (by omega) (by omega) fun r3 hr3 => ?_
        conv => cbv
        refine r_callF (PV.int .i64) m.sX (meUp_ok lack r3 (by first | rfl | assumption | omega | (simp only [List.length_append, List.length_cons, List.length_nil] at *; omega)) (by first | rfl | assumption | omega | (simp only [List.length_append, List.length_cons, List.length_nil] at *; omega))) fun r4 hr4 => ?_
        conv => cbv
        refine r_gtr m.sX (fun h3 => ?_) (fun h3 => ?_) <;> conv => cbv
        · exact hQ (.tup [.int .i64 0, .bool false]) (Eq.trans (by first | rfl | (simp only [lb, lbI, rows_cons, rows_nil, unnilT, unnil, unnilTI, unnilI]; done) | (simp only [lb, lbI, rows_cons, rows_nil, unnilT, unnil, unnilTI, unnilI]; rfl)) (congrArg (ib) (show (0, false) = upF (share * all - 1000 * grams) (1000 - share) from by rw [el, ← hr3, upF, if_neg (by omega), if_pos (.inr (by omega))])))   -- leaf 3
        · refine r_subf m.sX (by omega) (by omega) fun r5 hr5 => ?_
          conv => cbv
          refine r_callF (PV.int .i64) m.sX (meUp_ok lack r5 (by first | rfl | assumption | omega | (simp only [List.length_append, List.length_cons, List.length_nil] at *; omega)) (by first | rfl | assumption | omega | (simp only [List.length_append, List.length_cons, List.length_nil] at *; omega))) fun r6 hr6 => ?_
          conv => cbv
          exact hQ (.tup [.int .i64 r6, .bool true]) (Eq.trans (by first | rfl | (simp only [lb, lbI, rows_cons, rows_nil, unnilT, unnil, unnilTI, unnilI]; done) | (simp only [lb, lbI, rows_cons, rows_nil, unnilT, unnil, unnilTI, unnilI]; rfl)) (congrArg (ib) (show (r6, true) = upF (share * all - 1000 * grams) (1000 - share) from by have e5 : r5 = r3 := (by omega); rw [e5] at hr6; rw [el, ← hr3, upF, if_neg (by omega), if_neg (by omega), ← hr6])))   -- leaf 4

theorem meThin_ok (grams : Int) (all : Int) (share : Int) (hg : 0 ≤ grams ∧ grams ≤ 1000000) (ha : 0 ≤ all ∧ all ≤ 3000000) (hs : 0 ≤ share ∧ share ≤ 1000) : OkA Try.prog 85 [.int .i64 grams, .int .i64 all, .int .i64 share] (· = ib (upF (1000 * grams - share * all) share)) :=
  fn_intro envOk fieldsOk mixed Try.func85 rfl fun κ X Y L Q m hQ => by
    have mb := mul_bound hs.1 hs.2 ha.1 ha.2
    conv => cbv
    refine r_mulf m.sX (by first | omega | (subst_vars; omega)) (by first | omega | (subst_vars; omega)) fun r1 hr1 => ?_
    conv => cbv
    refine r_mulf m.sX (by first | omega | (subst_vars; omega)) (by first | omega | (subst_vars; omega)) fun r2 hr2 => ?_
    conv => cbv
    refine r_subf m.sX (by omega) (by omega) fun much hmuch => ?_
    conv => cbv
    have el : 1000 * grams - share * all = much := by omega
    refine r_leq m.sX (fun h1 => ?_) (fun h1 => ?_) <;> conv => cbv
    · exact hQ (.tup [.int .i64 0, .bool true]) (Eq.trans (by first | rfl | (simp only [lb, lbI, rows_cons, rows_nil, unnilT, unnil, unnilTI, unnilI]; done) | (simp only [lb, lbI, rows_cons, rows_nil, unnilT, unnil, unnilTI, unnilI]; rfl)) (congrArg (ib) (show (0, true) = upF (1000 * grams - share * all) share from by rw [el, upF, if_pos (by omega)])))   -- leaf 1
    · refine r_eql m.sX (fun h2 => ?_) (fun h2 => ?_) <;> conv => cbv
      · exact hQ (.tup [.int .i64 0, .bool false]) (Eq.trans (by first | rfl | (simp only [lb, lbI, rows_cons, rows_nil, unnilT, unnil, unnilTI, unnilI]; done) | (simp only [lb, lbI, rows_cons, rows_nil, unnilT, unnil, unnilTI, unnilI]; rfl)) (congrArg (ib) (show (0, false) = upF (1000 * grams - share * all) share from by rw [el, upF, if_neg (by omega), if_pos (.inl (by omega))])))   -- leaf 2
      · refine r_callF (PV.int .i64) m.sX (meUp_ok much share (by first | rfl | assumption | omega | (simp only [List.length_append, List.length_cons, List.length_nil] at *; omega)) (by first | rfl | assumption | omega | (simp only [List.length_append, List.length_cons, List.length_nil] at *; omega))) fun r3 hr3 => ?_
        conv => cbv
        refine r_gtr m.sX (fun h3 => ?_) (fun h3 => ?_) <;> conv => cbv
        · exact hQ (.tup [.int .i64 0, .bool false]) (Eq.trans (by first | rfl | (simp only [lb, lbI, rows_cons, rows_nil, unnilT, unnil, unnilTI, unnilI]; done) | (simp only [lb, lbI, rows_cons, rows_nil, unnilT, unnil, unnilTI, unnilI]; rfl)) (congrArg (ib) (show (0, false) = upF (1000 * grams - share * all) share from by rw [el, upF, if_neg (by omega), if_pos (.inr (by omega))])))   -- leaf 3
        · refine r_callF (PV.int .i64) m.sX (meUp_ok much share (by first | rfl | assumption | omega | (simp only [List.length_append, List.length_cons, List.length_nil] at *; omega)) (by first | rfl | assumption | omega | (simp only [List.length_append, List.length_cons, List.length_nil] at *; omega))) fun y1 hy1 => ?_
          obtain rfl := hr3.trans hy1.symm
          clear hy1
          conv => cbv
          exact hQ (.tup [.int .i64 r3, .bool true]) (Eq.trans (by first | rfl | (simp only [lb, lbI, rows_cons, rows_nil, unnilT, unnil, unnilTI, unnilI]; done) | (simp only [lb, lbI, rows_cons, rows_nil, unnilT, unnil, unnilTI, unnilI]; rfl)) (congrArg (ib) (show (r3, true) = upF (1000 * grams - share * all) share from by rw [el, upF, if_neg (by omega), if_neg (by omega), ← hr3])))   -- leaf 4

theorem specTinToAdd_ok (m_ : Melt) (b : Blend)  : OkA Try.prog 11 [.agg (cMelt m_), .agg (cBlend b)] (· = ib (tinAns m_ b)) := by
  obtain ⟨m_A, m_B, m_C⟩ := m_
  obtain ⟨bA, bB, bC, bD⟩ := b
  try dsimp only at *
  exact fn_intro envOk fieldsOk mixed Try.func11 rfl fun κ X Y L Q m hQ => by
    conv => cbv
    refine r_callB m.sX (meAsked_ok (m_A, m_B, m_C) (bA, bB, bC, bD)) (fun h1 => ?_) (fun h1 => ?_) <;> conv => cbv
    · obtain ⟨fm, fb, fg, fbl, fok⟩ := asked_spec h1
      refine r_draw m (by kernel_rfl) ?_
      conv => cbv
      refine r_callFS (PV.int .i64) m.sY (meGrams_ok (m_A, m_B, m_C) (by first | rfl | assumption | omega | (simp only [List.length_append, List.length_cons, List.length_nil] at *; omega))) trivial fun r1 hr1 => ?_
      conv => cbv
      try dsimp only at hr1
      refine r_callFS ib m.sY (meAdd_ok m_B r1 bA (by first | rfl | assumption | omega | (simp only [List.length_append, List.length_cons, List.length_nil] at *; omega)) (by first | rfl | assumption | omega | (simp only [List.length_append, List.length_cons, List.length_nil] at *; omega)) (by first | rfl | assumption | omega | (simp only [List.length_append, List.length_cons, List.length_nil] at *; omega))) (by first | trivial | exact noFr_tup2 trivial trivial | exact noFr_tup3 trivial trivial trivial) fun v hv1 => ?_
      obtain ⟨v1, v2⟩ := v
      conv => cbv
      try dsimp only at hv1
      exact hQ (.tup [.int .i64 v1, .bool v2]) (Eq.trans (by first | rfl | (simp only [lb, lbI, rows_cons, rows_nil, unnilT, unnil, unnilTI, unnilI]; done) | (simp only [lb, lbI, rows_cons, rows_nil, unnilT, unnil, unnilTI, unnilI]; rfl)) (congrArg (ib) (show (v1, v2) = tinAns (m_A, m_B, m_C) (bA, bB, bC, bD) from by rw [tinAns, if_pos h1, hv1, hr1])))   -- leaf 1
    · exact hQ (.tup [.int .i64 0, .bool false]) (Eq.trans (by first | rfl | (simp only [lb, lbI, rows_cons, rows_nil, unnilT, unnil, unnilTI, unnilI]; done) | (simp only [lb, lbI, rows_cons, rows_nil, unnilT, unnil, unnilTI, unnilI]; rfl)) (congrArg (ib) (show (0, false) = tinAns (m_A, m_B, m_C) (bA, bB, bC, bD) from by rw [tinAns, h1]; rfl)))   -- leaf 2

theorem specAntimonyToAdd_ok (m_ : Melt) (b : Blend)  : OkA Try.prog 13 [.agg (cMelt m_), .agg (cBlend b)] (· = ib (antAns m_ b)) := by
  obtain ⟨m_A, m_B, m_C⟩ := m_
  obtain ⟨bA, bB, bC, bD⟩ := b
  try dsimp only at *
  exact fn_intro envOk fieldsOk mixed Try.func13 rfl fun κ X Y L Q m hQ => by
    conv => cbv
    refine r_callB m.sX (meAsked_ok (m_A, m_B, m_C) (bA, bB, bC, bD)) (fun h1 => ?_) (fun h1 => ?_) <;> conv => cbv
    · obtain ⟨fm, fb, fg, fbl, fok⟩ := asked_spec h1
      refine r_draw m (by kernel_rfl) ?_
      conv => cbv
      refine r_callFS (PV.int .i64) m.sY (meGrams_ok (m_A, m_B, m_C) (by first | rfl | assumption | omega | (simp only [List.length_append, List.length_cons, List.length_nil] at *; omega))) trivial fun r1 hr1 => ?_
      conv => cbv
      try dsimp only at hr1
      refine r_callFS ib m.sY (meAdd_ok m_C r1 bC (by first | rfl | assumption | omega | (simp only [List.length_append, List.length_cons, List.length_nil] at *; omega)) (by first | rfl | assumption | omega | (simp only [List.length_append, List.length_cons, List.length_nil] at *; omega)) (by first | rfl | assumption | omega | (simp only [List.length_append, List.length_cons, List.length_nil] at *; omega))) (by first | trivial | exact noFr_tup2 trivial trivial | exact noFr_tup3 trivial trivial trivial) fun v hv1 => ?_
      obtain ⟨v1, v2⟩ := v
      conv => cbv
      try dsimp only at hv1
      exact hQ (.tup [.int .i64 v1, .bool v2]) (Eq.trans (by first | rfl | (simp only [lb, lbI, rows_cons, rows_nil, unnilT, unnil, unnilTI, unnilI]; done) | (simp only [lb, lbI, rows_cons, rows_nil, unnilT, unnil, unnilTI, unnilI]; rfl)) (congrArg (ib) (show (v1, v2) = antAns (m_A, m_B, m_C) (bA, bB, bC, bD) from by rw [antAns, if_pos h1, hv1, hr1])))   -- leaf 1
    · exact hQ (.tup [.int .i64 0, .bool false]) (Eq.trans (by first | rfl | (simp only [lb, lbI, rows_cons, rows_nil, unnilT, unnil, unnilTI, unnilI]; done) | (simp only [lb, lbI, rows_cons, rows_nil, unnilT, unnil, unnilTI, unnilI]; rfl)) (congrArg (ib) (show (0, false) = antAns (m_A, m_B, m_C) (bA, bB, bC, bD) from by rw [antAns, h1]; rfl)))   -- leaf 2

theorem specLeadToAdd_ok (m_ : Melt) (b : Blend)  : OkA Try.prog 15 [.agg (cMelt m_), .agg (cBlend b)] (· = ib (leadAns m_ b)) := by
  obtain ⟨m_A, m_B, m_C⟩ := m_
  obtain ⟨bA, bB, bC, bD⟩ := b
  try dsimp only at *
  exact fn_intro envOk fieldsOk mixed Try.func15 rfl fun κ X Y L Q m hQ => by
    conv => cbv
    refine r_callB m.sX (meAsked_ok (m_A, m_B, m_C) (bA, bB, bC, bD)) (fun h1 => ?_) (fun h1 => ?_) <;> conv => cbv
    · obtain ⟨fm, fb, fg, fbl, fok⟩ := asked_spec h1
      refine r_draw m (by kernel_rfl) ?_
      conv => cbv
      refine r_callFS (PV.int .i64) m.sY (meGrams_ok (m_A, m_B, m_C) (by first | rfl | assumption | omega | (simp only [List.length_append, List.length_cons, List.length_nil] at *; omega))) trivial fun r1 hr1 => ?_
      conv => cbv
      try dsimp only at hr1
      refine r_callFS ib m.sY (meThin_ok m_B r1 bB (by first | rfl | assumption | omega | (simp only [List.length_append, List.length_cons, List.length_nil] at *; omega)) (by first | rfl | assumption | omega | (simp only [List.length_append, List.length_cons, List.length_nil] at *; omega)) (by first | rfl | assumption | omega | (simp only [List.length_append, List.length_cons, List.length_nil] at *; omega))) (by first | trivial | exact noFr_tup2 trivial trivial | exact noFr_tup3 trivial trivial trivial) fun v htin => ?_
      obtain ⟨tin, one⟩ := v
      conv => cbv
      try dsimp only at htin
      refine r_draw m (by kernel_rfl) ?_
      conv => cbv
      refine r_callFS (PV.int .i64) m.sY (meGrams_ok (m_A, m_B, m_C) (by first | rfl | assumption | omega | (simp only [List.length_append, List.length_cons, List.length_nil] at *; omega))) trivial fun y1 hy1 => ?_
      obtain rfl := hr1.trans hy1.symm
      clear hy1
      conv => cbv
      refine r_callFS ib m.sY (meThin_ok m_C r1 bD (by first | rfl | assumption | omega | (simp only [List.length_append, List.length_cons, List.length_nil] at *; omega)) (by first | rfl | assumption | omega | (simp only [List.length_append, List.length_cons, List.length_nil] at *; omega)) (by first | rfl | assumption | omega | (simp only [List.length_append, List.length_cons, List.length_nil] at *; omega))) (by first | trivial | exact noFr_tup2 trivial trivial | exact noFr_tup3 trivial trivial trivial) fun v hantimony => ?_
      obtain ⟨antimony, two⟩ := v
      conv => cbv
      try dsimp only at hantimony
      rcases Bool.eq_false_or_eq_true one with rfl | rfl <;> conv => cbv
      · rcases Bool.eq_false_or_eq_true two with rfl | rfl <;> conv => cbv
        · refine r_callF (PV.int .i64) m.sX (l1Most_ok tin antimony) fun r2 hr2 => ?_
          conv => cbv
          try dsimp only at hr2
          exact hQ (.tup [.int .i64 r2, .bool true]) (Eq.trans (by first | rfl | (simp only [lb, lbI, rows_cons, rows_nil, unnilT, unnil, unnilTI, unnilI]; done) | (simp only [lb, lbI, rows_cons, rows_nil, unnilT, unnil, unnilTI, unnilI]; rfl)) (congrArg (ib) (show (r2, true) = leadAns (m_A, m_B, m_C) (bA, bB, bC, bD) from by rw [lead_eq (t := tin) (a := antimony) (p := true) (q := true) h1 (by rw [← hr1]; exact htin) (by rw [← hr1]; exact hantimony), hr2]; rfl)))   -- leaf 1
        · exact hQ (.tup [.int .i64 0, .bool false]) (Eq.trans (by first | rfl | (simp only [lb, lbI, rows_cons, rows_nil, unnilT, unnil, unnilTI, unnilI]; done) | (simp only [lb, lbI, rows_cons, rows_nil, unnilT, unnil, unnilTI, unnilI]; rfl)) (congrArg (ib) (show (0, false) = leadAns (m_A, m_B, m_C) (bA, bB, bC, bD) from by rw [lead_eq (t := tin) (a := antimony) (p := true) (q := false) h1 (by rw [← hr1]; exact htin) (by rw [← hr1]; exact hantimony)]; rfl)))   -- leaf 2
      · exact hQ (.tup [.int .i64 0, .bool false]) (Eq.trans (by first | rfl | (simp only [lb, lbI, rows_cons, rows_nil, unnilT, unnil, unnilTI, unnilI]; done) | (simp only [lb, lbI, rows_cons, rows_nil, unnilT, unnil, unnilTI, unnilI]; rfl)) (congrArg (ib) (show (0, false) = leadAns (m_A, m_B, m_C) (bA, bB, bC, bD) from by rw [lead_eq (t := tin) (a := antimony) (p := false) (q := two) h1 (by rw [← hr1]; exact htin) (by rw [← hr1]; exact hantimony)]; rfl)))   -- leaf 3
    · exact hQ (.tup [.int .i64 0, .bool false]) (Eq.trans (by first | rfl | (simp only [lb, lbI, rows_cons, rows_nil, unnilT, unnil, unnilTI, unnilI]; done) | (simp only [lb, lbI, rows_cons, rows_nil, unnilT, unnil, unnilTI, unnilI]; rfl)) (congrArg (ib) (show (0, false) = leadAns (m_A, m_B, m_C) (bA, bB, bC, bD) from by rw [leadAns, h1]; rfl)))   -- leaf 4

theorem fits_ok (m_ : Melt) (b : Blend) (hm : okMelt m_ = true) (hb : okBlend b = true) : OkA Try.prog 87 [.agg (cMelt m_), .agg (cBlend b)] (· = .bool (fitsF m_ b)) := by
  obtain ⟨m_A, m_B, m_C⟩ := m_
  obtain ⟨bA, bB, bC, bD⟩ := b
  try dsimp only at *
  exact fn_intro envOk fieldsOk mixed Try.func87 rfl fun κ X Y L Q m hQ => by
    have bm := okMelt_spec hm
    try dsimp only at bm
    have bb2 := okBlend_spec hb
    try dsimp only at bb2
    conv => cbv
    refine r_callF (PV.int .i64) m.sX (grams_ok (m_A, m_B, m_C) (by first | rfl | assumption | omega | (simp only [List.length_append, List.length_cons, List.length_nil] at *; omega))) fun all hall => ?_
    conv => cbv
    try dsimp only at hall
    have ba : 0 ≤ all ∧ all ≤ 3000000 := by rw [hall]; exact gr_bound hm
    have q1 := mul_bound (a := bA) (A := 1000) (by omega) (by omega) ba.1 ba.2
    try dsimp only at q1
    have q2 := mul_bound (a := bB) (A := 1000) (by omega) (by omega) ba.1 ba.2
    try dsimp only at q2
    have q3 := mul_bound (a := bC) (A := 1000) (by omega) (by omega) ba.1 ba.2
    try dsimp only at q3
    have q4 := mul_bound (a := bD) (A := 1000) (by omega) (by omega) ba.1 ba.2
    try dsimp only at q4
    refine r_mulf m.sX (by first | omega | (subst_vars; omega)) (by first | omega | (subst_vars; omega)) fun r1 hr1 => ?_
    conv => cbv
    refine r_mulf m.sX (by first | omega | (subst_vars; omega)) (by first | omega | (subst_vars; omega)) fun r2 hr2 => ?_
    conv => cbv
    refine r_mulf m.sX (by first | omega | (subst_vars; omega)) (by first | omega | (subst_vars; omega)) fun r3 hr3 => ?_
    conv => cbv
    refine r_callB m.sX (within_ok r1 r2 r3) (fun h1 => ?_) (fun h1 => ?_) <;> conv => cbv
    · refine r_mulf m.sX (by first | omega | (subst_vars; omega)) (by first | omega | (subst_vars; omega)) fun r4 hr4 => ?_
      conv => cbv
      refine r_mulf m.sX (by first | omega | (subst_vars; omega)) (by first | omega | (subst_vars; omega)) fun r5 hr5 => ?_
      conv => cbv
      refine r_mulf m.sX (by first | omega | (subst_vars; omega)) (by first | omega | (subst_vars; omega)) fun r6 hr6 => ?_
      conv => cbv
      refine r_callB m.sX (within_ok r4 r5 r6) (fun h2 => ?_) (fun h2 => ?_) <;> conv => cbv
      · exact hQ _ (congrArg PV.bool (by rw [fitsF, ← hall, ← hr1, ← hr2, ← hr3, h1, ← hr4, ← hr5, ← hr6, h2]; rfl))   -- leaf 1
      · exact hQ _ (congrArg PV.bool (by rw [fitsF, ← hall, ← hr1, ← hr2, ← hr3, h1, ← hr4, ← hr5, ← hr6, h2]; rfl))   -- leaf 2
    · exact hQ _ (congrArg PV.bool (by rw [fitsF, ← hall, ← hr1, ← hr2, ← hr3, h1]; rfl))   -- leaf 3

theorem DoesFit_ok (m_ : Melt) (b : Blend)  : OkA Try.prog 16 [.agg (cMelt m_), .agg (cBlend b)] (· = bb (doesAns m_ b)) := by
  obtain ⟨m_A, m_B, m_C⟩ := m_
  obtain ⟨bA, bB, bC, bD⟩ := b
  try dsimp only at *
  exact fn_intro envOk fieldsOk mixed Try.func16 rfl fun κ X Y L Q m hQ => by
    conv => cbv
    refine r_callB m.sX (isMetal_ok (m_A, m_B, m_C)) (fun h1 => ?_) (fun h1 => ?_) <;> conv => cbv
    · obtain ⟨fm, fg⟩ := okMetal_spec h1
      refine r_callB m.sX (IsBlend_ok (bA, bB, bC, bD)) (fun h2 => ?_) (fun h2 => ?_) <;> conv => cbv
      · refine r_callB m.sX (fits_ok (m_A, m_B, m_C) (bA, bB, bC, bD) (by first | rfl | assumption | omega | (simp only [List.length_append, List.length_cons, List.length_nil] at *; omega)) (by first | rfl | assumption | omega | (simp only [List.length_append, List.length_cons, List.length_nil] at *; omega))) (fun h3 => ?_) (fun h3 => ?_) <;> conv => cbv
        · exact hQ (.tup [.bool true, .bool true]) (Eq.trans (by first | rfl | (simp only [lb, lbI, rows_cons, rows_nil, unnilT, unnil, unnilTI, unnilI]; done) | (simp only [lb, lbI, rows_cons, rows_nil, unnilT, unnil, unnilTI, unnilI]; rfl)) (congrArg (bb) (show (true, true) = doesAns (m_A, m_B, m_C) (bA, bB, bC, bD) from by rw [doesAns, h1, h2, h3]; rfl)))   -- leaf 1
        · exact hQ (.tup [.bool false, .bool true]) (Eq.trans (by first | rfl | (simp only [lb, lbI, rows_cons, rows_nil, unnilT, unnil, unnilTI, unnilI]; done) | (simp only [lb, lbI, rows_cons, rows_nil, unnilT, unnil, unnilTI, unnilI]; rfl)) (congrArg (bb) (show (false, true) = doesAns (m_A, m_B, m_C) (bA, bB, bC, bD) from by rw [doesAns, h1, h2, h3]; rfl)))   -- leaf 2
      · exact hQ (.tup [.bool false, .bool false]) (Eq.trans (by first | rfl | (simp only [lb, lbI, rows_cons, rows_nil, unnilT, unnil, unnilTI, unnilI]; done) | (simp only [lb, lbI, rows_cons, rows_nil, unnilT, unnil, unnilTI, unnilI]; rfl)) (congrArg (bb) (show (false, false) = doesAns (m_A, m_B, m_C) (bA, bB, bC, bD) from by rw [doesAns, h1, h2]; rfl)))   -- leaf 3
    · exact hQ (.tup [.bool false, .bool false]) (Eq.trans (by first | rfl | (simp only [lb, lbI, rows_cons, rows_nil, unnilT, unnil, unnilTI, unnilI]; done) | (simp only [lb, lbI, rows_cons, rows_nil, unnilT, unnil, unnilTI, unnilI]; rfl)) (congrArg (bb) (show (false, false) = doesAns (m_A, m_B, m_C) (bA, bB, bC, bD) from by rw [doesAns, h1]; rfl)))   -- leaf 4

theorem meFits_ok (m_ : Melt) (b : Blend) (hm : okMelt m_ = true) (hb : okBlend b = true) : OkA Try.prog 88 [.agg (cMelt m_), .agg (cBlend b)] (· = .bool (fitsF m_ b)) := by
  obtain ⟨m_A, m_B, m_C⟩ := m_
  obtain ⟨bA, bB, bC, bD⟩ := b
  try dsimp only at *
  exact fn_intro envOk fieldsOk mixed Try.func88 rfl fun κ X Y L Q m hQ => by
    have bm := okMelt_spec hm
    try dsimp only at bm
    have bb2 := okBlend_spec hb
    try dsimp only at bb2
    conv => cbv
    refine r_callF (PV.int .i64) m.sX (meGrams_ok (m_A, m_B, m_C) (by first | rfl | assumption | omega | (simp only [List.length_append, List.length_cons, List.length_nil] at *; omega))) fun all hall => ?_
    conv => cbv
    try dsimp only at hall
    have ba : 0 ≤ all ∧ all ≤ 3000000 := by rw [hall]; exact gr_bound hm
    have q1 := mul_bound (a := bA) (A := 1000) (by omega) (by omega) ba.1 ba.2
    try dsimp only at q1
    have q2 := mul_bound (a := bB) (A := 1000) (by omega) (by omega) ba.1 ba.2
    try dsimp only at q2
    have q3 := mul_bound (a := bC) (A := 1000) (by omega) (by omega) ba.1 ba.2
    try dsimp only at q3
    have q4 := mul_bound (a := bD) (A := 1000) (by omega) (by omega) ba.1 ba.2
    try dsimp only at q4
    refine r_mulf m.sX (by first | omega | (subst_vars; omega)) (by first | omega | (subst_vars; omega)) fun r1 hr1 => ?_
    conv => cbv
    refine r_mulf m.sX (by first | omega | (subst_vars; omega)) (by first | omega | (subst_vars; omega)) fun r2 hr2 => ?_
    conv => cbv
    refine r_mulf m.sX (by first | omega | (subst_vars; omega)) (by first | omega | (subst_vars; omega)) fun r3 hr3 => ?_
    conv => cbv
    refine r_callB m.sX (l1In_ok r1 r2 r3) (fun h1 => ?_) (fun h1 => ?_) <;> conv => cbv
    · refine r_mulf m.sX (by first | omega | (subst_vars; omega)) (by first | omega | (subst_vars; omega)) fun r4 hr4 => ?_
      conv => cbv
      refine r_mulf m.sX (by first | omega | (subst_vars; omega)) (by first | omega | (subst_vars; omega)) fun r5 hr5 => ?_
      conv => cbv
      refine r_mulf m.sX (by first | omega | (subst_vars; omega)) (by first | omega | (subst_vars; omega)) fun r6 hr6 => ?_
      conv => cbv
      refine r_callB m.sX (l1In_ok r4 r5 r6) (fun h2 => ?_) (fun h2 => ?_) <;> conv => cbv
      · exact hQ _ (congrArg PV.bool (by rw [fitsF, ← hall, ← hr1, ← hr2, ← hr3, h1, ← hr4, ← hr5, ← hr6, h2]; rfl))   -- leaf 1
      · exact hQ _ (congrArg PV.bool (by rw [fitsF, ← hall, ← hr1, ← hr2, ← hr3, h1, ← hr4, ← hr5, ← hr6, h2]; rfl))   -- leaf 2
    · exact hQ _ (congrArg PV.bool (by rw [fitsF, ← hall, ← hr1, ← hr2, ← hr3, h1]; rfl))   -- leaf 3

theorem specDoesFit_ok (m_ : Melt) (b : Blend)  : OkA Try.prog 17 [.agg (cMelt m_), .agg (cBlend b)] (· = bb (doesAns m_ b)) := by
  obtain ⟨m_A, m_B, m_C⟩ := m_
  obtain ⟨bA, bB, bC, bD⟩ := b
  try dsimp only at *
  exact fn_intro envOk fieldsOk mixed Try.func17 rfl fun κ X Y L Q m hQ => by
    conv => cbv
    refine r_callB m.sX (meAsked_ok (m_A, m_B, m_C) (bA, bB, bC, bD)) (fun h1 => ?_) (fun h1 => ?_) <;> conv => cbv
    · obtain ⟨fm, fb, fg, fbl, fok⟩ := asked_spec h1
      refine r_callB m.sX (meFits_ok (m_A, m_B, m_C) (bA, bB, bC, bD) (by first | rfl | assumption | omega | (simp only [List.length_append, List.length_cons, List.length_nil] at *; omega)) (by first | rfl | assumption | omega | (simp only [List.length_append, List.length_cons, List.length_nil] at *; omega))) (fun h2 => ?_) (fun h2 => ?_) <;> conv => cbv
      · exact hQ (.tup [.bool true, .bool true]) (Eq.trans (by first | rfl | (simp only [lb, lbI, rows_cons, rows_nil, unnilT, unnil, unnilTI, unnilI]; done) | (simp only [lb, lbI, rows_cons, rows_nil, unnilT, unnil, unnilTI, unnilI]; rfl)) (congrArg (bb) (show (true, true) = doesAns (m_A, m_B, m_C) (bA, bB, bC, bD) from by rw [doesAns, h1, h2]; rfl)))   -- leaf 1
      · exact hQ (.tup [.bool false, .bool true]) (Eq.trans (by first | rfl | (simp only [lb, lbI, rows_cons, rows_nil, unnilT, unnil, unnilTI, unnilI]; done) | (simp only [lb, lbI, rows_cons, rows_nil, unnilT, unnil, unnilTI, unnilI]; rfl)) (congrArg (bb) (show (false, true) = doesAns (m_A, m_B, m_C) (bA, bB, bC, bD) from by rw [doesAns, h1, h2]; rfl)))   -- leaf 2
    · exact hQ (.tup [.bool false, .bool false]) (Eq.trans (by first | rfl | (simp only [lb, lbI, rows_cons, rows_nil, unnilT, unnil, unnilTI, unnilI]; done) | (simp only [lb, lbI, rows_cons, rows_nil, unnilT, unnil, unnilTI, unnilI]; rfl)) (congrArg (bb) (show (false, false) = doesAns (m_A, m_B, m_C) (bA, bB, bC, bD) from by rw [doesAns, h1]; rfl)))   -- leaf 3

theorem plus_ok (m_ : Melt) (n : Melt) (h1 : (-9000000000 ≤ m_.1 ∧ m_.1 ≤ 9000000000) ∧ (-9000000000 ≤ m_.2.1 ∧ m_.2.1 ≤ 9000000000) ∧ (-9000000000 ≤ m_.2.2 ∧ m_.2.2 ≤ 9000000000)) (h2 : (-9000000000 ≤ n.1 ∧ n.1 ≤ 9000000000) ∧ (-9000000000 ≤ n.2.1 ∧ n.2.1 ≤ 9000000000) ∧ (-9000000000 ≤ n.2.2 ∧ n.2.2 ≤ 9000000000)) : OkA Try.prog 94 [.agg (cMelt m_), .agg (cMelt n)] (· = (fun x => PV.agg (cMelt x)) (mPlus m_ n)) := by
  obtain ⟨m_A, m_B, m_C⟩ := m_
  obtain ⟨nA, nB, nC⟩ := n
  try dsimp only at *
  exact fn_intro envOk fieldsOk mixed Try.func94 rfl fun κ X Y L Q m hQ => by
    conv => cbv
    refine r_addf m.sX (by omega) (by omega) fun r1 hr1 => ?_
    conv => cbv
    refine r_addf m.sX (by omega) (by omega) fun r2 hr2 => ?_
    conv => cbv
    refine r_addf m.sX (by omega) (by omega) fun r3 hr3 => ?_
    conv => cbv
    exact hQ (.agg [.int .i64 r1, .int .i64 r2, .int .i64 r3]) (Eq.trans (by first | rfl | (simp only [lb, lbI, rows_cons, rows_nil, unnilT, unnil, unnilTI, unnilI]; done) | (simp only [lb, lbI, rows_cons, rows_nil, unnilT, unnil, unnilTI, unnilI]; rfl)) (congrArg ((fun x => PV.agg (cMelt x))) (show (r1, r2, r3) = mPlus (m_A, m_B, m_C) (nA, nB, nC) from by rw [hr1, hr2, hr3]; rfl)))   -- leaf 1

theorem meJoin_ok (a : Melt) (b : Melt) (h1 : (-9000000000 ≤ a.1 ∧ a.1 ≤ 9000000000) ∧ (-9000000000 ≤ a.2.1 ∧ a.2.1 ≤ 9000000000) ∧ (-9000000000 ≤ a.2.2 ∧ a.2.2 ≤ 9000000000)) (h2 : (-9000000000 ≤ b.1 ∧ b.1 ≤ 9000000000) ∧ (-9000000000 ≤ b.2.1 ∧ b.2.1 ≤ 9000000000) ∧ (-9000000000 ≤ b.2.2 ∧ b.2.2 ≤ 9000000000)) : OkA Try.prog 97 [.agg (cMelt a), .agg (cMelt b)] (· = (fun x => PV.agg (cMelt x)) (mPlus a b)) := by
  obtain ⟨aA, aB, aC⟩ := a
  obtain ⟨bA, bB, bC⟩ := b
  try dsimp only at *
  exact fn_intro envOk fieldsOk mixed Try.func97 rfl fun κ X Y L Q m hQ => by
    conv => cbv
    refine r_addf m.sX (by omega) (by omega) fun r1 hr1 => ?_
    conv => cbv
    refine r_addf m.sX (by omega) (by omega) fun r2 hr2 => ?_
    conv => cbv
    refine r_addf m.sX (by omega) (by omega) fun r3 hr3 => ?_
    conv => cbv
    exact hQ (.agg [.int .i64 r1, .int .i64 r2, .int .i64 r3]) (Eq.trans (by first | rfl | (simp only [lb, lbI, rows_cons, rows_nil, unnilT, unnil, unnilTI, unnilI]; done) | (simp only [lb, lbI, rows_cons, rows_nil, unnilT, unnil, unnilTI, unnilI]; rfl)) (congrArg ((fun x => PV.agg (cMelt x))) (show (r1, r2, r3) = mPlus (aA, aB, aC) (bA, bB, bC) from by rw [hr1, hr2, hr3]; rfl)))   -- leaf 1

theorem LeastOfOther_ok (m_ : Melt) (other : Melt) (b : Blend)  : OkA Try.prog 20 [.agg (cMelt m_), .agg (cMelt other), .agg (cBlend b)] (· = ib (othAns m_ other b)) := by
  obtain ⟨m_A, m_B, m_C⟩ := m_
  obtain ⟨otherA, otherB, otherC⟩ := other
  obtain ⟨bA, bB, bC, bD⟩ := b
  try dsimp only at *
  exact fn_intro envOk fieldsOk mixed Try.func20 rfl fun κ X Y L Q m hQ => by
    conv => cbv
    refine r_callB m.sX (IsMelt_ok (m_A, m_B, m_C)) (fun h1 => ?_) (fun h1 => ?_) <;> conv => cbv
    · refine r_callB m.sX (IsMelt_ok (otherA, otherB, otherC)) (fun h2 => ?_) (fun h2 => ?_) <;> conv => cbv
      · have bo := okMelt_spec h2
        try dsimp only at bo
        refine r_callB m.sX (IsBlend_ok (bA, bB, bC, bD)) (fun h3 => ?_) (fun h3 => ?_) <;> conv => cbv
        · refine r_loopF (α := Int × Int × Int × Int) m 42 [8] [⟨3, 25, 0, 0, 0⟩, ⟨4, 33, 0, 0, 0⟩, ⟨5, 41, 0, 0, 0⟩] (fun σ => [(3, .optr 25 0 3 0 0), (4, .optr 33 0 3 0 0), (5, .optr 41 0 4 0 0), (8, .int .i64 σ.2.2.2)]) (fun σ => [(25, 0, .box [.int .i64 σ.1, .int .i64 σ.2.1, .int .i64 σ.2.2.1]), (33, 0, .box [.int .i64 otherA, .int .i64 otherB, .int .i64 otherC]), (41, 0, .box [.int .i64 bA, .int .i64 bB, .int .i64 bC, .int .i64 bD])])
            (fun σ => ((σ.1, σ.2.1, σ.2.2.1) = mTimes (m_A, m_B, m_C) (otherA, otherB, otherC) σ.2.2.2) ∧ (0 ≤ σ.2.2.2) ∧ (othF (m_A, m_B, m_C) (otherA, otherB, otherC) (bA, bB, bC, bD) 201 0 = othF (m_A, m_B, m_C) (otherA, otherB, otherC) (bA, bB, bC, bD) (201 - σ.2.2.2).toNat σ.2.2.2)) (fun σ => (201 - σ.2.2.2).toNat) (m_A, m_B, m_C, 0) ?_ ?_ ?_ ?_
          · cbv
          · cbv
          · exact ⟨(by (try dsimp only) <;> (exact (mTimes_zero _ _).symm)), (by (try dsimp only) <;> first | omega | rfl | (simp [*]; done)), (by (try dsimp only) <;> (rfl))⟩
          rintro ⟨f1, f2, f3, n⟩ ⟨w, nb, q⟩ E hE F hF
          dsimp only at w nb q
          conv => cbv
          refine r_leq m.sX (fun h4 => ?_) (fun h4 => ?_) <;> conv => cbv
          · refine r_callB m.sX (IsMelt_ok (f1, f2, f3)) (fun h5 => ?_) (fun h5 => ?_) <;> conv => cbv
            · have bf := okMelt_spec h5
              try dsimp only at bf
              refine r_callF (PV.int .i64) m.sX (grams_ok (f1, f2, f3) (by first | rfl | assumption | omega | (simp only [List.length_append, List.length_cons, List.length_nil] at *; omega))) fun r1 hr1 => ?_
              conv => cbv
              try dsimp only at hr1
              refine r_gtr m.sX (fun h6 => ?_) (fun h6 => ?_) <;> conv => cbv
              · refine r_callB m.sX (fits_ok (f1, f2, f3) (bA, bB, bC, bD) (by first | rfl | assumption | omega | (simp only [List.length_append, List.length_cons, List.length_nil] at *; omega)) (by first | rfl | assumption | omega | (simp only [List.length_append, List.length_cons, List.length_nil] at *; omega))) (fun h7 => ?_) (fun h7 => ?_) <;> conv => cbv
                · have g : goodAt (f1, f2, f3) (bA, bB, bC, bD) = true := good_yes hr1 h6 h7
                  refine hF _ _ ?_
                  conv => cbv
                  exact hQ (.tup [.int .i64 n, .bool true]) (Eq.trans (by first | rfl | (simp only [lb, lbI, rows_cons, rows_nil, unnilT, unnil, unnilTI, unnilI]; done) | (simp only [lb, lbI, rows_cons, rows_nil, unnilT, unnil, unnilTI, unnilI]; rfl)) (congrArg (ib) (show (n, true) = othAns (m_A, m_B, m_C) (otherA, otherB, otherC) (bA, bB, bC, bD) from by rw [othAns, if_pos (by rw [h1, h2, h3]; rfl), q]; exact (oth_good nb h4 w h5 g).symm)))   -- leaf 1
                · have g : goodAt (f1, f2, f3) (bA, bB, bC, bD) = false := good_no hr1 (.inr h7)
                  refine r_callF (fun x => PV.agg (cMelt x)) m.sX (plus_ok (f1, f2, f3) (otherA, otherB, otherC) (by first | rfl | assumption | omega | (simp only [List.length_append, List.length_cons, List.length_nil] at *; omega)) (by first | rfl | assumption | omega | (simp only [List.length_append, List.length_cons, List.length_nil] at *; omega))) fun v hm__2A => ?_
                  obtain ⟨m__2A, m__2B, m__2C⟩ := v
                  conv => cbv
                  try dsimp only at hm__2
                  have hm__2 := hm__2A
                  refine r_addf m.sX (by omega) (by omega) fun n_2 hn_2 => ?_
                  conv => cbv
                  refine hE _ (m__2A, m__2B, m__2C, n_2) ?_ ?_ ⟨(by (try dsimp only) <;> (first | (rw [hm__2, w, mTimes_next, show n_2 = n + 1 by omega]) | (rw [hm__3, w, mTimes_next, show n_3 = n + 1 by omega]))), (by (try dsimp only) <;> first | omega | rfl | (simp [*]; done) | (rw [nb]; simp [*]; done)), (by (try dsimp only) <;> (first | (rw [show n_2 = n + 1 by omega, q]; exact oth_next nb h4 w h5 g) | (rw [show n_3 = n + 1 by omega, q]; exact oth_next nb h4 w h5 g)))⟩ (by first | omega | (dsimp only; omega))
                  · cbv
                  · cbv
              · have g : goodAt (f1, f2, f3) (bA, bB, bC, bD) = false := good_no hr1 (.inl h6)
                refine r_callF (fun x => PV.agg (cMelt x)) m.sX (plus_ok (f1, f2, f3) (otherA, otherB, otherC) (by first | rfl | assumption | omega | (simp only [List.length_append, List.length_cons, List.length_nil] at *; omega)) (by first | rfl | assumption | omega | (simp only [List.length_append, List.length_cons, List.length_nil] at *; omega))) fun v hm__3A => ?_
                obtain ⟨m__3A, m__3B, m__3C⟩ := v
                conv => cbv
                try dsimp only at hm__3
                have hm__3 := hm__3A
                refine r_addf m.sX (by omega) (by omega) fun n_3 hn_3 => ?_
                conv => cbv
                refine hE _ (m__3A, m__3B, m__3C, n_3) ?_ ?_ ⟨(by (try dsimp only) <;> (first | (rw [hm__2, w, mTimes_next, show n_2 = n + 1 by omega]) | (rw [hm__3, w, mTimes_next, show n_3 = n + 1 by omega]))), (by (try dsimp only) <;> first | omega | rfl | (simp [*]; done) | (rw [nb]; simp [*]; done)), (by (try dsimp only) <;> (first | (rw [show n_2 = n + 1 by omega, q]; exact oth_next nb h4 w h5 g) | (rw [show n_3 = n + 1 by omega, q]; exact oth_next nb h4 w h5 g)))⟩ (by first | omega | (dsimp only; omega))
                · cbv
                · cbv
            · refine hF _ _ ?_
              conv => cbv
              exact hQ (.tup [.int .i64 0, .bool false]) (Eq.trans (by first | rfl | (simp only [lb, lbI, rows_cons, rows_nil, unnilT, unnil, unnilTI, unnilI]; done) | (simp only [lb, lbI, rows_cons, rows_nil, unnilT, unnil, unnilTI, unnilI]; rfl)) (congrArg (ib) (show (0, false) = othAns (m_A, m_B, m_C) (otherA, otherB, otherC) (bA, bB, bC, bD) from by rw [othAns, if_pos (by rw [h1, h2, h3]; rfl), q]; exact (oth_bad nb h4 w h5).symm)))   -- leaf 2
          · refine hF _ _ ?_
            conv => cbv
            exact hQ (.tup [.int .i64 0, .bool false]) (Eq.trans (by first | rfl | (simp only [lb, lbI, rows_cons, rows_nil, unnilT, unnil, unnilTI, unnilI]; done) | (simp only [lb, lbI, rows_cons, rows_nil, unnilT, unnil, unnilTI, unnilI]; rfl)) (congrArg (ib) (show (0, false) = othAns (m_A, m_B, m_C) (otherA, otherB, otherC) (bA, bB, bC, bD) from by rw [othAns, if_pos (by rw [h1, h2, h3]; rfl), q]; exact (othF_out (by omega)).symm)))   -- leaf 3
        · exact hQ (.tup [.int .i64 0, .bool false]) (Eq.trans (by first | rfl | (simp only [lb, lbI, rows_cons, rows_nil, unnilT, unnil, unnilTI, unnilI]; done) | (simp only [lb, lbI, rows_cons, rows_nil, unnilT, unnil, unnilTI, unnilI]; rfl)) (congrArg (ib) (show (0, false) = othAns (m_A, m_B, m_C) (otherA, otherB, otherC) (bA, bB, bC, bD) from by rw [othAns, h1, h2, h3]; rfl)))   -- leaf 4
      · exact hQ (.tup [.int .i64 0, .bool false]) (Eq.trans (by first | rfl | (simp only [lb, lbI, rows_cons, rows_nil, unnilT, unnil, unnilTI, unnilI]; done) | (simp only [lb, lbI, rows_cons, rows_nil, unnilT, unnil, unnilTI, unnilI]; rfl)) (congrArg (ib) (show (0, false) = othAns (m_A, m_B, m_C) (otherA, otherB, otherC) (bA, bB, bC, bD) from by rw [othAns, h1, h2]; rfl)))   -- leaf 5
    · exact hQ (.tup [.int .i64 0, .bool false]) (Eq.trans (by first | rfl | (simp only [lb, lbI, rows_cons, rows_nil, unnilT, unnil, unnilTI, unnilI]; done) | (simp only [lb, lbI, rows_cons, rows_nil, unnilT, unnil, unnilTI, unnilI]; rfl)) (congrArg (ib) (show (0, false) = othAns (m_A, m_B, m_C) (otherA, otherB, otherC) (bA, bB, bC, bD) from by rw [othAns, h1]; rfl)))   -- leaf 6

theorem specLeastOfOther_ok (m_ : Melt) (other : Melt) (b : Blend)  : OkA Try.prog 21 [.agg (cMelt m_), .agg (cMelt other), .agg (cBlend b)] (· = ib (othAns m_ other b)) := by
  obtain ⟨m_A, m_B, m_C⟩ := m_
  obtain ⟨otherA, otherB, otherC⟩ := other
  obtain ⟨bA, bB, bC, bD⟩ := b
  try dsimp only at *
  exact fn_intro envOk fieldsOk mixed Try.func21 rfl fun κ X Y L Q m hQ => by
    conv => cbv
    refine r_callB m.sX (meGood_ok (m_A, m_B, m_C)) (fun h1 => ?_) (fun h1 => ?_) <;> conv => cbv
    · refine r_callB m.sX (meGood_ok (otherA, otherB, otherC)) (fun h2 => ?_) (fun h2 => ?_) <;> conv => cbv
      · have bo := okMelt_spec h2
        try dsimp only at bo
        refine r_callB m.sX (meBlend_ok (bA, bB, bC, bD)) (fun h3 => ?_) (fun h3 => ?_) <;> conv => cbv
        · refine r_loopF (α := Int × Int × Int × Int) m 42 [8] [⟨3, 25, 0, 0, 0⟩, ⟨4, 33, 0, 0, 0⟩, ⟨5, 41, 0, 0, 0⟩] (fun σ => [(3, .optr 25 0 3 0 0), (4, .optr 33 0 3 0 0), (5, .optr 41 0 4 0 0), (8, .int .i64 σ.2.2.2)]) (fun σ => [(25, 0, .box [.int .i64 σ.1, .int .i64 σ.2.1, .int .i64 σ.2.2.1]), (33, 0, .box [.int .i64 otherA, .int .i64 otherB, .int .i64 otherC]), (41, 0, .box [.int .i64 bA, .int .i64 bB, .int .i64 bC, .int .i64 bD])])
            (fun σ => ((σ.1, σ.2.1, σ.2.2.1) = mTimes (m_A, m_B, m_C) (otherA, otherB, otherC) σ.2.2.2) ∧ (0 ≤ σ.2.2.2) ∧ (othF (m_A, m_B, m_C) (otherA, otherB, otherC) (bA, bB, bC, bD) 201 0 = othF (m_A, m_B, m_C) (otherA, otherB, otherC) (bA, bB, bC, bD) (201 - σ.2.2.2).toNat σ.2.2.2)) (fun σ => (201 - σ.2.2.2).toNat) (m_A, m_B, m_C, 0) ?_ ?_ ?_ ?_
          · cbv
          · cbv
          · exact ⟨(by (try dsimp only) <;> (exact (mTimes_zero _ _).symm)), (by (try dsimp only) <;> first | omega | rfl | (simp [*]; done)), (by (try dsimp only) <;> (rfl))⟩
          rintro ⟨f1, f2, f3, n⟩ ⟨w, nb, q⟩ E hE F hF
          dsimp only at w nb q
          conv => cbv
          refine r_leq m.sX (fun h4 => ?_) (fun h4 => ?_) <;> conv => cbv
          · refine r_callB m.sX (meGood_ok (f1, f2, f3)) (fun h5 => ?_) (fun h5 => ?_) <;> conv => cbv
            · have bf := okMelt_spec h5
              try dsimp only at bf
              refine r_callF (PV.int .i64) m.sX (meGrams_ok (f1, f2, f3) (by first | rfl | assumption | omega | (simp only [List.length_append, List.length_cons, List.length_nil] at *; omega))) fun r1 hr1 => ?_
              conv => cbv
              try dsimp only at hr1
              refine r_gtr m.sX (fun h6 => ?_) (fun h6 => ?_) <;> conv => cbv
              · refine r_callB m.sX (meFits_ok (f1, f2, f3) (bA, bB, bC, bD) (by first | rfl | assumption | omega | (simp only [List.length_append, List.length_cons, List.length_nil] at *; omega)) (by first | rfl | assumption | omega | (simp only [List.length_append, List.length_cons, List.length_nil] at *; omega))) (fun h7 => ?_) (fun h7 => ?_) <;> conv => cbv
                · have g : goodAt (f1, f2, f3) (bA, bB, bC, bD) = true := good_yes hr1 h6 h7
                  refine hF _ _ ?_
                  conv => cbv
                  exact hQ (.tup [.int .i64 n, .bool true]) (Eq.trans (by first | rfl | (simp only [lb, lbI, rows_cons, rows_nil, unnilT, unnil, unnilTI, unnilI]; done) | (simp only [lb, lbI, rows_cons, rows_nil, unnilT, unnil, unnilTI, unnilI]; rfl)) (congrArg (ib) (show (n, true) = othAns (m_A, m_B, m_C) (otherA, otherB, otherC) (bA, bB, bC, bD) from by rw [othAns, if_pos (by rw [h1, h2, h3]; rfl), q]; exact (oth_good nb h4 w h5 g).symm)))   -- leaf 1
                · have g : goodAt (f1, f2, f3) (bA, bB, bC, bD) = false := good_no hr1 (.inr h7)
                  refine r_callF (fun x => PV.agg (cMelt x)) m.sX (meJoin_ok (f1, f2, f3) (otherA, otherB, otherC) (by first | rfl | assumption | omega | (simp only [List.length_append, List.length_cons, List.length_nil] at *; omega)) (by first | rfl | assumption | omega | (simp only [List.length_append, List.length_cons, List.length_nil] at *; omega))) fun v hm__2A => ?_
                  obtain ⟨m__2A, m__2B, m__2C⟩ := v
                  conv => cbv
                  try dsimp only at hm__2
                  have hm__2 := hm__2A
                  refine r_addf m.sX (by omega) (by omega) fun n_2 hn_2 => ?_
                  conv => cbv
                  refine hE _ (m__2A, m__2B, m__2C, n_2) ?_ ?_ ⟨(by (try dsimp only) <;> (first | (rw [hm__2, w, mTimes_next, show n_2 = n + 1 by omega]) | (rw [hm__3, w, mTimes_next, show n_3 = n + 1 by omega]))), (by (try dsimp only) <;> first | omega | rfl | (simp [*]; done) | (rw [nb]; simp [*]; done)), (by (try dsimp only) <;> (first | (rw [show n_2 = n + 1 by omega, q]; exact oth_next nb h4 w h5 g) | (rw [show n_3 = n + 1 by omega, q]; exact oth_next nb h4 w h5 g)))⟩ (by first | omega | (dsimp only; omega))
                  · cbv
                  · cbv
              · have g : goodAt (f1, f2, f3) (bA, bB, bC, bD) = false := good_no hr1 (.inl h6)
                refine r_callF (fun x => PV.agg (cMelt x)) m.sX (meJoin_ok (f1, f2, f3) (otherA, otherB, otherC) (by first | rfl | assumption | omega | (simp only [List.length_append, List.length_cons, List.length_nil] at *; omega)) (by first | rfl | assumption | omega | (simp only [List.length_append, List.length_cons, List.length_nil] at *; omega))) fun v hm__3A => ?_
                obtain ⟨m__3A, m__3B, m__3C⟩ := v
                conv => cbv
                try dsimp only at hm__3
                have hm__3 := hm__3A
                refine r_addf m.sX (by omega) (by omega) fun n_3 hn_3 => ?_
                conv => cbv
                refine hE _ (m__3A, m__3B, m__3C, n_3) ?_ ?_ ⟨(by (try dsimp only) <;> (first | (rw [hm__2, w, mTimes_next, show n_2 = n + 1 by omega]) | (rw [hm__3, w, mTimes_next, show n_3 = n + 1 by omega]))), (by (try dsimp only) <;> first | omega | rfl | (simp [*]; done) | (rw [nb]; simp [*]; done)), (by (try dsimp only) <;> (first | (rw [show n_2 = n + 1 by omega, q]; exact oth_next nb h4 w h5 g) | (rw [show n_3 = n + 1 by omega, q]; exact oth_next nb h4 w h5 g)))⟩ (by first | omega | (dsimp only; omega))
                · cbv
                · cbv
            · refine hF _ _ ?_
              conv => cbv
              exact hQ (.tup [.int .i64 0, .bool false]) (Eq.trans (by first | rfl | (simp only [lb, lbI, rows_cons, rows_nil, unnilT, unnil, unnilTI, unnilI]; done) | (simp only [lb, lbI, rows_cons, rows_nil, unnilT, unnil, unnilTI, unnilI]; rfl)) (congrArg (ib) (show (0, false) = othAns (m_A, m_B, m_C) (otherA, otherB, otherC) (bA, bB, bC, bD) from by rw [othAns, if_pos (by rw [h1, h2, h3]; rfl), q]; exact (oth_bad nb h4 w h5).symm)))   -- leaf 2
          · refine hF _ _ ?_
            conv => cbv
            exact hQ (.tup [.int .i64 0, .bool false]) (Eq.trans (by first | rfl | (simp only [lb, lbI, rows_cons, rows_nil, unnilT, unnil, unnilTI, unnilI]; done) | (simp only [lb, lbI, rows_cons, rows_nil, unnilT, unnil, unnilTI, unnilI]; rfl)) (congrArg (ib) (show (0, false) = othAns (m_A, m_B, m_C) (otherA, otherB, otherC) (bA, bB, bC, bD) from by rw [othAns, if_pos (by rw [h1, h2, h3]; rfl), q]; exact (othF_out (by omega)).symm)))   -- leaf 3
        · exact hQ (.tup [.int .i64 0, .bool false]) (Eq.trans (by first | rfl | (simp only [lb, lbI, rows_cons, rows_nil, unnilT, unnil, unnilTI, unnilI]; done) | (simp only [lb, lbI, rows_cons, rows_nil, unnilT, unnil, unnilTI, unnilI]; rfl)) (congrArg (ib) (show (0, false) = othAns (m_A, m_B, m_C) (otherA, otherB, otherC) (bA, bB, bC, bD) from by rw [othAns, h1, h2, h3]; rfl)))   -- leaf 4
      · exact hQ (.tup [.int .i64 0, .bool false]) (Eq.trans (by first | rfl | (simp only [lb, lbI, rows_cons, rows_nil, unnilT, unnil, unnilTI, unnilI]; done) | (simp only [lb, lbI, rows_cons, rows_nil, unnilT, unnil, unnilTI, unnilI]; rfl)) (congrArg (ib) (show (0, false) = othAns (m_A, m_B, m_C) (otherA, otherB, otherC) (bA, bB, bC, bD) from by rw [othAns, h1, h2]; rfl)))   -- leaf 5
    · exact hQ (.tup [.int .i64 0, .bool false]) (Eq.trans (by first | rfl | (simp only [lb, lbI, rows_cons, rows_nil, unnilT, unnil, unnilTI, unnilI]; done) | (simp only [lb, lbI, rows_cons, rows_nil, unnilT, unnil, unnilTI, unnilI]; rfl)) (congrArg (ib) (show (0, false) = othAns (m_A, m_B, m_C) (otherA, otherB, otherC) (bA, bB, bC, bD) from by rw [othAns, h1]; rfl)))   -- leaf 6

theorem JoinMelts_ok (l : List Melt) (hl : (l.length : Int) ≤ 1000) : OkA Try.prog 22 [.isl 3 (rows cMelt l)] (· = mbR (joinA l)) :=
  fn_intro envOk fieldsOk mixed Try.func22 rfl fun κ X Y L Q m hQ => by
    conv => cbv
    refine r_lenR m.sX fun n1 hn1 mn1 => ?_
    conv => cbv
    refine r_loopF (α := Int × Int × Int × Int × Int × Int × Int) m 32 [0, 8, 9, 10] [⟨2, 17, 0, 0, 0⟩, ⟨4, 33, 0, 0, 0⟩] (fun σ => [(0, .isl 3 (rows cMelt l)), (2, .optr 17 0 3 0 0), (4, .optr 33 0 3 0 0), (8, .isl 3 (rows cMelt l)), (9, .int .i64 n1), (10, .int .i64 σ.2.2.2.2.2.2)]) (fun σ => [(17, 0, .box [.int .i64 σ.1, .int .i64 σ.2.1, .int .i64 σ.2.2.1]), (33, 0, .box [.int .i64 σ.2.2.2.1, .int .i64 σ.2.2.2.2.1, .int .i64 σ.2.2.2.2.2.1])])
      (fun σ => (0 ≤ σ.2.2.2.2.2.2) ∧ (σ.2.2.2.2.2.2 ≤ n1) ∧ (sumG (0, 0, 0) l = sumG (σ.2.2.2.1, σ.2.2.2.2.1, σ.2.2.2.2.2.1) (l.drop σ.2.2.2.2.2.2.toNat)) ∧ (l.all okMelt = (l.drop σ.2.2.2.2.2.2.toNat).all okMelt) ∧ ((0 ≤ σ.2.2.2.1 ∧ σ.2.2.2.1 ≤ 1000000 * σ.2.2.2.2.2.2) ∧ (0 ≤ σ.2.2.2.2.1 ∧ σ.2.2.2.2.1 ≤ 1000000 * σ.2.2.2.2.2.2) ∧ (0 ≤ σ.2.2.2.2.2.1 ∧ σ.2.2.2.2.2.1 ≤ 1000000 * σ.2.2.2.2.2.2))) (fun σ => (n1 - σ.2.2.2.2.2.2).toNat) (0, 0, 0, 0, 0, 0, 0) ?_ ?_ ?_ ?_
    · cbv
    · cbv
    · exact ⟨(by (try dsimp only); first | omega | (simp only [List.length_nil]; omega)), (by (try dsimp only); first | omega | (simp only [List.length_nil]; omega)), (by (try dsimp only) <;> first | omega | rfl | (simp [*]; done)), (by (try dsimp only) <;> first | omega | rfl | (simp [*]; done)), (by (try dsimp only) <;> first | omega | rfl | (simp [*]; done))⟩
    rintro ⟨f1, f2, f3, f4, f5, f6, i1⟩ ⟨lo1, hi1, q, qa, qb⟩ E hE F hF
    dsimp only at lo1 hi1 q qa qb
    conv => cbv
    refine r_lss m.sX (fun h1 => ?_) (fun h1 => ?_) <;> conv => cbv
    · refine r_index m.sX (by omega) (by omega) fun v hm_A => ?_
      obtain ⟨m_A, m_B, m_C⟩ := v
      conv => cbv
      have hm_ := hm_A
      have mm_ := get_mem hm_
      have dm_ := drop_cons hm_
      have km_ := take_snoc hm_
      have jm_ : (i1 + 1).toNat = Int.toNat i1 + 1 := by omega
      refine r_callB m.sX (IsMelt_ok (m_A, m_B, m_C)) (fun h2 => ?_) (fun h2 => ?_) <;> conv => cbv
      · have bm := okMelt_spec h2
        try dsimp only at bm
        refine r_callF (fun x => PV.agg (cMelt x)) m.sX (plus_ok (f4, f5, f6) (m_A, m_B, m_C) (by first | rfl | assumption | omega | (simp only [List.length_append, List.length_cons, List.length_nil] at *; omega)) (by first | rfl | assumption | omega | (simp only [List.length_append, List.length_cons, List.length_nil] at *; omega))) fun v hallA => ?_
        obtain ⟨allA, allB, allC⟩ := v
        conv => cbv
        try dsimp only at hall
        have hall := hallA
        refine r_addf m.sX (by omega) (by omega) fun r1 hr1 => ?_
        conv => cbv
        have tr1 : Int.toNat r1 = Int.toNat i1 + 1 := by omega
        refine hE _ (f1, f2, f3, allA, allB, allC, r1) ?_ ?_ ⟨(by (try dsimp only); first | omega | (simp only [List.length_nil]; omega)), (by (try dsimp only); first | omega | (simp only [List.length_nil]; omega)), (by (try dsimp only) <;> (rw [q, dm_, hall, tr1]; rfl)), (by (try dsimp only) <;> (rw [qa, dm_, List.all_cons, h2, Bool.true_and, tr1])), (by (try dsimp only) <;> (have e := hall; simp only [mPlus, Prod.mk.injEq] at e; omega))⟩ (by first | omega | (dsimp only; omega))
        · cbv
        · cbv
      · refine hF _ _ ?_
        conv => cbv
        exact hQ (.tup [.agg [.int .i64 0, .int .i64 0, .int .i64 0], .bool false]) (Eq.trans (by first | rfl | (simp only [lb, lbI, rows_cons, rows_nil, unnilT, unnil, unnilTI, unnilI]; done) | (simp only [lb, lbI, rows_cons, rows_nil, unnilT, unnil, unnilTI, unnilI]; rfl)) (congrArg (mbR) (show ((0, 0, 0), false) = joinA l from by rw [joinA, all_cons_bad (qa.trans (by rw [dm_])) h2]; rfl)))   -- leaf 1
    · have dz_i1 := drop_end (xs := l) (i := Int.toNat i1) (by omega)
      have tz_i1 := take_end (xs := l) (i := Int.toNat i1) (by omega)
      refine hF _ _ ?_
      conv => cbv
      refine r_lenR m.sX fun n2 hn2 mn2 => ?_
      conv => cbv
      refine r_gtr m.sX (fun h3 => ?_) (fun h3 => ?_) <;> conv => cbv
      · exact hQ (.tup [.agg [.int .i64 0, .int .i64 0, .int .i64 0], .bool false]) (Eq.trans (by first | rfl | (simp only [lb, lbI, rows_cons, rows_nil, unnilT, unnil, unnilTI, unnilI]; done) | (simp only [lb, lbI, rows_cons, rows_nil, unnilT, unnil, unnilTI, unnilI]; rfl)) (congrArg (mbR) (show ((0, 0, 0), false) = joinA l from by rw [joinA, decide_eq_false (by omega)]; simp)))   -- leaf 2
      · refine r_callB m.sX (IsMelt_ok (f4, f5, f6)) (fun h4 => ?_) (fun h4 => ?_) <;> conv => cbv
        · exact hQ (.tup [.agg [.int .i64 f4, .int .i64 f5, .int .i64 f6], .bool true]) (Eq.trans (by first | rfl | (simp only [lb, lbI, rows_cons, rows_nil, unnilT, unnil, unnilTI, unnilI]; done) | (simp only [lb, lbI, rows_cons, rows_nil, unnilT, unnil, unnilTI, unnilI]; rfl)) (congrArg (mbR) (show ((f4, f5, f6), true) = joinA l from by rw [dz_i1] at q qa; rw [joinA, show sumG (0, 0, 0) l = (f4, f5, f6) from q, show l.all okMelt = true from qa, decide_eq_true (by omega), h4]; rfl)))   -- leaf 3
        · exact hQ (.tup [.agg [.int .i64 0, .int .i64 0, .int .i64 0], .bool false]) (Eq.trans (by first | rfl | (simp only [lb, lbI, rows_cons, rows_nil, unnilT, unnil, unnilTI, unnilI]; done) | (simp only [lb, lbI, rows_cons, rows_nil, unnilT, unnil, unnilTI, unnilI]; rfl)) (congrArg (mbR) (show ((0, 0, 0), false) = joinA l from by rw [dz_i1] at q qa; rw [joinA, show sumG (0, 0, 0) l = (f4, f5, f6) from q, show l.all okMelt = true from qa, decide_eq_true (by omega), h4]; rfl)))   -- leaf 4

end Go.Proofs.Ytkcbhjnkpbeigaa.Ai
