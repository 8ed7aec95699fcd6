/- The law FnAdditions: its body returns true. -/
import Derived.Test.YtkcbhjnkpbeigaaMeltFn
import Derived.Test.YtkcbhjnkpbeigaaMeltDraw
import Derived.Test.YtkcbhjnkpbeigaaAiCut
namespace Go.Proofs.Ytkcbhjnkpbeigaa.Ai
open Go Go.Proofs
set_option maxRecDepth 10000
set_option maxHeartbeats 4000000
set_option linter.unusedVariables false

theorem joinLit_ok (l : List Melt) (h : (l.length : Int) ≤ 1000) {cs : List (List PV)} (hc : cs = l.map cMelt) : OkA Try.prog 22 [.isl 3 cs] (· = mbR (joinA l)) := by
  have := JoinMelts_ok l h
  rwa [rows_eq, ← hc] at this

noncomputable abbrev midAdditions (more : List Int) : List (Nat × PV) := [(1, .isl 1 (rows cU8 more))]

section
variable {κ : Ctx} {X Y : Req → (PV → Prop) → Prop} {L : Code → (Ex → St → Prop) → St → Prop} {Q : PV → Prop}

theorem additions_part1 (m : Mach Try.prog G κ X Y L) (hQ : ∀ r, r = PV.bool true → Q r) (code more : List Int) (hf : ∀ x ∈ code, 0 ≤ x ∧ x ≤ 255) (E0 : St → Prop)
    (hE0 : ∀ (s' : St) (σ : Int × Int × Int × Int × Int × Int × Int × Bool × Int × Bool × Int × Bool × Int × Bool × Bool), headOk s' [⟨5, 41, 0, 0, 0⟩, ⟨6, 49, 0, 0, 0⟩] = true → Ai.norm [1, 8, 9, 12, 13, 16, 17, 20, 21] [⟨5, 41, 0, 0, 0⟩, ⟨6, 49, 0, 0, 0⟩] s' = St.at 352 [(1, .isl 1 (rows cU8 more)), (5, .optr 41 0 3 0 0), (6, .optr 49 0 4 0 0), (8, .bool σ.2.2.2.2.2.2.2.1), (9, .int .i64 σ.2.2.2.2.2.2.2.2.1), (12, .bool σ.2.2.2.2.2.2.2.2.2.1), (13, .int .i64 σ.2.2.2.2.2.2.2.2.2.2.1), (16, .bool σ.2.2.2.2.2.2.2.2.2.2.2.1), (17, .int .i64 σ.2.2.2.2.2.2.2.2.2.2.2.2.1), (20, .bool σ.2.2.2.2.2.2.2.2.2.2.2.2.2.1), (21, .bool σ.2.2.2.2.2.2.2.2.2.2.2.2.2.2)] [(41, 0, .box [.int .i64 σ.1, .int .i64 σ.2.1, .int .i64 σ.2.2.1]), (49, 0, .box [.int .i64 σ.2.2.2.1, .int .i64 σ.2.2.2.2.1, .int .i64 σ.2.2.2.2.2.1, .int .i64 σ.2.2.2.2.2.2.1])] → ((more.length : Int) ≤ 9223372036854775807 ∧ (((σ.2.2.2.2.2.2.2.2.1, σ.2.2.2.2.2.2.2.1) = tinAns (σ.1, σ.2.1, σ.2.2.1) (σ.2.2.2.1, σ.2.2.2.2.1, σ.2.2.2.2.2.1, σ.2.2.2.2.2.2.1)) ∧ ((σ.2.2.2.2.2.2.2.2.2.2.1, σ.2.2.2.2.2.2.2.2.2.1) = antAns (σ.1, σ.2.1, σ.2.2.1) (σ.2.2.2.1, σ.2.2.2.2.1, σ.2.2.2.2.2.1, σ.2.2.2.2.2.2.1)) ∧ ((σ.2.2.2.2.2.2.2.2.2.2.2.2.1, σ.2.2.2.2.2.2.2.2.2.2.2.1) = leadAns (σ.1, σ.2.1, σ.2.2.1) (σ.2.2.2.1, σ.2.2.2.2.1, σ.2.2.2.2.2.1, σ.2.2.2.2.2.2.1)) ∧ ((σ.2.2.2.2.2.2.2.2.2.2.2.2.2.2, σ.2.2.2.2.2.2.2.2.2.2.2.2.2.1) = doesAns (σ.1, σ.2.1, σ.2.2.1) (σ.2.2.2.1, σ.2.2.2.2.1, σ.2.2.2.2.2.1, σ.2.2.2.2.2.2.1)) ∧ ((-9223372036854775808 ≤ σ.1 + σ.2.1 ∧ -9223372036854775808 ≤ σ.1 + σ.2.1 + σ.2.2.1) ∧ σ.1 ≤ 1000001 ∧ σ.2.1 ≤ 1000001 ∧ σ.2.2.1 ≤ 1000001))) → E0 s') :
    Ai.code X L G (front 12 (Try.f3.body.getD .skip)) (fun e s' => match e with | .normal => E0 s' | .exit i => EndsIn (post G Try.f3.results.toList Q) (.exit i) s' | .ret => EndsIn (post G Try.f3.results.toList Q) .ret s') (start 352 [.isl 1 (rows cU8 code), .isl 1 (rows cU8 more)] []) := by
  conv => cbv
  refine r_callB m.sX (big_ok code more) (fun h1 => ?_) (fun h1 => ?_) <;> conv => cbv
  · exact hQ _ (congrArg PV.bool (by first | rfl | omega | (simp [*]; done) | (subst_vars; simp [*]; done)))   -- leaf 1
  · rw [Bool.or_eq_false_iff, decide_eq_false_iff_not, decide_eq_false_iff_not] at h1
    have h : CurIn code := ⟨by omega, hf⟩
    have hmr : (more.length : Int) ≤ 9223372036854775807 := by omega
    refine r_callE m.sX (drawTinToAdd_ok code h) ?_
    rintro _ ⟨⟨m_A, m_B, m_C⟩, ⟨bA, bB, bC, bD⟩, rfl, bm__1, bm__2, bm__3⟩
    conv => cbv
    refine r_callF ib m.sX (TinToAdd_ok (m_A, m_B, m_C) (bA, bB, bC, bD)) fun v ht => ?_
    obtain ⟨t, ok⟩ := v
    conv => cbv
    try dsimp only at ht
    refine r_callF ib m.sX (specTinToAdd_ok (m_A, m_B, m_C) (bA, bB, bC, bD)) fun y1 hy1 => ?_
    obtain rfl := ht.trans hy1.symm
    clear hy1
    conv => cbv
    refine r_callF ib m.sX (AntimonyToAdd_ok (m_A, m_B, m_C) (bA, bB, bC, bD)) fun v ha => ?_
    obtain ⟨a, one⟩ := v
    conv => cbv
    try dsimp only at ha
    refine r_callF ib m.sX (specAntimonyToAdd_ok (m_A, m_B, m_C) (bA, bB, bC, bD)) fun y2 hy2 => ?_
    obtain rfl := ha.trans hy2.symm
    clear hy2
    conv => cbv
    refine r_callF ib m.sX (LeadToAdd_ok (m_A, m_B, m_C) (bA, bB, bC, bD)) fun v hl => ?_
    obtain ⟨l, three⟩ := v
    conv => cbv
    try dsimp only at hl
    refine r_callF ib m.sX (specLeadToAdd_ok (m_A, m_B, m_C) (bA, bB, bC, bD)) fun y3 hy3 => ?_
    obtain rfl := hl.trans hy3.symm
    clear hy3
    conv => cbv
    refine r_callF bb m.sX (DoesFit_ok (m_A, m_B, m_C) (bA, bB, bC, bD)) fun v hf => ?_
    obtain ⟨f, five⟩ := v
    conv => cbv
    try dsimp only at hf
    refine r_callF bb m.sX (specDoesFit_ok (m_A, m_B, m_C) (bA, bB, bC, bD)) fun y4 hy4 => ?_
    obtain rfl := hf.trans hy4.symm
    clear hy4
    conv => cbv
    rcases Bool.eq_false_or_eq_true ok with rfl | rfl <;> conv => cbv
    · refine r_neqF m.sX ((by first | omega | assumption | (subst_vars; omega))) ?_
      conv => cbv
      rcases Bool.eq_false_or_eq_true one with rfl | rfl <;> conv => cbv
      · refine r_neqF m.sX ((by first | omega | assumption | (subst_vars; omega))) ?_
        conv => cbv
        rcases Bool.eq_false_or_eq_true three with rfl | rfl <;> conv => cbv
        · refine r_neqF m.sX ((by first | omega | assumption | (subst_vars; omega))) ?_
          conv => cbv
          rcases Bool.eq_false_or_eq_true five with rfl | rfl <;> conv => cbv
          · rcases Bool.eq_false_or_eq_true f with rfl | rfl <;> conv => cbv
            · exact hE0 _ (m_A, m_B, m_C, bA, bB, bC, bD, true, t, true, a, true, l, true, true) (by cbv) (by cbv) ⟨hmr, ⟨(by (try dsimp only) <;> (first | assumption | omega | (simp [*]; done))), (by (try dsimp only) <;> (first | assumption | omega | (simp [*]; done))), (by (try dsimp only) <;> (first | assumption | omega | (simp [*]; done))), (by (try dsimp only) <;> (first | assumption | omega | (simp [*]; done))), (by (try dsimp only) <;> (dsimp only at bm__1 bm__2; omega))⟩⟩
            · exact hE0 _ (m_A, m_B, m_C, bA, bB, bC, bD, true, t, true, a, true, l, true, false) (by cbv) (by cbv) ⟨hmr, ⟨(by (try dsimp only) <;> (first | assumption | omega | (simp [*]; done))), (by (try dsimp only) <;> (first | assumption | omega | (simp [*]; done))), (by (try dsimp only) <;> (first | assumption | omega | (simp [*]; done))), (by (try dsimp only) <;> (first | assumption | omega | (simp [*]; done))), (by (try dsimp only) <;> (dsimp only at bm__1 bm__2; omega))⟩⟩
          · rcases Bool.eq_false_or_eq_true f with rfl | rfl <;> conv => cbv
            · exact hE0 _ (m_A, m_B, m_C, bA, bB, bC, bD, true, t, true, a, true, l, false, true) (by cbv) (by cbv) ⟨hmr, ⟨(by (try dsimp only) <;> (first | assumption | omega | (simp [*]; done))), (by (try dsimp only) <;> (first | assumption | omega | (simp [*]; done))), (by (try dsimp only) <;> (first | assumption | omega | (simp [*]; done))), (by (try dsimp only) <;> (first | assumption | omega | (simp [*]; done))), (by (try dsimp only) <;> (dsimp only at bm__1 bm__2; omega))⟩⟩
            · exact hE0 _ (m_A, m_B, m_C, bA, bB, bC, bD, true, t, true, a, true, l, false, false) (by cbv) (by cbv) ⟨hmr, ⟨(by (try dsimp only) <;> (first | assumption | omega | (simp [*]; done))), (by (try dsimp only) <;> (first | assumption | omega | (simp [*]; done))), (by (try dsimp only) <;> (first | assumption | omega | (simp [*]; done))), (by (try dsimp only) <;> (first | assumption | omega | (simp [*]; done))), (by (try dsimp only) <;> (dsimp only at bm__1 bm__2; omega))⟩⟩
        · refine r_neqF m.sX ((by first | omega | assumption | (subst_vars; omega))) ?_
          conv => cbv
          rcases Bool.eq_false_or_eq_true five with rfl | rfl <;> conv => cbv
          · rcases Bool.eq_false_or_eq_true f with rfl | rfl <;> conv => cbv
            · exact hE0 _ (m_A, m_B, m_C, bA, bB, bC, bD, true, t, true, a, false, l, true, true) (by cbv) (by cbv) ⟨hmr, ⟨(by (try dsimp only) <;> (first | assumption | omega | (simp [*]; done))), (by (try dsimp only) <;> (first | assumption | omega | (simp [*]; done))), (by (try dsimp only) <;> (first | assumption | omega | (simp [*]; done))), (by (try dsimp only) <;> (first | assumption | omega | (simp [*]; done))), (by (try dsimp only) <;> (dsimp only at bm__1 bm__2; omega))⟩⟩
            · exact hE0 _ (m_A, m_B, m_C, bA, bB, bC, bD, true, t, true, a, false, l, true, false) (by cbv) (by cbv) ⟨hmr, ⟨(by (try dsimp only) <;> (first | assumption | omega | (simp [*]; done))), (by (try dsimp only) <;> (first | assumption | omega | (simp [*]; done))), (by (try dsimp only) <;> (first | assumption | omega | (simp [*]; done))), (by (try dsimp only) <;> (first | assumption | omega | (simp [*]; done))), (by (try dsimp only) <;> (dsimp only at bm__1 bm__2; omega))⟩⟩
          · rcases Bool.eq_false_or_eq_true f with rfl | rfl <;> conv => cbv
            · exact hE0 _ (m_A, m_B, m_C, bA, bB, bC, bD, true, t, true, a, false, l, false, true) (by cbv) (by cbv) ⟨hmr, ⟨(by (try dsimp only) <;> (first | assumption | omega | (simp [*]; done))), (by (try dsimp only) <;> (first | assumption | omega | (simp [*]; done))), (by (try dsimp only) <;> (first | assumption | omega | (simp [*]; done))), (by (try dsimp only) <;> (first | assumption | omega | (simp [*]; done))), (by (try dsimp only) <;> (dsimp only at bm__1 bm__2; omega))⟩⟩
            · exact hE0 _ (m_A, m_B, m_C, bA, bB, bC, bD, true, t, true, a, false, l, false, false) (by cbv) (by cbv) ⟨hmr, ⟨(by (try dsimp only) <;> (first | assumption | omega | (simp [*]; done))), (by (try dsimp only) <;> (first | assumption | omega | (simp [*]; done))), (by (try dsimp only) <;> (first | assumption | omega | (simp [*]; done))), (by (try dsimp only) <;> (first | assumption | omega | (simp [*]; done))), (by (try dsimp only) <;> (dsimp only at bm__1 bm__2; omega))⟩⟩
      · refine r_neqF m.sX ((by first | omega | assumption | (subst_vars; omega))) ?_
        conv => cbv
        rcases Bool.eq_false_or_eq_true three with rfl | rfl <;> conv => cbv
        · refine r_neqF m.sX ((by first | omega | assumption | (subst_vars; omega))) ?_
          conv => cbv
          rcases Bool.eq_false_or_eq_true five with rfl | rfl <;> conv => cbv
          · rcases Bool.eq_false_or_eq_true f with rfl | rfl <;> conv => cbv
            · exact hE0 _ (m_A, m_B, m_C, bA, bB, bC, bD, true, t, false, a, true, l, true, true) (by cbv) (by cbv) ⟨hmr, ⟨(by (try dsimp only) <;> (first | assumption | omega | (simp [*]; done))), (by (try dsimp only) <;> (first | assumption | omega | (simp [*]; done))), (by (try dsimp only) <;> (first | assumption | omega | (simp [*]; done))), (by (try dsimp only) <;> (first | assumption | omega | (simp [*]; done))), (by (try dsimp only) <;> (dsimp only at bm__1 bm__2; omega))⟩⟩
            · exact hE0 _ (m_A, m_B, m_C, bA, bB, bC, bD, true, t, false, a, true, l, true, false) (by cbv) (by cbv) ⟨hmr, ⟨(by (try dsimp only) <;> (first | assumption | omega | (simp [*]; done))), (by (try dsimp only) <;> (first | assumption | omega | (simp [*]; done))), (by (try dsimp only) <;> (first | assumption | omega | (simp [*]; done))), (by (try dsimp only) <;> (first | assumption | omega | (simp [*]; done))), (by (try dsimp only) <;> (dsimp only at bm__1 bm__2; omega))⟩⟩
          · rcases Bool.eq_false_or_eq_true f with rfl | rfl <;> conv => cbv
            · exact hE0 _ (m_A, m_B, m_C, bA, bB, bC, bD, true, t, false, a, true, l, false, true) (by cbv) (by cbv) ⟨hmr, ⟨(by (try dsimp only) <;> (first | assumption | omega | (simp [*]; done))), (by (try dsimp only) <;> (first | assumption | omega | (simp [*]; done))), (by (try dsimp only) <;> (first | assumption | omega | (simp [*]; done))), (by (try dsimp only) <;> (first | assumption | omega | (simp [*]; done))), (by (try dsimp only) <;> (dsimp only at bm__1 bm__2; omega))⟩⟩
            · exact hE0 _ (m_A, m_B, m_C, bA, bB, bC, bD, true, t, false, a, true, l, false, false) (by cbv) (by cbv) ⟨hmr, ⟨(by (try dsimp only) <;> (first | assumption | omega | (simp [*]; done))), (by (try dsimp only) <;> (first | assumption | omega | (simp [*]; done))), (by (try dsimp only) <;> (first | assumption | omega | (simp [*]; done))), (by (try dsimp only) <;> (first | assumption | omega | (simp [*]; done))), (by (try dsimp only) <;> (dsimp only at bm__1 bm__2; omega))⟩⟩
        · refine r_neqF m.sX ((by first | omega | assumption | (subst_vars; omega))) ?_
          conv => cbv
          rcases Bool.eq_false_or_eq_true five with rfl | rfl <;> conv => cbv
          · rcases Bool.eq_false_or_eq_true f with rfl | rfl <;> conv => cbv
            · exact hE0 _ (m_A, m_B, m_C, bA, bB, bC, bD, true, t, false, a, false, l, true, true) (by cbv) (by cbv) ⟨hmr, ⟨(by (try dsimp only) <;> (first | assumption | omega | (simp [*]; done))), (by (try dsimp only) <;> (first | assumption | omega | (simp [*]; done))), (by (try dsimp only) <;> (first | assumption | omega | (simp [*]; done))), (by (try dsimp only) <;> (first | assumption | omega | (simp [*]; done))), (by (try dsimp only) <;> (dsimp only at bm__1 bm__2; omega))⟩⟩
            · exact hE0 _ (m_A, m_B, m_C, bA, bB, bC, bD, true, t, false, a, false, l, true, false) (by cbv) (by cbv) ⟨hmr, ⟨(by (try dsimp only) <;> (first | assumption | omega | (simp [*]; done))), (by (try dsimp only) <;> (first | assumption | omega | (simp [*]; done))), (by (try dsimp only) <;> (first | assumption | omega | (simp [*]; done))), (by (try dsimp only) <;> (first | assumption | omega | (simp [*]; done))), (by (try dsimp only) <;> (dsimp only at bm__1 bm__2; omega))⟩⟩
          · rcases Bool.eq_false_or_eq_true f with rfl | rfl <;> conv => cbv
            · exact hE0 _ (m_A, m_B, m_C, bA, bB, bC, bD, true, t, false, a, false, l, false, true) (by cbv) (by cbv) ⟨hmr, ⟨(by (try dsimp only) <;> (first | assumption | omega | (simp [*]; done))), (by (try dsimp only) <;> (first | assumption | omega | (simp [*]; done))), (by (try dsimp only) <;> (first | assumption | omega | (simp [*]; done))), (by (try dsimp only) <;> (first | assumption | omega | (simp [*]; done))), (by (try dsimp only) <;> (dsimp only at bm__1 bm__2; omega))⟩⟩
            · exact hE0 _ (m_A, m_B, m_C, bA, bB, bC, bD, true, t, false, a, false, l, false, false) (by cbv) (by cbv) ⟨hmr, ⟨(by (try dsimp only) <;> (first | assumption | omega | (simp [*]; done))), (by (try dsimp only) <;> (first | assumption | omega | (simp [*]; done))), (by (try dsimp only) <;> (first | assumption | omega | (simp [*]; done))), (by (try dsimp only) <;> (first | assumption | omega | (simp [*]; done))), (by (try dsimp only) <;> (dsimp only at bm__1 bm__2; omega))⟩⟩
    · refine r_neqF m.sX ((by first | omega | assumption | (subst_vars; omega))) ?_
      conv => cbv
      rcases Bool.eq_false_or_eq_true one with rfl | rfl <;> conv => cbv
      · refine r_neqF m.sX ((by first | omega | assumption | (subst_vars; omega))) ?_
        conv => cbv
        rcases Bool.eq_false_or_eq_true three with rfl | rfl <;> conv => cbv
        · refine r_neqF m.sX ((by first | omega | assumption | (subst_vars; omega))) ?_
          conv => cbv
          rcases Bool.eq_false_or_eq_true five with rfl | rfl <;> conv => cbv
          · rcases Bool.eq_false_or_eq_true f with rfl | rfl <;> conv => cbv
            · exact hE0 _ (m_A, m_B, m_C, bA, bB, bC, bD, false, t, true, a, true, l, true, true) (by cbv) (by cbv) ⟨hmr, ⟨(by (try dsimp only) <;> (first | assumption | omega | (simp [*]; done))), (by (try dsimp only) <;> (first | assumption | omega | (simp [*]; done))), (by (try dsimp only) <;> (first | assumption | omega | (simp [*]; done))), (by (try dsimp only) <;> (first | assumption | omega | (simp [*]; done))), (by (try dsimp only) <;> (dsimp only at bm__1 bm__2; omega))⟩⟩
            · exact hE0 _ (m_A, m_B, m_C, bA, bB, bC, bD, false, t, true, a, true, l, true, false) (by cbv) (by cbv) ⟨hmr, ⟨(by (try dsimp only) <;> (first | assumption | omega | (simp [*]; done))), (by (try dsimp only) <;> (first | assumption | omega | (simp [*]; done))), (by (try dsimp only) <;> (first | assumption | omega | (simp [*]; done))), (by (try dsimp only) <;> (first | assumption | omega | (simp [*]; done))), (by (try dsimp only) <;> (dsimp only at bm__1 bm__2; omega))⟩⟩
          · rcases Bool.eq_false_or_eq_true f with rfl | rfl <;> conv => cbv
            · exact hE0 _ (m_A, m_B, m_C, bA, bB, bC, bD, false, t, true, a, true, l, false, true) (by cbv) (by cbv) ⟨hmr, ⟨(by (try dsimp only) <;> (first | assumption | omega | (simp [*]; done))), (by (try dsimp only) <;> (first | assumption | omega | (simp [*]; done))), (by (try dsimp only) <;> (first | assumption | omega | (simp [*]; done))), (by (try dsimp only) <;> (first | assumption | omega | (simp [*]; done))), (by (try dsimp only) <;> (dsimp only at bm__1 bm__2; omega))⟩⟩
            · exact hE0 _ (m_A, m_B, m_C, bA, bB, bC, bD, false, t, true, a, true, l, false, false) (by cbv) (by cbv) ⟨hmr, ⟨(by (try dsimp only) <;> (first | assumption | omega | (simp [*]; done))), (by (try dsimp only) <;> (first | assumption | omega | (simp [*]; done))), (by (try dsimp only) <;> (first | assumption | omega | (simp [*]; done))), (by (try dsimp only) <;> (first | assumption | omega | (simp [*]; done))), (by (try dsimp only) <;> (dsimp only at bm__1 bm__2; omega))⟩⟩
        · refine r_neqF m.sX ((by first | omega | assumption | (subst_vars; omega))) ?_
          conv => cbv
          rcases Bool.eq_false_or_eq_true five with rfl | rfl <;> conv => cbv
          · rcases Bool.eq_false_or_eq_true f with rfl | rfl <;> conv => cbv
            · exact hE0 _ (m_A, m_B, m_C, bA, bB, bC, bD, false, t, true, a, false, l, true, true) (by cbv) (by cbv) ⟨hmr, ⟨(by (try dsimp only) <;> (first | assumption | omega | (simp [*]; done))), (by (try dsimp only) <;> (first | assumption | omega | (simp [*]; done))), (by (try dsimp only) <;> (first | assumption | omega | (simp [*]; done))), (by (try dsimp only) <;> (first | assumption | omega | (simp [*]; done))), (by (try dsimp only) <;> (dsimp only at bm__1 bm__2; omega))⟩⟩
            · exact hE0 _ (m_A, m_B, m_C, bA, bB, bC, bD, false, t, true, a, false, l, true, false) (by cbv) (by cbv) ⟨hmr, ⟨(by (try dsimp only) <;> (first | assumption | omega | (simp [*]; done))), (by (try dsimp only) <;> (first | assumption | omega | (simp [*]; done))), (by (try dsimp only) <;> (first | assumption | omega | (simp [*]; done))), (by (try dsimp only) <;> (first | assumption | omega | (simp [*]; done))), (by (try dsimp only) <;> (dsimp only at bm__1 bm__2; omega))⟩⟩
          · rcases Bool.eq_false_or_eq_true f with rfl | rfl <;> conv => cbv
            · exact hE0 _ (m_A, m_B, m_C, bA, bB, bC, bD, false, t, true, a, false, l, false, true) (by cbv) (by cbv) ⟨hmr, ⟨(by (try dsimp only) <;> (first | assumption | omega | (simp [*]; done))), (by (try dsimp only) <;> (first | assumption | omega | (simp [*]; done))), (by (try dsimp only) <;> (first | assumption | omega | (simp [*]; done))), (by (try dsimp only) <;> (first | assumption | omega | (simp [*]; done))), (by (try dsimp only) <;> (dsimp only at bm__1 bm__2; omega))⟩⟩
            · exact hE0 _ (m_A, m_B, m_C, bA, bB, bC, bD, false, t, true, a, false, l, false, false) (by cbv) (by cbv) ⟨hmr, ⟨(by (try dsimp only) <;> (first | assumption | omega | (simp [*]; done))), (by (try dsimp only) <;> (first | assumption | omega | (simp [*]; done))), (by (try dsimp only) <;> (first | assumption | omega | (simp [*]; done))), (by (try dsimp only) <;> (first | assumption | omega | (simp [*]; done))), (by (try dsimp only) <;> (dsimp only at bm__1 bm__2; omega))⟩⟩
      · refine r_neqF m.sX ((by first | omega | assumption | (subst_vars; omega))) ?_
        conv => cbv
        rcases Bool.eq_false_or_eq_true three with rfl | rfl <;> conv => cbv
        · refine r_neqF m.sX ((by first | omega | assumption | (subst_vars; omega))) ?_
          conv => cbv
          rcases Bool.eq_false_or_eq_true five with rfl | rfl <;> conv => cbv
          · rcases Bool.eq_false_or_eq_true f with rfl | rfl <;> conv => cbv
            · exact hE0 _ (m_A, m_B, m_C, bA, bB, bC, bD, false, t, false, a, true, l, true, true) (by cbv) (by cbv) ⟨hmr, ⟨(by (try dsimp only) <;> (first | assumption | omega | (simp [*]; done))), (by (try dsimp only) <;> (first | assumption | omega | (simp [*]; done))), (by (try dsimp only) <;> (first | assumption | omega | (simp [*]; done))), (by (try dsimp only) <;> (first | assumption | omega | (simp [*]; done))), (by (try dsimp only) <;> (dsimp only at bm__1 bm__2; omega))⟩⟩
            · exact hE0 _ (m_A, m_B, m_C, bA, bB, bC, bD, false, t, false, a, true, l, true, false) (by cbv) (by cbv) ⟨hmr, ⟨(by (try dsimp only) <;> (first | assumption | omega | (simp [*]; done))), (by (try dsimp only) <;> (first | assumption | omega | (simp [*]; done))), (by (try dsimp only) <;> (first | assumption | omega | (simp [*]; done))), (by (try dsimp only) <;> (first | assumption | omega | (simp [*]; done))), (by (try dsimp only) <;> (dsimp only at bm__1 bm__2; omega))⟩⟩
          · rcases Bool.eq_false_or_eq_true f with rfl | rfl <;> conv => cbv
            · exact hE0 _ (m_A, m_B, m_C, bA, bB, bC, bD, false, t, false, a, true, l, false, true) (by cbv) (by cbv) ⟨hmr, ⟨(by (try dsimp only) <;> (first | assumption | omega | (simp [*]; done))), (by (try dsimp only) <;> (first | assumption | omega | (simp [*]; done))), (by (try dsimp only) <;> (first | assumption | omega | (simp [*]; done))), (by (try dsimp only) <;> (first | assumption | omega | (simp [*]; done))), (by (try dsimp only) <;> (dsimp only at bm__1 bm__2; omega))⟩⟩
            · exact hE0 _ (m_A, m_B, m_C, bA, bB, bC, bD, false, t, false, a, true, l, false, false) (by cbv) (by cbv) ⟨hmr, ⟨(by (try dsimp only) <;> (first | assumption | omega | (simp [*]; done))), (by (try dsimp only) <;> (first | assumption | omega | (simp [*]; done))), (by (try dsimp only) <;> (first | assumption | omega | (simp [*]; done))), (by (try dsimp only) <;> (first | assumption | omega | (simp [*]; done))), (by (try dsimp only) <;> (dsimp only at bm__1 bm__2; omega))⟩⟩
        · refine r_neqF m.sX ((by first | omega | assumption | (subst_vars; omega))) ?_
          conv => cbv
          rcases Bool.eq_false_or_eq_true five with rfl | rfl <;> conv => cbv
          · rcases Bool.eq_false_or_eq_true f with rfl | rfl <;> conv => cbv
            · exact hE0 _ (m_A, m_B, m_C, bA, bB, bC, bD, false, t, false, a, false, l, true, true) (by cbv) (by cbv) ⟨hmr, ⟨(by (try dsimp only) <;> (first | assumption | omega | (simp [*]; done))), (by (try dsimp only) <;> (first | assumption | omega | (simp [*]; done))), (by (try dsimp only) <;> (first | assumption | omega | (simp [*]; done))), (by (try dsimp only) <;> (first | assumption | omega | (simp [*]; done))), (by (try dsimp only) <;> (dsimp only at bm__1 bm__2; omega))⟩⟩
            · exact hE0 _ (m_A, m_B, m_C, bA, bB, bC, bD, false, t, false, a, false, l, true, false) (by cbv) (by cbv) ⟨hmr, ⟨(by (try dsimp only) <;> (first | assumption | omega | (simp [*]; done))), (by (try dsimp only) <;> (first | assumption | omega | (simp [*]; done))), (by (try dsimp only) <;> (first | assumption | omega | (simp [*]; done))), (by (try dsimp only) <;> (first | assumption | omega | (simp [*]; done))), (by (try dsimp only) <;> (dsimp only at bm__1 bm__2; omega))⟩⟩
          · rcases Bool.eq_false_or_eq_true f with rfl | rfl <;> conv => cbv
            · exact hE0 _ (m_A, m_B, m_C, bA, bB, bC, bD, false, t, false, a, false, l, false, true) (by cbv) (by cbv) ⟨hmr, ⟨(by (try dsimp only) <;> (first | assumption | omega | (simp [*]; done))), (by (try dsimp only) <;> (first | assumption | omega | (simp [*]; done))), (by (try dsimp only) <;> (first | assumption | omega | (simp [*]; done))), (by (try dsimp only) <;> (first | assumption | omega | (simp [*]; done))), (by (try dsimp only) <;> (dsimp only at bm__1 bm__2; omega))⟩⟩
            · exact hE0 _ (m_A, m_B, m_C, bA, bB, bC, bD, false, t, false, a, false, l, false, false) (by cbv) (by cbv) ⟨hmr, ⟨(by (try dsimp only) <;> (first | assumption | omega | (simp [*]; done))), (by (try dsimp only) <;> (first | assumption | omega | (simp [*]; done))), (by (try dsimp only) <;> (first | assumption | omega | (simp [*]; done))), (by (try dsimp only) <;> (first | assumption | omega | (simp [*]; done))), (by (try dsimp only) <;> (dsimp only at bm__1 bm__2; omega))⟩⟩

theorem additions_part2 (m : Mach Try.prog G κ X Y L) (hQ : ∀ r, r = PV.bool true → Q r) (more : List Int) (h : CurIn more) (m_A : Int) (m_B : Int) (m_C : Int) (bA : Int) (bB : Int) (bC : Int) (bD : Int) (ok : Bool) (tin : Int) (one : Bool) (antimony : Int) (three : Bool) (lead : Int) (five : Bool) (fits : Bool) (t1 : (tin, ok) = tinAns (m_A, m_B, m_C) (bA, bB, bC, bD)) (a1 : (antimony, one) = antAns (m_A, m_B, m_C) (bA, bB, bC, bD)) (l1 : (lead, three) = leadAns (m_A, m_B, m_C) (bA, bB, bC, bD)) (f1 : (fits, five) = doesAns (m_A, m_B, m_C) (bA, bB, bC, bD)) (b1 : (-9223372036854775808 ≤ m_A + m_B ∧ -9223372036854775808 ≤ m_A + m_B + m_C) ∧ m_A ≤ 1000001 ∧ m_B ≤ 1000001 ∧ m_C ≤ 1000001) (E0 : St → Prop)
    (hE0 : ∀ (s' : St) (σ : Int × Int × Int × Int × Int × Int × Int × Bool × Int × Bool × Int × Bool × Int × Bool × Bool × Int), headOk s' [⟨5, 41, 0, 0, 0⟩, ⟨6, 49, 0, 0, 0⟩] = true → Ai.norm [1, 8, 9, 12, 13, 16, 17, 20, 21, 23] [⟨5, 41, 0, 0, 0⟩, ⟨6, 49, 0, 0, 0⟩] s' = St.at 352 [(1, .isl 1 (rows cU8 more)), (5, .optr 41 0 3 0 0), (6, .optr 49 0 4 0 0), (8, .bool σ.2.2.2.2.2.2.2.1), (9, .int .i64 σ.2.2.2.2.2.2.2.2.1), (12, .bool σ.2.2.2.2.2.2.2.2.2.1), (13, .int .i64 σ.2.2.2.2.2.2.2.2.2.2.1), (16, .bool σ.2.2.2.2.2.2.2.2.2.2.2.1), (17, .int .i64 σ.2.2.2.2.2.2.2.2.2.2.2.2.1), (20, .bool σ.2.2.2.2.2.2.2.2.2.2.2.2.2.1), (21, .bool σ.2.2.2.2.2.2.2.2.2.2.2.2.2.2.1), (23, .int .i64 σ.2.2.2.2.2.2.2.2.2.2.2.2.2.2.2)] [(41, 0, .box [.int .i64 σ.1, .int .i64 σ.2.1, .int .i64 σ.2.2.1]), (49, 0, .box [.int .i64 σ.2.2.2.1, .int .i64 σ.2.2.2.2.1, .int .i64 σ.2.2.2.2.2.1, .int .i64 σ.2.2.2.2.2.2.1])] → (True ∧ (((σ.2.2.2.2.2.2.2.2.1, σ.2.2.2.2.2.2.2.1) = tinAns (σ.1, σ.2.1, σ.2.2.1) (σ.2.2.2.1, σ.2.2.2.2.1, σ.2.2.2.2.2.1, σ.2.2.2.2.2.2.1)) ∧ ((σ.2.2.2.2.2.2.2.2.2.2.1, σ.2.2.2.2.2.2.2.2.2.1) = antAns (σ.1, σ.2.1, σ.2.2.1) (σ.2.2.2.1, σ.2.2.2.2.1, σ.2.2.2.2.2.1, σ.2.2.2.2.2.2.1)) ∧ ((σ.2.2.2.2.2.2.2.2.2.2.2.2.1, σ.2.2.2.2.2.2.2.2.2.2.2.1) = leadAns (σ.1, σ.2.1, σ.2.2.1) (σ.2.2.2.1, σ.2.2.2.2.1, σ.2.2.2.2.2.1, σ.2.2.2.2.2.2.1)) ∧ ((σ.2.2.2.2.2.2.2.2.2.2.2.2.2.2.1, σ.2.2.2.2.2.2.2.2.2.2.2.2.2.1) = doesAns (σ.1, σ.2.1, σ.2.2.1) (σ.2.2.2.1, σ.2.2.2.2.1, σ.2.2.2.2.2.1, σ.2.2.2.2.2.2.1)) ∧ (σ.2.2.2.2.2.2.2.2.2.2.2.2.2.2.2 = σ.1 + σ.2.1 + σ.2.2.1))) → E0 s') :
    Ai.code X L G (front 2 (rest 12 (Try.f3.body.getD .skip))) (fun e s' => match e with | .normal => E0 s' | .exit i => EndsIn (post G Try.f3.results.toList Q) (.exit i) s' | .ret => EndsIn (post G Try.f3.results.toList Q) .ret s') (St.at 352 [(1, .isl 1 (rows cU8 more)), (5, .optr 41 0 3 0 0), (6, .optr 49 0 4 0 0), (8, .bool ok), (9, .int .i64 tin), (12, .bool one), (13, .int .i64 antimony), (16, .bool three), (17, .int .i64 lead), (20, .bool five), (21, .bool fits)] [(41, 0, .box [.int .i64 m_A, .int .i64 m_B, .int .i64 m_C]), (49, 0, .box [.int .i64 bA, .int .i64 bB, .int .i64 bC, .int .i64 bD])]) := by
  conv => cbv
  refine r_addf m.sX (by omega) (by omega) fun r1 hr1 => ?_
  conv => cbv
  refine r_addf m.sX (by omega) (by omega) fun all hall => ?_
  conv => cbv
  rcases Bool.eq_false_or_eq_true ok with rfl | rfl <;> conv => cbv
  · have ft := tin_facts t1
    try dsimp only at ft
    refine r_addf m.sX (by omega) (by omega) fun r2 hr2 => ?_
    conv => cbv
    refine r_mulf m.sX (by first | omega | (subst_vars; omega)) (by first | omega | (subst_vars; omega)) fun r3 hr3 => ?_
    conv => cbv
    refine r_addf m.sX (by omega) (by omega) fun r4 hr4 => ?_
    conv => cbv
    refine r_mulf m.sX (by first | omega | (subst_vars; omega)) (by first | omega | (subst_vars; omega)) fun r5 hr5 => ?_
    conv => cbv
    refine r_lssF m.sX ((by first | omega | assumption | (subst_vars; omega))) ?_
    conv => cbv
    refine r_gtr m.sX (fun h2 => ?_) (fun h2 => ?_) <;> conv => cbv
    · refine r_addf m.sX (by omega) (by omega) fun r6 hr6 => ?_
      conv => cbv
      refine r_subf m.sX (by omega) (by omega) fun r7 hr7 => ?_
      conv => cbv
      refine r_mulf m.sX (by first | omega | (subst_vars; omega)) (by first | omega | (subst_vars; omega)) fun r8 hr8 => ?_
      conv => cbv
      refine r_addf m.sX (by omega) (by omega) fun r9 hr9 => ?_
      conv => cbv
      refine r_subf m.sX (by omega) (by omega) fun r10 hr10 => ?_
      conv => cbv
      refine r_mulf m.sX (by first | omega | (subst_vars; omega)) (by first | omega | (subst_vars; omega)) fun r11 hr11 => ?_
      conv => cbv
      refine r_geqF m.sX ((by first | omega | assumption | (subst_vars; omega))) ?_
      conv => cbv
      exact hE0 _ (m_A, m_B, m_C, bA, bB, bC, bD, true, tin, one, antimony, three, lead, five, fits, all) (by cbv) (by cbv) ⟨trivial, ⟨(by (try dsimp only) <;> (first | assumption | omega | (simp [*]; done))), (by (try dsimp only) <;> (first | assumption | omega | (simp [*]; done))), (by (try dsimp only) <;> (first | assumption | omega | (simp [*]; done))), (by (try dsimp only) <;> (first | assumption | omega | (simp [*]; done))), (by (try dsimp only) <;> (first | assumption | omega | (simp [*]; done)))⟩⟩
    · exact hE0 _ (m_A, m_B, m_C, bA, bB, bC, bD, true, tin, one, antimony, three, lead, five, fits, all) (by cbv) (by cbv) ⟨trivial, ⟨(by (try dsimp only) <;> (first | assumption | omega | (simp [*]; done))), (by (try dsimp only) <;> (first | assumption | omega | (simp [*]; done))), (by (try dsimp only) <;> (first | assumption | omega | (simp [*]; done))), (by (try dsimp only) <;> (first | assumption | omega | (simp [*]; done))), (by (try dsimp only) <;> (first | assumption | omega | (simp [*]; done)))⟩⟩
  · exact hE0 _ (m_A, m_B, m_C, bA, bB, bC, bD, false, tin, one, antimony, three, lead, five, fits, all) (by cbv) (by cbv) ⟨trivial, ⟨(by (try dsimp only) <;> (first | assumption | omega | (simp [*]; done))), (by (try dsimp only) <;> (first | assumption | omega | (simp [*]; done))), (by (try dsimp only) <;> (first | assumption | omega | (simp [*]; done))), (by (try dsimp only) <;> (first | assumption | omega | (simp [*]; done))), (by (try dsimp only) <;> (first | assumption | omega | (simp [*]; done)))⟩⟩

theorem additions_part3 (m : Mach Try.prog G κ X Y L) (hQ : ∀ r, r = PV.bool true → Q r) (more : List Int) (h : CurIn more) (m_A : Int) (m_B : Int) (m_C : Int) (bA : Int) (bB : Int) (bC : Int) (bD : Int) (ok : Bool) (tin : Int) (one : Bool) (antimony : Int) (three : Bool) (lead : Int) (five : Bool) (fits : Bool) (all : Int) (t1 : (tin, ok) = tinAns (m_A, m_B, m_C) (bA, bB, bC, bD)) (a1 : (antimony, one) = antAns (m_A, m_B, m_C) (bA, bB, bC, bD)) (l1 : (lead, three) = leadAns (m_A, m_B, m_C) (bA, bB, bC, bD)) (f1 : (fits, five) = doesAns (m_A, m_B, m_C) (bA, bB, bC, bD)) (s1 : all = m_A + m_B + m_C) (E0 : St → Prop)
    (hE0 : ∀ (s' : St) (σ : Int × Int × Int × Int × Int × Int × Int × Bool × Int × Bool × Int × Bool × Int × Bool × Bool × Int), headOk s' [⟨5, 41, 0, 0, 0⟩, ⟨6, 49, 0, 0, 0⟩] = true → Ai.norm [1, 8, 9, 12, 13, 16, 17, 20, 21, 23] [⟨5, 41, 0, 0, 0⟩, ⟨6, 49, 0, 0, 0⟩] s' = St.at 352 [(1, .isl 1 (rows cU8 more)), (5, .optr 41 0 3 0 0), (6, .optr 49 0 4 0 0), (8, .bool σ.2.2.2.2.2.2.2.1), (9, .int .i64 σ.2.2.2.2.2.2.2.2.1), (12, .bool σ.2.2.2.2.2.2.2.2.2.1), (13, .int .i64 σ.2.2.2.2.2.2.2.2.2.2.1), (16, .bool σ.2.2.2.2.2.2.2.2.2.2.2.1), (17, .int .i64 σ.2.2.2.2.2.2.2.2.2.2.2.2.1), (20, .bool σ.2.2.2.2.2.2.2.2.2.2.2.2.2.1), (21, .bool σ.2.2.2.2.2.2.2.2.2.2.2.2.2.2.1), (23, .int .i64 σ.2.2.2.2.2.2.2.2.2.2.2.2.2.2.2)] [(41, 0, .box [.int .i64 σ.1, .int .i64 σ.2.1, .int .i64 σ.2.2.1]), (49, 0, .box [.int .i64 σ.2.2.2.1, .int .i64 σ.2.2.2.2.1, .int .i64 σ.2.2.2.2.2.1, .int .i64 σ.2.2.2.2.2.2.1])] → (True ∧ (((σ.2.2.2.2.2.2.2.2.1, σ.2.2.2.2.2.2.2.1) = tinAns (σ.1, σ.2.1, σ.2.2.1) (σ.2.2.2.1, σ.2.2.2.2.1, σ.2.2.2.2.2.1, σ.2.2.2.2.2.2.1)) ∧ ((σ.2.2.2.2.2.2.2.2.2.2.1, σ.2.2.2.2.2.2.2.2.2.1) = antAns (σ.1, σ.2.1, σ.2.2.1) (σ.2.2.2.1, σ.2.2.2.2.1, σ.2.2.2.2.2.1, σ.2.2.2.2.2.2.1)) ∧ ((σ.2.2.2.2.2.2.2.2.2.2.2.2.1, σ.2.2.2.2.2.2.2.2.2.2.2.1) = leadAns (σ.1, σ.2.1, σ.2.2.1) (σ.2.2.2.1, σ.2.2.2.2.1, σ.2.2.2.2.2.1, σ.2.2.2.2.2.2.1)) ∧ ((σ.2.2.2.2.2.2.2.2.2.2.2.2.2.2.1, σ.2.2.2.2.2.2.2.2.2.2.2.2.2.1) = doesAns (σ.1, σ.2.1, σ.2.2.1) (σ.2.2.2.1, σ.2.2.2.2.1, σ.2.2.2.2.2.1, σ.2.2.2.2.2.2.1)) ∧ (σ.2.2.2.2.2.2.2.2.2.2.2.2.2.2.2 = σ.1 + σ.2.1 + σ.2.2.1))) → E0 s') :
    Ai.code X L G (front 1 (rest 2 (rest 12 (Try.f3.body.getD .skip)))) (fun e s' => match e with | .normal => E0 s' | .exit i => EndsIn (post G Try.f3.results.toList Q) (.exit i) s' | .ret => EndsIn (post G Try.f3.results.toList Q) .ret s') (St.at 352 [(1, .isl 1 (rows cU8 more)), (5, .optr 41 0 3 0 0), (6, .optr 49 0 4 0 0), (8, .bool ok), (9, .int .i64 tin), (12, .bool one), (13, .int .i64 antimony), (16, .bool three), (17, .int .i64 lead), (20, .bool five), (21, .bool fits), (23, .int .i64 all)] [(41, 0, .box [.int .i64 m_A, .int .i64 m_B, .int .i64 m_C]), (49, 0, .box [.int .i64 bA, .int .i64 bB, .int .i64 bC, .int .i64 bD])]) := by
  conv => cbv
  rcases Bool.eq_false_or_eq_true one with rfl | rfl <;> conv => cbv
  · have ft := ant_facts a1
    try dsimp only at ft
    refine r_addf m.sX (by omega) (by omega) fun r1 hr1 => ?_
    conv => cbv
    refine r_mulf m.sX (by first | omega | (subst_vars; omega)) (by first | omega | (subst_vars; omega)) fun r2 hr2 => ?_
    conv => cbv
    refine r_addf m.sX (by omega) (by omega) fun r3 hr3 => ?_
    conv => cbv
    refine r_mulf m.sX (by first | omega | (subst_vars; omega)) (by first | omega | (subst_vars; omega)) fun r4 hr4 => ?_
    conv => cbv
    refine r_lssF m.sX ((by first | omega | assumption | (subst_vars; omega))) ?_
    conv => cbv
    refine r_gtr m.sX (fun h2 => ?_) (fun h2 => ?_) <;> conv => cbv
    · refine r_addf m.sX (by omega) (by omega) fun r5 hr5 => ?_
      conv => cbv
      refine r_subf m.sX (by omega) (by omega) fun r6 hr6 => ?_
      conv => cbv
      refine r_mulf m.sX (by first | omega | (subst_vars; omega)) (by first | omega | (subst_vars; omega)) fun r7 hr7 => ?_
      conv => cbv
      refine r_addf m.sX (by omega) (by omega) fun r8 hr8 => ?_
      conv => cbv
      refine r_subf m.sX (by omega) (by omega) fun r9 hr9 => ?_
      conv => cbv
      refine r_mulf m.sX (by first | omega | (subst_vars; omega)) (by first | omega | (subst_vars; omega)) fun r10 hr10 => ?_
      conv => cbv
      refine r_geqF m.sX ((by first | omega | assumption | (subst_vars; omega))) ?_
      conv => cbv
      exact hE0 _ (m_A, m_B, m_C, bA, bB, bC, bD, ok, tin, true, antimony, three, lead, five, fits, all) (by cbv) (by cbv) ⟨trivial, ⟨(by (try dsimp only) <;> (first | assumption | omega | (simp [*]; done))), (by (try dsimp only) <;> (first | assumption | omega | (simp [*]; done))), (by (try dsimp only) <;> (first | assumption | omega | (simp [*]; done))), (by (try dsimp only) <;> (first | assumption | omega | (simp [*]; done))), (by (try dsimp only) <;> (first | assumption | omega | (simp [*]; done)))⟩⟩
    · exact hE0 _ (m_A, m_B, m_C, bA, bB, bC, bD, ok, tin, true, antimony, three, lead, five, fits, all) (by cbv) (by cbv) ⟨trivial, ⟨(by (try dsimp only) <;> (first | assumption | omega | (simp [*]; done))), (by (try dsimp only) <;> (first | assumption | omega | (simp [*]; done))), (by (try dsimp only) <;> (first | assumption | omega | (simp [*]; done))), (by (try dsimp only) <;> (first | assumption | omega | (simp [*]; done))), (by (try dsimp only) <;> (first | assumption | omega | (simp [*]; done)))⟩⟩
  · exact hE0 _ (m_A, m_B, m_C, bA, bB, bC, bD, ok, tin, false, antimony, three, lead, five, fits, all) (by cbv) (by cbv) ⟨trivial, ⟨(by (try dsimp only) <;> (first | assumption | omega | (simp [*]; done))), (by (try dsimp only) <;> (first | assumption | omega | (simp [*]; done))), (by (try dsimp only) <;> (first | assumption | omega | (simp [*]; done))), (by (try dsimp only) <;> (first | assumption | omega | (simp [*]; done))), (by (try dsimp only) <;> (first | assumption | omega | (simp [*]; done)))⟩⟩

theorem additions_part4 (m : Mach Try.prog G κ X Y L) (hQ : ∀ r, r = PV.bool true → Q r) (more : List Int) (h : CurIn more) (m_A : Int) (m_B : Int) (m_C : Int) (bA : Int) (bB : Int) (bC : Int) (bD : Int) (ok : Bool) (tin : Int) (one : Bool) (antimony : Int) (three : Bool) (lead : Int) (five : Bool) (fits : Bool) (all : Int) (t1 : (tin, ok) = tinAns (m_A, m_B, m_C) (bA, bB, bC, bD)) (a1 : (antimony, one) = antAns (m_A, m_B, m_C) (bA, bB, bC, bD)) (l1 : (lead, three) = leadAns (m_A, m_B, m_C) (bA, bB, bC, bD)) (f1 : (fits, five) = doesAns (m_A, m_B, m_C) (bA, bB, bC, bD)) (s1 : all = m_A + m_B + m_C) (E0 : St → Prop)
    (hE0 : ∀ (s' : St) (σ : Int × Int × Int × Int × Bool × Int × Bool × Int × Bool × Int × Bool × Bool), headOk s' [⟨6, 49, 0, 0, 0⟩] = true → Ai.norm [1, 8, 9, 12, 13, 16, 17, 20, 21] [⟨6, 49, 0, 0, 0⟩] s' = St.at 352 [(1, .isl 1 (rows cU8 more)), (6, .optr 49 0 4 0 0), (8, .bool σ.2.2.2.2.1), (9, .int .i64 σ.2.2.2.2.2.1), (12, .bool σ.2.2.2.2.2.2.1), (13, .int .i64 σ.2.2.2.2.2.2.2.1), (16, .bool σ.2.2.2.2.2.2.2.2.1), (17, .int .i64 σ.2.2.2.2.2.2.2.2.2.1), (20, .bool σ.2.2.2.2.2.2.2.2.2.2.1), (21, .bool σ.2.2.2.2.2.2.2.2.2.2.2)] [(49, 0, .box [.int .i64 σ.1, .int .i64 σ.2.1, .int .i64 σ.2.2.1, .int .i64 σ.2.2.2.1])] → (True ∧ ((∃ m : Melt, (σ.2.2.2.2.2.1, σ.2.2.2.2.1) = tinAns m (σ.1, σ.2.1, σ.2.2.1, σ.2.2.2.1) ∧ (σ.2.2.2.2.2.2.2.1, σ.2.2.2.2.2.2.1) = antAns m (σ.1, σ.2.1, σ.2.2.1, σ.2.2.2.1) ∧ (σ.2.2.2.2.2.2.2.2.2.1, σ.2.2.2.2.2.2.2.2.1) = leadAns m (σ.1, σ.2.1, σ.2.2.1, σ.2.2.2.1) ∧ (σ.2.2.2.2.2.2.2.2.2.2.2, σ.2.2.2.2.2.2.2.2.2.2.1) = doesAns m (σ.1, σ.2.1, σ.2.2.1, σ.2.2.2.1)))) → E0 s') :
    Ai.code X L G (front 1 (rest 1 (rest 2 (rest 12 (Try.f3.body.getD .skip))))) (fun e s' => match e with | .normal => E0 s' | .exit i => EndsIn (post G Try.f3.results.toList Q) (.exit i) s' | .ret => EndsIn (post G Try.f3.results.toList Q) .ret s') (St.at 352 [(1, .isl 1 (rows cU8 more)), (5, .optr 41 0 3 0 0), (6, .optr 49 0 4 0 0), (8, .bool ok), (9, .int .i64 tin), (12, .bool one), (13, .int .i64 antimony), (16, .bool three), (17, .int .i64 lead), (20, .bool five), (21, .bool fits), (23, .int .i64 all)] [(41, 0, .box [.int .i64 m_A, .int .i64 m_B, .int .i64 m_C]), (49, 0, .box [.int .i64 bA, .int .i64 bB, .int .i64 bC, .int .i64 bD])]) := by
  conv => cbv
  rcases Bool.eq_false_or_eq_true three with rfl | rfl <;> conv => cbv
  · have ft := lead_facts l1
    try dsimp only at ft
    refine r_mulf m.sX (by first | omega | (subst_vars; omega)) (by first | omega | (subst_vars; omega)) fun r1 hr1 => ?_
    conv => cbv
    refine r_addf m.sX (by omega) (by omega) fun r2 hr2 => ?_
    conv => cbv
    refine r_mulf m.sX (by first | omega | (subst_vars; omega)) (by first | omega | (subst_vars; omega)) fun r3 hr3 => ?_
    conv => cbv
    refine r_gtrF m.sX ((by first | omega | assumption | (subst_vars; omega))) ?_
    conv => cbv
    refine r_mulf m.sX (by first | omega | (subst_vars; omega)) (by first | omega | (subst_vars; omega)) fun r4 hr4 => ?_
    conv => cbv
    refine r_addf m.sX (by omega) (by omega) fun r5 hr5 => ?_
    conv => cbv
    refine r_mulf m.sX (by first | omega | (subst_vars; omega)) (by first | omega | (subst_vars; omega)) fun r6 hr6 => ?_
    conv => cbv
    refine r_gtrF m.sX ((by first | omega | assumption | (subst_vars; omega))) ?_
    conv => cbv
    exact hE0 _ (bA, bB, bC, bD, ok, tin, one, antimony, true, lead, five, fits) (by cbv) (by cbv) ⟨trivial, (by (try dsimp only) <;> (exact ⟨(m_A, m_B, m_C), t1, a1, l1, f1⟩))⟩
  · exact hE0 _ (bA, bB, bC, bD, ok, tin, one, antimony, false, lead, five, fits) (by cbv) (by cbv) ⟨trivial, (by (try dsimp only) <;> (exact ⟨(m_A, m_B, m_C), t1, a1, l1, f1⟩))⟩

theorem additions_part5 (m : Mach Try.prog G κ X Y L) (hQ : ∀ r, r = PV.bool true → Q r) (more : List Int) (h : CurIn more) (bA : Int) (bB : Int) (bC : Int) (bD : Int) (ok : Bool) (tin : Int) (one : Bool) (antimony : Int) (three : Bool) (lead : Int) (five : Bool) (fits : Bool) (n1 : ∃ m : Melt, (tin, ok) = tinAns m (bA, bB, bC, bD) ∧ (antimony, one) = antAns m (bA, bB, bC, bD) ∧ (lead, three) = leadAns m (bA, bB, bC, bD) ∧ (fits, five) = doesAns m (bA, bB, bC, bD)) (E0 : St → Prop)
    (hE0 : ∀ (s' : St) (a : Unit), headOk s' [] = true → Ai.norm [1] [] s' = St.at 352 (midAdditions more) [] → True → E0 s') :
    Ai.code X L G (front 1 (rest 1 (rest 1 (rest 2 (rest 12 (Try.f3.body.getD .skip)))))) (fun e s' => match e with | .normal => E0 s' | .exit i => EndsIn (post G Try.f3.results.toList Q) (.exit i) s' | .ret => EndsIn (post G Try.f3.results.toList Q) .ret s') (St.at 352 [(1, .isl 1 (rows cU8 more)), (6, .optr 49 0 4 0 0), (8, .bool ok), (9, .int .i64 tin), (12, .bool one), (13, .int .i64 antimony), (16, .bool three), (17, .int .i64 lead), (20, .bool five), (21, .bool fits)] [(49, 0, .box [.int .i64 bA, .int .i64 bB, .int .i64 bC, .int .i64 bD])]) := by
  conv => cbv
  obtain ⟨mm, t1, a1, l1, f1⟩ := n1
  rcases Bool.eq_false_or_eq_true five with rfl | rfl <;> conv => cbv
  · rcases Bool.eq_false_or_eq_true fits with rfl | rfl <;> conv => cbv
    · have q := fits_no f1 t1 a1 l1 rfl
      try dsimp only at q
      obtain rfl : ok = true := by exact q.1.2
      conv => cbv
      obtain rfl : one = true := by exact q.2.1.2
      conv => cbv
      obtain rfl : three = true := by exact q.2.2.1.2
      conv => cbv
      refine r_neqF m.sX ((by first | omega | assumption | (subst_vars; omega))) ?_
      conv => cbv
      refine r_neqF m.sX ((by first | omega | assumption | (subst_vars; omega))) ?_
      conv => cbv
      refine r_neqF m.sX ((by first | omega | assumption | (subst_vars; omega))) ?_
      conv => cbv
      refine r_callBT m.sX (IsBlend_ok (bA, bB, bC, bD)) (by exact q.2.2.2) ?_   -- h4
      conv => cbv
      exact hE0 _ () (by cbv) (by cbv) trivial
    · exact hE0 _ () (by cbv) (by cbv) trivial
  · exact hE0 _ () (by cbv) (by cbv) trivial

theorem additions_part6 (m : Mach Try.prog G κ X Y L) (hQ : ∀ r, r = PV.bool true → Q r) (more : List Int) (h : CurIn more) :
    Ai.code X L G (rest 1 (rest 1 (rest 1 (rest 2 (rest 12 (Try.f3.body.getD .skip)))))) (EndsIn (post G Try.f3.results.toList Q)) (St.at 352 (midAdditions more) []) := by
  conv => cbv
  refine r_callE m.sX (drawLeastOfOther_ok more h) ?_
  rintro _ ⟨⟨xA, xB, xC⟩, ⟨otherA, otherB, otherC⟩, ⟨wantA, wantB, wantC, wantD⟩, rfl, bx_1⟩
  conv => cbv
  refine r_callF ib m.sX (LeastOfOther_ok (xA, xB, xC) (otherA, otherB, otherC) (wantA, wantB, wantC, wantD)) fun v hn => ?_
  obtain ⟨n, seven⟩ := v
  conv => cbv
  try dsimp only at hn
  refine r_callF ib m.sX (specLeastOfOther_ok (xA, xB, xC) (otherA, otherB, otherC) (wantA, wantB, wantC, wantD)) fun y1 hy1 => ?_
  obtain rfl := hn.trans hy1.symm
  clear hy1
  conv => cbv
  rcases Bool.eq_false_or_eq_true seven with rfl | rfl <;> conv => cbv
  · have oa := oth_at hn
    try dsimp only at oa
    refine r_neqF m.sX ((by first | omega | assumption | (subst_vars; omega))) ?_
    conv => cbv
    refine r_loopF (α := Int × Int × Int × Int) m 352 [29, 31] [⟨24, 193, 0, 0, 0⟩, ⟨25, 201, 0, 0, 0⟩, ⟨26, 209, 0, 0, 0⟩] (fun σ => [(24, .optr 193 0 3 0 0), (25, .optr 201 0 3 0 0), (26, .optr 209 0 4 0 0), (29, .int .i64 n), (31, .int .i64 σ.2.2.2)]) (fun σ => [(193, 0, .box [.int .i64 σ.1, .int .i64 σ.2.1, .int .i64 σ.2.2.1]), (201, 0, .box [.int .i64 otherA, .int .i64 otherB, .int .i64 otherC]), (209, 0, .box [.int .i64 wantA, .int .i64 wantB, .int .i64 wantC, .int .i64 wantD])])
      (fun σ => (σ.2.2.2 ≤ n → (σ.1, σ.2.1, σ.2.2.1) = mTimes (xA, xB, xC) (otherA, otherB, otherC) σ.2.2.2) ∧ (0 ≤ σ.2.2.2 ∧ σ.2.2.2 ≤ n + 1)) (fun σ => (n + 1 - σ.2.2.2).toNat) (xA, xB, xC, 0) ?_ ?_ ?_ ?_
    · cbv
    · cbv
    · exact ⟨(by (try dsimp only) <;> (intro _; exact (mTimes_zero _ _).symm)), (by (try dsimp only) <;> (omega))⟩
    rintro ⟨f1, f2, f3, k⟩ ⟨w, kb⟩ E hE F hF
    dsimp only at w kb
    conv => cbv
    refine r_leq m.sX (fun h2 => ?_) (fun h2 => ?_) <;> conv => cbv
    · have od := oth_bd hn (w h2) kb.1 h2
      try dsimp only at od
      refine r_callF bb m.sX (DoesFit_ok (f1, f2, f3) (wantA, wantB, wantC, wantD)) fun v hnow => ?_
      obtain ⟨now, nine⟩ := v
      conv => cbv
      try dsimp only at hnow
      have g := does_good hn (w h2) kb.1 h2 hnow
      try dsimp only at g
      rcases Bool.eq_false_or_eq_true nine with rfl | rfl <;> conv => cbv
      · refine r_eql m.sX (fun h3 => ?_) (fun h3 => ?_) <;> conv => cbv
        · obtain rfl : now = true := by first | (rw [decide_eq_true h3] at g; exact g) | (rw [decide_eq_false h3] at g; exact g)
          conv => cbv
          refine r_lss m.sX (fun h4 => ?_) (fun h4 => ?_) <;> conv => cbv
          · have jn := join_at hn (w h2) kb.1 h4
            try dsimp only at jn
            refine .inl (r_callFO mbR m.sX ((joinLit_ok ([(f1, f2, f3), (otherA, otherB, otherC)]) (by simp) rfl).ok flat_mbR) fun v hnextA => ?_)
            obtain ⟨⟨nextA, nextB, nextC⟩, ten⟩ := v
            conv => cbv
            try dsimp only at hnext
            have hnext := hnextA
            obtain rfl : ten = true := by first | exact (Prod.mk.inj (hnext.trans jn)).2 | exact (Prod.mk.inj (hnext_2.trans jn)).2 | exact (Prod.mk.inj (hnext_3.trans jn)).2
            conv => cbv
            refine r_addf m.sX (by omega) (by omega) fun r1 hr1 => ?_
            conv => cbv
            refine r_neqF m.sX ((by exact (congrArg (fun z => z.1.1) (hnext.trans jn)).trans hr1.symm)) ?_
            conv => cbv
            refine r_addf m.sX (by omega) (by omega) fun r2 hr2 => ?_
            conv => cbv
            refine r_addf m.sX (by omega) (by omega) fun r3 hr3 => ?_
            conv => cbv
            refine r_addf m.sX (by omega) (by omega) fun r4 hr4 => ?_
            conv => cbv
            refine r_addf m.sX (by omega) (by omega) fun k_2 hk_2 => ?_
            conv => cbv
            refine hE _ (r2, r3, r4, k_2) ?_ ?_ ⟨(by (try dsimp only) <;> (first | (intro q_; exfalso; omega) | (intro q_; have w1 := w h2; first | (rw [hr2, hr3, hr4, show k_2 = k + 1 by omega, ← mTimes_next, ← w1]; rfl) | (rw [hr6, hr7, hr8, show k_4 = k + 1 by omega, ← mTimes_next, ← w1]; rfl) | (rw [hr10, hr11, hr12, show k_6 = k + 1 by omega, ← mTimes_next, ← w1]; rfl)))), (by (try dsimp only) <;> (omega))⟩ (by first | omega | (dsimp only; omega))
            · cbv
            · cbv
          · refine r_addf m.sX (by omega) (by omega) fun k_3 hk_3 => ?_
            conv => cbv
            refine hE _ (f1, f2, f3, k_3) ?_ ?_ ⟨(by (try dsimp only) <;> (first | (intro q_; exfalso; omega) | (intro q_; have w1 := w h2; first | (rw [hr2, hr3, hr4, show k_2 = k + 1 by omega, ← mTimes_next, ← w1]; rfl) | (rw [hr6, hr7, hr8, show k_4 = k + 1 by omega, ← mTimes_next, ← w1]; rfl) | (rw [hr10, hr11, hr12, show k_6 = k + 1 by omega, ← mTimes_next, ← w1]; rfl)))), (by (try dsimp only) <;> (omega))⟩ (by first | omega | (dsimp only; omega))
            · cbv
            · cbv
        · obtain rfl : now = false := by first | (rw [decide_eq_true h3] at g; exact g) | (rw [decide_eq_false h3] at g; exact g)
          conv => cbv
          refine r_lss m.sX (fun h6 => ?_) (fun h6 => ?_) <;> conv => cbv
          · have jn := join_at hn (w h2) kb.1 h6
            try dsimp only at jn
            refine .inl (r_callFO mbR m.sX ((joinLit_ok ([(f1, f2, f3), (otherA, otherB, otherC)]) (by simp) rfl).ok flat_mbR) fun v hnext_2A => ?_)
            obtain ⟨⟨next_2A, next_2B, next_2C⟩, ten_2⟩ := v
            conv => cbv
            try dsimp only at hnext_2
            have hnext_2 := hnext_2A
            obtain rfl : ten_2 = true := by first | exact (Prod.mk.inj (hnext.trans jn)).2 | exact (Prod.mk.inj (hnext_2.trans jn)).2 | exact (Prod.mk.inj (hnext_3.trans jn)).2
            conv => cbv
            refine r_addf m.sX (by omega) (by omega) fun r5 hr5 => ?_
            conv => cbv
            refine r_neqF m.sX ((by exact (congrArg (fun z => z.1.1) (hnext_2.trans jn)).trans hr5.symm)) ?_
            conv => cbv
            refine r_addf m.sX (by omega) (by omega) fun r6 hr6 => ?_
            conv => cbv
            refine r_addf m.sX (by omega) (by omega) fun r7 hr7 => ?_
            conv => cbv
            refine r_addf m.sX (by omega) (by omega) fun r8 hr8 => ?_
            conv => cbv
            refine r_addf m.sX (by omega) (by omega) fun k_4 hk_4 => ?_
            conv => cbv
            refine hE _ (r6, r7, r8, k_4) ?_ ?_ ⟨(by (try dsimp only) <;> (first | (intro q_; exfalso; omega) | (intro q_; have w1 := w h2; first | (rw [hr2, hr3, hr4, show k_2 = k + 1 by omega, ← mTimes_next, ← w1]; rfl) | (rw [hr6, hr7, hr8, show k_4 = k + 1 by omega, ← mTimes_next, ← w1]; rfl) | (rw [hr10, hr11, hr12, show k_6 = k + 1 by omega, ← mTimes_next, ← w1]; rfl)))), (by (try dsimp only) <;> (omega))⟩ (by first | omega | (dsimp only; omega))
            · cbv
            · cbv
          · refine r_addf m.sX (by omega) (by omega) fun k_5 hk_5 => ?_
            conv => cbv
            refine hE _ (f1, f2, f3, k_5) ?_ ?_ ⟨(by (try dsimp only) <;> (first | (intro q_; exfalso; omega) | (intro q_; have w1 := w h2; first | (rw [hr2, hr3, hr4, show k_2 = k + 1 by omega, ← mTimes_next, ← w1]; rfl) | (rw [hr6, hr7, hr8, show k_4 = k + 1 by omega, ← mTimes_next, ← w1]; rfl) | (rw [hr10, hr11, hr12, show k_6 = k + 1 by omega, ← mTimes_next, ← w1]; rfl)))), (by (try dsimp only) <;> (omega))⟩ (by first | omega | (dsimp only; omega))
            · cbv
            · cbv
      · refine r_eqlF m.sX ((by intro e; rw [decide_eq_true e] at g; cases g)) ?_
        conv => cbv
        refine r_lss m.sX (fun h9 => ?_) (fun h9 => ?_) <;> conv => cbv
        · have jn := join_at hn (w h2) kb.1 h9
          try dsimp only at jn
          refine .inl (r_callFO mbR m.sX ((joinLit_ok ([(f1, f2, f3), (otherA, otherB, otherC)]) (by simp) rfl).ok flat_mbR) fun v hnext_3A => ?_)
          obtain ⟨⟨next_3A, next_3B, next_3C⟩, ten_3⟩ := v
          conv => cbv
          try dsimp only at hnext_3
          have hnext_3 := hnext_3A
          obtain rfl : ten_3 = true := by first | exact (Prod.mk.inj (hnext.trans jn)).2 | exact (Prod.mk.inj (hnext_2.trans jn)).2 | exact (Prod.mk.inj (hnext_3.trans jn)).2
          conv => cbv
          refine r_addf m.sX (by omega) (by omega) fun r9 hr9 => ?_
          conv => cbv
          refine r_neqF m.sX ((by exact (congrArg (fun z => z.1.1) (hnext_3.trans jn)).trans hr9.symm)) ?_
          conv => cbv
          refine r_addf m.sX (by omega) (by omega) fun r10 hr10 => ?_
          conv => cbv
          refine r_addf m.sX (by omega) (by omega) fun r11 hr11 => ?_
          conv => cbv
          refine r_addf m.sX (by omega) (by omega) fun r12 hr12 => ?_
          conv => cbv
          refine r_addf m.sX (by omega) (by omega) fun k_6 hk_6 => ?_
          conv => cbv
          refine hE _ (r10, r11, r12, k_6) ?_ ?_ ⟨(by (try dsimp only) <;> (first | (intro q_; exfalso; omega) | (intro q_; have w1 := w h2; first | (rw [hr2, hr3, hr4, show k_2 = k + 1 by omega, ← mTimes_next, ← w1]; rfl) | (rw [hr6, hr7, hr8, show k_4 = k + 1 by omega, ← mTimes_next, ← w1]; rfl) | (rw [hr10, hr11, hr12, show k_6 = k + 1 by omega, ← mTimes_next, ← w1]; rfl)))), (by (try dsimp only) <;> (omega))⟩ (by first | omega | (dsimp only; omega))
          · cbv
          · cbv
        · refine r_addf m.sX (by omega) (by omega) fun k_7 hk_7 => ?_
          conv => cbv
          refine hE _ (f1, f2, f3, k_7) ?_ ?_ ⟨(by (try dsimp only) <;> (first | (intro q_; exfalso; omega) | (intro q_; have w1 := w h2; first | (rw [hr2, hr3, hr4, show k_2 = k + 1 by omega, ← mTimes_next, ← w1]; rfl) | (rw [hr6, hr7, hr8, show k_4 = k + 1 by omega, ← mTimes_next, ← w1]; rfl) | (rw [hr10, hr11, hr12, show k_6 = k + 1 by omega, ← mTimes_next, ← w1]; rfl)))), (by (try dsimp only) <;> (omega))⟩ (by first | omega | (dsimp only; omega))
          · cbv
          · cbv
    · refine hF _ _ ?_
      conv => cbv
      exact hQ _ (congrArg PV.bool (by first | rfl | omega | (simp [*]; done) | (subst_vars; simp [*]; done) | (rw [w]; simp [*]; done) | (rw [kb]; simp [*]; done)))   -- leaf 2
  · refine r_neqF m.sX ((by first | omega | assumption | (subst_vars; omega))) ?_
    conv => cbv
    exact hQ _ (congrArg PV.bool (by first | rfl | omega | (simp [*]; done) | (subst_vars; simp [*]; done)))   -- leaf 3

end

theorem lawAdditions_ok (code more : List Int) (hf : ∀ x ∈ code, 0 ≤ x ∧ x ≤ 255) (hg : ∀ x ∈ more, 0 ≤ x ∧ x ≤ 255) : OkA Try.prog 3 [.isl 1 (rows cU8 code), .isl 1 (rows cU8 more)] (· = .bool true) :=
  fn_introW envOk fieldsOk mixed Try.func3 rfl (c := Try.f3.body.getD .skip) rfl fun κ X Y L Q m hQ =>
    W_cut m 12 352 [1, 8, 9, 12, 13, 16, 17, 20, 21] [⟨5, 41, 0, 0, 0⟩, ⟨6, 49, 0, 0, 0⟩] (fun σ : Int × Int × Int × Int × Int × Int × Int × Bool × Int × Bool × Int × Bool × Int × Bool × Bool => [(1, .isl 1 (rows cU8 more)), (5, .optr 41 0 3 0 0), (6, .optr 49 0 4 0 0), (8, .bool σ.2.2.2.2.2.2.2.1), (9, .int .i64 σ.2.2.2.2.2.2.2.2.1), (12, .bool σ.2.2.2.2.2.2.2.2.2.1), (13, .int .i64 σ.2.2.2.2.2.2.2.2.2.2.1), (16, .bool σ.2.2.2.2.2.2.2.2.2.2.2.1), (17, .int .i64 σ.2.2.2.2.2.2.2.2.2.2.2.2.1), (20, .bool σ.2.2.2.2.2.2.2.2.2.2.2.2.2.1), (21, .bool σ.2.2.2.2.2.2.2.2.2.2.2.2.2.2)]) (fun σ => [(41, 0, .box [.int .i64 σ.1, .int .i64 σ.2.1, .int .i64 σ.2.2.1]), (49, 0, .box [.int .i64 σ.2.2.2.1, .int .i64 σ.2.2.2.2.1, .int .i64 σ.2.2.2.2.2.1, .int .i64 σ.2.2.2.2.2.2.1])]) (fun σ => (more.length : Int) ≤ 9223372036854775807 ∧ (((σ.2.2.2.2.2.2.2.2.1, σ.2.2.2.2.2.2.2.1) = tinAns (σ.1, σ.2.1, σ.2.2.1) (σ.2.2.2.1, σ.2.2.2.2.1, σ.2.2.2.2.2.1, σ.2.2.2.2.2.2.1)) ∧ ((σ.2.2.2.2.2.2.2.2.2.2.1, σ.2.2.2.2.2.2.2.2.2.1) = antAns (σ.1, σ.2.1, σ.2.2.1) (σ.2.2.2.1, σ.2.2.2.2.1, σ.2.2.2.2.2.1, σ.2.2.2.2.2.2.1)) ∧ ((σ.2.2.2.2.2.2.2.2.2.2.2.2.1, σ.2.2.2.2.2.2.2.2.2.2.2.1) = leadAns (σ.1, σ.2.1, σ.2.2.1) (σ.2.2.2.1, σ.2.2.2.2.1, σ.2.2.2.2.2.1, σ.2.2.2.2.2.2.1)) ∧ ((σ.2.2.2.2.2.2.2.2.2.2.2.2.2.2, σ.2.2.2.2.2.2.2.2.2.2.2.2.2.1) = doesAns (σ.1, σ.2.1, σ.2.2.1) (σ.2.2.2.1, σ.2.2.2.2.1, σ.2.2.2.2.2.1, σ.2.2.2.2.2.2.1)) ∧ ((-9223372036854775808 ≤ σ.1 + σ.2.1 ∧ -9223372036854775808 ≤ σ.1 + σ.2.1 + σ.2.2.1) ∧ σ.1 ≤ 1000001 ∧ σ.2.1 ≤ 1000001 ∧ σ.2.2.1 ≤ 1000001))) (additions_part1 m hQ code more hf) fun ⟨m_A, m_B, m_C, bA, bB, bC, bD, ok, tin, one, antimony, three, lead, five, fits⟩ ⟨hl, ⟨t1, a1, l1, f1, b1⟩⟩ =>
    W_cut m 2 352 [1, 8, 9, 12, 13, 16, 17, 20, 21, 23] [⟨5, 41, 0, 0, 0⟩, ⟨6, 49, 0, 0, 0⟩] (fun σ : Int × Int × Int × Int × Int × Int × Int × Bool × Int × Bool × Int × Bool × Int × Bool × Bool × Int => [(1, .isl 1 (rows cU8 more)), (5, .optr 41 0 3 0 0), (6, .optr 49 0 4 0 0), (8, .bool σ.2.2.2.2.2.2.2.1), (9, .int .i64 σ.2.2.2.2.2.2.2.2.1), (12, .bool σ.2.2.2.2.2.2.2.2.2.1), (13, .int .i64 σ.2.2.2.2.2.2.2.2.2.2.1), (16, .bool σ.2.2.2.2.2.2.2.2.2.2.2.1), (17, .int .i64 σ.2.2.2.2.2.2.2.2.2.2.2.2.1), (20, .bool σ.2.2.2.2.2.2.2.2.2.2.2.2.2.1), (21, .bool σ.2.2.2.2.2.2.2.2.2.2.2.2.2.2.1), (23, .int .i64 σ.2.2.2.2.2.2.2.2.2.2.2.2.2.2.2)]) (fun σ => [(41, 0, .box [.int .i64 σ.1, .int .i64 σ.2.1, .int .i64 σ.2.2.1]), (49, 0, .box [.int .i64 σ.2.2.2.1, .int .i64 σ.2.2.2.2.1, .int .i64 σ.2.2.2.2.2.1, .int .i64 σ.2.2.2.2.2.2.1])]) (fun σ => True ∧ (((σ.2.2.2.2.2.2.2.2.1, σ.2.2.2.2.2.2.2.1) = tinAns (σ.1, σ.2.1, σ.2.2.1) (σ.2.2.2.1, σ.2.2.2.2.1, σ.2.2.2.2.2.1, σ.2.2.2.2.2.2.1)) ∧ ((σ.2.2.2.2.2.2.2.2.2.2.1, σ.2.2.2.2.2.2.2.2.2.1) = antAns (σ.1, σ.2.1, σ.2.2.1) (σ.2.2.2.1, σ.2.2.2.2.1, σ.2.2.2.2.2.1, σ.2.2.2.2.2.2.1)) ∧ ((σ.2.2.2.2.2.2.2.2.2.2.2.2.1, σ.2.2.2.2.2.2.2.2.2.2.2.1) = leadAns (σ.1, σ.2.1, σ.2.2.1) (σ.2.2.2.1, σ.2.2.2.2.1, σ.2.2.2.2.2.1, σ.2.2.2.2.2.2.1)) ∧ ((σ.2.2.2.2.2.2.2.2.2.2.2.2.2.2.1, σ.2.2.2.2.2.2.2.2.2.2.2.2.2.1) = doesAns (σ.1, σ.2.1, σ.2.2.1) (σ.2.2.2.1, σ.2.2.2.2.1, σ.2.2.2.2.2.1, σ.2.2.2.2.2.2.1)) ∧ (σ.2.2.2.2.2.2.2.2.2.2.2.2.2.2.2 = σ.1 + σ.2.1 + σ.2.2.1))) (additions_part2 m hQ more ⟨hl, hg⟩ m_A m_B m_C bA bB bC bD ok tin one antimony three lead five fits t1 a1 l1 f1 b1) fun ⟨m_A, m_B, m_C, bA, bB, bC, bD, ok, tin, one, antimony, three, lead, five, fits, all⟩ ⟨_, ⟨t1, a1, l1, f1, s1⟩⟩ =>
    W_cut m 1 352 [1, 8, 9, 12, 13, 16, 17, 20, 21, 23] [⟨5, 41, 0, 0, 0⟩, ⟨6, 49, 0, 0, 0⟩] (fun σ : Int × Int × Int × Int × Int × Int × Int × Bool × Int × Bool × Int × Bool × Int × Bool × Bool × Int => [(1, .isl 1 (rows cU8 more)), (5, .optr 41 0 3 0 0), (6, .optr 49 0 4 0 0), (8, .bool σ.2.2.2.2.2.2.2.1), (9, .int .i64 σ.2.2.2.2.2.2.2.2.1), (12, .bool σ.2.2.2.2.2.2.2.2.2.1), (13, .int .i64 σ.2.2.2.2.2.2.2.2.2.2.1), (16, .bool σ.2.2.2.2.2.2.2.2.2.2.2.1), (17, .int .i64 σ.2.2.2.2.2.2.2.2.2.2.2.2.1), (20, .bool σ.2.2.2.2.2.2.2.2.2.2.2.2.2.1), (21, .bool σ.2.2.2.2.2.2.2.2.2.2.2.2.2.2.1), (23, .int .i64 σ.2.2.2.2.2.2.2.2.2.2.2.2.2.2.2)]) (fun σ => [(41, 0, .box [.int .i64 σ.1, .int .i64 σ.2.1, .int .i64 σ.2.2.1]), (49, 0, .box [.int .i64 σ.2.2.2.1, .int .i64 σ.2.2.2.2.1, .int .i64 σ.2.2.2.2.2.1, .int .i64 σ.2.2.2.2.2.2.1])]) (fun σ => True ∧ (((σ.2.2.2.2.2.2.2.2.1, σ.2.2.2.2.2.2.2.1) = tinAns (σ.1, σ.2.1, σ.2.2.1) (σ.2.2.2.1, σ.2.2.2.2.1, σ.2.2.2.2.2.1, σ.2.2.2.2.2.2.1)) ∧ ((σ.2.2.2.2.2.2.2.2.2.2.1, σ.2.2.2.2.2.2.2.2.2.1) = antAns (σ.1, σ.2.1, σ.2.2.1) (σ.2.2.2.1, σ.2.2.2.2.1, σ.2.2.2.2.2.1, σ.2.2.2.2.2.2.1)) ∧ ((σ.2.2.2.2.2.2.2.2.2.2.2.2.1, σ.2.2.2.2.2.2.2.2.2.2.2.1) = leadAns (σ.1, σ.2.1, σ.2.2.1) (σ.2.2.2.1, σ.2.2.2.2.1, σ.2.2.2.2.2.1, σ.2.2.2.2.2.2.1)) ∧ ((σ.2.2.2.2.2.2.2.2.2.2.2.2.2.2.1, σ.2.2.2.2.2.2.2.2.2.2.2.2.2.1) = doesAns (σ.1, σ.2.1, σ.2.2.1) (σ.2.2.2.1, σ.2.2.2.2.1, σ.2.2.2.2.2.1, σ.2.2.2.2.2.2.1)) ∧ (σ.2.2.2.2.2.2.2.2.2.2.2.2.2.2.2 = σ.1 + σ.2.1 + σ.2.2.1))) (additions_part3 m hQ more ⟨hl, hg⟩ m_A m_B m_C bA bB bC bD ok tin one antimony three lead five fits all t1 a1 l1 f1 s1) fun ⟨m_A, m_B, m_C, bA, bB, bC, bD, ok, tin, one, antimony, three, lead, five, fits, all⟩ ⟨_, ⟨t1, a1, l1, f1, s1⟩⟩ =>
    W_cut m 1 352 [1, 8, 9, 12, 13, 16, 17, 20, 21] [⟨6, 49, 0, 0, 0⟩] (fun σ : Int × Int × Int × Int × Bool × Int × Bool × Int × Bool × Int × Bool × Bool => [(1, .isl 1 (rows cU8 more)), (6, .optr 49 0 4 0 0), (8, .bool σ.2.2.2.2.1), (9, .int .i64 σ.2.2.2.2.2.1), (12, .bool σ.2.2.2.2.2.2.1), (13, .int .i64 σ.2.2.2.2.2.2.2.1), (16, .bool σ.2.2.2.2.2.2.2.2.1), (17, .int .i64 σ.2.2.2.2.2.2.2.2.2.1), (20, .bool σ.2.2.2.2.2.2.2.2.2.2.1), (21, .bool σ.2.2.2.2.2.2.2.2.2.2.2)]) (fun σ => [(49, 0, .box [.int .i64 σ.1, .int .i64 σ.2.1, .int .i64 σ.2.2.1, .int .i64 σ.2.2.2.1])]) (fun σ => True ∧ ((∃ m : Melt, (σ.2.2.2.2.2.1, σ.2.2.2.2.1) = tinAns m (σ.1, σ.2.1, σ.2.2.1, σ.2.2.2.1) ∧ (σ.2.2.2.2.2.2.2.1, σ.2.2.2.2.2.2.1) = antAns m (σ.1, σ.2.1, σ.2.2.1, σ.2.2.2.1) ∧ (σ.2.2.2.2.2.2.2.2.2.1, σ.2.2.2.2.2.2.2.2.1) = leadAns m (σ.1, σ.2.1, σ.2.2.1, σ.2.2.2.1) ∧ (σ.2.2.2.2.2.2.2.2.2.2.2, σ.2.2.2.2.2.2.2.2.2.2.1) = doesAns m (σ.1, σ.2.1, σ.2.2.1, σ.2.2.2.1)))) (additions_part4 m hQ more ⟨hl, hg⟩ m_A m_B m_C bA bB bC bD ok tin one antimony three lead five fits all t1 a1 l1 f1 s1) fun ⟨bA, bB, bC, bD, ok, tin, one, antimony, three, lead, five, fits⟩ ⟨_, n1⟩ =>
    W_cut m 1 352 [1] [] (fun _ : Unit => midAdditions more) (fun _ => []) (fun _ => True) (additions_part5 m hQ more ⟨hl, hg⟩ bA bB bC bD ok tin one antimony three lead five fits n1) fun _ _ =>
    W_last m (additions_part6 m hQ more ⟨hl, hg⟩)

end Go.Proofs.Ytkcbhjnkpbeigaa.Ai
