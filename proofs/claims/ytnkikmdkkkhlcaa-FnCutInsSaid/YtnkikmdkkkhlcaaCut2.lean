/- Contracts of the functions on cut-ins, continued. -/
import Derived.Test.YtnkikmdkkkhlcaaCut
namespace Go.Proofs.Ytnkikmdkkkhlcaa.Ai
open Go Go.Proofs
set_option maxRecDepth 10000
set_option maxHeartbeats 4000000
set_option linter.unusedVariables false

theorem lb_nil {α : Type} (e n : Nat) (f : α → List PV) (b : Bool) : lb e n f ([], b) = .tup [.fr e n [], .bool b] := by simp only [lb, rows_nil]
theorem lbI_nil {α : Type} (n : Nat) (f : α → List PV) (b : Bool) : lbI n f ([], b) = .tup [.isl n [], .bool b] := by simp only [lbI, rows_nil]
theorem flat_cCutIn : ∀ x, ∀ c ∈ cCutIn x, flat c := fun x c hc => by
  simp only [cCutIn, List.mem_cons, List.not_mem_nil, or_false] at hc
  rcases hc with rfl | rfl | rfl | rfl <;> trivial

theorem AddCutIn_ok (me : Int) (l : List CutIn) (x : CutIn) (h1 : -1000000 ≤ me) (h2 : me ≤ 1000000) (hl : l.length ≤ 900) : OkA Try.prog 44 [.int .i64 me, .isl 4 (rows cCutIn l), .agg (cCutIn x)] (· = lb 58 4 cCutIn (addF me l x)) := by
  obtain ⟨x1, x2, x3, x4⟩ := x
  exact fn_intro envOk fieldsOk mixed Try.func44 rfl fun κ X Y L Q m hQ => by
    conv => cbv
    refine r_draw m (by kernel_rfl) ?_
    conv => cbv
    refine r_append0R m.sY (by first | omega | (dsimp only; omega)) (by first | omega | (dsimp only; omega)) fun zs1 hzs1 => ?_
    conv => cbv
    subst hzs1
    refine r_append1 ((x1, x2, x3, x4)) m.sY rfl (by first | omega | (dsimp only; omega)) (by first | omega | (dsimp only; omega)) fun zs2 hzs2 => ?_
    conv => cbv
    have hz : zs2 = zs1 ++ [(x1, x2, x3, x4)] := hzs2
    have hzl : zs2.length = zs1.length + 1 := by rw [hz]; simp
    refine r_callB m.sX (AreCutIns_ok me zs1 h1 h2 (by omega)) (fun g1 => ?_) (fun g1 => ?_) <;> conv => cbv
    · refine .inl (r_callBO m.sX ((AreCutIns_ok me zs2 h1 h2 (by omega)).ok flat_bool) (fun g2 => ?_) (fun g2 => ?_)) <;> conv => cbv
      · exact hQ (lb 58 4 cCutIn (zs2, true)) (congrArg _ (by rw [addF, g1, ← hz, g2]; rfl))
      · exact hQ (.tup [.fr 58 4 [], .bool false]) (by rw [addF, g1, ← hz, g2, ← lb_nil]; rfl)
    · exact hQ (.tup [.fr 58 4 [], .bool false]) (by rw [addF, g1, ← lb_nil]; rfl)

theorem inWith_ok (l : List CutIn) (x : CutIn) (hl : l.length ≤ 900) : OkA Try.prog 231 [.isl 4 (rows cCutIn l), .agg (cCutIn x)] (· = .fr 58 4 (rows cCutIn (l ++ [x]))) := by
  obtain ⟨x1, x2, x3, x4⟩ := x
  exact fn_intro envOk fieldsOk mixed Try.func231 rfl fun κ X Y L Q m hQ => by
    conv => cbv
    refine r_draw m (by kernel_rfl) ?_
    conv => cbv
    refine r_append0R m.sY (by first | omega | (dsimp only; omega)) (by first | omega | (dsimp only; omega)) fun zs1 hzs1 => ?_
    conv => cbv
    subst hzs1
    refine r_append1 ((x1, x2, x3, x4)) m.sY rfl (by first | omega | (dsimp only; omega)) (by first | omega | (dsimp only; omega)) fun zs2 hzs2 => ?_
    conv => cbv
    exact hQ _ (congrArg (fun l => PV.fr 58 4 (rows cCutIn l)) hzs2)

theorem inIf_ok (me : Int) (l : List CutIn) (h1 : -1000000 ≤ me) (h2 : me ≤ 1000000) (hl : l.length ≤ 1000) : OkA Try.prog 234 [.int .i64 me, .isl 4 (rows cCutIn l)] (· = lbI 4 cCutIn (if goodC me l then (l, true) else ([], false))) :=
  OkA.unnilI 4 (fn_intro envOk fieldsOk mixed Try.func234 rfl fun κ X Y L Q m hQ => by
    conv => cbv
    refine r_callB m.sX (inGood_ok me l h1 h2 hl) (fun g1 => ?_) (fun g1 => ?_) <;> conv => cbv
    · exact hQ (lbI 4 cCutIn (l, true)) (by rw [g1]; rfl)
    · exact hQ (.tup [.nil, .bool false]) (by rw [g1, if_neg (by simp), lbI_nil]; rfl))

theorem specAddCutIn_ok (me : Int) (l : List CutIn) (x : CutIn) (h1 : -1000000 ≤ me) (h2 : me ≤ 1000000) (hl : l.length ≤ 900) : OkA Try.prog 54 [.int .i64 me, .isl 4 (rows cCutIn l), .agg (cCutIn x)] (· = lbI 4 cCutIn (addF me l x)) :=
  OkA.unnilI 4 (by
    obtain ⟨x1, x2, x3, x4⟩ := x
    exact fn_intro envOk fieldsOk mixed Try.func54 rfl fun κ X Y L Q m hQ => by
      conv => cbv
      refine r_callB m.sX (inGood_ok me l h1 h2 (by omega)) (fun g1 => ?_) (fun g1 => ?_) <;> conv => cbv
      · refine r_callF (fun l => PV.fr _ _ (rows _ l)) m.sX (inWith_ok l (x1, x2, x3, x4) hl) fun v1 hv1 => ?_
        conv => cbv
        have hvl : v1.length = l.length + 1 := by rw [hv1]; simp
        refine .inr (r_pcallF (lbI 4 cCutIn) m.sX (inIf_ok me v1 h1 h2 (by omega)) fun v hv3 => ?_)
        obtain ⟨v3, v4⟩ := v
        conv => cbv
        exact hQ (lbI 4 cCutIn (v3, v4)) (by rw [hv3, addF, g1, ← hv1, Bool.true_and]; split <;> rfl)
      · exact hQ (.tup [.nil, .bool false]) (by rw [addF, g1, Bool.false_and, if_neg (by simp), lbI_nil]; rfl))

theorem FirstPlaceFor_ok (me : Int) (l : List CutIn) (x : CutIn) (h1 : -1000000 ≤ me) (h2 : me ≤ 1000000) (hl : l.length ≤ 900) : OkA Try.prog 42 [.int .i64 me, .isl 4 (rows cCutIn l), .agg (cCutIn x)] (· = ib (firstF me l x)) := by
  obtain ⟨x1, x2, x3, x4⟩ := x
  exact fn_intro envOk fieldsOk mixed Try.func42 rfl fun κ X Y L Q m hQ => by
    conv => cbv
    refine r_callB m.sX (AreCutIns_ok me l h1 h2 (by omega)) (fun g1 => ?_) (fun g1 => ?_) <;> conv => cbv
    rotate_left
    · exact hQ (ib (0, false)) (congrArg ib (by rw [firstF, g1]; rfl))
    refine r_callB m.sX (isCutIn_ok (x1, x2, x3, x4)) (fun g2 => ?_) (fun g2 => ?_) <;> conv => cbv
    rotate_left
    · exact hQ (ib (0, false)) (congrArg ib (by rw [firstF, g1, g2]; rfl))
    have hs := isCut_spec g2
    dsimp only at hs
    refine r_loop (α := Int) m 34 [0, 1] [⟨5, 41, 0, 0, 0⟩] (fun a => [(0, .int .i64 me), (1, .isl 4 (rows cCutIn l)), (5, .optr 41 0 4 0 0)]) (fun a => [(41, 0, .box [.int .i64 a, .int .i64 x2, .int .i64 x3, .int .i64 x4])])
      (fun a => x1 ≤ a ∧ a ≤ 201 ∧ firstC me l (x1, x2, x3, x4) (201 - x1).toNat x1 = firstC me l (x1, x2, x3, x4) (201 - a).toNat a) (fun a => (201 - a).toNat) x1 ?_ ?_ ?_ ?_
    · cbv
    · cbv
    · exact ⟨by omega, by omega, rfl⟩
    rintro f1 ⟨p1, p2, p3⟩ E hE
    conv => cbv
    refine r_leq m.sX (fun g3 => ?_) (fun g3 => ?_) <;> conv => cbv
    · rw [show (201 - f1).toNat = (200 - f1).toNat + 1 by omega, firstC] at p3
      refine r_draw m (by kernel_rfl) ?_
      conv => cbv
      refine r_append0R m.sY (by first | omega | (dsimp only; omega)) (by first | omega | (dsimp only; omega)) fun zs1 hzs1 => ?_
      conv => cbv
      have hl1 : zs1.length = l.length := by rw [hzs1]
      refine r_append1 ((f1, x2, x3, x4)) m.sY rfl (by first | omega | (dsimp only; omega)) (by first | omega | (dsimp only; omega)) fun zs2 hzs2 => ?_
      conv => cbv
      have hz : zs2 = l ++ [(f1, x2, x3, x4)] := by rw [hzs2, hzs1]
      have hzl : zs2.length = l.length + 1 := by rw [hz]; simp
      refine .inl (r_callBSO m.sY ((AreCutIns_ok me zs2 h1 h2 (by omega)).ok flat_bool) (fun g4 => ?_) (fun g4 => ?_)) <;> conv => cbv
      · exact hQ (ib (f1, true)) (congrArg ib (by rw [firstF, g1, g2, p3, ← hz, g4]; rfl))
      · rw [← hz, g4, if_neg (by simp)] at p3
        refine r_addf m.sX (by omega) (by omega) fun r1 hr1 => ?_
        conv => cbv
        refine hE _ r1 ?_ ?_ ⟨by omega, by omega, by rw [p3, hr1, show (201 - (f1 + 1)).toNat = (200 - f1).toNat by omega]⟩ (by first | omega | (dsimp only; omega))
        · cbv
        · cbv
    · rw [show (201 - f1).toNat = 0 by omega, firstC] at p3
      exact hQ (ib (0, false)) (congrArg ib (by rw [firstF, g1, g2, p3]; rfl))
theorem specFirstPlaceFor_ok (me : Int) (l : List CutIn) (x : CutIn) (h1 : -1000000 ≤ me) (h2 : me ≤ 1000000) (hl : l.length ≤ 900) : OkA Try.prog 43 [.int .i64 me, .isl 4 (rows cCutIn l), .agg (cCutIn x)] (· = ib (firstF me l x)) := by
  obtain ⟨x1, x2, x3, x4⟩ := x
  exact fn_intro envOk fieldsOk mixed Try.func43 rfl fun κ X Y L Q m hQ => by
    conv => cbv
    refine r_callB m.sX (inGood_ok me l h1 h2 (by omega)) (fun g1 => ?_) (fun g1 => ?_) <;> conv => cbv
    rotate_left
    · exact hQ (ib (0, false)) (congrArg ib (by rw [firstF, g1]; rfl))
    refine r_callB m.sX (inCut_ok (x1, x2, x3, x4)) (fun g2 => ?_) (fun g2 => ?_) <;> conv => cbv
    rotate_left
    · exact hQ (ib (0, false)) (congrArg ib (by rw [firstF, g1, g2]; rfl))
    have hs := isCut_spec g2
    dsimp only at hs
    refine r_loop (α := Int) m 31 [0, 1] [⟨5, 41, 0, 0, 0⟩] (fun a => [(0, .int .i64 me), (1, .isl 4 (rows cCutIn l)), (5, .optr 41 0 4 0 0)]) (fun a => [(41, 0, .box [.int .i64 a, .int .i64 x2, .int .i64 x3, .int .i64 x4])])
      (fun a => x1 ≤ a ∧ a ≤ 201 ∧ firstC me l (x1, x2, x3, x4) (201 - x1).toNat x1 = firstC me l (x1, x2, x3, x4) (201 - a).toNat a) (fun a => (201 - a).toNat) x1 ?_ ?_ ?_ ?_
    · cbv
    · cbv
    · exact ⟨by omega, by omega, rfl⟩
    rintro f1 ⟨p1, p2, p3⟩ E hE
    conv => cbv
    refine r_leq m.sX (fun g3 => ?_) (fun g3 => ?_) <;> conv => cbv
    · rw [show (201 - f1).toNat = (200 - f1).toNat + 1 by omega, firstC] at p3
      refine r_callF (fun l => PV.fr _ _ (rows _ l)) m.sX (inWith_ok l (f1, x2, x3, x4) hl) fun zs2 hzs2 => ?_
      conv => cbv
      have hz : zs2 = l ++ [(f1, x2, x3, x4)] := hzs2
      have hzl : zs2.length = l.length + 1 := by rw [hz]; simp
      refine .inl (r_callBO m.sX ((inGood_ok me zs2 h1 h2 (by omega)).ok flat_bool) (fun g4 => ?_) (fun g4 => ?_)) <;> conv => cbv
      · exact hQ (ib (f1, true)) (congrArg ib (by rw [firstF, g1, g2, p3, ← hz, g4]; rfl))
      · rw [← hz, g4, if_neg (by simp)] at p3
        refine r_addf m.sX (by omega) (by omega) fun r1 hr1 => ?_
        conv => cbv
        refine hE _ r1 ?_ ?_ ⟨by omega, by omega, by rw [p3, hr1, show (201 - (f1 + 1)).toNat = (200 - f1).toNat by omega]⟩ (by first | omega | (dsimp only; omega))
        · cbv
        · cbv
    · rw [show (201 - f1).toNat = 0 by omega, firstC] at p3
      exact hQ (ib (0, false)) (congrArg ib (by rw [firstF, g1, g2, p3]; rfl))

theorem moveL_at {l : List CutIn} {i b : Int} {u1 u2 u3 u4 : Int} (h : l[i.toNat]? = some (u1, u2, u3, u4)) {r : Int} (hr : r = u1 + b) : moveL l i b = l.set i.toNat (r, u2, u3, u4) := by
  rw [moveL, h, hr]; rfl

theorem MoveCutIn_ok (me : Int) (l : List CutIn) (i b : Int) (h1 : -1000000 ≤ me) (h2 : me ≤ 1000000) (hl : l.length ≤ 900) : OkA Try.prog 46 [.int .i64 me, .isl 4 (rows cCutIn l), .int .i64 i, .int .i64 b] (· = lb 58 4 cCutIn (moveF me l i b)) :=
  fn_intro envOk fieldsOk mixed Try.func46 rfl fun κ X Y L Q m hQ => by
    conv => cbv
    refine r_callB m.sX (AreCutIns_ok me l h1 h2 (by omega)) (fun g1 => ?_) (fun g1 => ?_) <;> conv => cbv
    rotate_left
    · exact hQ (.tup [.fr 58 4 [], .bool false]) (by rw [moveF, g1, ← lb_nil]; rfl)
    refine r_lenR m.sX fun n1 hn1 mn1 => ?_
    conv => cbv
    refine r_subf m.sX (by omega) (by omega) fun r1 hr1 => ?_
    conv => cbv
    refine r_callB m.sX (within_ok i 0 r1) (fun g2 => ?_) (fun g2 => ?_) <;> conv => cbv
    rotate_left
    · exact hQ (.tup [.fr 58 4 [], .bool false]) (by rw [moveF, g1, ← hn1, ← hr1, g2, ← lb_nil]; rfl)
    refine r_callB m.sX (within_ok b (-200) 200) (fun g3 => ?_) (fun g3 => ?_) <;> conv => cbv
    rotate_left
    · exact hQ (.tup [.fr 58 4 [], .bool false]) (by rw [moveF, g1, ← hn1, ← hr1, g2, g3, ← lb_nil]; rfl)
    have b2 := inB_spec g2
    have b3 := inB_spec g3
    refine r_append0R m.sX (by first | omega | (dsimp only; omega)) (by first | omega | (dsimp only; omega)) fun zs1 hzs1 => ?_
    conv => cbv
    subst hzs1
    refine r_oindex m.sX (by omega) (by omega) ?_
    conv => cbv
    obtain ⟨⟨u1, u2, u3, u4⟩, hx1⟩ := get_ex (xs := zs1) (i := Int.toNat i) (by omega)
    have hok : okFrom zs1 0 zs1 = true := by rw [goodC, Bool.and_eq_true] at g1; exact g1.1
    have hs := isCut_spec (okFrom_mem hok _ (get_mem hx1))
    dsimp only at hs
    refine r_oload m.sX hx1 (Nat.le_of_ble_eq_true rfl) ?_
    conv => cbv
    refine r_addf m.sX (by omega) (by omega) fun r2 hr2 => ?_
    conv => cbv
    refine r_oindex m.sX (by omega) (by omega) ?_
    conv => cbv
    refine r_ostore (l := Int.toNat i) (r2, u2, u3, u4) m.sX hx1 (Nat.le_of_ble_eq_true rfl) rfl fun zs2 hzs2 => ?_
    conv => cbv
    have hz : zs2 = moveL zs1 i b := by rw [hzs2, moveL_at hx1 hr2]
    have hzl : zs2.length = zs1.length := by rw [hzs2]; simp
    refine .inl (r_callBO m.sX ((AreCutIns_ok me zs2 h1 h2 (by omega)).ok flat_bool) (fun g4 => ?_) (fun g4 => ?_)) <;> conv => cbv
    · exact hQ (lb 58 4 cCutIn (zs2, true)) (congrArg _ (by rw [moveF, g1, ← hn1, ← hr1, g2, g3, ← hz, g4]; rfl))
    · exact hQ (.tup [.fr 58 4 [], .bool false]) (by rw [moveF, g1, ← hn1, ← hr1, g2, g3, ← hz, g4, ← lb_nil]; rfl)

theorem specMoveCutIn_ok (me : Int) (l : List CutIn) (i b : Int) (h1 : -1000000 ≤ me) (h2 : me ≤ 1000000) (hl : l.length ≤ 900) : OkA Try.prog 47 [.int .i64 me, .isl 4 (rows cCutIn l), .int .i64 i, .int .i64 b] (· = lbI 4 cCutIn (moveF me l i b)) :=
  OkA.unnilI 4 (fn_intro envOk fieldsOk mixed Try.func47 rfl fun κ X Y L Q m hQ => by
    conv => cbv
    refine r_callB m.sX (inGood_ok me l h1 h2 (by omega)) (fun g1 => ?_) (fun g1 => ?_) <;> conv => cbv
    rotate_left
    · exact hQ (.tup [.nil, .bool false]) (by rw [moveF, g1, Bool.false_and, if_neg (by simp), lbI_nil]; rfl)
    refine r_lenR m.sX fun n1 hn1 mn1 => ?_
    conv => cbv
    refine r_subf m.sX (by omega) (by omega) fun r1 hr1 => ?_
    conv => cbv
    refine r_callB m.sX (l1In_ok i 0 r1) (fun g2 => ?_) (fun g2 => ?_) <;> conv => cbv
    rotate_left
    · exact hQ (.tup [.nil, .bool false]) (by rw [moveF, g1, ← hn1, ← hr1, g2, Bool.true_and, Bool.false_and, if_neg (by simp), lbI_nil]; rfl)
    refine r_callB m.sX (l1In_ok b (-200) 200) (fun g3 => ?_) (fun g3 => ?_) <;> conv => cbv
    rotate_left
    · exact hQ (.tup [.nil, .bool false]) (by rw [moveF, g1, ← hn1, ← hr1, g2, g3, Bool.true_and, Bool.true_and, Bool.false_and, if_neg (by simp), lbI_nil]; rfl)
    have b2 := inB_spec g2
    have b3 := inB_spec g3
    refine r_append0R m.sX (by first | omega | (dsimp only; omega)) (by first | omega | (dsimp only; omega)) fun zs1 hzs1 => ?_
    conv => cbv
    subst hzs1
    refine r_oindex m.sX (by omega) (by omega) ?_
    conv => cbv
    obtain ⟨⟨u1, u2, u3, u4⟩, hx1⟩ := get_ex (xs := zs1) (i := Int.toNat i) (by omega)
    have hok : okFrom zs1 0 zs1 = true := by rw [goodC, Bool.and_eq_true] at g1; exact g1.1
    have hs := isCut_spec (okFrom_mem hok _ (get_mem hx1))
    dsimp only at hs
    refine r_oload m.sX hx1 (Nat.le_of_ble_eq_true rfl) ?_
    conv => cbv
    refine r_addf m.sX (by omega) (by omega) fun r2 hr2 => ?_
    conv => cbv
    refine r_oindex m.sX (by omega) (by omega) ?_
    conv => cbv
    refine r_ostore (l := Int.toNat i) (r2, u2, u3, u4) m.sX hx1 (Nat.le_of_ble_eq_true rfl) rfl fun zs2 hzs2 => ?_
    conv => cbv
    have hz : zs2 = moveL zs1 i b := by rw [hzs2, moveL_at hx1 hr2]
    have hzl : zs2.length = zs1.length := by rw [hzs2]; simp
    refine .inr (r_pcallF (lbI 4 cCutIn) m.sX (inIf_ok me zs2 h1 h2 (by omega)) fun v hv3 => ?_)
    obtain ⟨v3, v4⟩ := v
    conv => cbv
    exact hQ (lbI 4 cCutIn (v3, v4)) (by rw [hv3, moveF, g1, ← hn1, ← hr1, g2, g3, ← hz, Bool.true_and, Bool.true_and, Bool.true_and]; split <;> rfl))

theorem isLineNumber_ok (n : Int) : OkA Try.prog 238 [.int .i64 n] (· = .bool (inB n 0 300)) :=
  fn_intro envOk fieldsOk mixed Try.func238 rfl fun κ X Y L Q m hQ => by
    conv => cbv
    refine r_callB m.sX (within_ok n 0 300) (fun g1 => ?_) (fun g1 => ?_) <;> conv => cbv
    · exact hQ _ (congrArg PV.bool (g1.symm))
    · exact hQ _ (congrArg PV.bool (g1.symm))

theorem inNumber_ok (n : Int) : OkA Try.prog 241 [.int .i64 n] (· = .bool (inB n 0 300)) :=
  fn_intro envOk fieldsOk mixed Try.func241 rfl fun κ X Y L Q m hQ => by
    conv => cbv
    refine r_callB m.sX (l1In_ok n 0 300) (fun g1 => ?_) (fun g1 => ?_) <;> conv => cbv
    · exact hQ _ (congrArg PV.bool (g1.symm))
    · exact hQ _ (congrArg PV.bool (g1.symm))

theorem atFrom_cons (line side i : Int) (x : CutIn) (r : List CutIn) : atFrom line side i (x :: r) = if decide (x.2.2.2 = side) && beside x line then some i else atFrom line side (i + 1) r := rfl

theorem CutInAt_ok (me : Int) (l : List CutIn) (line side : Int) (h1 : -1000000 ≤ me) (h2 : me ≤ 1000000) (hl : l.length ≤ 900) : OkA Try.prog 51 [.int .i64 me, .isl 4 (rows cCutIn l), .int .i64 line, .int .i64 side] (· = ib (atF me l line side)) :=
  fn_intro envOk fieldsOk mixed Try.func51 rfl fun κ X Y L Q m hQ => by
    conv => cbv
    refine r_callB m.sX (AreCutIns_ok me l h1 h2 (by omega)) (fun g1 => ?_) (fun g1 => ?_) <;> conv => cbv
    rotate_left
    · exact hQ (ib (0, false)) (congrArg ib (by rw [atF, g1]; rfl))
    refine r_callB m.sX (isLineNumber_ok line) (fun g2 => ?_) (fun g2 => ?_) <;> conv => cbv
    rotate_left
    · exact hQ (ib (0, false)) (congrArg ib (by rw [atF, g1, g2]; rfl))
    refine r_callB m.sX (isSide_ok side) (fun g3 => ?_) (fun g3 => ?_) <;> conv => cbv
    rotate_left
    · exact hQ (ib (0, false)) (congrArg ib (by rw [atF, g1, g2, g3]; rfl))
    have hok : okFrom l 0 l = true := by rw [goodC, Bool.and_eq_true] at g1; exact g1.1
    refine r_lenR m.sX fun n1 hn1 mn1 => ?_
    conv => cbv
    refine r_loop (α := Int) m 44 [2, 3, 26, 27, 28] [] (fun a => [(2, .int .i64 line), (3, .int .i64 side), (26, .isl 4 (rows cCutIn l)), (27, .int .i64 n1), (28, .int .i64 a)]) (fun a => [])
      (fun a => 0 ≤ a ∧ a ≤ l.length ∧ atFrom line side 0 l = atFrom line side a (l.drop a.toNat)) (fun a => l.length - a.toNat) 0 ?_ ?_ ?_ ?_
    · cbv
    · cbv
    · exact ⟨by omega, by omega, rfl⟩
    rintro i1 ⟨p1, p2, p3⟩ E hE
    conv => cbv
    refine r_lss m.sX (fun g4 => ?_) (fun g4 => ?_) <;> conv => cbv
    · refine r_index m.sX (by omega) (by omega) fun v hu1 => ?_
      obtain ⟨u1, u2, u3, u4⟩ := v
      conv => cbv
      rw [drop_cons hu1, atFrom_cons] at p3
      have hx := okFrom_mem hok _ (get_mem hu1)
      refine r_eql m.sX (fun g5 => ?_) (fun g5 => ?_) <;> conv => cbv
      · refine r_callB m.sX (isBeside_ok (u1, u2, u3, u4) line hx) (fun g6 => ?_) (fun g6 => ?_) <;> conv => cbv
        · exact hQ (ib (i1, true)) (congrArg ib (by rw [atF, g1, g2, g3, p3, g6, decide_eq_true g5]; rfl))
        · rw [g6, Bool.and_false, if_neg (by simp)] at p3
          refine r_addf m.sX (by omega) (by omega) fun r1 hr1 => ?_
          conv => cbv
          refine hE _ r1 ?_ ?_ ⟨by omega, by omega, by rw [p3, hr1, show (i1 + 1).toNat = i1.toNat + 1 by omega]⟩ (by first | omega | (dsimp only; omega))
          · cbv
          · cbv
      · rw [decide_eq_false g5, Bool.false_and, if_neg (by simp)] at p3
        refine r_addf m.sX (by omega) (by omega) fun r2 hr2 => ?_
        conv => cbv
        refine hE _ r2 ?_ ?_ ⟨by omega, by omega, by rw [p3, hr2, show (i1 + 1).toNat = i1.toNat + 1 by omega]⟩ (by first | omega | (dsimp only; omega))
        · cbv
        · cbv
    · rw [List.drop_of_length_le (by omega)] at p3
      exact hQ (ib (0, false)) (congrArg ib (by rw [atF, g1, g2, g3, p3]; rfl))

theorem inAt_ok (l : List CutIn) (line side : Int) (hok : ∀ x ∈ l, isCut x = true) : OkA Try.prog 242 [.isl 4 (rows cCutIn l), .int .i64 line, .int .i64 side] (· = .int .i64 ((atFrom line side 0 l).getD (-1))) :=
  fn_intro envOk fieldsOk mixed Try.func242 rfl fun κ X Y L Q m hQ => by
    conv => cbv
    refine r_lenR m.sX fun n1 hn1 mn1 => ?_
    conv => cbv
    refine r_loop (α := Int) m 27 [1, 2, 9, 10, 11] [] (fun a => [(1, .int .i64 line), (2, .int .i64 side), (9, .isl 4 (rows cCutIn l)), (10, .int .i64 n1), (11, .int .i64 a)]) (fun a => [])
      (fun a => 0 ≤ a ∧ a ≤ l.length ∧ atFrom line side 0 l = atFrom line side a (l.drop a.toNat)) (fun a => l.length - a.toNat) 0 ?_ ?_ ?_ ?_
    · cbv
    · cbv
    · exact ⟨by omega, by omega, rfl⟩
    rintro i1 ⟨p1, p2, p3⟩ E hE
    conv => cbv
    refine r_lss m.sX (fun g4 => ?_) (fun g4 => ?_) <;> conv => cbv
    · refine r_index m.sX (by omega) (by omega) fun v hu1 => ?_
      obtain ⟨u1, u2, u3, u4⟩ := v
      conv => cbv
      rw [drop_cons hu1, atFrom_cons] at p3
      have hx := hok _ (get_mem hu1)
      refine r_eql m.sX (fun g5 => ?_) (fun g5 => ?_) <;> conv => cbv
      · refine r_callB m.sX (inBeside_ok (u1, u2, u3, u4) line hx) (fun g6 => ?_) (fun g6 => ?_) <;> conv => cbv
        · exact hQ _ (congrArg (PV.int .i64) (by rw [p3, g6, decide_eq_true g5]; rfl))
        · rw [g6, Bool.and_false, if_neg (by simp)] at p3
          refine r_addf m.sX (by omega) (by omega) fun r1 hr1 => ?_
          conv => cbv
          refine hE _ r1 ?_ ?_ ⟨by omega, by omega, by rw [p3, hr1, show (i1 + 1).toNat = i1.toNat + 1 by omega]⟩ (by first | omega | (dsimp only; omega))
          · cbv
          · cbv
      · rw [decide_eq_false g5, Bool.false_and, if_neg (by simp)] at p3
        refine r_addf m.sX (by omega) (by omega) fun r2 hr2 => ?_
        conv => cbv
        refine hE _ r2 ?_ ?_ ⟨by omega, by omega, by rw [p3, hr2, show (i1 + 1).toNat = i1.toNat + 1 by omega]⟩ (by first | omega | (dsimp only; omega))
        · cbv
        · cbv
    · rw [List.drop_of_length_le (by omega)] at p3
      exact hQ _ (congrArg (PV.int .i64) (by rw [p3]; rfl))

theorem specCutInAt_ok (me : Int) (l : List CutIn) (line side : Int) (h1 : -1000000 ≤ me) (h2 : me ≤ 1000000) (hl : l.length ≤ 900) : OkA Try.prog 52 [.int .i64 me, .isl 4 (rows cCutIn l), .int .i64 line, .int .i64 side] (· = ib (atF me l line side)) :=
  fn_intro envOk fieldsOk mixed Try.func52 rfl fun κ X Y L Q m hQ => by
    conv => cbv
    refine r_callB m.sX (inGood_ok me l h1 h2 (by omega)) (fun g1 => ?_) (fun g1 => ?_) <;> conv => cbv
    rotate_left
    · exact hQ (ib (0, false)) (congrArg ib (by rw [atF, g1]; rfl))
    refine r_callB m.sX (inNumber_ok line) (fun g2 => ?_) (fun g2 => ?_) <;> conv => cbv
    rotate_left
    · exact hQ (ib (0, false)) (congrArg ib (by rw [atF, g1, g2]; rfl))
    refine r_callB m.sX (l1In_ok side 0 1) (fun g3 => ?_) (fun g3 => ?_) <;> conv => cbv
    rotate_left
    · exact hQ (ib (0, false)) (congrArg ib (by rw [atF, g1, g2, g3]; rfl))
    have hok : okFrom l 0 l = true := by rw [goodC, Bool.and_eq_true] at g1; exact g1.1
    refine r_callF (PV.int .i64) m.sX (inAt_ok l line side (okFrom_mem hok)) fun r1 hr1 => ?_
    conv => cbv
    cases ha : atFrom line side 0 l with
    | none =>
      rw [ha, Option.getD_none] at hr1
      refine r_lssT m.sX (by omega) ?_
      conv => cbv
      conv => cbv
      exact hQ (ib (0, false)) (congrArg ib (by rw [atF, g1, g2, g3, ha]; rfl))
    | some j =>
      have hj := (atFrom_spec ha).1
      rw [ha, Option.getD_some] at hr1
      refine r_lssF m.sX (by omega) ?_
      conv => cbv
      conv => cbv
      refine r_callF (PV.int .i64) m.sX (inAt_ok l line side (okFrom_mem hok)) fun r2 hr2 => ?_
      conv => cbv
      rw [ha, Option.getD_some] at hr2
      exact hQ (ib (r2, true)) (congrArg ib (by rw [atF, g1, g2, g3, ha, hr2]; rfl))

theorem pSameCutIns_ok (l : List CutIn) : OkA Try.prog 48 [.isl 4 (rows cCutIn l), .isl 4 (rows cCutIn l)] (· = .bool true) :=
  fn_intro envOk fieldsOk mixed Try.func48 rfl fun κ X Y L Q m hQ => by
    conv => cbv
    refine r_lenR m.sX fun n1 hn1 mn1 => ?_
    conv => cbv
    refine r_lenR m.sX fun n2 hn2 mn2 => ?_
    conv => cbv
    refine r_neqF m.sX (by omega) ?_
    conv => cbv
    conv => cbv
    refine r_lenR m.sX fun n3 hn3 mn3 => ?_
    conv => cbv
    refine r_loop (α := Int) m 26 [0, 1, 12, 13] [] (fun a => [(0, .isl 4 (rows cCutIn l)), (1, .isl 4 (rows cCutIn l)), (12, .int .i64 n3), (13, .int .i64 a)]) (fun a => [])
      (fun a => 0 ≤ a ∧ a ≤ l.length) (fun a => l.length - a.toNat) 0 ?_ ?_ ?_ ?_
    · cbv
    · cbv
    · exact ⟨by omega, by omega⟩
    rintro i1 ⟨p1, p2⟩ E hE
    conv => cbv
    refine r_lss m.sX (fun h2 => ?_) (fun h2 => ?_) <;> conv => cbv
    · refine r_draw m (by kernel_rfl) ?_
      conv => cbv
      refine r_index m.sY (by omega) (by omega) fun v hu1 => ?_
      obtain ⟨u1, u2, u3, u4⟩ := v
      conv => cbv
      refine r_index m.sY (by omega) (by omega) fun v hv1 => ?_
      obtain ⟨v1, v2, v3, v4⟩ := v
      conv => cbv
      obtain ⟨rfl, rfl, rfl, rfl⟩ : u1 = v1 ∧ u2 = v2 ∧ u3 = v3 ∧ u4 = v4 := by
        have := Option.some.inj (hu1.symm.trans hv1)
        simpa using this
      refine r_aeq_same [.int .i64 0, .int .i64 0, .int .i64 0, .int .i64 0] m.sY (by kernel_rfl) rfl ?_
      conv => cbv
      refine r_addf m.sX (by omega) (by omega) fun r1 hr1 => ?_
      conv => cbv
      refine hE _ r1 ?_ ?_ ⟨by omega, by omega⟩ (by first | omega | (dsimp only; omega))
      · cbv
      · cbv
    · exact hQ _ rfl
end Go.Proofs.Ytnkikmdkkkhlcaa.Ai
