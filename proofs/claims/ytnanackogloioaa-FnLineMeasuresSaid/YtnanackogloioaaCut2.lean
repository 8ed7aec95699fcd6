/- Contracts of the functions on cut-ins, continued. -/
import Derived.Test.YtnanackogloioaaCut
namespace Go.Proofs.Ytnanackogloioaa.Ai
open Go Go.Proofs
set_option maxRecDepth 10000
set_option maxHeartbeats 4000000
set_option linter.unusedVariables false

theorem lb_nil {α : Type} (e n : Nat) (f : α → List PV) (b : Bool) : lb e n f ([], b) = .tup [.fr e n [], .bool b] := by simp only [lb, rows_nil]
theorem lbI_nil {α : Type} (n : Nat) (f : α → List PV) (b : Bool) : lbI n f ([], b) = .tup [.isl n [], .bool b] := by simp only [lbI, rows_nil]
theorem flat_cCutIn : ∀ x, ∀ c ∈ cCutIn x, flat c := fun x c hc => by
  simp only [cCutIn, List.mem_cons, List.not_mem_nil, or_false] at hc
  rcases hc with rfl | rfl | rfl | rfl <;> trivial

theorem inWith_ok (l : List CutIn) (x : CutIn) (hl : l.length ≤ 900) : OkA Try.prog 226 [.isl 4 (rows cCutIn l), .agg (cCutIn x)] (· = .fr 167 4 (rows cCutIn (l ++ [x]))) := by
  obtain ⟨x1, x2, x3, x4⟩ := x
  exact fn_intro envOk fieldsOk mixed Try.func226 rfl fun κ X Y L Q m hQ => by
    conv => cbv
    refine r_draw m (by kernel_rfl) ?_
    conv => cbv
    refine r_append0R m.sY (by first | omega | (dsimp only; omega)) (by first | omega | (dsimp only; omega)) fun zs1 hzs1 => ?_
    conv => cbv
    subst hzs1
    refine r_append1 ((x1, x2, x3, x4)) m.sY rfl (by first | omega | (dsimp only; omega)) (by first | omega | (dsimp only; omega)) fun zs2 hzs2 => ?_
    conv => cbv
    exact hQ _ (congrArg (fun l => PV.fr 167 4 (rows cCutIn l)) hzs2)

theorem moveL_at {l : List CutIn} {i b : Int} {u1 u2 u3 u4 : Int} (h : l[i.toNat]? = some (u1, u2, u3, u4)) {r : Int} (hr : r = u1 + b) : moveL l i b = l.set i.toNat (r, u2, u3, u4) := by
  rw [moveL, h, hr]; rfl

theorem isLineNumber_ok (n : Int) : OkA Try.prog 178 [.int .i64 n] (· = .bool (inB n 0 300)) :=
  fn_intro envOk fieldsOk mixed Try.func178 rfl fun κ X Y L Q m hQ => by
    conv => cbv
    refine r_callB m.sX (within_ok n 0 300) (fun g1 => ?_) (fun g1 => ?_) <;> conv => cbv
    · exact hQ _ (congrArg PV.bool (g1.symm))
    · exact hQ _ (congrArg PV.bool (g1.symm))

theorem inNumber_ok (n : Int) : OkA Try.prog 175 [.int .i64 n] (· = .bool (inB n 0 300)) :=
  fn_intro envOk fieldsOk mixed Try.func175 rfl fun κ X Y L Q m hQ => by
    conv => cbv
    refine r_callB m.sX (l1In_ok n 0 300) (fun g1 => ?_) (fun g1 => ?_) <;> conv => cbv
    · exact hQ _ (congrArg PV.bool (g1.symm))
    · exact hQ _ (congrArg PV.bool (g1.symm))

theorem atFrom_cons (line side i : Int) (x : CutIn) (r : List CutIn) : atFrom line side i (x :: r) = if decide (x.2.2.2 = side) && beside x line then some i else atFrom line side (i + 1) r := rfl

theorem inAt_ok (l : List CutIn) (line side : Int) (hok : ∀ x ∈ l, isCut x = true) : OkA Try.prog 181 [.isl 4 (rows cCutIn l), .int .i64 line, .int .i64 side] (· = .int .i64 ((atFrom line side 0 l).getD (-1))) :=
  fn_intro envOk fieldsOk mixed Try.func181 rfl fun κ X Y L Q m hQ => by
    conv => cbv
    refine r_lenR m.sX fun n1 hn1 mn1 => ?_
    conv => cbv
    refine r_loop (α := Int) m 27 [1, 2, 9, 10, 11] [] (fun a => [(1, .int .i64 line), (2, .int .i64 side), (9, .isl 4 (rows cCutIn l)), (10, .int .i64 n1), (11, .int .i64 a)]) (fun a => [])
      (fun a => 0 ≤ a ∧ a ≤ l.length ∧ atFrom line side 0 l = atFrom line side a (l.drop a.toNat)) (fun a => l.length - a.toNat) 0 ?_ ?_ ?_ ?_
    · cbv
    · cbv
    · exact ⟨by omega, by omega, rfl⟩
    rintro i1 ⟨p1, p2, p3⟩ E hE
    conv => cbv
    refine r_lss m.sX (fun g4 => ?_) (fun g4 => ?_) <;> conv => cbv
    · refine r_index m.sX (by omega) (by omega) fun v hu1 => ?_
      obtain ⟨u1, u2, u3, u4⟩ := v
      conv => cbv
      rw [drop_cons hu1, atFrom_cons] at p3
      have hx := hok _ (get_mem hu1)
      refine r_eql m.sX (fun g5 => ?_) (fun g5 => ?_) <;> conv => cbv
      · refine r_callB m.sX (inBeside_ok (u1, u2, u3, u4) line hx) (fun g6 => ?_) (fun g6 => ?_) <;> conv => cbv
        · exact hQ _ (congrArg (PV.int .i64) (by rw [p3, g6, decide_eq_true g5]; rfl))
        · rw [g6, Bool.and_false, if_neg (by simp)] at p3
          refine r_addf m.sX (by omega) (by omega) fun r1 hr1 => ?_
          conv => cbv
          refine hE _ r1 ?_ ?_ ⟨by omega, by omega, by rw [p3, hr1, show (i1 + 1).toNat = i1.toNat + 1 by omega]⟩ (by first | omega | (dsimp only; omega))
          · cbv
          · cbv
      · rw [decide_eq_false g5, Bool.false_and, if_neg (by simp)] at p3
        refine r_addf m.sX (by omega) (by omega) fun r2 hr2 => ?_
        conv => cbv
        refine hE _ r2 ?_ ?_ ⟨by omega, by omega, by rw [p3, hr2, show (i1 + 1).toNat = i1.toNat + 1 by omega]⟩ (by first | omega | (dsimp only; omega))
        · cbv
        · cbv
    · rw [List.drop_of_length_le (by omega)] at p3
      exact hQ _ (congrArg (PV.int .i64) (by rw [p3]; rfl))

end Go.Proofs.Ytnanackogloioaa.Ai
