/- Contracts of the craft functions. -/
import Derived.Test.YtiaodmfipeoegaaHelp2
namespace Go.Proofs.Ytiaodmfipeoegaa.Ai
open Go Go.Proofs
set_option linter.unusedSimpArgs false
set_option maxRecDepth 10000
set_option maxHeartbeats 4000000
set_option linter.unusedVariables false

def inB (a b c : Int) : Bool := decide (b ≤ a) && decide (a ≤ c)
theorem inB_spec {a b c : Int} (h : inB a b c = true) : b ≤ a ∧ a ≤ c := by simpa [inB] using h

theorem within_ok (a b c : Int) : OkA Try.prog 87 [.int .i64 a, .int .i64 b, .int .i64 c] (· = .bool (inB a b c)) :=
  fn_intro envOk fieldsOk mixed Try.func87 rfl fun κ X Y L Q m hQ => by
    conv => cbv
    refine r_geq m.sX (fun h1 => ?_) (fun h1 => ?_) <;> conv => cbv
    · refine r_leq m.sX (fun h2 => ?_) (fun h2 => ?_) <;> conv => cbv
      · exact hQ _ (congrArg PV.bool (by simp [inB]; omega))
      · exact hQ _ (congrArg PV.bool (by simp [inB]; omega))
    · exact hQ _ (congrArg PV.bool (by simp [inB]; omega))

theorem l1In_ok (a b c : Int) : OkA Try.prog 88 [.int .i64 a, .int .i64 b, .int .i64 c] (· = .bool (inB a b c)) :=
  fn_intro envOk fieldsOk mixed Try.func88 rfl fun κ X Y L Q m hQ => by
    conv => cbv
    refine r_geq m.sX (fun h1 => ?_) (fun h1 => ?_) <;> conv => cbv
    · refine r_leq m.sX (fun h2 => ?_) (fun h2 => ?_) <;> conv => cbv
      · exact hQ _ (congrArg PV.bool (by simp [inB]; omega))
      · exact hQ _ (congrArg PV.bool (by simp [inB]; omega))
    · exact hQ _ (congrArg PV.bool (by simp [inB]; omega))

def rising (lo hi : Int) : Option Int → List Int → Bool
  | _, [] => true
  | p, x :: r => inB x lo hi && (match p with | none => true | some y => decide (y < x)) && rising lo hi (some x) r

theorem rising_cons (lo hi : Int) (p : Option Int) (x : Int) (r : List Int) : rising lo hi p (x :: r) = (inB x lo hi && (match p with | none => true | some y => decide (y < x)) && rising lo hi (some x) r) := by cases p <;> rfl

def prev (xs : List Int) (i : Int) : Option Int := if i = 0 then none else xs[(i - 1).toNat]?

theorem increases_ok (xs : List Int) (lo hi : Int) : OkA Try.prog 137 [.isl 1 (rows cInt xs), .int .i64 lo, .int .i64 hi] (· = .bool (rising lo hi none xs)) :=
  fn_intro envOk fieldsOk mixed Try.func137 rfl fun κ X Y L Q m hQ => by
    conv => cbv
    refine r_lenR m.sX fun n hn hm => ?_
    conv => cbv
    refine r_loop (α := Int) m 35 [0, 1, 2, 9, 10, 11] [] (fun a => [(0, .isl 1 (rows cInt xs)), (1, .int .i64 lo), (2, .int .i64 hi), (9, .isl 1 (rows cInt xs)), (10, .int .i64 n), (11, .int .i64 a)]) (fun a => [])
      (fun a => 0 ≤ a ∧ a ≤ xs.length ∧ rising lo hi none xs = rising lo hi (prev xs a) (xs.drop a.toNat)) (fun a => xs.length - a.toNat) 0 ?_ ?_ ?_ ?_
    · cbv
    · cbv
    · exact ⟨by omega, by omega, rfl⟩
    rintro i ⟨h1, h2, h3⟩ E hE
    conv => cbv
    refine r_lss m.sX (fun h4 => ?_) (fun h4 => ?_) <;> conv => cbv
    · refine r_index m.sX (by omega) (by omega) fun x hx => ?_
      conv => cbv
      rw [drop_cons hx] at h3
      have next : ∀ j, j = i + 1 → inB x lo hi = true → (match prev xs i with | none => true | some y => decide (y < x)) = true → rising lo hi none xs = rising lo hi (prev xs j) (xs.drop j.toNat) := fun j hj e1 e2 => by
        rw [h3, rising_cons, e1, e2, show j.toNat = i.toNat + 1 by omega, prev, if_neg (by omega), show (j - 1).toNat = i.toNat by omega, hx]
        rfl
      refine r_callB m.sX (within_ok x lo hi) (fun h5 => ?_) (fun h5 => ?_) <;> conv => cbv
      · refine r_gtr m.sX (fun h6 => ?_) (fun h6 => ?_) <;> conv => cbv
        · refine r_subf m.sX (by omega) (by omega) fun d hd => ?_
          conv => cbv
          refine r_index m.sX (by omega) (by omega) fun y hy => ?_
          conv => cbv
          have hp : prev xs i = some y := by rw [prev, if_neg (by omega), ← hd, hy]
          refine r_geq m.sX (fun h7 => ?_) (fun h7 => ?_) <;> conv => cbv
          · exact hQ _ (congrArg PV.bool (by rw [h3, rising_cons, h5, hp]; dsimp only; rw [show decide (y < x) = false from decide_eq_false (by omega)]; rfl))
          · refine r_addf m.sX (by omega) (by omega) fun j hj => ?_
            conv => cbv
            refine hE _ j ?_ ?_ ⟨by omega, by omega, next j hj h5 (by rw [hp]; exact decide_eq_true (by omega))⟩ (by omega)
            · cbv
            · cbv
        · refine r_addf m.sX (by omega) (by omega) fun j hj => ?_
          conv => cbv
          refine hE _ j ?_ ?_ ⟨by omega, by omega, next j hj h5 (by rw [prev, if_pos (by omega)])⟩ (by omega)
          · cbv
          · cbv
      · exact hQ _ (congrArg PV.bool (by rw [h3, rising_cons, h5]; rfl))
    · exact hQ _ (congrArg PV.bool (by rw [h3, show i.toNat = xs.length by omega, List.drop_length]; rfl))

theorem l1Rising_ok (xs : List Int) (lo hi : Int) : OkA Try.prog 139 [.isl 1 (rows cInt xs), .int .i64 lo, .int .i64 hi] (· = .bool (rising lo hi none xs)) :=
  fn_intro envOk fieldsOk mixed Try.func139 rfl fun κ X Y L Q m hQ => by
    conv => cbv
    refine r_lenR m.sX fun n hn hm => ?_
    conv => cbv
    refine r_loop (α := Int) m 35 [0, 1, 2, 9, 10, 11] [] (fun a => [(0, .isl 1 (rows cInt xs)), (1, .int .i64 lo), (2, .int .i64 hi), (9, .isl 1 (rows cInt xs)), (10, .int .i64 n), (11, .int .i64 a)]) (fun a => [])
      (fun a => 0 ≤ a ∧ a ≤ xs.length ∧ rising lo hi none xs = rising lo hi (prev xs a) (xs.drop a.toNat)) (fun a => xs.length - a.toNat) 0 ?_ ?_ ?_ ?_
    · cbv
    · cbv
    · exact ⟨by omega, by omega, rfl⟩
    rintro i ⟨h1, h2, h3⟩ E hE
    conv => cbv
    refine r_lss m.sX (fun h4 => ?_) (fun h4 => ?_) <;> conv => cbv
    · refine r_index m.sX (by omega) (by omega) fun x hx => ?_
      conv => cbv
      rw [drop_cons hx] at h3
      have next : ∀ j, j = i + 1 → inB x lo hi = true → (match prev xs i with | none => true | some y => decide (y < x)) = true → rising lo hi none xs = rising lo hi (prev xs j) (xs.drop j.toNat) := fun j hj e1 e2 => by
        rw [h3, rising_cons, e1, e2, show j.toNat = i.toNat + 1 by omega, prev, if_neg (by omega), show (j - 1).toNat = i.toNat by omega, hx]
        rfl
      refine r_callB m.sX (l1In_ok x lo hi) (fun h5 => ?_) (fun h5 => ?_) <;> conv => cbv
      · refine r_gtr m.sX (fun h6 => ?_) (fun h6 => ?_) <;> conv => cbv
        · refine r_subf m.sX (by omega) (by omega) fun d hd => ?_
          conv => cbv
          refine r_index m.sX (by omega) (by omega) fun y hy => ?_
          conv => cbv
          have hp : prev xs i = some y := by rw [prev, if_neg (by omega), ← hd, hy]
          refine r_geq m.sX (fun h7 => ?_) (fun h7 => ?_) <;> conv => cbv
          · exact hQ _ (congrArg PV.bool (by rw [h3, rising_cons, h5, hp]; dsimp only; rw [show decide (y < x) = false from decide_eq_false (by omega)]; rfl))
          · refine r_addf m.sX (by omega) (by omega) fun j hj => ?_
            conv => cbv
            refine hE _ j ?_ ?_ ⟨by omega, by omega, next j hj h5 (by rw [hp]; exact decide_eq_true (by omega))⟩ (by omega)
            · cbv
            · cbv
        · refine r_addf m.sX (by omega) (by omega) fun j hj => ?_
          conv => cbv
          refine hE _ j ?_ ?_ ⟨by omega, by omega, next j hj h5 (by rw [prev, if_pos (by omega)])⟩ (by omega)
          · cbv
          · cbv
      · exact hQ _ (congrArg PV.bool (by rw [h3, rising_cons, h5]; rfl))
    · exact hQ _ (congrArg PV.bool (by rw [h3, show i.toNat = xs.length by omega, List.drop_length]; rfl))

def goodFrom : Int → List Craft → Bool
  | _, [] => true
  | i, c :: r => rising 0 (i - 1) none c.1 && inB c.2 1 60 && goodFrom (i + 1) r
def good (cs : List Craft) : Bool := goodFrom 0 cs && decide ((cs.length : Int) ≤ 10)

end Go.Proofs.Ytiaodmfipeoegaa.Ai
