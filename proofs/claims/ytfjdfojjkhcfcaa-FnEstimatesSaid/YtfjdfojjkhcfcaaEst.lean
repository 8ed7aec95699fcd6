/- Contracts of the functions behind FnEstimates. -/
import Derived.Test.YtfjdfojjkhcfcaaDrawT
namespace Go.Proofs.Ytfjdfojjkhcfcaa.Ai
open Go Go.Proofs
set_option maxRecDepth 10000
set_option maxHeartbeats 4000000
set_option linter.unusedVariables false

def ib (p : Int × Bool) : PV := .tup [.int .i64 p.1, .bool p.2]

def jobPriceOf (t : Tariff) (ens pg mi : Int) : Int × Bool := if goodT t && jobOk ens pg mi then (priceF t ens pg mi, true) else (0, false)
def settingOf (t : Tariff) (ens : Int) : Int × Bool := if goodT t && inB ens 0 3000000 then (settingF t.1 ens, true) else (0, false)
def linesOf (ens me : Int) : Int × Bool := if inB ens 0 3000000 && inB me 1 200 then (upF ens me, true) else (0, false)
def ensOf (a b c : Int) : Int × Bool := if allIn [a, b, c] 0 1000000 then (upF (18 * a) 20 + upF b 2 + upF (3 * c) 2, true) else (0, false)

theorem PriceOfJob_ok (a b c d ens pg mi : Int) : OkA Try.prog 15 [.agg (cTariff (a, b, c, d)), .int .i64 ens, .int .i64 pg, .int .i64 mi] (· = ib (jobPriceOf (a, b, c, d) ens pg mi)) :=
  fn_intro envOk fieldsOk mixed Try.func15 rfl fun κ X Y L Q m hQ => by
    conv => cbv
    refine r_callB m.sX (IsTariff_ok a b c d) (fun g1 => ?_) (fun g1 => ?_) <;> conv => cbv
    rotate_left
    · exact hQ (ib (0, false)) (congrArg ib (by rw [jobPriceOf, g1]; rfl))
    refine r_callB m.sX (isEns_ok ens) (fun g2 => ?_) (fun g2 => ?_) <;> conv => cbv
    rotate_left
    · exact hQ (ib (0, false)) (congrArg ib (by rw [jobPriceOf, jobOk, g2]; simp))
    refine r_callB m.sX (isJobSize_ok pg) (fun g3 => ?_) (fun g3 => ?_) <;> conv => cbv
    rotate_left
    · exact hQ (ib (0, false)) (congrArg ib (by rw [jobPriceOf, jobOk, g3]; simp))
    refine r_callB m.sX (isJobSize_ok mi) (fun g4 => ?_) (fun g4 => ?_) <;> conv => cbv
    rotate_left
    · exact hQ (ib (0, false)) (congrArg ib (by rw [jobPriceOf, jobOk, g4]; simp))
    refine r_callF (PV.int .i64) m.sX (jobPrice_ok a b c d ens pg mi g1 (inB_spec g2) (inB_spec g3) (inB_spec g4)) fun p hp => ?_
    conv => cbv
    exact hQ (ib (p, true)) (congrArg ib (by rw [jobPriceOf, jobOk, g1, g2, g3, g4, hp]; rfl))

theorem specPriceOfJob_ok (a b c d ens pg mi : Int) : OkA Try.prog 16 [.agg (cTariff (a, b, c, d)), .int .i64 ens, .int .i64 pg, .int .i64 mi] (· = ib (jobPriceOf (a, b, c, d) ens pg mi)) :=
  fn_intro envOk fieldsOk mixed Try.func16 rfl fun κ X Y L Q m hQ => by
    conv => cbv
    refine r_callB m.sX (esTariff_ok a b c d) (fun g1 => ?_) (fun g1 => ?_) <;> conv => cbv
    rotate_left
    · exact hQ (ib (0, false)) (congrArg ib (by rw [jobPriceOf, g1]; rfl))
    refine r_callB m.sX (esJob_ok ens pg mi) (fun g2 => ?_) (fun g2 => ?_) <;> conv => cbv
    rotate_left
    · exact hQ (ib (0, false)) (congrArg ib (by rw [jobPriceOf, g2]; simp))
    have g2' := g2
    rw [jobOk, Bool.and_eq_true, Bool.and_eq_true] at g2'
    refine r_callF (PV.int .i64) m.sX (esPrice_ok a b c d ens pg mi g1 (inB_spec g2'.1.1) (inB_spec g2'.1.2) (inB_spec g2'.2)) fun p hp => ?_
    conv => cbv
    exact hQ (ib (p, true)) (congrArg ib (by rw [jobPriceOf, g1, g2, hp]; rfl))

theorem PriceOfSetting_ok (a b c d ens : Int) : OkA Try.prog 17 [.agg (cTariff (a, b, c, d)), .int .i64 ens] (· = ib (settingOf (a, b, c, d) ens)) :=
  fn_intro envOk fieldsOk mixed Try.func17 rfl fun κ X Y L Q m hQ => by
    conv => cbv
    refine r_callB m.sX (IsTariff_ok a b c d) (fun g1 => ?_) (fun g1 => ?_) <;> conv => cbv
    rotate_left
    · exact hQ (ib (0, false)) (congrArg ib (by rw [settingOf, g1]; rfl))
    refine r_callB m.sX (isEns_ok ens) (fun g2 => ?_) (fun g2 => ?_) <;> conv => cbv
    rotate_left
    · exact hQ (ib (0, false)) (congrArg ib (by rw [settingOf, g2]; simp))
    refine r_callF (PV.int .i64) m.sX (settingPrice_ok a b c d ens (goodT_spec g1).1 (inB_spec g2)) fun p hp => ?_
    conv => cbv
    exact hQ (ib (p, true)) (congrArg ib (by rw [settingOf, g1, g2, hp]; rfl))

theorem specPriceOfSetting_ok (a b c d ens : Int) : OkA Try.prog 18 [.agg (cTariff (a, b, c, d)), .int .i64 ens] (· = ib (settingOf (a, b, c, d) ens)) :=
  fn_intro envOk fieldsOk mixed Try.func18 rfl fun κ X Y L Q m hQ => by
    conv => cbv
    refine r_callB m.sX (esTariff_ok a b c d) (fun g1 => ?_) (fun g1 => ?_) <;> conv => cbv
    rotate_left
    · exact hQ (ib (0, false)) (congrArg ib (by rw [settingOf, g1]; rfl))
    refine r_callB m.sX (esEns_ok ens) (fun g2 => ?_) (fun g2 => ?_) <;> conv => cbv
    rotate_left
    · exact hQ (ib (0, false)) (congrArg ib (by rw [settingOf, g2]; simp))
    refine r_callF (PV.int .i64) m.sX (esSetting_ok a b c d ens (goodT_spec g1).1 (inB_spec g2)) fun p hp => ?_
    conv => cbv
    exact hQ (ib (p, true)) (congrArg ib (by rw [settingOf, g1, g2, hp]; rfl))

theorem LinesForEns_ok (ens me : Int) : OkA Try.prog 24 [.int .i64 ens, .int .i64 me] (· = ib (linesOf ens me)) :=
  fn_intro envOk fieldsOk mixed Try.func24 rfl fun κ X Y L Q m hQ => by
    conv => cbv
    refine r_callB m.sX (isEns_ok ens) (fun g1 => ?_) (fun g1 => ?_) <;> conv => cbv
    rotate_left
    · exact hQ (ib (0, false)) (congrArg ib (by rw [linesOf, g1]; rfl))
    refine r_callB m.sX (within_ok me 1 200) (fun g2 => ?_) (fun g2 => ?_) <;> conv => cbv
    rotate_left
    · exact hQ (ib (0, false)) (congrArg ib (by rw [linesOf, g2]; simp))
    have b1 := inB_spec g1
    have b2 := inB_spec g2
    refine r_callF (PV.int .i64) m.sX (up_ok ens me b1.1 (by omega) (by omega)) fun p hp => ?_
    conv => cbv
    exact hQ (ib (p, true)) (congrArg ib (by rw [linesOf, g1, g2, hp]; rfl))

theorem specLinesForEns_ok (ens me : Int) : OkA Try.prog 25 [.int .i64 ens, .int .i64 me] (· = ib (linesOf ens me)) :=
  fn_intro envOk fieldsOk mixed Try.func25 rfl fun κ X Y L Q m hQ => by
    conv => cbv
    refine r_callB m.sX (esEns_ok ens) (fun g1 => ?_) (fun g1 => ?_) <;> conv => cbv
    rotate_left
    · exact hQ (ib (0, false)) (congrArg ib (by rw [linesOf, g1]; rfl))
    refine r_callB m.sX (l1In_ok me 1 200) (fun g2 => ?_) (fun g2 => ?_) <;> conv => cbv
    rotate_left
    · exact hQ (ib (0, false)) (congrArg ib (by rw [linesOf, g2]; simp))
    have b1 := inB_spec g1
    have b2 := inB_spec g2
    refine r_callF (PV.int .i64) m.sX (esUp_ok ens me b1.1 (by omega) (by omega)) fun p hp => ?_
    conv => cbv
    exact hQ (ib (p, true)) (congrArg ib (by rw [linesOf, g1, g2, hp]; rfl))

theorem isCopyCount_ok (n : Int) : OkA Try.prog 95 [.int .i64 n] (· = .bool (inB n 0 1000000)) :=
  fn_intro envOk fieldsOk mixed Try.func95 rfl fun κ X Y L Q m hQ => by
    conv => cbv
    refine r_callF PV.bool m.sX (within_ok n 0 1000000) fun b hb => ?_
    conv => cbv
    exact hQ _ (congrArg PV.bool hb)

theorem EnsOf_ok (a b c : Int) : OkA Try.prog 27 [.int .i64 a, .int .i64 b, .int .i64 c] (· = ib (ensOf a b c)) :=
  fn_intro envOk fieldsOk mixed Try.func27 rfl fun κ X Y L Q m hQ => by
    have e : allIn [a, b, c] 0 1000000 = (inB a 0 1000000 && (inB b 0 1000000 && (inB c 0 1000000 && true))) := rfl
    conv => cbv
    refine r_callB m.sX (isCopyCount_ok a) (fun g1 => ?_) (fun g1 => ?_) <;> conv => cbv
    rotate_left
    · exact hQ (ib (0, false)) (congrArg ib (by rw [ensOf, e, g1]; rfl))
    refine r_callB m.sX (isCopyCount_ok b) (fun g2 => ?_) (fun g2 => ?_) <;> conv => cbv
    rotate_left
    · exact hQ (ib (0, false)) (congrArg ib (by rw [ensOf, e, g2]; simp))
    refine r_callB m.sX (isCopyCount_ok c) (fun g3 => ?_) (fun g3 => ?_) <;> conv => cbv
    rotate_left
    · exact hQ (ib (0, false)) (congrArg ib (by rw [ensOf, e, g3]; simp))
    have b1 := inB_spec g1
    have b2 := inB_spec g2
    have b3 := inB_spec g3
    have u1 := upF_bound (n := 18 * a) (d := 20) (by omega) (by omega)
    have u2 := upF_bound (n := b) (d := 2) (by omega) (by omega)
    have u3 := upF_bound (n := 3 * c) (d := 2) (by omega) (by omega)
    refine r_mulf m.sX (by omega) (by omega) fun p1 hp1 => ?_
    conv => cbv
    refine r_callF (PV.int .i64) m.sX (up_ok p1 20 (by omega) (by omega) (by omega)) fun q1 hq1 => ?_
    conv => cbv
    refine r_callF (PV.int .i64) m.sX (up_ok b 2 (by omega) (by omega) (by omega)) fun q2 hq2 => ?_
    conv => cbv
    rw [← hp1, ← hq1] at u1
    rw [← hq2] at u2
    refine r_addf m.sX (by omega) (by omega) fun s1 hs1 => ?_
    conv => cbv
    refine r_mulf m.sX (by omega) (by omega) fun p3 hp3 => ?_
    conv => cbv
    refine r_callF (PV.int .i64) m.sX (up_ok p3 2 (by omega) (by omega) (by omega)) fun q3 hq3 => ?_
    conv => cbv
    rw [← hp3, ← hq3] at u3
    refine r_addf m.sX (by omega) (by omega) fun s2 hs2 => ?_
    conv => cbv
    exact hQ (ib (s2, true)) (congrArg ib (by rw [ensOf, e, g1, g2, g3, hs2, hs1, hq1, hq2, hq3, hp1, hp3]; rfl))

theorem specEnsOf_ok (a b c : Int) : OkA Try.prog 28 [.int .i64 a, .int .i64 b, .int .i64 c] (· = ib (ensOf a b c)) :=
  fn_intro envOk fieldsOk mixed Try.func28 rfl fun κ X Y L Q m hQ => by
    have e : allIn [a, b, c] 0 1000000 = (inB a 0 1000000 && (inB b 0 1000000 && (inB c 0 1000000 && true))) := rfl
    have hc := l1All_ok [a, b, c] 0 1000000
    rw [rows_eq] at hc
    conv => cbv
    refine .inl (r_callBO m.sX (hc.ok (fun r h => (by subst h; trivial))) (fun g => ?_) (fun g => ?_)) <;> conv => cbv
    rotate_left
    · exact hQ (ib (0, false)) (congrArg ib (by rw [ensOf, g]; rfl))
    have g' := g
    rw [e, Bool.and_eq_true, Bool.and_eq_true, Bool.and_eq_true] at g'
    have b1 := inB_spec g'.1
    have b2 := inB_spec g'.2.1
    have b3 := inB_spec g'.2.2.1
    have u1 := upF_bound (n := 18 * a) (d := 20) (by omega) (by omega)
    have u2 := upF_bound (n := b) (d := 2) (by omega) (by omega)
    have u3 := upF_bound (n := 3 * c) (d := 2) (by omega) (by omega)
    refine r_mulf m.sX (by omega) (by omega) fun p1 hp1 => ?_
    conv => cbv
    refine r_callF (PV.int .i64) m.sX (esUp_ok p1 20 (by omega) (by omega) (by omega)) fun q1 hq1 => ?_
    conv => cbv
    refine r_callF (PV.int .i64) m.sX (esUp_ok b 2 (by omega) (by omega) (by omega)) fun q2 hq2 => ?_
    conv => cbv
    rw [← hp1, ← hq1] at u1
    rw [← hq2] at u2
    refine r_addf m.sX (by omega) (by omega) fun s1 hs1 => ?_
    conv => cbv
    refine r_mulf m.sX (by omega) (by omega) fun p3 hp3 => ?_
    conv => cbv
    refine r_callF (PV.int .i64) m.sX (esUp_ok p3 2 (by omega) (by omega) (by omega)) fun q3 hq3 => ?_
    conv => cbv
    rw [← hp3, ← hq3] at u3
    refine r_addf m.sX (by omega) (by omega) fun s2 hs2 => ?_
    conv => cbv
    exact hQ (ib (s2, true)) (congrArg ib (by rw [ensOf, g, hs2, hs1, hq1, hq2, hq3, hp1, hp3]; rfl))

/-! ### The greatest number of ens for a price -/
def EnsFor (th price low : Int) : Prop := 0 ≤ low ∧ low ≤ 3000000 ∧ settingF th low ≤ price ∧ (low < 3000000 → price < settingF th (low + 1))

theorem settingF_mono {th x y : Int} (h : 0 ≤ th) (hxy : x ≤ y) : settingF th x ≤ settingF th y := by
  unfold settingF upF
  have := Int.mul_le_mul_of_nonneg_right hxy h
  exact Int.ediv_le_ediv (by omega) (by omega)

theorem EnsFor.unique {th price x y : Int} (h : 0 ≤ th) (hx : EnsFor th price x) (hy : EnsFor th price y) : x = y := by
  obtain ⟨x1, x2, x3, x4⟩ := hx
  obtain ⟨y1, y2, y3, y4⟩ := hy
  rcases Int.lt_trichotomy x y with hlt | he | hlt
  · have := settingF_mono h (show x + 1 ≤ y by omega)
    have := x4 (by omega)
    omega
  · exact he
  · have := settingF_mono h (show y + 1 ≤ x by omega)
    have := y4 (by omega)
    omega

def ensForR (t : Tariff) (price : Int) (r : PV) : Prop := ∃ low ok, r = .tup [.int .i64 low, .bool ok] ∧ ok = (goodT t && inB price 0 1000000000) ∧ (ok = true → EnsFor t.1 price low) ∧ (ok = false → low = 0)

theorem EnsForPrice_ok (ta b c d price : Int) : OkA Try.prog 21 [.agg (cTariff (ta, b, c, d)), .int .i64 price] (ensForR (ta, b, c, d) price) :=
  fn_intro envOk fieldsOk mixed Try.func21 rfl fun κ X Y L Q m hQ => by
    conv => cbv
    refine r_callB m.sX (IsTariff_ok ta b c d) (fun g1 => ?_) (fun g1 => ?_) <;> conv => cbv
    rotate_left
    · exact hQ (.tup [.int .i64 0, .bool false]) ⟨0, false, rfl, by rw [g1]; rfl, by simp, by simp⟩
    refine r_callB m.sX (within_ok price 0 1000000000) (fun g2 => ?_) (fun g2 => ?_) <;> conv => cbv
    rotate_left
    · exact hQ (.tup [.int .i64 0, .bool false]) ⟨0, false, rfl, by rw [g2]; simp, by simp, by simp⟩
    have ha := (goodT_spec g1).1
    have hp := inB_spec g2
    refine r_loop (α := Int × Int) m 34 [1, 6, 7] [⟨2, 17, 0, 0⟩] (fun a => [(1, .int .i64 price), (6, .int .i64 a.1), (7, .int .i64 a.2), (2, .optr 17 0 4 0 0)]) (fun a => [(17, 0, .box [.int .i64 ta, .int .i64 b, .int .i64 c, .int .i64 d])])
      (fun a => 0 ≤ a.1 ∧ a.1 ≤ a.2 ∧ a.2 ≤ 3000000 ∧ settingF ta a.1 ≤ price ∧ (a.2 < 3000000 → price < settingF ta (a.2 + 1))) (fun a => (a.2 - a.1).toNat) (0, 3000000) ?_ ?_ ?_ ?_
    · cbv
    · cbv
    · refine ⟨by dsimp only; omega, by dsimp only; omega, by dsimp only; omega, ?_, by dsimp only; omega⟩
      have : settingF ta 0 = 0 := by simp [settingF, upF]
      dsimp only
      omega
    rintro ⟨lo, hi⟩ ⟨h1, h2, h3, h4, h5⟩ E hE
    dsimp only at h1 h2 h3 h4 h5
    conv => cbv
    refine r_lss m.sX (fun g3 => ?_) (fun g3 => ?_) <;> conv => cbv
    · refine r_addf m.sX (by omega) (by omega) fun s1 hs1 => ?_
      conv => cbv
      refine r_addf m.sX (by omega) (by omega) fun s2 hs2 => ?_
      conv => cbv
      refine r_divf m.sX (by omega) (by omega) fun q hq bq => ?_
      conv => cbv
      refine r_callF (PV.int .i64) m.sX (settingPrice_ok ta b c d q ha ⟨by omega, by omega⟩) fun v hv => ?_
      conv => cbv
      refine r_leq m.sX (fun g4 => ?_) (fun g4 => ?_) <;> conv => cbv
      · refine hE _ (q, hi) ?_ ?_ ⟨by dsimp only; omega, by dsimp only; omega, by dsimp only; omega, by dsimp only; omega, h5⟩ (by first | omega | (dsimp only; omega))
        · cbv
        · cbv
      · refine r_subf m.sX (by omega) (by omega) fun r hr => ?_
        conv => cbv
        refine hE _ (lo, r) ?_ ?_ ⟨by dsimp only; omega, by dsimp only; omega, by dsimp only; omega, h4, fun _ => by dsimp only; rw [show r + 1 = q by omega]; omega⟩ (by first | omega | (dsimp only; omega))
        · cbv
        · cbv
    · obtain rfl : lo = hi := by omega
      exact hQ (.tup [.int .i64 lo, .bool true]) ⟨lo, true, rfl, by rw [g1, g2]; rfl, fun _ => ⟨by omega, by omega, h4, h5⟩, by simp⟩

theorem specEnsForPrice_ok (ta b c d price : Int) : OkA Try.prog 22 [.agg (cTariff (ta, b, c, d)), .int .i64 price] (ensForR (ta, b, c, d) price) :=
  fn_intro envOk fieldsOk mixed Try.func22 rfl fun κ X Y L Q m hQ => by
    conv => cbv
    refine r_callB m.sX (esTariff_ok ta b c d) (fun g1 => ?_) (fun g1 => ?_) <;> conv => cbv
    rotate_left
    · exact hQ (.tup [.int .i64 0, .bool false]) ⟨0, false, rfl, by rw [g1]; rfl, by simp, by simp⟩
    refine r_callB m.sX (l1In_ok price 0 1000000000) (fun g2 => ?_) (fun g2 => ?_) <;> conv => cbv
    rotate_left
    · exact hQ (.tup [.int .i64 0, .bool false]) ⟨0, false, rfl, by rw [g2]; simp, by simp, by simp⟩
    have ha := (goodT_spec g1).1
    have hp := inB_spec g2
    refine r_loop (α := Int × Int) m 34 [1, 6, 7] [⟨2, 17, 0, 0⟩] (fun a => [(1, .int .i64 price), (6, .int .i64 a.1), (7, .int .i64 a.2), (2, .optr 17 0 4 0 0)]) (fun a => [(17, 0, .box [.int .i64 ta, .int .i64 b, .int .i64 c, .int .i64 d])])
      (fun a => 0 ≤ a.1 ∧ a.1 ≤ a.2 ∧ a.2 ≤ 3000000 ∧ settingF ta a.1 ≤ price ∧ (a.2 < 3000000 → price < settingF ta (a.2 + 1))) (fun a => (a.2 - a.1).toNat) (0, 3000000) ?_ ?_ ?_ ?_
    · cbv
    · cbv
    · refine ⟨by dsimp only; omega, by dsimp only; omega, by dsimp only; omega, ?_, by dsimp only; omega⟩
      have : settingF ta 0 = 0 := by simp [settingF, upF]
      dsimp only
      omega
    rintro ⟨lo, hi⟩ ⟨h1, h2, h3, h4, h5⟩ E hE
    dsimp only at h1 h2 h3 h4 h5
    conv => cbv
    refine r_lss m.sX (fun g3 => ?_) (fun g3 => ?_) <;> conv => cbv
    · refine r_addf m.sX (by omega) (by omega) fun s1 hs1 => ?_
      conv => cbv
      refine r_addf m.sX (by omega) (by omega) fun s2 hs2 => ?_
      conv => cbv
      refine r_divf m.sX (by omega) (by omega) fun q hq bq => ?_
      conv => cbv
      refine r_callF (PV.int .i64) m.sX (esSetting_ok ta b c d q ha ⟨by omega, by omega⟩) fun v hv => ?_
      conv => cbv
      refine r_leq m.sX (fun g4 => ?_) (fun g4 => ?_) <;> conv => cbv
      · refine hE _ (q, hi) ?_ ?_ ⟨by dsimp only; omega, by dsimp only; omega, by dsimp only; omega, by dsimp only; omega, h5⟩ (by first | omega | (dsimp only; omega))
        · cbv
        · cbv
      · refine r_subf m.sX (by omega) (by omega) fun r hr => ?_
        conv => cbv
        refine hE _ (lo, r) ?_ ?_ ⟨by dsimp only; omega, by dsimp only; omega, by dsimp only; omega, h4, fun _ => by dsimp only; rw [show r + 1 = q by omega]; omega⟩ (by first | omega | (dsimp only; omega))
        · cbv
        · cbv
    · obtain rfl : lo = hi := by omega
      exact hQ (.tup [.int .i64 lo, .bool true]) ⟨lo, true, rfl, by rw [g1, g2]; rfl, fun _ => ⟨by omega, by omega, h4, h5⟩, by simp⟩
end Go.Proofs.Ytfjdfojjkhcfcaa.Ai
