/- Contracts of the functions on runs of lines: rows within rows. -/
import Derived.Test.YtnanackogloioaaLine
import Derived.Test.YtnanackogloioaaAiNest
namespace Go.Proofs.Ytnanackogloioaa.Ai
open Go Go.Proofs
set_option maxRecDepth 10000
set_option maxHeartbeats 4000000
set_option linter.unusedVariables false

noncomputable def cRun (x : List Int) : List PV := [.fr 3 1 (rows cInt x)]
theorem cool_runs (l : List (List Int)) : (rows cRun l).map (fun x => x.map coolC) = rows (cSl 1 cInt) l := cool_rows cRun l
theorem cRun_two (a b : Int) : [PV.fr 3 1 [[.int .i64 a], [.int .i64 b]]] = cRun [a, b] := by simp only [cRun, rows_cons, rows_nil, cInt]
theorem line_val {me n : Int} {l : List CutIn} {ms : List Int} (h : (ms, true) = lineAns me l n) : goodC me l = true ∧ inB n 0 300 = true ∧ ms = measL me l n := by
  unfold lineAns at h
  split at h
  case isFalse => simp at h
  rename_i ho
  rw [Bool.and_eq_true] at ho
  exact ⟨ho.1, ho.2, (Prod.mk.inj h).1⟩
theorem line_bad {me n : Int} {l : List CutIn} {ms : List Int} (h : (ms, false) = lineAns me l n) : runsAns me l n = ([], false) := by
  unfold lineAns at h
  split at h
  case isTrue => simp at h
  rename_i ho
  rw [runsAns, if_neg ho]
/-- The last run, one line longer; or a new run. -/
theorem runs_more {ms : List Int} {i : Nat} {m : Int} (hm : ms[i]? = some m) : runsF (ms.take (i + 1)) = addRun (runsF (ms.take i)) m := by
  rw [List.take_add_one, hm, Option.toList_some, runsF_snoc]
theorem runs_at {ms : List Int} {i : Nat} (h0 : 0 < i) (h1 : i ≤ ms.length) : ∃ rs c k, runsF (ms.take i) = rs ++ [[c, k]] ∧ ms[i - 1]? = some k ∧ 1 ≤ c ∧ c ≤ i := by
  have hl : (ms.take i).length = i := by rw [List.length_take]; omega
  obtain ⟨rs, c, k, e1, e2, e3, e4⟩ := runs_last i (ms.take i) hl (fun e => by rw [e] at hl; simp at hl; omega)
  refine ⟨rs, c, k, e1, ?_, e3, e4⟩
  rw [List.getLast?_eq_getElem?, hl, List.getElem?_take, if_pos (by omega)] at e2
  exact e2

theorem RunsOf_ok (measure : Int) (l : List CutIn) (n : Int) (hm : -1000000 ≤ measure ∧ measure ≤ 1000000) (hl : l.length ≤ 900) : OkA Try.prog 68 [.int .i64 measure, .isl 4 (rows cCutIn l), .int .i64 n] (· = lbI 1 (cSl 1 cInt) (runsAns measure l n)) :=
  fn_intro (nestIn_ok 90 envOk) (nestIn_fields 90 fieldsOk) mixed Try.func68 rfl fun κ X Y L Q m hQ => by
    conv => cbv
    refine r_callF (lbI 1 cInt) m.sX ((LineMeasures_ok measure l n hm hl).ice) fun v hmeasures => ?_
    obtain ⟨measures, ok⟩ := v
    conv => cbv
    rcases Bool.eq_false_or_eq_true ok with rfl | rfl <;> conv => cbv
    · obtain ⟨g1, g2, g3⟩ := line_val hmeasures
      have nb := inB_spec g2
      have ml := measL_len (me := measure) (l := l) nb.1
      rw [← g3] at ml
      refine r_lenR m.sX fun n1 hn1 mn1 => ?_
      conv => cbv
      refine r_loop (α := List (List Int) × Int) m 59 [8, 24, 25, 26] [⟨10, 81, 1000024, 1, 0⟩] (fun a => [(8, .isl 1 (rows cInt measures)), (10, .osl 81 0), (24, .isl 1 (rows cInt measures)), (25, .int .i64 n1), (26, .int .i64 a.2)]) (fun a => [(81, 0, .tree 24 1 (rows cRun a.1))])
        (fun a => 0 ≤ a.2 ∧ a.2 ≤ n1 ∧ a.1 = runsF (measures.take a.2.toNat) ∧ (a.1.length : Int) ≤ a.2) (fun a => measures.length - a.2.toNat) ([], 0) ?_ ?_ ?_ ?_
      · cbv
      · (try dsimp only); simp only [rows_nil]; cbv
      · exact ⟨by dsimp only; omega, by dsimp only; omega, rfl, by simp⟩
      rintro ⟨runs, i⟩ ⟨p1, p2, p3, p4⟩ E hE
      dsimp only at p1 p2 p3 p4
      conv => cbv
      refine r_lss m.sX (fun h3 => ?_) (fun h3 => ?_) <;> conv => cbv
      · refine r_index m.sX (by omega) (by omega) fun m_ hm_ => ?_
        conv => cbv
        have hne : ∀ (zs : List (List Int)) (r : Int), r = i + 1 → zs = runs ++ [[1, m_]] → addRun (runsF (measures.take i.toNat)) m_ = runs ++ [[1, m_]] → zs = runsF (measures.take r.toNat) := fun zs r hr hz ha => by
          rw [show r.toNat = i.toNat + 1 by omega, runs_more hm_, ha, hz]
        refine r_gtr m.sX (fun h4 => ?_) (fun h4 => ?_) <;> conv => cbv
        · refine r_subf m.sX (by omega) (by omega) fun r1 hr1 => ?_
          conv => cbv
          refine r_index m.sX (by omega) (by omega) fun m0 hm0 => ?_
          conv => cbv
          obtain ⟨rs, c, k, e1, e2, e3, e4⟩ := runs_at (ms := measures) (i := i.toNat) (by omega) (by omega)
          rw [show i.toNat - 1 = Int.toNat r1 by omega] at e2
          obtain rfl := Option.some.inj (e2.symm.trans hm0)
          refine r_eql m.sX (fun h5 => ?_) (fun h5 => ?_) <;> conv => cbv
          · refine r_lenR m.sX fun n2 hn2 mn2 => ?_
            conv => cbv
            refine r_subf m.sX (by omega) (by omega) fun r2 hr2 => ?_
            conv => cbv
            have hrl : runs.length = rs.length + 1 := by rw [p3, e1]; simp
            have hr2n : Int.toNat r2 = rs.length := by omega
            have hx : runs[Int.toNat r2]? = some [c, k] := by rw [p3, e1, hr2n]; simp
            refine r_oindex m.sX (by omega) (by omega) ?_
            conv => cbv
            refine r_oload m.sX hx (Nat.le_of_ble_eq_true rfl) ?_
            conv => cbv
            refine r_oload m.sX hx (Nat.le_of_ble_eq_true rfl) ?_
            conv => cbv
            refine r_oindex m.sX (by omega) (by simp) ?_
            conv => cbv
            refine r_oload m.sX hx (Nat.le_of_ble_eq_true rfl) ?_
            conv => cbv
            refine r_oload (x := c) m.sX rfl (Nat.le_of_ble_eq_true rfl) ?_
            conv => cbv
            refine r_addf m.sX (by omega) (by omega) fun r3 hr3 => ?_
            conv => cbv
            refine r_oload m.sX hx (Nat.le_of_ble_eq_true rfl) ?_
            conv => cbv
            refine r_oindex m.sX (by omega) (by simp) ?_
            conv => cbv
            refine r_oload m.sX hx (Nat.le_of_ble_eq_true rfl) ?_
            conv => cbv
            refine r_ostore (x := c) (l := 0) r3 m.sX rfl (Nat.le_of_ble_eq_true rfl) rfl fun z1 hz1 => ?_
            conv => cbv
            refine r_ostore (l := Int.toNat r2) z1 m.sX hx (Nat.le_of_ble_eq_true rfl) rfl fun runs2 hruns2 => ?_
            conv => cbv
            refine r_addf m.sX (by omega) (by omega) fun r4 hr4 => ?_
            conv => cbv
            have hz : z1 = [c + 1, k] := by rw [hz1, hr3]; rfl
            have hl2 : runs2.length = runs.length := by rw [hruns2]; simp
            refine hE _ (runs2, r4) ?_ ?_ ⟨by dsimp only; omega, by dsimp only; omega, by dsimp only; rw [show r4.toNat = i.toNat + 1 by omega, runs_more hm_, e1, addRun_last, if_pos h5, hruns2, p3, e1, hr2n, hz]; simp, by dsimp only; omega⟩ (by first | omega | (dsimp only; omega))
            · cbv
            · cbv
          · refine r_append1 ([1, m_]) m.sX (cRun_two 1 m_) (by dsimp only; omega) (by omega) fun runs2 hruns2 => ?_
            conv => cbv
            refine r_addf m.sX (by omega) (by omega) fun r5 hr5 => ?_
            conv => cbv
            have hl2 : runs2.length = runs.length + 1 := by rw [hruns2]; simp
            refine hE _ (runs2, r5) ?_ ?_ ⟨by dsimp only; omega, by dsimp only; omega, hne _ _ (by omega) hruns2 (by rw [e1, addRun_last, if_neg h5, p3, e1]), by dsimp only; omega⟩ (by first | omega | (dsimp only; omega))
            · cbv
            · cbv
        · refine r_append1 ([1, m_]) m.sX (cRun_two 1 m_) (by dsimp only; omega) (by omega) fun runs2 hruns2 => ?_
          conv => cbv
          refine r_addf m.sX (by omega) (by omega) fun r6 hr6 => ?_
          conv => cbv
          have hl2 : runs2.length = runs.length + 1 := by rw [hruns2]; simp
          have hi0 : i.toNat = 0 := by omega
          refine hE _ (runs2, r6) ?_ ?_ ⟨by dsimp only; omega, by dsimp only; omega, hne _ _ (by omega) hruns2 (by rw [p3, hi0]; rfl), by dsimp only; omega⟩ (by first | omega | (dsimp only; omega))
          · cbv
          · cbv
      · refine hQ _ ?_
        have e : PV.tup [.isl 1 (rows (cSl 1 cInt) runs), .bool true] = lbI 1 (cSl 1 cInt) (runsAns measure l n) := by
          rw [runsAns, g1, g2, p3, List.take_of_length_le (by omega), g3]; rfl
        obtain ⟨z, hz⟩ : ∃ z, rows cRun runs = z := ⟨_, rfl⟩
        have hz2 := hz
        conv at hz2 => lhs; cbv
        rw [← e, ← cool_runs, hz, hz2]
        cases z <;> rfl
    · refine hQ _ ?_
      rw [line_bad hmeasures, lbI_nil]; rfl

theorem specRunsOf_ok (measure : Int) (l : List CutIn) (n : Int) (hm : -1000000 ≤ measure ∧ measure ≤ 1000000) (hl : l.length ≤ 900) : OkA Try.prog 69 [.int .i64 measure, .isl 4 (rows cCutIn l), .int .i64 n] (· = lbI 1 (cSl 1 cInt) (runsAns measure l n)) :=
  OkA.unnilI 1 (fn_intro (nestIn_ok 90 envOk) (nestIn_fields 90 fieldsOk) mixed Try.func69 rfl fun κ X Y L Q m hQ => by
    conv => cbv
    refine r_callB m.sX (inGood_ok measure l (by omega) (by omega) (by omega)) (fun g1 => ?_) (fun g1 => ?_) <;> conv => cbv
    · refine r_callB m.sX (inNumber_ok n) (fun g2 => ?_) (fun g2 => ?_) <;> conv => cbv
      · have nb := inB_spec g2
        have hc := okFrom_mem (goodC_spec g1).1
        refine r_callF (fun l => PV.isl _ (rows _ l)) m.sX ((inAll_ok measure l n hm hl hc nb).ice) fun measures hmeasures => ?_
        conv => cbv
        have ml := measL_len (me := measure) (l := l) nb.1
        rw [← hmeasures] at ml
        refine r_lenR m.sX fun n1 hn1 mn1 => ?_
        conv => cbv
        refine r_loop (α := List (List Int) × Int) m 61 [24, 25, 26] [⟨8, 65, 1000024, 1, 0⟩] (fun a => [(8, .osl 65 0), (24, .isl 1 (rows cInt measures)), (25, .int .i64 n1), (26, .int .i64 a.2)]) (fun a => [(65, 0, .tree 24 1 (rows cRun a.1))])
          (fun a => 0 ≤ a.2 ∧ a.2 ≤ n1 ∧ a.1 = runsF (measures.take a.2.toNat) ∧ (a.1.length : Int) ≤ a.2) (fun a => measures.length - a.2.toNat) ([], 0) ?_ ?_ ?_ ?_
        · cbv
        · (try dsimp only); simp only [rows_nil]; cbv
        · exact ⟨by dsimp only; omega, by dsimp only; omega, rfl, by simp⟩
        rintro ⟨runs, i⟩ ⟨p1, p2, p3, p4⟩ E hE
        dsimp only at p1 p2 p3 p4
        conv => cbv
        refine r_lss m.sX (fun h3 => ?_) (fun h3 => ?_) <;> conv => cbv
        · refine r_index m.sX (by omega) (by omega) fun m_ hm_ => ?_
          conv => cbv
          have hne : ∀ (zs : List (List Int)) (r : Int), r = i + 1 → zs = runs ++ [[1, m_]] → addRun (runsF (measures.take i.toNat)) m_ = runs ++ [[1, m_]] → zs = runsF (measures.take r.toNat) := fun zs r hr hz ha => by
            rw [show r.toNat = i.toNat + 1 by omega, runs_more hm_, ha, hz]
          refine r_lenR m.sX fun n2 hn2 mn2 => ?_
          conv => cbv
          refine r_gtr m.sX (fun h4 => ?_) (fun h4 => ?_) <;> conv => cbv
          · have hi0 : 0 < i.toNat := by
              rcases Nat.eq_zero_or_pos i.toNat with h0 | h0
              · rw [h0] at p3
                rw [show runs = [] from p3] at hn2
                simp at hn2
                omega
              · exact h0
            obtain ⟨rs, c, k, e1, e2, e3, e4⟩ := runs_at (ms := measures) (i := i.toNat) hi0 (by omega)
            have hrl : runs.length = rs.length + 1 := by rw [p3, e1]; simp
            refine r_subf m.sX (by omega) (by omega) fun r1 hr1 => ?_
            conv => cbv
            have hr1n : Int.toNat r1 = rs.length := by omega
            have hx : runs[Int.toNat r1]? = some [c, k] := by rw [p3, e1, hr1n]; simp
            refine r_oindex m.sX (by omega) (by omega) ?_
            conv => cbv
            refine r_oload m.sX hx (Nat.le_of_ble_eq_true rfl) ?_
            conv => cbv
            refine r_oload m.sX hx (Nat.le_of_ble_eq_true rfl) ?_
            conv => cbv
            refine r_oindex m.sX (by omega) (by simp) ?_
            conv => cbv
            refine r_oload m.sX hx (Nat.le_of_ble_eq_true rfl) ?_
            conv => cbv
            refine r_oload (x := k) m.sX rfl (Nat.le_of_ble_eq_true rfl) ?_
            conv => cbv
            refine r_eql m.sX (fun h5 => ?_) (fun h5 => ?_) <;> conv => cbv
            · refine r_subf m.sX (by omega) (by omega) fun r2 hr2 => ?_
              conv => cbv
              have hr2n : Int.toNat r2 = rs.length := by omega
              have hx2 : runs[Int.toNat r2]? = some [c, k] := by rw [p3, e1, hr2n]; simp
              refine r_oindex m.sX (by omega) (by omega) ?_
              conv => cbv
              refine r_oload m.sX hx2 (Nat.le_of_ble_eq_true rfl) ?_
              conv => cbv
              refine r_oload m.sX hx2 (Nat.le_of_ble_eq_true rfl) ?_
              conv => cbv
              refine r_oindex m.sX (by omega) (by simp) ?_
              conv => cbv
              refine r_oload m.sX hx2 (Nat.le_of_ble_eq_true rfl) ?_
              conv => cbv
              refine r_oload (x := c) m.sX rfl (Nat.le_of_ble_eq_true rfl) ?_
              conv => cbv
              refine r_addf m.sX (by omega) (by omega) fun r3 hr3 => ?_
              conv => cbv
              refine r_oload m.sX hx2 (Nat.le_of_ble_eq_true rfl) ?_
              conv => cbv
              refine r_oindex m.sX (by omega) (by simp) ?_
              conv => cbv
              refine r_oload m.sX hx2 (Nat.le_of_ble_eq_true rfl) ?_
              conv => cbv
              refine r_ostore (x := c) (l := 0) r3 m.sX rfl (Nat.le_of_ble_eq_true rfl) rfl fun z1 hz1 => ?_
              conv => cbv
              refine r_ostore (l := Int.toNat r2) z1 m.sX hx2 (Nat.le_of_ble_eq_true rfl) rfl fun runs2 hruns2 => ?_
              conv => cbv
              refine r_addf m.sX (by omega) (by omega) fun r4 hr4 => ?_
              conv => cbv
              have hz : z1 = [c + 1, k] := by rw [hz1, hr3]; rfl
              have hl2 : runs2.length = runs.length := by rw [hruns2]; simp
              refine hE _ (runs2, r4) ?_ ?_ ⟨by dsimp only; omega, by dsimp only; omega, by dsimp only; rw [show r4.toNat = i.toNat + 1 by omega, runs_more hm_, e1, addRun_last, if_pos h5, hruns2, p3, e1, hr2n, hz]; simp, by dsimp only; omega⟩ (by first | omega | (dsimp only; omega))
              · cbv
              · cbv
            · refine r_append1 ([1, m_]) m.sX (cRun_two 1 m_) (by dsimp only; omega) (by omega) fun runs2 hruns2 => ?_
              conv => cbv
              refine r_addf m.sX (by omega) (by omega) fun r5 hr5 => ?_
              conv => cbv
              have hl2 : runs2.length = runs.length + 1 := by rw [hruns2]; simp
              refine hE _ (runs2, r5) ?_ ?_ ⟨by dsimp only; omega, by dsimp only; omega, hne _ _ (by omega) hruns2 (by rw [e1, addRun_last, if_neg h5, p3, e1]), by dsimp only; omega⟩ (by first | omega | (dsimp only; omega))
              · cbv
              · cbv
          · refine r_append1 ([1, m_]) m.sX (cRun_two 1 m_) (by dsimp only; omega) (by omega) fun runs2 hruns2 => ?_
            conv => cbv
            refine r_addf m.sX (by omega) (by omega) fun r6 hr6 => ?_
            conv => cbv
            have hl2 : runs2.length = runs.length + 1 := by rw [hruns2]; simp
            have hr0 : runs = [] := List.eq_nil_of_length_eq_zero (by omega)
            refine hE _ (runs2, r6) ?_ ?_ ⟨by dsimp only; omega, by dsimp only; omega, hne _ _ (by omega) hruns2 (by rw [← p3, hr0]; rfl), by dsimp only; omega⟩ (by first | omega | (dsimp only; omega))
            · cbv
            · cbv
        · refine hQ _ ?_
          have e : unnilTI 1 (oneRes [PV.isl 1 (rows (cSl 1 cInt) runs), .bool true]) = lbI 1 (cSl 1 cInt) (runsAns measure l n) := by
            rw [runsAns, g1, g2, p3, List.take_of_length_le (by omega), hmeasures]; rfl
          obtain ⟨z, hz⟩ : ∃ z, rows cRun runs = z := ⟨_, rfl⟩
          have hz2 := hz
          conv at hz2 => lhs; cbv
          rw [← e, ← cool_runs, hz, hz2]
          cases z <;> rfl
      · refine hQ _ ?_
        rw [runsAns, g1, g2]
        exact (lbI_nil 1 (cSl 1 cInt) false).symm
    · refine hQ _ ?_
      rw [runsAns, g1]
      exact (lbI_nil 1 (cSl 1 cInt) false).symm)
end Go.Proofs.Ytnanackogloioaa.Ai
