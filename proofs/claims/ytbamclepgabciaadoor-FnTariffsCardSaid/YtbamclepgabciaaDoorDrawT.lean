/- Contracts of what the laws on tariffs draw. -/
import Derived.Test.YtbamclepgabciaaDoorCur2
import Derived.Test.YtbamclepgabciaaDoorTariff2
namespace Go.Proofs.YtbamclepgabciaaDoor.Ai
open Go Go.Proofs
set_option linter.unusedSimpArgs false
set_option maxRecDepth 10000
set_option maxHeartbeats 4000000
set_option linter.unusedVariables false

def Near (t : Int) : Prop := -1 ≤ t ∧ t ≤ 100001

theorem cTariff_ok (code : List Int) (a s : Int) (h : CurIn code) (h0 : 0 ≤ a) (hk : a ≤ 900000000000000000) : OkM Tryd.prog 101 (cCur code a s) [] (fun r cs => ∃ t1 t2 t3 t4, r = .agg (cTariff (t1, t2, t3, t4)) ∧ CurTo code a 20 cs ∧ Near t1 ∧ Near t2 ∧ Near t3 ∧ Near t4) :=
  fnM_intro envOk fieldsOk mixed Tryd.func101 rfl fun κ X Y L Q m hQ => by
    conv => cbv
    refine r_mcall m.sX (cPick_ok code a s 100 h h0 (by omega)) ?_
    rintro _ _ ⟨q1, rfl, ⟨a1, s1, rfl, e1, e2⟩, e3, e4, e5⟩
    conv => cbv
    refine r_addf m.sX (by omega) (by omega) fun t1 ht1 => ?_
    conv => cbv
    refine r_mcall m.sX (cPick_ok code a1 s1 60 h (by omega) (by omega)) ?_
    rintro _ _ ⟨t2, rfl, ⟨a2, s2, rfl, f1, f2⟩, f3, f4, f5⟩
    conv => cbv
    refine r_mcall m.sX (cPick_ok code a2 s2 60 h (by omega) (by omega)) ?_
    rintro _ _ ⟨q3, rfl, ⟨a3, s3, rfl, g1, g2⟩, g3, g4, g5⟩
    conv => cbv
    refine r_addf m.sX (by omega) (by omega) fun t3 ht3 => ?_
    conv => cbv
    refine r_mcall m.sX (cPick_ok code a3 s3 300 h (by omega) (by omega)) ?_
    rintro _ _ ⟨t4, rfl, ⟨a4, s4, rfl, i1, i2⟩, i3, i4, i5⟩
    conv => cbv
    refine r_mcall m.sX (cOne_ok code a4 s4 16 h (by omega) (by omega)) ?_
    rintro _ _ ⟨q5, rfl, a5, s5, rfl, j1, j2⟩
    have n1 : Near t1 := ⟨by omega, by omega⟩
    have n2 : Near t2 := ⟨by omega, by omega⟩
    have n3 : Near t3 := ⟨by omega, by omega⟩
    have n4 : Near t4 := ⟨by omega, by omega⟩
    cases q5 <;> conv => cbv
    · exact hQ (.agg (cTariff (t1, t2, t3, t4))) (cCur code a5 s5) ⟨t1, t2, t3, t4, rfl, ⟨a5, s5, rfl, by omega, by omega⟩, n1, n2, n3, n4⟩
    · refine r_mcall m.sX (cAmong_ok code a5 s5 [0, 100000, 100001, -1] (by simp) h (by omega) (by omega)) ?_
      rintro _ _ ⟨v, rfl, ⟨a6, s6, rfl, k1, k2⟩, k3⟩
      have nv : Near v := by
        simp only [List.mem_cons, List.not_mem_nil, or_false] at k3
        exact ⟨by omega, by omega⟩
      clear k3
      conv => cbv
      refine r_mcall m.sX (cPick_ok code a6 s6 4 h (by omega) (by omega)) ?_
      rintro _ _ ⟨w, rfl, ⟨a7, s7, rfl, l1, l2⟩, l3, l4, l5⟩
      conv => cbv
      refine r_eql m.sX (fun x1 => ?_) (fun x1 => ?_) <;> conv => cbv
      · exact hQ (.agg (cTariff (v, t2, t3, t4))) (cCur code a7 s7) ⟨v, t2, t3, t4, rfl, ⟨a7, s7, rfl, by omega, by omega⟩, nv, n2, n3, n4⟩
      · refine r_eql m.sX (fun x2 => ?_) (fun x2 => ?_) <;> conv => cbv
        · exact hQ (.agg (cTariff (t1, v, t3, t4))) (cCur code a7 s7) ⟨t1, v, t3, t4, rfl, ⟨a7, s7, rfl, by omega, by omega⟩, n1, nv, n3, n4⟩
        · refine r_eql m.sX (fun x3 => ?_) (fun x3 => ?_) <;> conv => cbv
          · exact hQ (.agg (cTariff (t1, t2, v, t4))) (cCur code a7 s7) ⟨t1, t2, v, t4, rfl, ⟨a7, s7, rfl, by omega, by omega⟩, n1, n2, nv, n4⟩
          · exact hQ (.agg (cTariff (t1, t2, t3, v))) (cCur code a7 s7) ⟨t1, t2, t3, v, rfl, ⟨a7, s7, rfl, by omega, by omega⟩, n1, n2, n3, nv⟩

theorem cEns_ok (code : List Int) (a s : Int) (h : CurIn code) (h0 : 0 ≤ a) (hk : a ≤ 900000000000000000) : OkM Tryd.prog 102 (cCur code a s) [] (fun r cs => ∃ q, r = .int .i64 q ∧ CurTo code a 4 cs ∧ -1 ≤ q ∧ q ≤ 3000001) :=
  fnM_intro envOk fieldsOk mixed Tryd.func102 rfl fun κ X Y L Q m hQ => by
    conv => cbv
    refine r_mcall m.sX (cAmong_ok code a s [77, -1, 3000001] (by simp) h (by omega) (by omega)) ?_
    rintro _ _ ⟨v, rfl, ⟨a1, s1, rfl, k1, k2⟩, k3⟩
    simp only [List.mem_cons, List.not_mem_nil, or_false] at k3
    conv => cbv
    refine r_mcall m.sX (cAmong_ok code a1 s1 [0, 1, 999, 1000, 1500, 20000, 3000000, v] (by simp) h (by omega) (by omega)) ?_
    rintro _ _ ⟨w, rfl, ⟨a2, s2, rfl, l1, l2⟩, l3⟩
    simp only [List.mem_cons, List.not_mem_nil, or_false] at l3
    conv => cbv
    exact hQ (.int .i64 w) (cCur code a2 s2) ⟨w, rfl, ⟨a2, s2, rfl, by omega, by omega⟩, by omega, by omega⟩

def tens (p : Int × Int × Int × Int × Int) : PV := .tup [.agg (cTariff (p.1, p.2.1, p.2.2.1, p.2.2.2.1)), .int .i64 p.2.2.2.2]

end Go.Proofs.YtbamclepgabciaaDoor.Ai
