/- Contracts of what the laws on tariffs draw. -/
import Derived.Test.YtfjdfojjkhcfcaaCur2
import Derived.Test.YtfjdfojjkhcfcaaTariff2
namespace Go.Proofs.Ytfjdfojjkhcfcaa.Ai
open Go Go.Proofs
set_option maxRecDepth 10000
set_option maxHeartbeats 4000000
set_option linter.unusedVariables false

def Near (t : Int) : Prop := -1 ≤ t ∧ t ≤ 100001

theorem cTariff_ok (code : List Int) (a s : Int) (h : CurIn code) (h0 : 0 ≤ a) (hk : a ≤ 900000000000000000) : OkM Try.prog 78 (cCur code a s) [] (fun r cs => ∃ t1 t2 t3 t4, r = .agg (cTariff (t1, t2, t3, t4)) ∧ CurTo code a 20 cs ∧ Near t1 ∧ Near t2 ∧ Near t3 ∧ Near t4) :=
  fnM_intro envOk fieldsOk mixed Try.func78 rfl fun κ X Y L Q m hQ => by
    conv => cbv
    refine r_mcall m.sX (cPick_ok code a s 100 h h0 (by omega)) ?_
    rintro _ _ ⟨q1, rfl, ⟨a1, s1, rfl, e1, e2⟩, e3, e4, e5⟩
    conv => cbv
    refine r_addf m.sX (by omega) (by omega) fun t1 ht1 => ?_
    conv => cbv
    refine r_mcall m.sX (cPick_ok code a1 s1 60 h (by omega) (by omega)) ?_
    rintro _ _ ⟨t2, rfl, ⟨a2, s2, rfl, f1, f2⟩, f3, f4, f5⟩
    conv => cbv
    refine r_mcall m.sX (cPick_ok code a2 s2 60 h (by omega) (by omega)) ?_
    rintro _ _ ⟨q3, rfl, ⟨a3, s3, rfl, g1, g2⟩, g3, g4, g5⟩
    conv => cbv
    refine r_addf m.sX (by omega) (by omega) fun t3 ht3 => ?_
    conv => cbv
    refine r_mcall m.sX (cPick_ok code a3 s3 300 h (by omega) (by omega)) ?_
    rintro _ _ ⟨t4, rfl, ⟨a4, s4, rfl, i1, i2⟩, i3, i4, i5⟩
    conv => cbv
    refine r_mcall m.sX (cOne_ok code a4 s4 16 h (by omega) (by omega)) ?_
    rintro _ _ ⟨q5, rfl, a5, s5, rfl, j1, j2⟩
    have n1 : Near t1 := ⟨by omega, by omega⟩
    have n2 : Near t2 := ⟨by omega, by omega⟩
    have n3 : Near t3 := ⟨by omega, by omega⟩
    have n4 : Near t4 := ⟨by omega, by omega⟩
    cases q5 <;> conv => cbv
    · exact hQ (.agg (cTariff (t1, t2, t3, t4))) (cCur code a5 s5) ⟨t1, t2, t3, t4, rfl, ⟨a5, s5, rfl, by omega, by omega⟩, n1, n2, n3, n4⟩
    · refine r_mcall m.sX (cAmong_ok code a5 s5 [0, 100000, 100001, -1] (by simp) h (by omega) (by omega)) ?_
      rintro _ _ ⟨v, rfl, ⟨a6, s6, rfl, k1, k2⟩, k3⟩
      have nv : Near v := by
        simp only [List.mem_cons, List.not_mem_nil, or_false] at k3
        exact ⟨by omega, by omega⟩
      clear k3
      conv => cbv
      refine r_mcall m.sX (cPick_ok code a6 s6 4 h (by omega) (by omega)) ?_
      rintro _ _ ⟨w, rfl, ⟨a7, s7, rfl, l1, l2⟩, l3, l4, l5⟩
      conv => cbv
      refine r_eql m.sX (fun x1 => ?_) (fun x1 => ?_) <;> conv => cbv
      · exact hQ (.agg (cTariff (v, t2, t3, t4))) (cCur code a7 s7) ⟨v, t2, t3, t4, rfl, ⟨a7, s7, rfl, by omega, by omega⟩, nv, n2, n3, n4⟩
      · refine r_eql m.sX (fun x2 => ?_) (fun x2 => ?_) <;> conv => cbv
        · exact hQ (.agg (cTariff (t1, v, t3, t4))) (cCur code a7 s7) ⟨t1, v, t3, t4, rfl, ⟨a7, s7, rfl, by omega, by omega⟩, n1, nv, n3, n4⟩
        · refine r_eql m.sX (fun x3 => ?_) (fun x3 => ?_) <;> conv => cbv
          · exact hQ (.agg (cTariff (t1, t2, v, t4))) (cCur code a7 s7) ⟨t1, t2, v, t4, rfl, ⟨a7, s7, rfl, by omega, by omega⟩, n1, n2, nv, n4⟩
          · exact hQ (.agg (cTariff (t1, t2, t3, v))) (cCur code a7 s7) ⟨t1, t2, t3, v, rfl, ⟨a7, s7, rfl, by omega, by omega⟩, n1, n2, n3, nv⟩

theorem cEns_ok (code : List Int) (a s : Int) (h : CurIn code) (h0 : 0 ≤ a) (hk : a ≤ 900000000000000000) : OkM Try.prog 79 (cCur code a s) [] (fun r cs => ∃ q, r = .int .i64 q ∧ CurTo code a 4 cs ∧ -1 ≤ q ∧ q ≤ 3000001) :=
  fnM_intro envOk fieldsOk mixed Try.func79 rfl fun κ X Y L Q m hQ => by
    conv => cbv
    refine r_mcall m.sX (cAmong_ok code a s [77, -1, 3000001] (by simp) h (by omega) (by omega)) ?_
    rintro _ _ ⟨v, rfl, ⟨a1, s1, rfl, k1, k2⟩, k3⟩
    simp only [List.mem_cons, List.not_mem_nil, or_false] at k3
    conv => cbv
    refine r_mcall m.sX (cAmong_ok code a1 s1 [0, 1, 999, 1000, 1500, 20000, 3000000, v] (by simp) h (by omega) (by omega)) ?_
    rintro _ _ ⟨w, rfl, ⟨a2, s2, rfl, l1, l2⟩, l3⟩
    simp only [List.mem_cons, List.not_mem_nil, or_false] at l3
    conv => cbv
    exact hQ (.int .i64 w) (cCur code a2 s2) ⟨w, rfl, ⟨a2, s2, rfl, by omega, by omega⟩, by omega, by omega⟩

def tens (p : Int × Int × Int × Int × Int) : PV := .tup [.agg (cTariff (p.1, p.2.1, p.2.2.1, p.2.2.2.1)), .int .i64 p.2.2.2.2]

theorem drawEnsForPrice_ok (code : List Int) (h : CurIn code) : OkA Try.prog 20 [.isl 1 (rows cU8 code)] (fun r => ∃ t1 t2 t3 t4 p, r = .tup [.agg (cTariff (t1, t2, t3, t4)), .int .i64 p] ∧ Near t1 ∧ Near t2 ∧ Near t3 ∧ Near t4 ∧ -1 ≤ p ∧ p ≤ 1000000001) :=
  fn_intro envOk fieldsOk mixed Try.func20 rfl fun κ X Y L Q m hQ => by
    conv => cbv
    refine r_mcall m.sX (cTariff_ok code 0 0 h (by omega) (by omega)) ?_
    rintro _ _ ⟨t1, t2, t3, t4, rfl, ⟨a1, s1, rfl, e1, e2⟩, n1, n2, n3, n4⟩
    conv => cbv
    refine r_mcall m.sX (cAmong_ok code a1 s1 [7, -1, 1000000001] (by simp) h (by omega) (by omega)) ?_
    rintro _ _ ⟨v, rfl, ⟨a2, s2, rfl, k1, k2⟩, k3⟩
    simp only [List.mem_cons, List.not_mem_nil, or_false] at k3
    conv => cbv
    refine r_mcall m.sX (cAmong_ok code a2 s2 [0, 1, 99, 100, 150, 5000, 1000000000, v] (by simp) h (by omega) (by omega)) ?_
    rintro _ _ ⟨w, rfl, ⟨a3, s3, rfl, l1, l2⟩, l3⟩
    simp only [List.mem_cons, List.not_mem_nil, or_false] at l3
    conv => cbv
    exact hQ (.tup [.agg (cTariff (t1, t2, t3, t4)), .int .i64 w]) ⟨t1, t2, t3, t4, w, rfl, n1, n2, n3, n4, by omega, by omega⟩

theorem drawLinesForEns_ok (code : List Int) (h : CurIn code) : OkA Try.prog 23 [.isl 1 (rows cU8 code)] (fun r => ∃ e p, r = .tup [.int .i64 e, .int .i64 p] ∧ -1 ≤ e ∧ e ≤ 3000001 ∧ 0 ≤ p ∧ p ≤ 201) :=
  fn_intro envOk fieldsOk mixed Try.func23 rfl fun κ X Y L Q m hQ => by
    conv => cbv
    refine r_mcall m.sX (cEns_ok code 0 0 h (by omega) (by omega)) ?_
    rintro _ _ ⟨e, rfl, ⟨a1, s1, rfl, e1, e2⟩, e3, e4⟩
    conv => cbv
    refine r_mcall m.sX (cAmong_ok code a1 s1 [44, 0, 201] (by simp) h (by omega) (by omega)) ?_
    rintro _ _ ⟨v, rfl, ⟨a2, s2, rfl, k1, k2⟩, k3⟩
    simp only [List.mem_cons, List.not_mem_nil, or_false] at k3
    conv => cbv
    refine r_mcall m.sX (cAmong_ok code a2 s2 [1, 30, 40, 60, 200, v] (by simp) h (by omega) (by omega)) ?_
    rintro _ _ ⟨w, rfl, ⟨a3, s3, rfl, l1, l2⟩, l3⟩
    simp only [List.mem_cons, List.not_mem_nil, or_false] at l3
    conv => cbv
    exact hQ (.tup [.int .i64 e, .int .i64 w]) ⟨e, w, rfl, by omega, by omega, by omega, by omega⟩

theorem drawPriceOfJob_ok (code : List Int) (h : CurIn code) : OkA Try.prog 14 [.isl 1 (rows cU8 code)] (fun r => ∃ t1 t2 t3 t4 e p q, r = .tup [.agg (cTariff (t1, t2, t3, t4)), .int .i64 e, .int .i64 p, .int .i64 q] ∧ Near t1 ∧ Near t2 ∧ Near t3 ∧ Near t4 ∧ (-1 ≤ e ∧ e ≤ 3000001) ∧ (-1 ≤ p ∧ p ≤ 10001) ∧ (-1 ≤ q ∧ q ≤ 10001)) :=
  fn_intro envOk fieldsOk mixed Try.func14 rfl fun κ X Y L Q m hQ => by
    conv => cbv
    refine r_mcall m.sX (cTariff_ok code 0 0 h (by omega) (by omega)) ?_
    rintro _ _ ⟨t1, t2, t3, t4, rfl, ⟨a1, s1, rfl, e1, e2⟩, n1, n2, n3, n4⟩
    conv => cbv
    refine r_mcall m.sX (cEns_ok code a1 s1 h (by omega) (by omega)) ?_
    rintro _ _ ⟨e, rfl, ⟨a2, s2, rfl, e3, e4⟩, e5, e6⟩
    conv => cbv
    refine r_mcall m.sX (cAmong_ok code a2 s2 [7, -1, 10001] (by simp) h (by omega) (by omega)) ?_
    rintro _ _ ⟨v, rfl, ⟨a3, s3, rfl, k1, k2⟩, k3⟩
    simp only [List.mem_cons, List.not_mem_nil, or_false] at k3
    conv => cbv
    refine r_mcall m.sX (cAmong_ok code a3 s3 [0, 1, 16, 10000, v] (by simp) h (by omega) (by omega)) ?_
    rintro _ _ ⟨w, rfl, ⟨a4, s4, rfl, l1, l2⟩, l3⟩
    simp only [List.mem_cons, List.not_mem_nil, or_false] at l3
    conv => cbv
    refine r_mcall m.sX (cAmong_ok code a4 s4 [7, -1, 10001] (by simp) h (by omega) (by omega)) ?_
    rintro _ _ ⟨x, rfl, ⟨a5, s5, rfl, i1, i2⟩, i3⟩
    simp only [List.mem_cons, List.not_mem_nil, or_false] at i3
    conv => cbv
    refine r_mcall m.sX (cAmong_ok code a5 s5 [0, 1, 15, 16, 100, 10000, x] (by simp) h (by omega) (by omega)) ?_
    rintro _ _ ⟨y, rfl, ⟨a6, s6, rfl, j1, j2⟩, j3⟩
    simp only [List.mem_cons, List.not_mem_nil, or_false] at j3
    conv => cbv
    exact hQ (.tup [.agg (cTariff (t1, t2, t3, t4)), .int .i64 e, .int .i64 w, .int .i64 y]) ⟨t1, t2, t3, t4, e, w, y, rfl, n1, n2, n3, n4, ⟨by omega, by omega⟩, ⟨by omega, by omega⟩, ⟨by omega, by omega⟩⟩

theorem drawEnsOf_ok (code : List Int) (h : CurIn code) : OkA Try.prog 26 [.isl 1 (rows cU8 code)] (fun r => ∃ e p q, r = .tup [.int .i64 e, .int .i64 p, .int .i64 q] ∧ (-1 ≤ e ∧ e ≤ 1000001) ∧ (-1 ≤ p ∧ p ≤ 1000001) ∧ (-1 ≤ q ∧ q ≤ 1000001)) :=
  fn_intro envOk fieldsOk mixed Try.func26 rfl fun κ X Y L Q m hQ => by
    conv => cbv
    refine r_mcall m.sX (cAmong_ok code 0 0 [7, -1, 1000001] (by simp) h (by omega) (by omega)) ?_
    rintro _ _ ⟨v, rfl, ⟨a3, s3, rfl, k1, k2⟩, k3⟩
    simp only [List.mem_cons, List.not_mem_nil, or_false] at k3
    conv => cbv
    refine r_mcall m.sX (cAmong_ok code a3 s3 [100, 20, 1000000, v] (by simp) h (by omega) (by omega)) ?_
    rintro _ _ ⟨w, rfl, ⟨a4, s4, rfl, l1, l2⟩, l3⟩
    simp only [List.mem_cons, List.not_mem_nil, or_false] at l3
    conv => cbv
    refine r_mcall m.sX (cAmong_ok code a4 s4 [7, -1, 1000001] (by simp) h (by omega) (by omega)) ?_
    rintro _ _ ⟨x, rfl, ⟨a5, s5, rfl, i1, i2⟩, i3⟩
    simp only [List.mem_cons, List.not_mem_nil, or_false] at i3
    conv => cbv
    refine r_mcall m.sX (cAmong_ok code a5 s5 [0, 1, 20, 333, 1000000, x] (by simp) h (by omega) (by omega)) ?_
    rintro _ _ ⟨y, rfl, ⟨a6, s6, rfl, j1, j2⟩, j3⟩
    simp only [List.mem_cons, List.not_mem_nil, or_false] at j3
    conv => cbv
    refine r_mcall m.sX (cAmong_ok code a6 s6 [7, -1, 1000001] (by simp) h (by omega) (by omega)) ?_
    rintro _ _ ⟨x', rfl, ⟨a7, s7, rfl, i1', i2'⟩, i3'⟩
    simp only [List.mem_cons, List.not_mem_nil, or_false] at i3'
    conv => cbv
    refine r_mcall m.sX (cAmong_ok code a7 s7 [0, 1, 3, 50, 1000000, x'] (by simp) h (by omega) (by omega)) ?_
    rintro _ _ ⟨y', rfl, ⟨a8, s8, rfl, j1', j2'⟩, j3'⟩
    simp only [List.mem_cons, List.not_mem_nil, or_false] at j3'
    conv => cbv
    exact hQ (.tup [.int .i64 w, .int .i64 y, .int .i64 y']) ⟨w, y, y', rfl, ⟨by omega, by omega⟩, ⟨by omega, by omega⟩, ⟨by omega, by omega⟩⟩
end Go.Proofs.Ytfjdfojjkhcfcaa.Ai
