/- Contract of the cursor's parallel texts, as pg.py prints it without trees: mkpar.py turns it into XParDraw.lean.tpl. -/
import Derived.Test.YtalookmhhkojeaaPar
import Derived.Test.YtalookmhhkojeaaAiNest
import Derived.Test.YtalookmhhkojeaaAiIceM
import Derived.Test.YtalookmhhkojeaaFoldB
namespace Go.Proofs.Ytalookmhhkojeaa.Ai
open Go Go.Proofs
set_option linter.unusedSimpArgs false
set_option maxRecDepth 10000
set_option maxHeartbeats 4000000
set_option linter.unusedVariables false
theorem OkM.iceR {P : Program} {f : FuncId} {cs args : List PV} {Q : PV → List PV → Prop} (h : OkM P f cs args (fun r cs' => Q (Ai.ice r) cs')) : OkM P f cs args Q :=
  h.iceE.mono fun r cs' ⟨r0, q, e⟩ => by rw [e]; exact q
noncomputable def cRun (x : List Int) : List PV := [.fr 3 1 (rows cInt x)]
theorem cool_runs (l : List (List Int)) : coolL (rows cRun l) = rows (cSl 1 cInt) l := cool_rows cRun l
theorem wide_app {l : List (List Int)} {n : Nat} (h : ∀ p ∈ l, p.length = n) {y : List Int} (hy : y.length = n) : ∀ p ∈ l ++ [y], p.length = n := fun x hx => by
  rcases List.mem_append.1 hx with hx | hx
  · exact h x hx
  · rw [List.mem_singleton.1 hx]; exact hy
theorem wideI_app {l : List (List Int)} {n : Int} (h : ∀ p ∈ l, (p.length : Int) = n) {y : List Int} (hy : (y.length : Int) = n) : ∀ p ∈ l ++ [y], (p.length : Int) = n := fun x hx => by
  rcases List.mem_append.1 hx with hx | hx
  · exact h x hx
  · rw [List.mem_singleton.1 hx]; exact hy
theorem cParallel_ok (code : List Int) (b0 t0 : Int)  (h : CurIn code) (h0 : 0 ≤ b0) (hk : b0 ≤ 899999999998000000)  : OkM Try.prog 49 (cCur code b0 t0) [] (fun r cs => ∃ (q : List (List Int)), r = .isl 1 (rows (cSl 1 cInt) q) ∧ CurTo code b0 2000 cs ∧ ((q.length : Int) ≤ 25)) :=
  OkM.iceR (fnM_introF [19] (nestIn_ok 24 envOk) (nestIn_fields 24 fieldsOk) mixed Try.func49 rfl rfl fun κ X Y L Q m hQ => by
    conv => cbv
    refine r_mcall m.sX (cPick_ok code b0 t0 3 h (by omega) (by omega)) ?_
    rintro _ _ ⟨q1, rfl, ⟨a1, s1, rfl, ea1, fa1⟩, bq1, cq1, dq1⟩
    conv => cbv
    refine r_addf m.sX (by omega) (by omega) fun columns hcolumns => ?_
    conv => cbv
    refine r_mcall m.sX (cPick_ok code a1 s1 7 h (by omega) (by omega)) ?_
    rintro _ _ ⟨n, rfl, ⟨a2, s2, rfl, ea2, fa2⟩, bn, cn, dn⟩
    conv => cbv
    refine r_mcall m.sX (cOne_ok code a2 s2 12 h (by omega) (by omega)) ?_
    rintro _ _ ⟨q2, rfl, ⟨a3, s3, rfl, ea3, fa3⟩⟩
    conv => cbv
    rcases Bool.eq_false_or_eq_true q2 with rfl | rfl <;> conv => cbv
    · refine r_mcall m.sX (cPick_ok code a3 s3 2 h (by omega) (by omega)) ?_
      rintro _ _ ⟨q3, rfl, ⟨a4, s4, rfl, ea4, fa4⟩, bq3, cq3, dq3⟩
      conv => cbv
      refine r_addf m.sX (by omega) (by omega) fun n_2 hn_2 => ?_
      conv => cbv
      refine r_loopF (α := Int × Int × List (List Int)) m 81 [3, 4] [⟨0, 1, 0, 0, 0⟩, ⟨5, 41, 27 + 1000000, 1, 0⟩] (fun σ => [(0, .optr 1 0 0 0 0), (3, .int .i64 6), (4, .int .i64 n_2), (5, .osl 41 0)]) (fun σ => [(1, 0, .box (cCur code σ.1 σ.2.1)), (41, 0, .tree 27 1 (rows cRun σ.2.2))])
        (fun σ => ((σ.2.2.length : Int) ≤ n_2) ∧ (a4 ≤ σ.1 ∧ σ.1 ≤ a4 + 50 * (σ.2.2.length : Int)) ∧ (∀ p ∈ σ.2.2, p.length = 6)) (fun σ => (n_2 - (σ.2.2.length : Int)).toNat) (a4, s4, []) ?_ ?_ ?_ ?_
      · cbv
      · (try dsimp only); (try simp only [rows_cons, rows_nil]); cbv
      · exact ⟨(by (try dsimp only); first | omega | (simp only [List.length_nil]; omega) | (simp only [List.length_cons, List.length_nil]; omega)), (by (try dsimp only); first | omega | (simp only [List.length_nil]; omega) | (simp only [List.length_cons, List.length_nil]; omega)), (by (try dsimp only) <;> (intro p hp; cases hp))⟩
      rintro ⟨a5, s5, l⟩ ⟨ll1, cl1, wd⟩ E hE F hF
      dsimp only at ll1 cl1 wd
      conv => cbv
      refine r_lenR m.sX fun n1 hn1 mn1 => ?_
      conv => cbv
      refine r_lss m.sX (fun h1 => ?_) (fun h1 => ?_) <;> conv => cbv
      · refine r_loopF (α := Int × Int × List Int) m 81 [3, 4] [⟨0, 1, 0, 0, 0⟩, ⟨5, 41, 27 + 1000000, 1, 0⟩, ⟨6, 49, 3, 1, 0⟩] (fun σ => [(0, .optr 1 0 0 0 0), (3, .int .i64 6), (4, .int .i64 n_2), (5, .osl 41 0), (6, .osl 49 0)]) (fun σ => [(1, 0, .box (cCur code σ.1 σ.2.1)), (41, 0, .tree 27 1 (rows cRun l)), (49, 0, .row 3 1 (rows cInt σ.2.2))])
          (fun σ => ((σ.2.2.length : Int) ≤ 6) ∧ (a5 ≤ σ.1 ∧ σ.1 ≤ a5 + 6 * (σ.2.2.length : Int))) (fun σ => (6 - (σ.2.2.length : Int)).toNat) (a5, s5, []) ?_ ?_ ?_ ?_
        · cbv
        · (try dsimp only); (try simp only [rows_cons, rows_nil]); cbv
        · exact ⟨(by (try dsimp only); first | omega | (simp only [List.length_nil]; omega) | (simp only [List.length_cons, List.length_nil]; omega)), (by (try dsimp only); first | omega | (simp only [List.length_nil]; omega) | (simp only [List.length_cons, List.length_nil]; omega))⟩
        rintro ⟨a6, s6, row⟩ ⟨ll2, cl2⟩ E2 hE2 F2 hF2
        dsimp only at ll2 cl2
        conv => cbv
        refine r_lenR m.sX fun n2 hn2 mn2 => ?_
        conv => cbv
        refine r_lss m.sX (fun h2 => ?_) (fun h2 => ?_) <;> conv => cbv
        · refine r_mcall m.sX (cPick_ok code a6 s6 12 h (by omega) (by omega)) ?_
          rintro _ _ ⟨q4, rfl, ⟨a7, s7, rfl, ea7, fa7⟩, bq4, cq4, dq4⟩
          conv => cbv
          refine r_mcall m.sX (cPick_ok code a7 s7 12 h (by omega) (by omega)) ?_
          rintro _ _ ⟨q5, rfl, ⟨a8, s8, rfl, ea8, fa8⟩, bq5, cq5, dq5⟩
          conv => cbv
          refine r_mcall m.sX (cAmong_ok code a8 s8 ([0, 2, 5, q4, q5]) (by simp) h (by omega) (by omega)) ?_
          rintro _ _ ⟨q6, rfl, ⟨a9, s9, rfl, ea9, fa9⟩, bq6⟩
          simp only [List.mem_cons, List.not_mem_nil, or_false] at bq6
          conv => cbv
          refine r_append1 (q6) m.sX rfl (by first | omega | (dsimp only; omega)) (by first | omega | (dsimp only; omega)) fun row_2 hrow_2 => ?_
          conv => cbv
          have lrow_2 : (row_2.length : Int) = row.length + 1 := by rw [hrow_2]; first | done | (simp; done) | (simp; omega)
          refine hE2 _ (a9, s9, row_2) ?_ ?_ ⟨(by (try dsimp only); first | omega | (simp only [List.length_nil]; omega) | (simp only [List.length_cons, List.length_nil]; omega)), (by (try dsimp only); first | omega | (simp only [List.length_nil]; omega) | (simp only [List.length_cons, List.length_nil]; omega))⟩ (by first | omega | (dsimp only; omega))
          · cbv
          · cbv
        · refine hF2 _ _ ?_
          conv => cbv
          refine r_append1 (row) m.sX rfl (by first | omega | (dsimp only; omega)) (by first | omega | (dsimp only; omega)) fun l_2 hl_2 => ?_
          conv => cbv
          have ll_2 : (l_2.length : Int) = l.length + 1 := by rw [hl_2]; first | done | (simp; done) | (simp; omega)
          refine hE _ (a6, s6, l_2) ?_ ?_ ⟨(by (try dsimp only); first | omega | (simp only [List.length_nil]; omega) | (simp only [List.length_cons, List.length_nil]; omega)), (by (try dsimp only); first | omega | (simp only [List.length_nil]; omega) | (simp only [List.length_cons, List.length_nil]; omega)), (by (try dsimp only) <;> (rw [hl_2]; exact wide_app wd (by omega)))⟩ (by first | omega | (dsimp only; omega))
          · cbv
          · cbv
      · refine hF _ _ ?_
        conv => cbv
        refine r_gtr m.sX (fun h3 => ?_) (fun h3 => ?_) <;> conv => cbv
        · refine r_mcall m.sX (cPick_ok code a5 s5 24 h (by omega) (by omega)) ?_
          rintro _ _ ⟨q7, rfl, ⟨a10, s10, rfl, ea10, fa10⟩, bq7, cq7, dq7⟩
          conv => cbv
          refine r_eql m.sX (fun h4 => ?_) (fun h4 => ?_) <;> conv => cbv
          · refine r_draw m (by kernel_rfl) ?_
            conv => cbv
            refine r_mcallS m.sY (cPick_ok code a10 s10 n_2 h (by omega) (by omega)) (cPick_ex code a10 s10 n_2) (by rintro _ _ ⟨_, rfl, _⟩; first | trivial | (intro x hx; simp at hx; rcases hx with rfl | rfl | rfl <;> trivial)) ?_
            rintro _ _ ⟨q8, rfl, ⟨a11, s11, rfl, ea11, fa11⟩, bq8, cq8, dq8⟩
            conv => cbv
            refine r_oindex m.sY (by omega) (by omega) ?_
            conv => cbv
            obtain ⟨x1, hx1⟩ := get_ex (xs := l) (i := Int.toNat q8) (by omega)
            have mx1 := get_mem hx1
            have wx1 := wd x1 mx1
            refine r_oload m.sY hx1 (Nat.le_of_ble_eq_true rfl) ?_
            conv => cbv
            refine r_mcallS m.sY (cAmong_ok code a11 s11 ([-1, 200, 201, 190]) (by simp) h (by omega) (by omega)) (cAmong_ex code a11 s11 ([-1, 200, 201, 190]) (by simp)) (by rintro _ _ ⟨_, rfl, _⟩; first | trivial | (intro x hx; simp at hx; rcases hx with rfl | rfl | rfl <;> trivial)) ?_
            rintro _ _ ⟨q9, rfl, ⟨a12, s12, rfl, ea12, fa12⟩, bq9⟩
            simp only [List.mem_cons, List.not_mem_nil, or_false] at bq9
            conv => cbv
            refine r_oload m.sY hx1 (Nat.le_of_ble_eq_true rfl) ?_
            conv => cbv
            refine r_oindex m.sY (by omega) (by omega) ?_
            conv => cbv
            refine r_oload m.sY hx1 (Nat.le_of_ble_eq_true rfl) ?_
            conv => cbv
            obtain ⟨x2, hx2⟩ := get_ex (xs := x1) (i := 0) (by omega)
            refine r_ostore (l := 0) (q9) m.sY hx2 (Nat.le_of_ble_eq_true rfl) rfl fun cx2 hcx2 => ?_
            conv => cbv
            refine r_ostore (l := Int.toNat q8) cx2 m.sY hx1 (Nat.le_of_ble_eq_true rfl) rfl fun dx2 hdx2 => ?_
            have ldx2 : (dx2.length : Int) = l.length := by rw [hdx2]; simp
            conv => cbv
            exact hQ (.isl 1 (coolL (rows cRun dx2))) (cCur code a12 s12) ⟨dx2, by rw [cool_runs]; rfl, ⟨a12, s12, rfl, by omega, by omega⟩, (by first | omega | assumption | (simp; done) | (simp [*]; done) | (simp at *; omega))⟩   -- leaf 1
          · refine r_eql m.sX (fun h5 => ?_) (fun h5 => ?_) <;> conv => cbv
            · have := m.z
              refine r_chg (s' := freezeS _ 41 (rows (cSl 1 cInt) l)) m (chg_freeze (ver := 0) (e := 27) (sz := 1) (es := rows cRun l) (by rfl) (cool_runs l)) ?_
              conv => cbv
              refine r_draw m (by kernel_rfl) ?_
              conv => cbv
              refine r_mcallS m.sY (cPick_ok code a10 s10 n_2 h (by omega) (by omega)) (cPick_ex code a10 s10 n_2) (by rintro _ _ ⟨_, rfl, _⟩; first | trivial | (intro x hx; simp at hx; rcases hx with rfl | rfl | rfl <;> trivial)) ?_
              rintro _ _ ⟨q10, rfl, ⟨a13, s13, rfl, ea13, fa13⟩, bq10, cq10, dq10⟩
              conv => cbv
              refine r_oindex m.sY (by omega) (by omega) ?_
              conv => cbv
              obtain ⟨x3, hx3⟩ := get_ex (xs := l) (i := Int.toNat 0) (by omega)
              have mx3 := get_mem hx3
              have wx3 := wd x3 mx3
              refine r_oload m.sY hx3 (Nat.le_of_ble_eq_true rfl) ?_
              conv => cbv
              refine r_islice' (i := 1) m.sY (by omega) (by omega) fun zs1 hzs1 => ?_   -- zs1 = x3[1:None]
              have lzs1 : (zs1.length : Int) = x3.length - 1 := by rw [hzs1]; first | done | (simp; done) | (simp; omega)
              conv => cbv
              refine r_oindex m.sY (by omega) (by omega) ?_
              conv => cbv
              obtain ⟨y1, hy1⟩ := get_ex (xs := l) (i := Int.toNat q10) (by omega)
              refine r_ostore (l := Int.toNat q10) zs1 m.sY hy1 (Nat.le_of_ble_eq_true rfl) rfl fun l_3 hl_3 => ?_   -- l_3 = l.set q10 zs1
              have ll_3 : (l_3.length : Int) = l.length := by rw [hl_3]; first | done | (simp; done) | (simp; omega)
              conv => cbv
              exact hQ (.fr 27 1 (rows (cSl 1 cInt) l_3)) (cCur code a13 s13) ⟨l_3, rfl, ⟨a13, s13, rfl, by omega, by omega⟩, (by first | omega | assumption | (simp; done) | (simp [*]; done) | (simp at *; omega))⟩   -- leaf 2
            · refine r_eql m.sX (fun h6 => ?_) (fun h6 => ?_) <;> conv => cbv
              · have := m.z
                refine r_chg (s' := freezeS _ 41 (rows (cSl 1 cInt) l)) m (chg_freeze (ver := 0) (e := 27) (sz := 1) (es := rows cRun l) (by rfl) (cool_runs l)) ?_
                refine r_region m ?_
                conv => cbv
                refine r_subf m.sX (by omega) (by omega) fun r1 hr1 => ?_
                conv => cbv
                refine r_subf m.sX (by omega) (by omega) fun r2 hr2 => ?_
                conv => cbv
                refine r_oindex m.sX (by omega) (by omega) ?_
                conv => cbv
                obtain ⟨x4, hx4⟩ := get_ex (xs := l) (i := Int.toNat r2) (by omega)
                have mx4 := get_mem hx4
                have wx4 := wd x4 mx4
                refine r_oload m.sX hx4 (Nat.le_of_ble_eq_true rfl) ?_
                conv => cbv
                refine r_callF (fun l => PV.fr _ _ (rows _ l)) m.sX (l1Own_ok x4 (by first | rfl | assumption | omega | (simp only [List.length_append, List.length_cons, List.length_nil] at *; omega))) fun v1 hv1 => ?_
                conv => cbv
                have lv1 := congrArg List.length hv1
                refine r_append1 (1) m.sX rfl (by first | omega | (dsimp only; omega)) (by first | omega | (dsimp only; omega)) fun zs2 hzs2 => ?_
                conv => cbv
                have lzs2 : (zs2.length : Int) = v1.length + 1 := by rw [hzs2]; first | done | (simp; done) | (simp; omega)
                refine r_oindex m.sX (by omega) (by omega) ?_
                conv => cbv
                obtain ⟨y2, hy2⟩ := get_ex (xs := l) (i := Int.toNat r1) (by omega)
                refine r_ostore (l := Int.toNat r1) zs2 m.sX hy2 (Nat.le_of_ble_eq_true rfl) rfl fun l_4 hl_4 => ?_   -- l_4 = l.set r1 zs2
                have ll_4 : (l_4.length : Int) = l.length := by rw [hl_4]; first | done | (simp; done) | (simp; omega)
                conv => cbv
                exact hQ (.fr 27 1 (rows (cSl 1 cInt) l_4)) (cCur code a10 s10) ⟨l_4, rfl, ⟨a10, s10, rfl, by omega, by omega⟩, (by first | omega | assumption | (simp; done) | (simp [*]; done) | (simp at *; omega))⟩   -- leaf 3
              · exact hQ (.isl 1 (coolL (rows cRun l))) (cCur code a10 s10) ⟨l, by rw [cool_runs]; rfl, ⟨a10, s10, rfl, by omega, by omega⟩, (by first | omega | assumption | (simp; done) | (simp [*]; done) | (simp at *; omega))⟩   -- leaf 4
        · exact hQ (.isl 1 (coolL (rows cRun l))) (cCur code a5 s5) ⟨l, by rw [cool_runs]; rfl, ⟨a5, s5, rfl, by omega, by omega⟩, (by first | omega | assumption | (simp; done) | (simp [*]; done) | (simp at *; omega))⟩   -- leaf 5
    · refine r_loopF (α := Int × Int × List (List Int)) m 81 [3, 4] [⟨0, 1, 0, 0, 0⟩, ⟨5, 41, 27 + 1000000, 1, 0⟩] (fun σ => [(0, .optr 1 0 0 0 0), (3, .int .i64 columns), (4, .int .i64 n), (5, .osl 41 0)]) (fun σ => [(1, 0, .box (cCur code σ.1 σ.2.1)), (41, 0, .tree 27 1 (rows cRun σ.2.2))])
        (fun σ => ((σ.2.2.length : Int) ≤ n) ∧ (a3 ≤ σ.1 ∧ σ.1 ≤ a3 + 50 * (σ.2.2.length : Int)) ∧ (∀ p ∈ σ.2.2, (p.length : Int) = columns)) (fun σ => (n - (σ.2.2.length : Int)).toNat) (a3, s3, []) ?_ ?_ ?_ ?_
      · cbv
      · (try dsimp only); (try simp only [rows_cons, rows_nil]); cbv
      · exact ⟨(by (try dsimp only); first | omega | (simp only [List.length_nil]; omega) | (simp only [List.length_cons, List.length_nil]; omega)), (by (try dsimp only); first | omega | (simp only [List.length_nil]; omega) | (simp only [List.length_cons, List.length_nil]; omega)), (by (try dsimp only) <;> (intro p hp; cases hp))⟩
      rintro ⟨a14, s14, l_5⟩ ⟨ll3, cl3, wd⟩ E hE F hF
      dsimp only at ll3 cl3 wd
      conv => cbv
      refine r_lenR m.sX fun n3 hn3 mn3 => ?_
      conv => cbv
      refine r_lss m.sX (fun h7 => ?_) (fun h7 => ?_) <;> conv => cbv
      · refine r_loopF (α := Int × Int × List Int) m 81 [3, 4] [⟨0, 1, 0, 0, 0⟩, ⟨5, 41, 27 + 1000000, 1, 0⟩, ⟨6, 49, 3, 1, 0⟩] (fun σ => [(0, .optr 1 0 0 0 0), (3, .int .i64 columns), (4, .int .i64 n), (5, .osl 41 0), (6, .osl 49 0)]) (fun σ => [(1, 0, .box (cCur code σ.1 σ.2.1)), (41, 0, .tree 27 1 (rows cRun l_5)), (49, 0, .row 3 1 (rows cInt σ.2.2))])
          (fun σ => ((σ.2.2.length : Int) ≤ columns) ∧ (a14 ≤ σ.1 ∧ σ.1 ≤ a14 + 6 * (σ.2.2.length : Int))) (fun σ => (columns - (σ.2.2.length : Int)).toNat) (a14, s14, []) ?_ ?_ ?_ ?_
        · cbv
        · (try dsimp only); (try simp only [rows_cons, rows_nil]); cbv
        · exact ⟨(by (try dsimp only); first | omega | (simp only [List.length_nil]; omega) | (simp only [List.length_cons, List.length_nil]; omega)), (by (try dsimp only); first | omega | (simp only [List.length_nil]; omega) | (simp only [List.length_cons, List.length_nil]; omega))⟩
        rintro ⟨a15, s15, row_3⟩ ⟨ll4, cl4⟩ E2 hE2 F2 hF2
        dsimp only at ll4 cl4
        conv => cbv
        refine r_lenR m.sX fun n4 hn4 mn4 => ?_
        conv => cbv
        refine r_lss m.sX (fun h8 => ?_) (fun h8 => ?_) <;> conv => cbv
        · refine r_mcall m.sX (cPick_ok code a15 s15 12 h (by omega) (by omega)) ?_
          rintro _ _ ⟨q11, rfl, ⟨a16, s16, rfl, ea16, fa16⟩, bq11, cq11, dq11⟩
          conv => cbv
          refine r_mcall m.sX (cPick_ok code a16 s16 12 h (by omega) (by omega)) ?_
          rintro _ _ ⟨q12, rfl, ⟨a17, s17, rfl, ea17, fa17⟩, bq12, cq12, dq12⟩
          conv => cbv
          refine r_mcall m.sX (cAmong_ok code a17 s17 ([0, 2, 5, q11, q12]) (by simp) h (by omega) (by omega)) ?_
          rintro _ _ ⟨q13, rfl, ⟨a18, s18, rfl, ea18, fa18⟩, bq13⟩
          simp only [List.mem_cons, List.not_mem_nil, or_false] at bq13
          conv => cbv
          refine r_append1 (q13) m.sX rfl (by first | omega | (dsimp only; omega)) (by first | omega | (dsimp only; omega)) fun row_4 hrow_4 => ?_
          conv => cbv
          have lrow_4 : (row_4.length : Int) = row_3.length + 1 := by rw [hrow_4]; first | done | (simp; done) | (simp; omega)
          refine hE2 _ (a18, s18, row_4) ?_ ?_ ⟨(by (try dsimp only); first | omega | (simp only [List.length_nil]; omega) | (simp only [List.length_cons, List.length_nil]; omega)), (by (try dsimp only); first | omega | (simp only [List.length_nil]; omega) | (simp only [List.length_cons, List.length_nil]; omega))⟩ (by first | omega | (dsimp only; omega))
          · cbv
          · cbv
        · refine hF2 _ _ ?_
          conv => cbv
          refine r_append1 (row_3) m.sX rfl (by first | omega | (dsimp only; omega)) (by first | omega | (dsimp only; omega)) fun l_6 hl_6 => ?_
          conv => cbv
          have ll_6 : (l_6.length : Int) = l_5.length + 1 := by rw [hl_6]; first | done | (simp; done) | (simp; omega)
          refine hE _ (a15, s15, l_6) ?_ ?_ ⟨(by (try dsimp only); first | omega | (simp only [List.length_nil]; omega) | (simp only [List.length_cons, List.length_nil]; omega)), (by (try dsimp only); first | omega | (simp only [List.length_nil]; omega) | (simp only [List.length_cons, List.length_nil]; omega)), (by (try dsimp only) <;> (rw [hl_6]; exact wideI_app wd (by omega)))⟩ (by first | omega | (dsimp only; omega))
          · cbv
          · cbv
      · refine hF _ _ ?_
        conv => cbv
        refine r_gtr m.sX (fun h9 => ?_) (fun h9 => ?_) <;> conv => cbv
        · refine r_mcall m.sX (cPick_ok code a14 s14 24 h (by omega) (by omega)) ?_
          rintro _ _ ⟨q14, rfl, ⟨a19, s19, rfl, ea19, fa19⟩, bq14, cq14, dq14⟩
          conv => cbv
          refine r_eql m.sX (fun h10 => ?_) (fun h10 => ?_) <;> conv => cbv
          · refine r_draw m (by kernel_rfl) ?_
            conv => cbv
            refine r_mcallS m.sY (cPick_ok code a19 s19 n h (by omega) (by omega)) (cPick_ex code a19 s19 n) (by rintro _ _ ⟨_, rfl, _⟩; first | trivial | (intro x hx; simp at hx; rcases hx with rfl | rfl | rfl <;> trivial)) ?_
            rintro _ _ ⟨q15, rfl, ⟨a20, s20, rfl, ea20, fa20⟩, bq15, cq15, dq15⟩
            conv => cbv
            refine r_oindex m.sY (by omega) (by omega) ?_
            conv => cbv
            obtain ⟨x5, hx5⟩ := get_ex (xs := l_5) (i := Int.toNat q15) (by omega)
            have mx5 := get_mem hx5
            have wx5 := wd x5 mx5
            refine r_oload m.sY hx5 (Nat.le_of_ble_eq_true rfl) ?_
            conv => cbv
            refine r_mcallS m.sY (cAmong_ok code a20 s20 ([-1, 200, 201, 190]) (by simp) h (by omega) (by omega)) (cAmong_ex code a20 s20 ([-1, 200, 201, 190]) (by simp)) (by rintro _ _ ⟨_, rfl, _⟩; first | trivial | (intro x hx; simp at hx; rcases hx with rfl | rfl | rfl <;> trivial)) ?_
            rintro _ _ ⟨q16, rfl, ⟨a21, s21, rfl, ea21, fa21⟩, bq16⟩
            simp only [List.mem_cons, List.not_mem_nil, or_false] at bq16
            conv => cbv
            refine r_oload m.sY hx5 (Nat.le_of_ble_eq_true rfl) ?_
            conv => cbv
            refine r_oindex m.sY (by omega) (by omega) ?_
            conv => cbv
            refine r_oload m.sY hx5 (Nat.le_of_ble_eq_true rfl) ?_
            conv => cbv
            obtain ⟨x6, hx6⟩ := get_ex (xs := x5) (i := 0) (by omega)
            refine r_ostore (l := 0) (q16) m.sY hx6 (Nat.le_of_ble_eq_true rfl) rfl fun cx6 hcx6 => ?_
            conv => cbv
            refine r_ostore (l := Int.toNat q15) cx6 m.sY hx5 (Nat.le_of_ble_eq_true rfl) rfl fun dx6 hdx6 => ?_
            have ldx6 : (dx6.length : Int) = l_5.length := by rw [hdx6]; simp
            conv => cbv
            exact hQ (.isl 1 (coolL (rows cRun dx6))) (cCur code a21 s21) ⟨dx6, by rw [cool_runs]; rfl, ⟨a21, s21, rfl, by omega, by omega⟩, (by first | omega | assumption | (simp; done) | (simp [*]; done) | (simp at *; omega))⟩   -- leaf 6
          · refine r_eql m.sX (fun h11 => ?_) (fun h11 => ?_) <;> conv => cbv
            · have := m.z
              refine r_chg (s' := freezeS _ 41 (rows (cSl 1 cInt) l_5)) m (chg_freeze (ver := 0) (e := 27) (sz := 1) (es := rows cRun l_5) (by rfl) (cool_runs l_5)) ?_
              conv => cbv
              refine r_draw m (by kernel_rfl) ?_
              conv => cbv
              refine r_mcallS m.sY (cPick_ok code a19 s19 n h (by omega) (by omega)) (cPick_ex code a19 s19 n) (by rintro _ _ ⟨_, rfl, _⟩; first | trivial | (intro x hx; simp at hx; rcases hx with rfl | rfl | rfl <;> trivial)) ?_
              rintro _ _ ⟨q17, rfl, ⟨a22, s22, rfl, ea22, fa22⟩, bq17, cq17, dq17⟩
              conv => cbv
              refine r_oindex m.sY (by omega) (by omega) ?_
              conv => cbv
              obtain ⟨x7, hx7⟩ := get_ex (xs := l_5) (i := Int.toNat 0) (by omega)
              have mx7 := get_mem hx7
              have wx7 := wd x7 mx7
              refine r_oload m.sY hx7 (Nat.le_of_ble_eq_true rfl) ?_
              conv => cbv
              refine r_islice' (i := 1) m.sY (by omega) (by omega) fun zs3 hzs3 => ?_   -- zs3 = x7[1:None]
              have lzs3 : (zs3.length : Int) = x7.length - 1 := by rw [hzs3]; first | done | (simp; done) | (simp; omega)
              conv => cbv
              refine r_oindex m.sY (by omega) (by omega) ?_
              conv => cbv
              obtain ⟨y3, hy3⟩ := get_ex (xs := l_5) (i := Int.toNat q17) (by omega)
              refine r_ostore (l := Int.toNat q17) zs3 m.sY hy3 (Nat.le_of_ble_eq_true rfl) rfl fun l_7 hl_7 => ?_   -- l_7 = l_5.set q17 zs3
              have ll_7 : (l_7.length : Int) = l_5.length := by rw [hl_7]; first | done | (simp; done) | (simp; omega)
              conv => cbv
              exact hQ (.fr 27 1 (rows (cSl 1 cInt) l_7)) (cCur code a22 s22) ⟨l_7, rfl, ⟨a22, s22, rfl, by omega, by omega⟩, (by first | omega | assumption | (simp; done) | (simp [*]; done) | (simp at *; omega))⟩   -- leaf 7
            · refine r_eql m.sX (fun h12 => ?_) (fun h12 => ?_) <;> conv => cbv
              · have := m.z
                refine r_chg (s' := freezeS _ 41 (rows (cSl 1 cInt) l_5)) m (chg_freeze (ver := 0) (e := 27) (sz := 1) (es := rows cRun l_5) (by rfl) (cool_runs l_5)) ?_
                refine r_region m ?_
                conv => cbv
                refine r_subf m.sX (by omega) (by omega) fun r3 hr3 => ?_
                conv => cbv
                refine r_subf m.sX (by omega) (by omega) fun r4 hr4 => ?_
                conv => cbv
                refine r_oindex m.sX (by omega) (by omega) ?_
                conv => cbv
                obtain ⟨x8, hx8⟩ := get_ex (xs := l_5) (i := Int.toNat r4) (by omega)
                have mx8 := get_mem hx8
                have wx8 := wd x8 mx8
                refine r_oload m.sX hx8 (Nat.le_of_ble_eq_true rfl) ?_
                conv => cbv
                refine r_callF (fun l => PV.fr _ _ (rows _ l)) m.sX (l1Own_ok x8 (by first | rfl | assumption | omega | (simp only [List.length_append, List.length_cons, List.length_nil] at *; omega))) fun v2 hv2 => ?_
                conv => cbv
                have lv2 := congrArg List.length hv2
                refine r_append1 (1) m.sX rfl (by first | omega | (dsimp only; omega)) (by first | omega | (dsimp only; omega)) fun zs4 hzs4 => ?_
                conv => cbv
                have lzs4 : (zs4.length : Int) = v2.length + 1 := by rw [hzs4]; first | done | (simp; done) | (simp; omega)
                refine r_oindex m.sX (by omega) (by omega) ?_
                conv => cbv
                obtain ⟨y4, hy4⟩ := get_ex (xs := l_5) (i := Int.toNat r3) (by omega)
                refine r_ostore (l := Int.toNat r3) zs4 m.sX hy4 (Nat.le_of_ble_eq_true rfl) rfl fun l_8 hl_8 => ?_   -- l_8 = l_5.set r3 zs4
                have ll_8 : (l_8.length : Int) = l_5.length := by rw [hl_8]; first | done | (simp; done) | (simp; omega)
                conv => cbv
                exact hQ (.fr 27 1 (rows (cSl 1 cInt) l_8)) (cCur code a19 s19) ⟨l_8, rfl, ⟨a19, s19, rfl, by omega, by omega⟩, (by first | omega | assumption | (simp; done) | (simp [*]; done) | (simp at *; omega))⟩   -- leaf 8
              · exact hQ (.isl 1 (coolL (rows cRun l_5))) (cCur code a19 s19) ⟨l_5, by rw [cool_runs]; rfl, ⟨a19, s19, rfl, by omega, by omega⟩, (by first | omega | assumption | (simp; done) | (simp [*]; done) | (simp at *; omega))⟩   -- leaf 9
        · exact hQ (.isl 1 (coolL (rows cRun l_5))) (cCur code a14 s14) ⟨l_5, by rw [cool_runs]; rfl, ⟨a14, s14, rfl, by omega, by omega⟩, (by first | omega | assumption | (simp; done) | (simp [*]; done) | (simp at *; omega))⟩)   -- leaf 10

theorem cParallel_ex (code : List Int) (b0 t0 : Int) : ∃ r cs, (∃ (q : List (List Int)), r = PV.isl 1 (rows (cSl 1 cInt) q) ∧ CurTo code b0 2000 cs ∧ ((q.length : Int) ≤ 25)) :=
  ⟨_, _, [], rfl, ⟨b0, t0, rfl, by omega, by omega⟩, (by first | omega | simp)⟩


/- Contracts of what FnPageBreaks draws. -/
theorem drawPageBreaks_ok (code : List Int) (h : CurIn code) : OkA Try.prog 7 [.isl 1 (rows cU8 code)] (fun r => ∃ (q1 : List (List Int)) (q2 : Int), r = .tup [.isl 1 (rows (cSl 1 cInt) q1), .int .i64 q2] ∧ ((q1.length : Int) ≤ 25)) :=
  fn_intro envOk fieldsOk mixed Try.func7 rfl fun κ X Y L Q m hQ => by
    conv => cbv
    refine r_mcall m.sX (cParallel_ok code 0 0 h (by omega) (by omega)) ?_
    rintro _ _ ⟨q1, rfl, ⟨a1, s1, rfl, ea1, fa1⟩, bq1_1⟩
    conv => cbv
    refine r_mcall m.sX (cAmong_ok code a1 s1 ([1, 1000, 0, 1001, 11]) (by simp) h (by omega) (by omega)) ?_
    rintro _ _ ⟨q2, rfl, ⟨a2, s2, rfl, ea2, fa2⟩, bq2⟩
    simp only [List.mem_cons, List.not_mem_nil, or_false] at bq2
    conv => cbv
    refine r_mcall m.sX (cAmong_ok code a2 s2 ([12, 15, 20, 30, q2]) (by simp) h (by omega) (by omega)) ?_
    rintro _ _ ⟨q3, rfl, ⟨a3, s3, rfl, ea3, fa3⟩, bq3⟩
    simp only [List.mem_cons, List.not_mem_nil, or_false] at bq3
    conv => cbv
    exact hQ (.tup [.isl 1 (rows (cSl 1 cInt) q1), .int .i64 q3]) ⟨q1, q3, rfl, (by first | omega | assumption | (simp; done) | (simp [*]; done) | (simp at *; omega))⟩   -- leaf 1

theorem drawLeaveMarks_ok (code : List Int) (h : CurIn code) : OkA Try.prog 16 [.isl 1 (rows cU8 code)] (fun r => ∃ (q1 : List (List Int)) (q2 : Int), r = .tup [.isl 1 (rows (cSl 1 cInt) q1), .int .i64 q2] ∧ ((q1.length : Int) ≤ 25)) :=
  fn_intro envOk fieldsOk mixed Try.func16 rfl fun κ X Y L Q m hQ => by
    conv => cbv
    refine r_mcall m.sX (cParallel_ok code 0 0 h (by omega) (by omega)) ?_
    rintro _ _ ⟨l, rfl, ⟨a1, s1, rfl, ea1, fa1⟩, bl_1⟩
    conv => cbv
    refine r_lenR m.sX fun n1 hn1 mn1 => ?_
    conv => cbv
    refine r_gtr m.sX (fun h1 => ?_) (fun h1 => ?_) <;> conv => cbv
    · refine r_mcall m.sX (cOne_ok code a1 s1 3 h (by omega) (by omega)) ?_
      rintro _ _ ⟨q1, rfl, ⟨a2, s2, rfl, ea2, fa2⟩⟩
      conv => cbv
      rcases Bool.eq_false_or_eq_true q1 with rfl | rfl <;> conv => cbv
      · refine r_mcall m.sX (cAmong_ok code a2 s2 ([2, -1, 5]) (by simp) h (by omega) (by omega)) ?_
        rintro _ _ ⟨q2, rfl, ⟨a3, s3, rfl, ea3, fa3⟩, bq2⟩
        simp only [List.mem_cons, List.not_mem_nil, or_false] at bq2
        conv => cbv
        refine r_mcall m.sX (cAmong_ok code a3 s3 ([0, 1, 2, 3, 4, q2]) (by simp) h (by omega) (by omega)) ?_
        rintro _ _ ⟨q3, rfl, ⟨a4, s4, rfl, ea4, fa4⟩, bq3⟩
        simp only [List.mem_cons, List.not_mem_nil, or_false] at bq3
        conv => cbv
        exact hQ (.tup [.isl 1 (rows (cSl 1 cInt) l), .int .i64 q3]) ⟨l, q3, rfl, (by first | omega | assumption | (simp; done) | (simp [*]; done) | (simp at *; omega))⟩   -- leaf 1
      · refine r_islice (i := 0) (j := 12) m.sX (by omega) (by omega) (by omega) fun l_2 hl_2 => ?_   -- l_2 = l[None:12]
        have ll_2 : (l_2.length : Int) = 12 - 0 := by rw [hl_2]; first | done | (simp; done) | (simp; omega)
        conv => cbv
        refine r_mcall m.sX (cAmong_ok code a2 s2 ([2, -1, 5]) (by simp) h (by omega) (by omega)) ?_
        rintro _ _ ⟨q4, rfl, ⟨a5, s5, rfl, ea5, fa5⟩, bq4⟩
        simp only [List.mem_cons, List.not_mem_nil, or_false] at bq4
        conv => cbv
        refine r_mcall m.sX (cAmong_ok code a5 s5 ([0, 1, 2, 3, 4, q4]) (by simp) h (by omega) (by omega)) ?_
        rintro _ _ ⟨q5, rfl, ⟨a6, s6, rfl, ea6, fa6⟩, bq5⟩
        simp only [List.mem_cons, List.not_mem_nil, or_false] at bq5
        conv => cbv
        exact hQ (.tup [.isl 1 (rows (cSl 1 cInt) l_2), .int .i64 q5]) ⟨l_2, q5, rfl, (by first | omega | assumption | (simp; done) | (simp [*]; done) | (simp at *; omega))⟩   -- leaf 2
    · refine r_mcall m.sX (cAmong_ok code a1 s1 ([2, -1, 5]) (by simp) h (by omega) (by omega)) ?_
      rintro _ _ ⟨q6, rfl, ⟨a7, s7, rfl, ea7, fa7⟩, bq6⟩
      simp only [List.mem_cons, List.not_mem_nil, or_false] at bq6
      conv => cbv
      refine r_mcall m.sX (cAmong_ok code a7 s7 ([0, 1, 2, 3, 4, q6]) (by simp) h (by omega) (by omega)) ?_
      rintro _ _ ⟨q7, rfl, ⟨a8, s8, rfl, ea8, fa8⟩, bq7⟩
      simp only [List.mem_cons, List.not_mem_nil, or_false] at bq7
      conv => cbv
      exact hQ (.tup [.isl 1 (rows (cSl 1 cInt) l), .int .i64 q7]) ⟨l, q7, rfl, (by first | omega | assumption | (simp; done) | (simp [*]; done) | (simp at *; omega))⟩   -- leaf 3


end Go.Proofs.Ytalookmhhkojeaa.Ai
