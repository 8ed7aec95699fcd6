/- Contracts of what FnStates draws. -/
import Derived.Test.YtngefbdedbbplaaMarkDraw
import Derived.Test.YtngefbdedbbplaaChanges
import Derived.Test.YtngefbdedbbplaaAiCut
namespace Go.Proofs.Ytngefbdedbbplaa.Ai
open Go Go.Proofs
set_option linter.unusedSimpArgs false
set_option maxRecDepth 10000
set_option maxHeartbeats 4000000
set_option linter.unusedVariables false
theorem lens_app {l : List (List Tx)} {n : Nat} (h : ∀ p ∈ l, p.length = n) {y : List Tx} (hy : y.length = n) : ∀ p ∈ l ++ [y], p.length = n := fun x hx => by
  rcases List.mem_append.1 hx with hx | hx
  · exact h x hx
  · rw [List.mem_singleton.1 hx]; exact hy
theorem lens_set {l : List (List Tx)} {n : Nat} (h : ∀ p ∈ l, p.length = n) {k : Nat} {y : List Tx} (hn : n ≤ 13) (hy : y.length = n + 1) : ∀ p ∈ l.set k y, p.length ≤ 14 := fun x hx => by
  rcases List.mem_or_eq_of_mem_set hx with hx | rfl
  · have := h x hx; omega
  · omega
theorem lens_le {l : List (List Tx)} {n : Nat} (h : ∀ p ∈ l, p.length = n) (hn : n ≤ 13) : ∀ p ∈ l, p.length ≤ 14 := fun x hx => by have := h x hx; omega
theorem cStates_ok (code : List Int) (b0 t0 : Int)  (h : CurIn code) (h0 : 0 ≤ b0) (hk : b0 ≤ 899999999970000000)  : OkM Try.prog 60 (cCur code b0 t0) [] (fun r cs => ∃ (q : List (List (List UInt8))), r = .isl 1 (rows (cSl 1 cStr) q) ∧ CurTo code b0 30000 cs ∧ ((q.length : Int) ≤ 7) ∧ (∀ p ∈ q, p.length ≤ 14)) :=
  OkM.iceR (OkM.unnil 29 1 (fnM_intro envOk fieldsOk mixed Try.func60 rfl fun κ X Y L Q m hQ => by
    conv => cbv
    refine r_mcall m.sX (cProof_ok code b0 t0 h (by omega) (by omega)) ?_
    rintro _ _ ⟨lines, rfl, ⟨a1, s1, rfl, ea1, fa1⟩, blines_1, blines_2⟩
    conv => cbv
    refine r_mcall m.sX (cPick_ok code a1 s1 4 h (by omega) (by omega)) ?_
    rintro _ _ ⟨q1, rfl, ⟨a2, s2, rfl, ea2, fa2⟩, bq1, cq1, dq1⟩
    conv => cbv
    refine r_addf m.sX (by omega) (by omega) fun n hn => ?_
    conv => cbv
    refine r_mcall m.sX (cOne_ok code a2 s2 12 h (by omega) (by omega)) ?_
    rintro _ _ ⟨q2, rfl, ⟨a3, s3, rfl, ea3, fa3⟩⟩
    conv => cbv
    rcases Bool.eq_false_or_eq_true q2 with rfl | rfl <;> conv => cbv
    · refine r_mcall m.sX (cPick_ok code a3 s3 2 h (by omega) (by omega)) ?_
      rintro _ _ ⟨q3, rfl, ⟨a4, s4, rfl, ea4, fa4⟩, bq3, cq3, dq3⟩
      conv => cbv
      refine r_addf m.sX (by omega) (by omega) fun n_2 hn_2 => ?_
      conv => cbv
      refine r_loopF (α := Int × Int × List (List (List UInt8))) m 80 [3, 5] [⟨0, 1, 0, 0, 0⟩, ⟨4, 33, 29, 1, 0⟩] (fun σ => [(0, .optr 1 0 0 0 0), (3, .isl 1 (rows cStr lines)), (4, .osl 33 0), (5, .int .i64 n_2)]) (fun σ => [(1, 0, .box (cCur code σ.1 σ.2.1)), (33, 0, .row 29 1 (rows (cSl 1 cStr) σ.2.2))])
        (fun σ => ((σ.2.2.length : Int) ≤ n_2) ∧ (a4 ≤ σ.1 ∧ σ.1 ≤ a4 + 2000 * (σ.2.2.length : Int)) ∧ (1 ≤ (σ.2.2.length : Int)) ∧ (∀ p ∈ σ.2.2, p.length = lines.length)) (fun σ => (n_2 - (σ.2.2.length : Int)).toNat) (a4, s4, [lines]) ?_ ?_ ?_ ?_
      · cbv
      · (try dsimp only); (try simp only [rows_cons, rows_nil]); cbv
      · exact ⟨(by (try dsimp only); first | omega | (simp only [List.length_nil]; omega) | (simp only [List.length_cons, List.length_nil]; omega)), (by (try dsimp only); first | omega | (simp only [List.length_nil]; omega) | (simp only [List.length_cons, List.length_nil]; omega)), (by (try dsimp only) <;> first | omega | rfl | (simp [*]; done)), (by (try dsimp only) <;> (intro p hp; rw [List.mem_singleton.1 hp]))⟩
      rintro ⟨a5, s5, l⟩ ⟨ll1, cl1, nn, pw⟩ E hE F hF
      dsimp only at ll1 cl1 nn pw
      conv => cbv
      refine r_lenR m.sX fun n1 hn1 mn1 => ?_
      conv => cbv
      refine r_lss m.sX (fun h1 => ?_) (fun h1 => ?_) <;> conv => cbv
      · refine r_lenR m.sX fun n2 hn2 mn2 => ?_
        conv => cbv
        refine r_subf m.sX (by omega) (by omega) fun r1 hr1 => ?_
        conv => cbv
        refine r_oindex m.sX (by omega) (by omega) ?_
        conv => cbv
        obtain ⟨x1, hx1⟩ := get_ex (xs := l) (i := Int.toNat r1) (by omega)
        have mx1 := get_mem hx1
        have px := pw x1 mx1
        refine r_oload m.sX hx1 (Nat.le_of_ble_eq_true rfl) ?_
        conv => cbv
        refine r_append0R m.sX (by first | omega | (dsimp only; omega)) (by first | omega | (dsimp only; omega)) fun next hnext => ?_
        conv => cbv
        have lnext : (next.length : Int) = x1.length := by rw [hnext]; first | done | (simp; done) | (simp; omega)
        refine r_lenR m.sX fun n3 hn3 mn3 => ?_
        conv => cbv
        refine r_gtr m.sX (fun h2 => ?_) (fun h2 => ?_) <;> conv => cbv
        · refine r_mcall m.sX (cOne_ok code a5 s5 6 h (by omega) (by omega)) ?_
          rintro _ _ ⟨q4, rfl, ⟨a6, s6, rfl, ea6, fa6⟩⟩
          conv => cbv
          rcases Bool.eq_false_or_eq_true q4 with rfl | rfl <;> conv => cbv
          · refine r_append1 (next) m.sX rfl (by first | omega | (dsimp only; omega)) (by first | omega | (dsimp only; omega)) fun l_2 hl_2 => ?_
            conv => cbv
            have ll_2 : (l_2.length : Int) = l.length + 1 := by rw [hl_2]; first | done | (simp; done) | (simp; omega)
            refine hE _ (a6, s6, l_2) ?_ ?_ ⟨(by (try dsimp only); first | omega | (simp only [List.length_nil]; omega) | (simp only [List.length_cons, List.length_nil]; omega)), (by (try dsimp only); first | omega | (simp only [List.length_nil]; omega) | (simp only [List.length_cons, List.length_nil]; omega)), (by (try dsimp only) <;> first | omega | rfl | (simp [*]; done) | (rw [nn]; simp [*]; done)), (by (try dsimp only) <;> (rw [hl_2]; exact lens_app pw (by omega)))⟩ (by first | omega | (dsimp only; omega))
            · cbv
            · cbv
          · refine r_lenR m.sX fun n4 hn4 mn4 => ?_
            conv => cbv
            refine r_mcall m.sX (cPick_ok code a6 s6 n4 h (by omega) (by omega)) ?_
            rintro _ _ ⟨k, rfl, ⟨a7, s7, rfl, ea7, fa7⟩, bk, ck, dk⟩
            conv => cbv
            refine r_mcall m.sX (cPrinted_ok code a7 s7 h (by omega) (by omega)) ?_
            rintro _ _ ⟨q5, rfl, ⟨a8, s8, rfl, ea8, fa8⟩, bq5_1⟩
            conv => cbv
            refine r_oindex m.sX (by omega) (by omega) ?_
            conv => cbv
            obtain ⟨y1, hy1⟩ := get_ex (xs := next) (i := Int.toNat k) (by omega)
            refine r_ostore (l := Int.toNat k) q5 m.sX hy1 (Nat.le_of_ble_eq_true rfl) rfl fun zs1 hzs1 => ?_   -- zs1 = next.set k q5
            have lzs1 : (zs1.length : Int) = next.length := by rw [hzs1]; first | done | (simp; done) | (simp; omega)
            conv => cbv
            refine r_mcall m.sX (cOne_ok code a8 s8 3 h (by omega) (by omega)) ?_
            rintro _ _ ⟨q6, rfl, ⟨a9, s9, rfl, ea9, fa9⟩⟩
            conv => cbv
            rcases Bool.eq_false_or_eq_true q6 with rfl | rfl <;> conv => cbv
            · refine r_oindex m.sX (by omega) (by omega) ?_
              conv => cbv
              obtain ⟨x2, hx2⟩ := get_ex (xs := l) (i := Int.toNat 0) (by omega)
              have mx2 := get_mem hx2
              have px2 := pw x2 mx2
              refine r_oload m.sX hx2 (Nat.le_of_ble_eq_true rfl) ?_
              conv => cbv
              refine r_index m.sX (by omega) (by omega) fun x3 hx3 => ?_
              conv => cbv
              have mx3 := get_mem hx3
              refine r_oindex m.sX (by omega) (by omega) ?_
              conv => cbv
              obtain ⟨y2, hy2⟩ := get_ex (xs := zs1) (i := Int.toNat k) (by omega)
              refine r_ostore (l := Int.toNat k) x3 m.sX hy2 (Nat.le_of_ble_eq_true rfl) rfl fun zs2 hzs2 => ?_   -- zs2 = zs1.set k x3
              have lzs2 : (zs2.length : Int) = zs1.length := by rw [hzs2]; first | done | (simp; done) | (simp; omega)
              conv => cbv
              refine r_append1 (zs2) m.sX rfl (by first | omega | (dsimp only; omega)) (by first | omega | (dsimp only; omega)) fun l_3 hl_3 => ?_
              conv => cbv
              have ll_3 : (l_3.length : Int) = l.length + 1 := by rw [hl_3]; first | done | (simp; done) | (simp; omega)
              refine hE _ (a9, s9, l_3) ?_ ?_ ⟨(by (try dsimp only); first | omega | (simp only [List.length_nil]; omega) | (simp only [List.length_cons, List.length_nil]; omega)), (by (try dsimp only); first | omega | (simp only [List.length_nil]; omega) | (simp only [List.length_cons, List.length_nil]; omega)), (by (try dsimp only) <;> first | omega | rfl | (simp [*]; done) | (rw [nn]; simp [*]; done)), (by (try dsimp only) <;> (rw [hl_3]; exact lens_app pw (by omega)))⟩ (by first | omega | (dsimp only; omega))
              · cbv
              · cbv
            · refine r_append1 (zs1) m.sX rfl (by first | omega | (dsimp only; omega)) (by first | omega | (dsimp only; omega)) fun l_4 hl_4 => ?_
              conv => cbv
              have ll_4 : (l_4.length : Int) = l.length + 1 := by rw [hl_4]; first | done | (simp; done) | (simp; omega)
              refine hE _ (a9, s9, l_4) ?_ ?_ ⟨(by (try dsimp only); first | omega | (simp only [List.length_nil]; omega) | (simp only [List.length_cons, List.length_nil]; omega)), (by (try dsimp only); first | omega | (simp only [List.length_nil]; omega) | (simp only [List.length_cons, List.length_nil]; omega)), (by (try dsimp only) <;> first | omega | rfl | (simp [*]; done) | (rw [nn]; simp [*]; done)), (by (try dsimp only) <;> (rw [hl_4]; exact lens_app pw (by omega)))⟩ (by first | omega | (dsimp only; omega))
              · cbv
              · cbv
        · refine r_append1 (next) m.sX rfl (by first | omega | (dsimp only; omega)) (by first | omega | (dsimp only; omega)) fun l_5 hl_5 => ?_
          conv => cbv
          have ll_5 : (l_5.length : Int) = l.length + 1 := by rw [hl_5]; first | done | (simp; done) | (simp; omega)
          refine hE _ (a5, s5, l_5) ?_ ?_ ⟨(by (try dsimp only); first | omega | (simp only [List.length_nil]; omega) | (simp only [List.length_cons, List.length_nil]; omega)), (by (try dsimp only); first | omega | (simp only [List.length_nil]; omega) | (simp only [List.length_cons, List.length_nil]; omega)), (by (try dsimp only) <;> first | omega | rfl | (simp [*]; done) | (rw [nn]; simp [*]; done)), (by (try dsimp only) <;> (rw [hl_5]; exact lens_app pw (by omega)))⟩ (by first | omega | (dsimp only; omega))
          · cbv
          · cbv
      · refine hF _ _ ?_
        conv => cbv
        refine r_mcall m.sX (cPick_ok code a5 s5 24 h (by omega) (by omega)) ?_
        rintro _ _ ⟨q7, rfl, ⟨a10, s10, rfl, ea10, fa10⟩, bq7, cq7, dq7⟩
        have pe := lens_le pw (by omega)
        conv => cbv
        refine r_eql m.sX (fun h3 => ?_) (fun h3 => ?_) <;> conv => cbv
        · exact hQ (.nil) (cCur code a10 s10) ⟨[], (by first | rfl | (simp only [rows_nil]; rfl) | (simp only [rows_cons, rows_nil]; rfl)), ⟨a10, s10, rfl, by omega, by omega⟩, (by first | omega | assumption | (simp; done) | (simp [*]; done) | (simp at *; omega)), (by first | omega | assumption | (simp; done) | (simp [*]; done) | (simp at *; omega))⟩   -- leaf 1
        · refine r_eql m.sX (fun h4 => ?_) (fun h4 => ?_) <;> conv => cbv
          · refine r_subf m.sX (by omega) (by omega) fun r2 hr2 => ?_
            conv => cbv
            refine r_append0R m.sX (by first | omega | (dsimp only; omega)) (by first | omega | (dsimp only; omega)) fun zs3 hzs3 => ?_
            conv => cbv
            have lzs3 : (zs3.length : Int) = lines.length := by rw [hzs3]; first | done | (simp; done) | (simp; omega)
            refine r_append1 (([120] : List UInt8)) m.sX rfl (by first | omega | (dsimp only; omega)) (by first | omega | (dsimp only; omega)) fun zs4 hzs4 => ?_
            conv => cbv
            have lzs4 : (zs4.length : Int) = zs3.length + 1 := by rw [hzs4]; first | done | (simp; done) | (simp; omega)
            refine r_oindex m.sX (by omega) (by omega) ?_
            conv => cbv
            obtain ⟨y3, hy3⟩ := get_ex (xs := l) (i := Int.toNat r2) (by omega)
            refine r_ostore (l := Int.toNat r2) zs4 m.sX hy3 (Nat.le_of_ble_eq_true rfl) rfl fun l_6 hl_6 => ?_   -- l_6 = l.set r2 zs4
            have ll_6 : (l_6.length : Int) = l.length := by rw [hl_6]; first | done | (simp; done) | (simp; omega)
            have pz : ∀ p ∈ l_6, p.length ≤ 14 := (by rw [hl_6]; exact lens_set pw (by omega) (by omega))
            conv => cbv
            exact hQ (.fr 29 1 (rows (cSl 1 cStr) l_6)) (cCur code a10 s10) ⟨l_6, rfl, ⟨a10, s10, rfl, by omega, by omega⟩, (by first | omega | assumption | (simp; done) | (simp [*]; done) | (simp at *; omega)), (by first | omega | assumption | (simp; done) | (simp [*]; done) | (simp at *; omega))⟩   -- leaf 2
          · exact hQ (.fr 29 1 (rows (cSl 1 cStr) l)) (cCur code a10 s10) ⟨l, rfl, ⟨a10, s10, rfl, by omega, by omega⟩, (by first | omega | assumption | (simp; done) | (simp [*]; done) | (simp at *; omega)), (by first | omega | assumption | (simp; done) | (simp [*]; done) | (simp at *; omega))⟩   -- leaf 3
    · refine r_loopF (α := Int × Int × List (List (List UInt8))) m 80 [3, 5] [⟨0, 1, 0, 0, 0⟩, ⟨4, 33, 29, 1, 0⟩] (fun σ => [(0, .optr 1 0 0 0 0), (3, .isl 1 (rows cStr lines)), (4, .osl 33 0), (5, .int .i64 n)]) (fun σ => [(1, 0, .box (cCur code σ.1 σ.2.1)), (33, 0, .row 29 1 (rows (cSl 1 cStr) σ.2.2))])
        (fun σ => ((σ.2.2.length : Int) ≤ n) ∧ (a3 ≤ σ.1 ∧ σ.1 ≤ a3 + 2000 * (σ.2.2.length : Int)) ∧ (1 ≤ (σ.2.2.length : Int)) ∧ (∀ p ∈ σ.2.2, p.length = lines.length)) (fun σ => (n - (σ.2.2.length : Int)).toNat) (a3, s3, [lines]) ?_ ?_ ?_ ?_
      · cbv
      · (try dsimp only); (try simp only [rows_cons, rows_nil]); cbv
      · exact ⟨(by (try dsimp only); first | omega | (simp only [List.length_nil]; omega) | (simp only [List.length_cons, List.length_nil]; omega)), (by (try dsimp only); first | omega | (simp only [List.length_nil]; omega) | (simp only [List.length_cons, List.length_nil]; omega)), (by (try dsimp only) <;> first | omega | rfl | (simp [*]; done)), (by (try dsimp only) <;> (intro p hp; rw [List.mem_singleton.1 hp]))⟩
      rintro ⟨a11, s11, l_7⟩ ⟨ll2, cl2, nn, pw⟩ E hE F hF
      dsimp only at ll2 cl2 nn pw
      conv => cbv
      refine r_lenR m.sX fun n5 hn5 mn5 => ?_
      conv => cbv
      refine r_lss m.sX (fun h5 => ?_) (fun h5 => ?_) <;> conv => cbv
      · refine r_lenR m.sX fun n6 hn6 mn6 => ?_
        conv => cbv
        refine r_subf m.sX (by omega) (by omega) fun r3 hr3 => ?_
        conv => cbv
        refine r_oindex m.sX (by omega) (by omega) ?_
        conv => cbv
        obtain ⟨x4, hx4⟩ := get_ex (xs := l_7) (i := Int.toNat r3) (by omega)
        have mx4 := get_mem hx4
        have px := pw x4 mx4
        refine r_oload m.sX hx4 (Nat.le_of_ble_eq_true rfl) ?_
        conv => cbv
        refine r_append0R m.sX (by first | omega | (dsimp only; omega)) (by first | omega | (dsimp only; omega)) fun next_2 hnext_2 => ?_
        conv => cbv
        have lnext_2 : (next_2.length : Int) = x4.length := by rw [hnext_2]; first | done | (simp; done) | (simp; omega)
        refine r_lenR m.sX fun n7 hn7 mn7 => ?_
        conv => cbv
        refine r_gtr m.sX (fun h6 => ?_) (fun h6 => ?_) <;> conv => cbv
        · refine r_mcall m.sX (cOne_ok code a11 s11 6 h (by omega) (by omega)) ?_
          rintro _ _ ⟨q8, rfl, ⟨a12, s12, rfl, ea12, fa12⟩⟩
          conv => cbv
          rcases Bool.eq_false_or_eq_true q8 with rfl | rfl <;> conv => cbv
          · refine r_append1 (next_2) m.sX rfl (by first | omega | (dsimp only; omega)) (by first | omega | (dsimp only; omega)) fun l_8 hl_8 => ?_
            conv => cbv
            have ll_8 : (l_8.length : Int) = l_7.length + 1 := by rw [hl_8]; first | done | (simp; done) | (simp; omega)
            refine hE _ (a12, s12, l_8) ?_ ?_ ⟨(by (try dsimp only); first | omega | (simp only [List.length_nil]; omega) | (simp only [List.length_cons, List.length_nil]; omega)), (by (try dsimp only); first | omega | (simp only [List.length_nil]; omega) | (simp only [List.length_cons, List.length_nil]; omega)), (by (try dsimp only) <;> first | omega | rfl | (simp [*]; done) | (rw [nn]; simp [*]; done)), (by (try dsimp only) <;> (rw [hl_8]; exact lens_app pw (by omega)))⟩ (by first | omega | (dsimp only; omega))
            · cbv
            · cbv
          · refine r_lenR m.sX fun n8 hn8 mn8 => ?_
            conv => cbv
            refine r_mcall m.sX (cPick_ok code a12 s12 n8 h (by omega) (by omega)) ?_
            rintro _ _ ⟨k_2, rfl, ⟨a13, s13, rfl, ea13, fa13⟩, bk_2, ck_2, dk_2⟩
            conv => cbv
            refine r_mcall m.sX (cPrinted_ok code a13 s13 h (by omega) (by omega)) ?_
            rintro _ _ ⟨q9, rfl, ⟨a14, s14, rfl, ea14, fa14⟩, bq9_1⟩
            conv => cbv
            refine r_oindex m.sX (by omega) (by omega) ?_
            conv => cbv
            obtain ⟨y4, hy4⟩ := get_ex (xs := next_2) (i := Int.toNat k_2) (by omega)
            refine r_ostore (l := Int.toNat k_2) q9 m.sX hy4 (Nat.le_of_ble_eq_true rfl) rfl fun zs5 hzs5 => ?_   -- zs5 = next_2.set k_2 q9
            have lzs5 : (zs5.length : Int) = next_2.length := by rw [hzs5]; first | done | (simp; done) | (simp; omega)
            conv => cbv
            refine r_mcall m.sX (cOne_ok code a14 s14 3 h (by omega) (by omega)) ?_
            rintro _ _ ⟨q10, rfl, ⟨a15, s15, rfl, ea15, fa15⟩⟩
            conv => cbv
            rcases Bool.eq_false_or_eq_true q10 with rfl | rfl <;> conv => cbv
            · refine r_oindex m.sX (by omega) (by omega) ?_
              conv => cbv
              obtain ⟨x5, hx5⟩ := get_ex (xs := l_7) (i := Int.toNat 0) (by omega)
              have mx5 := get_mem hx5
              have px2 := pw x5 mx5
              refine r_oload m.sX hx5 (Nat.le_of_ble_eq_true rfl) ?_
              conv => cbv
              refine r_index m.sX (by omega) (by omega) fun x6 hx6 => ?_
              conv => cbv
              have mx6 := get_mem hx6
              refine r_oindex m.sX (by omega) (by omega) ?_
              conv => cbv
              obtain ⟨y5, hy5⟩ := get_ex (xs := zs5) (i := Int.toNat k_2) (by omega)
              refine r_ostore (l := Int.toNat k_2) x6 m.sX hy5 (Nat.le_of_ble_eq_true rfl) rfl fun zs6 hzs6 => ?_   -- zs6 = zs5.set k_2 x6
              have lzs6 : (zs6.length : Int) = zs5.length := by rw [hzs6]; first | done | (simp; done) | (simp; omega)
              conv => cbv
              refine r_append1 (zs6) m.sX rfl (by first | omega | (dsimp only; omega)) (by first | omega | (dsimp only; omega)) fun l_9 hl_9 => ?_
              conv => cbv
              have ll_9 : (l_9.length : Int) = l_7.length + 1 := by rw [hl_9]; first | done | (simp; done) | (simp; omega)
              refine hE _ (a15, s15, l_9) ?_ ?_ ⟨(by (try dsimp only); first | omega | (simp only [List.length_nil]; omega) | (simp only [List.length_cons, List.length_nil]; omega)), (by (try dsimp only); first | omega | (simp only [List.length_nil]; omega) | (simp only [List.length_cons, List.length_nil]; omega)), (by (try dsimp only) <;> first | omega | rfl | (simp [*]; done) | (rw [nn]; simp [*]; done)), (by (try dsimp only) <;> (rw [hl_9]; exact lens_app pw (by omega)))⟩ (by first | omega | (dsimp only; omega))
              · cbv
              · cbv
            · refine r_append1 (zs5) m.sX rfl (by first | omega | (dsimp only; omega)) (by first | omega | (dsimp only; omega)) fun l_10 hl_10 => ?_
              conv => cbv
              have ll_10 : (l_10.length : Int) = l_7.length + 1 := by rw [hl_10]; first | done | (simp; done) | (simp; omega)
              refine hE _ (a15, s15, l_10) ?_ ?_ ⟨(by (try dsimp only); first | omega | (simp only [List.length_nil]; omega) | (simp only [List.length_cons, List.length_nil]; omega)), (by (try dsimp only); first | omega | (simp only [List.length_nil]; omega) | (simp only [List.length_cons, List.length_nil]; omega)), (by (try dsimp only) <;> first | omega | rfl | (simp [*]; done) | (rw [nn]; simp [*]; done)), (by (try dsimp only) <;> (rw [hl_10]; exact lens_app pw (by omega)))⟩ (by first | omega | (dsimp only; omega))
              · cbv
              · cbv
        · refine r_append1 (next_2) m.sX rfl (by first | omega | (dsimp only; omega)) (by first | omega | (dsimp only; omega)) fun l_11 hl_11 => ?_
          conv => cbv
          have ll_11 : (l_11.length : Int) = l_7.length + 1 := by rw [hl_11]; first | done | (simp; done) | (simp; omega)
          refine hE _ (a11, s11, l_11) ?_ ?_ ⟨(by (try dsimp only); first | omega | (simp only [List.length_nil]; omega) | (simp only [List.length_cons, List.length_nil]; omega)), (by (try dsimp only); first | omega | (simp only [List.length_nil]; omega) | (simp only [List.length_cons, List.length_nil]; omega)), (by (try dsimp only) <;> first | omega | rfl | (simp [*]; done) | (rw [nn]; simp [*]; done)), (by (try dsimp only) <;> (rw [hl_11]; exact lens_app pw (by omega)))⟩ (by first | omega | (dsimp only; omega))
          · cbv
          · cbv
      · refine hF _ _ ?_
        conv => cbv
        refine r_mcall m.sX (cPick_ok code a11 s11 24 h (by omega) (by omega)) ?_
        rintro _ _ ⟨q11, rfl, ⟨a16, s16, rfl, ea16, fa16⟩, bq11, cq11, dq11⟩
        have pe := lens_le pw (by omega)
        conv => cbv
        refine r_eql m.sX (fun h7 => ?_) (fun h7 => ?_) <;> conv => cbv
        · exact hQ (.nil) (cCur code a16 s16) ⟨[], (by first | rfl | (simp only [rows_nil]; rfl) | (simp only [rows_cons, rows_nil]; rfl)), ⟨a16, s16, rfl, by omega, by omega⟩, (by first | omega | assumption | (simp; done) | (simp [*]; done) | (simp at *; omega)), (by first | omega | assumption | (simp; done) | (simp [*]; done) | (simp at *; omega))⟩   -- leaf 4
        · refine r_eql m.sX (fun h8 => ?_) (fun h8 => ?_) <;> conv => cbv
          · refine r_subf m.sX (by omega) (by omega) fun r4 hr4 => ?_
            conv => cbv
            refine r_append0R m.sX (by first | omega | (dsimp only; omega)) (by first | omega | (dsimp only; omega)) fun zs7 hzs7 => ?_
            conv => cbv
            have lzs7 : (zs7.length : Int) = lines.length := by rw [hzs7]; first | done | (simp; done) | (simp; omega)
            refine r_append1 (([120] : List UInt8)) m.sX rfl (by first | omega | (dsimp only; omega)) (by first | omega | (dsimp only; omega)) fun zs8 hzs8 => ?_
            conv => cbv
            have lzs8 : (zs8.length : Int) = zs7.length + 1 := by rw [hzs8]; first | done | (simp; done) | (simp; omega)
            refine r_oindex m.sX (by omega) (by omega) ?_
            conv => cbv
            obtain ⟨y6, hy6⟩ := get_ex (xs := l_7) (i := Int.toNat r4) (by omega)
            refine r_ostore (l := Int.toNat r4) zs8 m.sX hy6 (Nat.le_of_ble_eq_true rfl) rfl fun l_12 hl_12 => ?_   -- l_12 = l_7.set r4 zs8
            have ll_12 : (l_12.length : Int) = l_7.length := by rw [hl_12]; first | done | (simp; done) | (simp; omega)
            have pz : ∀ p ∈ l_12, p.length ≤ 14 := (by rw [hl_12]; exact lens_set pw (by omega) (by omega))
            conv => cbv
            exact hQ (.fr 29 1 (rows (cSl 1 cStr) l_12)) (cCur code a16 s16) ⟨l_12, rfl, ⟨a16, s16, rfl, by omega, by omega⟩, (by first | omega | assumption | (simp; done) | (simp [*]; done) | (simp at *; omega)), (by first | omega | assumption | (simp; done) | (simp [*]; done) | (simp at *; omega))⟩   -- leaf 5
          · exact hQ (.fr 29 1 (rows (cSl 1 cStr) l_7)) (cCur code a16 s16) ⟨l_7, rfl, ⟨a16, s16, rfl, by omega, by omega⟩, (by first | omega | assumption | (simp; done) | (simp [*]; done) | (simp at *; omega)), (by first | omega | assumption | (simp; done) | (simp [*]; done) | (simp at *; omega))⟩))   -- leaf 6

theorem cStates_ex (code : List Int) (b0 t0 : Int) : ∃ r cs, (∃ (q : List (List (List UInt8))), r = PV.isl 1 (rows (cSl 1 cStr) q) ∧ CurTo code b0 30000 cs ∧ ((q.length : Int) ≤ 7) ∧ (∀ p ∈ q, p.length ≤ 14)) :=
  ⟨_, _, [], rfl, ⟨b0, t0, rfl, by omega, by omega⟩, (by first | omega | simp), (by first | omega | simp)⟩

theorem drawMarksToNext_ok (code : List Int) (h : CurIn code) : OkA Try.prog 24 [.isl 1 (rows cU8 code)] (fun r => ∃ (q1 : List (List (List UInt8))) (q2 : Int), r = .tup [.isl 1 (rows (cSl 1 cStr) q1), .int .i64 q2] ∧ ((q1.length : Int) ≤ 7) ∧ (-2 ≤ q2 ∧ q2 ≤ 20)) :=
  OkA.iceR (fn_intro envOk fieldsOk mixed Try.func24 rfl fun κ X Y L Q m hQ => by
    conv => cbv
    refine r_mcall m.sX (cStates_ok code 0 0 h (by omega) (by omega)) ?_
    rintro _ _ ⟨l, rfl, ⟨a1, s1, rfl, ea1, fa1⟩, bl_1, bl_2⟩
    conv => cbv
    refine r_lenR m.sX fun n1 hn1 mn1 => ?_
    conv => cbv
    refine r_addf m.sX (by omega) (by omega) fun r1 hr1 => ?_
    conv => cbv
    refine r_mcall m.sX (cPick_ok code a1 s1 r1 h (by omega) (by omega)) ?_
    rintro _ _ ⟨q1, rfl, ⟨a2, s2, rfl, ea2, fa2⟩, bq1, cq1, dq1⟩
    conv => cbv
    refine r_lenR m.sX fun n2 hn2 mn2 => ?_
    conv => cbv
    refine r_subf m.sX (by omega) (by omega) fun r2 hr2 => ?_
    conv => cbv
    refine r_lenR m.sX fun n3 hn3 mn3 => ?_
    conv => cbv
    refine r_subf m.sX (by omega) (by omega) fun r3 hr3 => ?_
    conv => cbv
    refine r_lenR m.sX fun n4 hn4 mn4 => ?_
    conv => cbv
    refine r_mcall m.sX (cAmong_ok code a2 s2 ([r3, n4, -1]) (by simp) h (by omega) (by omega)) ?_
    rintro _ _ ⟨q2, rfl, ⟨a3, s3, rfl, ea3, fa3⟩, bq2⟩
    simp only [List.mem_cons, List.not_mem_nil, or_false] at bq2
    conv => cbv
    refine r_mcall m.sX (cAmong_ok code a3 s3 ([0, q1, r2, q2]) (by simp) h (by omega) (by omega)) ?_
    rintro _ _ ⟨q3, rfl, ⟨a4, s4, rfl, ea4, fa4⟩, bq3⟩
    simp only [List.mem_cons, List.not_mem_nil, or_false] at bq3
    conv => cbv
    exact hQ (.tup [.isl 1 (rows (cSl 1 cStr) l), .int .i64 q3]) ⟨l, q3, rfl, (by first | omega | assumption | (simp; done) | (simp [*]; done) | (simp at *; omega)), (by first | omega | assumption | (simp; done) | (simp [*]; done) | (simp at *; omega))⟩)   -- leaf 1

theorem drawAreStates_ok (code : List Int) (h : CurIn code) : OkA Try.prog 66 [.isl 1 (rows cU8 code)] (fun r => ∃ (q : List (List (List UInt8))), r = .isl 1 (rows (cSl 1 cStr) q) ∧ ((q.length : Int) ≤ 7)) :=
  OkA.iceR (fn_intro envOk fieldsOk mixed Try.func66 rfl fun κ X Y L Q m hQ => by
    conv => cbv
    refine r_mcall m.sX (cStates_ok code 0 0 h (by omega) (by omega)) ?_
    rintro _ _ ⟨q1, rfl, ⟨a1, s1, rfl, ea1, fa1⟩, bq1_1, bq1_2⟩
    conv => cbv
    exact hQ (.isl 1 (rows (cSl 1 cStr) q1)) ⟨q1, rfl, (by first | omega | assumption | (simp; done) | (simp [*]; done) | (simp at *; omega))⟩)   -- leaf 1

theorem drawSettledLines_ok (code : List Int) (h : CurIn code) : OkA Try.prog 32 [.isl 1 (rows cU8 code)] (fun r => ∃ (q : List (List (List UInt8))), r = .isl 1 (rows (cSl 1 cStr) q) ∧ ((q.length : Int) ≤ 7)) :=
  OkA.iceR (fn_intro envOk fieldsOk mixed Try.func32 rfl fun κ X Y L Q m hQ => by
    conv => cbv
    refine r_callE m.sX (drawAreStates_ok code h) ?_
    rintro _ ⟨q1, rfl, bq1_1⟩
    conv => cbv
    exact hQ (.isl 1 (rows (cSl 1 cStr) q1)) ⟨q1, rfl, (by first | omega | assumption | (simp; done) | (simp [*]; done) | (simp at *; omega))⟩)   -- leaf 1

theorem drawChangesOfLine_ok (code : List Int) (h : CurIn code) : OkA Try.prog 39 [.isl 1 (rows cU8 code)] (fun r => ∃ (q1 : List (List (List UInt8))) (q2 : Int), r = .tup [.isl 1 (rows (cSl 1 cStr) q1), .int .i64 q2] ∧ ((q1.length : Int) ≤ 7)) :=
  OkA.iceR (fn_intro envOk fieldsOk mixed Try.func39 rfl fun κ X Y L Q m hQ => by
    conv => cbv
    refine r_mcall m.sX (cStates_ok code 0 0 h (by omega) (by omega)) ?_
    rintro _ _ ⟨q1, rfl, ⟨a1, s1, rfl, ea1, fa1⟩, bq1_1, bq1_2⟩
    conv => cbv
    refine r_mcall m.sX (cAmong_ok code a1 s1 ([11, 12, -1]) (by simp) h (by omega) (by omega)) ?_
    rintro _ _ ⟨q2, rfl, ⟨a2, s2, rfl, ea2, fa2⟩, bq2⟩
    simp only [List.mem_cons, List.not_mem_nil, or_false] at bq2
    conv => cbv
    refine r_mcall m.sX (cAmong_ok code a2 s2 ([0, 0, 1, 2, q2]) (by simp) h (by omega) (by omega)) ?_
    rintro _ _ ⟨q3, rfl, ⟨a3, s3, rfl, ea3, fa3⟩, bq3⟩
    simp only [List.mem_cons, List.not_mem_nil, or_false] at bq3
    conv => cbv
    exact hQ (.tup [.isl 1 (rows (cSl 1 cStr) q1), .int .i64 q3]) ⟨q1, q3, rfl, (by first | omega | assumption | (simp; done) | (simp [*]; done) | (simp at *; omega))⟩)   -- leaf 1

theorem drawChangedBetween_ok (code : List Int) (h : CurIn code) : OkA Try.prog 40 [.isl 1 (rows cU8 code)] (fun r => ∃ (q1 : List (List (List UInt8))) (q2 : Int) (q3 : Int), r = .tup [.isl 1 (rows (cSl 1 cStr) q1), .int .i64 q2, .int .i64 q3] ∧ ((q1.length : Int) ≤ 7)) :=
  OkA.iceR (fn_intro envOk fieldsOk mixed Try.func40 rfl fun κ X Y L Q m hQ => by
    conv => cbv
    refine r_mcall m.sX (cStates_ok code 0 0 h (by omega) (by omega)) ?_
    rintro _ _ ⟨l, rfl, ⟨a1, s1, rfl, ea1, fa1⟩, bl_1, bl_2⟩
    conv => cbv
    refine r_lenR m.sX fun n1 hn1 mn1 => ?_
    conv => cbv
    refine r_addf m.sX (by omega) (by omega) fun r1 hr1 => ?_
    conv => cbv
    refine r_mcall m.sX (cPick_ok code a1 s1 r1 h (by omega) (by omega)) ?_
    rintro _ _ ⟨q1, rfl, ⟨a2, s2, rfl, ea2, fa2⟩, bq1, cq1, dq1⟩
    conv => cbv
    refine r_lenR m.sX fun n2 hn2 mn2 => ?_
    conv => cbv
    refine r_mcall m.sX (cAmong_ok code a2 s2 ([-1, n2]) (by simp) h (by omega) (by omega)) ?_
    rintro _ _ ⟨q2, rfl, ⟨a3, s3, rfl, ea3, fa3⟩, bq2⟩
    simp only [List.mem_cons, List.not_mem_nil, or_false] at bq2
    conv => cbv
    refine r_mcall m.sX (cAmong_ok code a3 s3 ([0, q1, q2]) (by simp) h (by omega) (by omega)) ?_
    rintro _ _ ⟨q3, rfl, ⟨a4, s4, rfl, ea4, fa4⟩, bq3⟩
    simp only [List.mem_cons, List.not_mem_nil, or_false] at bq3
    conv => cbv
    refine r_lenR m.sX fun n3 hn3 mn3 => ?_
    conv => cbv
    refine r_subf m.sX (by omega) (by omega) fun r2 hr2 => ?_
    conv => cbv
    refine r_lenR m.sX fun n4 hn4 mn4 => ?_
    conv => cbv
    refine r_addf m.sX (by omega) (by omega) fun r3 hr3 => ?_
    conv => cbv
    refine r_mcall m.sX (cPick_ok code a4 s4 r3 h (by omega) (by omega)) ?_
    rintro _ _ ⟨q4, rfl, ⟨a5, s5, rfl, ea5, fa5⟩, bq4, cq4, dq4⟩
    conv => cbv
    refine r_mcall m.sX (cAmong_ok code a5 s5 ([r2, q4, 1]) (by simp) h (by omega) (by omega)) ?_
    rintro _ _ ⟨q5, rfl, ⟨a6, s6, rfl, ea6, fa6⟩, bq5⟩
    simp only [List.mem_cons, List.not_mem_nil, or_false] at bq5
    conv => cbv
    exact hQ (.tup [.isl 1 (rows (cSl 1 cStr) l), .int .i64 q3, .int .i64 q5]) ⟨l, q3, q5, rfl, (by first | omega | assumption | (simp; done) | (simp [*]; done) | (simp at *; omega))⟩)   -- leaf 1


/- The law FnStates: its body returns true. -/
theorem next_law {l : List (List Tx)} {i : Int} {m : List Mark} (h : (m, true) = toNextA l i) : (hasB l i = true ∧ hasB l (i + 1) = true) ∧ corA (stAt l i) m = (stAt l (i + 1), true) ∧ (m = [] ↔ stAt l i = stAt l (i + 1)) ∧ m.length ≤ 20 ∧ (stAt l i).length = (stAt l (i + 1)).length := by
  unfold toNextA at h
  split at h
  · rename_i hb
    split at h
    · rename_i hm
      obtain rfl := (Prod.mk.inj h).1
      obtain ⟨s1, i0, i9⟩ := has_at hb.1
      obtain ⟨-, j0, j9⟩ := has_at hb.2
      obtain ⟨-, sp⟩ := states_at s1
      obtain ⟨p, hp⟩ := get_ex (xs := l) (i := i.toNat) (by omega)
      obtain ⟨q, hq⟩ := get_ex (xs := l) (i := (i + 1).toNat) (by omega)
      have w1 := sp p (get_mem hp)
      have w2 := sp q (get_mem hq)
      rw [stAt_some hp, stAt_some hq] at hm ⊢
      have hl : p.length = q.length := by omega
      exact ⟨hb, cor_all hl hm.2 w2.1, nextM_nil hl, marks_len hm.2, hl⟩
    · cases (Prod.mk.inj h).2
  · cases (Prod.mk.inj h).2
theorem chBet_yes {l : List (List Tx)} {i k : Int} {c : List Int} {t : Bool} (h : (c, t) = chBetA l i k) (h1 : hasB l i = true) (h2 : hasB l k = true) : t = true ∧ c = chgF (stAt l i) (stAt l k) (stAt l i).length := by
  rw [chBetA, if_pos ⟨h1, h2⟩] at h
  exact ⟨(Prod.mk.inj h).2, (Prod.mk.inj h).1⟩
theorem chBet_two {l : List (List Tx)} {i k : Int} {c : List Int} (h : (c, true) = chBetA l i k) : hasB l i = true ∧ hasB l k = true := by
  unfold chBetA at h
  split at h
  · rename_i hb; exact hb
  · cases (Prod.mk.inj h).2
theorem chgF_symm {a b : List Tx} (n : Nat) : chgF a b n = chgF b a n := by
  unfold chgF
  congr 1
  refine List.filter_congr fun i _ => ?_
  rw [decide_eq_decide]
  exact ne_comm
theorem chBet_back {l : List (List Tx)} {i k : Int} {c d : List Int} {t : Bool} (h : (c, true) = chBetA l i k) (h2 : (d, t) = chBetA l k i) : t = true ∧ d = c := by
  obtain ⟨b1, b2⟩ := chBet_two h
  obtain ⟨-, e1⟩ := chBet_yes h b1 b2
  obtain ⟨e2, e3⟩ := chBet_yes h2 b2 b1
  obtain ⟨s1, i0, i9⟩ := has_at b1
  obtain ⟨-, k0, k9⟩ := has_at b2
  obtain ⟨-, sp⟩ := states_at s1
  obtain ⟨p, hp⟩ := get_ex (xs := l) (i := i.toNat) (by omega)
  obtain ⟨q, hq⟩ := get_ex (xs := l) (i := k.toNat) (by omega)
  have w1 := sp p (get_mem hp)
  have w2 := sp q (get_mem hq)
  refine ⟨e2, ?_⟩
  rw [e3, e1, stAt_some hp, stAt_some hq, show q.length = p.length by omega, chgF_symm]
theorem set_yes {l : List (List Tx)} {t : List Int} (h : (t, true) = settA l) : statesB l = true ∧ t = setL2 l (headLen l).toNat := by
  unfold settA at h
  split at h
  · rename_i hb; exact ⟨hb, (Prod.mk.inj h).1⟩
  · cases (Prod.mk.inj h).2
theorem set_not {l : List (List Tx)} {t : List Int} (h : (t, false) = settA l) : statesB l = false := by
  unfold settA at h
  split at h
  · cases (Prod.mk.inj h).2
  · rename_i hb; simpa using hb
theorem chLine_yes {l : List (List Tx)} {n : Int} {c : List Int} {t : Bool} (h : (c, t) = chLineA l n) (h1 : statesB l = true) (h2 : 0 ≤ n ∧ n < headLen l) : t = true ∧ c = chLn l n.toNat l.length := by
  rw [chLineA, if_pos ⟨h1, h2⟩] at h
  exact ⟨(Prod.mk.inj h).2, (Prod.mk.inj h).1⟩
theorem pIn_ok (l : List Int) (n : Int)  : OkA Try.prog 38 [.isl 1 (rows cInt l), .int .i64 n] (· = .bool (decide (n ∈ l))) :=
  fn_intro envOk fieldsOk mixed Try.func38 rfl fun κ X Y L Q m hQ => by
    conv => cbv
    refine r_lenR m.sX fun n1 hn1 mn1 => ?_
    conv => cbv
    refine r_loopF (α := Int) m 17 [1, 7, 8, 9] [] (fun σ => [(1, .int .i64 n), (7, .isl 1 (rows cInt l)), (8, .int .i64 n1), (9, .int .i64 σ)]) (fun σ => [])
      (fun σ => (0 ≤ σ) ∧ (σ ≤ n1) ∧ (decide (n ∈ l) = decide (n ∈ l.drop σ.toNat))) (fun σ => (n1 - σ).toNat) 0 ?_ ?_ ?_ ?_
    · cbv
    · cbv
    · exact ⟨(by (try dsimp only); first | omega | (simp only [List.length_nil]; omega) | (simp only [List.length_cons, List.length_nil]; omega)), (by (try dsimp only); first | omega | (simp only [List.length_nil]; omega) | (simp only [List.length_cons, List.length_nil]; omega)), (by (try dsimp only) <;> first | omega | rfl | (simp [*]; done))⟩
    rintro i1 ⟨lo1, hi1, q⟩ E hE F hF
    conv => cbv
    refine r_lss m.sX (fun h1 => ?_) (fun h1 => ?_) <;> conv => cbv
    · refine r_index m.sX (by omega) (by omega) fun x hx => ?_
      conv => cbv
      have mx := get_mem hx
      have dx := drop_cons hx
      have kx := take_snoc hx
      have jx : (i1 + 1).toNat = Int.toNat i1 + 1 := by omega
      have vx := nth_some hx
      refine r_eql m.sX (fun h2 => ?_) (fun h2 => ?_) <;> conv => cbv
      · refine hF _ _ ?_
        conv => cbv
        exact hQ _ (congrArg PV.bool (by rw [q]; simp [*]))   -- leaf 1
      · refine r_addf m.sX (by omega) (by omega) fun r1 hr1 => ?_
        conv => cbv
        try have tr1 : Int.toNat r1 = Int.toNat i1 + 1 := by omega
        refine hE _ r1 ?_ ?_ ⟨(by (try dsimp only); first | omega | (simp only [List.length_nil]; omega) | (simp only [List.length_cons, List.length_nil]; omega)), (by (try dsimp only); first | omega | (simp only [List.length_nil]; omega) | (simp only [List.length_cons, List.length_nil]; omega)), (by (try dsimp only) <;> (rw [q, dx, tr1]; simp [Ne.symm h2]))⟩ (by first | omega | (dsimp only; omega))
        · cbv
        · cbv
    · have dz_i1 := drop_end (xs := l) (i := Int.toNat i1) (by omega)
      have tz_i1 := take_end (xs := l) (i := Int.toNat i1) (by omega)
      refine hF _ _ ?_
      conv => cbv
      exact hQ _ (congrArg PV.bool (by rw [q]; simp [*]))   -- leaf 2

theorem pSameMarks_ok (a : List Mark) (b : List Mark)  : OkA Try.prog 27 [.isl 4 (rows cMark a), .isl 4 (rows cMark b)] (· = .bool (decide (a = b))) :=
  fn_intro envOk fieldsOk mixed Try.func27 rfl fun κ X Y L Q m hQ => by
    conv => cbv
    refine r_lenR m.sX fun n1 hn1 mn1 => ?_
    conv => cbv
    refine r_lenR m.sX fun n2 hn2 mn2 => ?_
    conv => cbv
    refine r_neq m.sX (fun h1 => ?_) (fun h1 => ?_) <;> conv => cbv
    · exact hQ _ (congrArg PV.bool (by exact (decide_eq_false fun e => by rw [e] at hn1; omega).symm))   -- leaf 1
    · refine r_lenR m.sX fun n3 hn3 mn3 => ?_
      conv => cbv
      refine r_loopF (α := Int) m 26 [0, 1, 12, 13] [] (fun σ => [(0, .isl 4 (rows cMark a)), (1, .isl 4 (rows cMark b)), (12, .int .i64 n3), (13, .int .i64 σ)]) (fun σ => [])
        (fun σ => (0 ≤ σ) ∧ (σ ≤ n3) ∧ (a.take σ.toNat = b.take σ.toNat)) (fun σ => (n3 - σ).toNat) 0 ?_ ?_ ?_ ?_
      · cbv
      · cbv
      · exact ⟨(by (try dsimp only); first | omega | (simp only [List.length_nil]; omega) | (simp only [List.length_cons, List.length_nil]; omega)), (by (try dsimp only); first | omega | (simp only [List.length_nil]; omega) | (simp only [List.length_cons, List.length_nil]; omega)), (by (try dsimp only) <;> first | omega | rfl | (simp [*]; done))⟩
      rintro i1 ⟨lo1, hi1, q⟩ E hE F hF
      conv => cbv
      refine r_lss m.sX (fun h2 => ?_) (fun h2 => ?_) <;> conv => cbv
      · refine r_draw m (by kernel_rfl) ?_
        conv => cbv
        refine r_index m.sY (by omega) (by omega) fun v hx1A => ?_
        obtain ⟨x1A, x1B, x1C, x1D⟩ := v
        conv => cbv
        have hx1 := hx1A
        have mx1 := get_mem hx1
        have dx1 := drop_cons hx1
        have kx1 := take_snoc hx1
        have jx1 : (i1 + 1).toNat = Int.toNat i1 + 1 := by omega
        refine r_index m.sY (by omega) (by omega) fun v hx2A => ?_
        obtain ⟨x2A, x2B, x2C, x2D⟩ := v
        conv => cbv
        have hx2 := hx2A
        have mx2 := get_mem hx2
        have dx2 := drop_cons hx2
        have kx2 := take_snoc hx2
        have jx2 : (i1 + 1).toNat = Int.toNat i1 + 1 := by omega
        refine r_aeq [.int .i64 0, .int .i64 0, .int .i64 0, .str []] m.sY (by kernel_rfl) rfl rfl (fun h3 => ?_) (fun h3 => ?_) <;> conv => cbv   -- (x1A, x1B, x1C, x1D) neq (x2A, x2B, x2C, x2D)
        · have e3 : (x1A, x1B, x1C, x1D) = (x2A, x2B, x2C, x2D) := by simpa using h3
          refine r_addf m.sX (by omega) (by omega) fun r1 hr1 => ?_
          conv => cbv
          try have tr1 : Int.toNat r1 = Int.toNat i1 + 1 := by omega
          refine hE _ r1 ?_ ?_ ⟨(by (try dsimp only); first | omega | (simp only [List.length_nil]; omega) | (simp only [List.length_cons, List.length_nil]; omega)), (by (try dsimp only); first | omega | (simp only [List.length_nil]; omega) | (simp only [List.length_cons, List.length_nil]; omega)), (by (try dsimp only) <;> (rw [tr1, List.take_add_one, List.take_add_one, hx1A, hx2A, q, e3]))⟩ (by first | omega | (dsimp only; omega))
          · cbv
          · cbv
        · refine hF _ _ ?_
          conv => cbv
          exact hQ _ (congrArg PV.bool (by exact (decide_eq_false fun e => by rw [e] at hx1A; have z := Option.some.inj (hx1A.symm.trans hx2A); simp only [Prod.mk.injEq] at z; obtain ⟨z1, z2, z3, z4⟩ := z; exact h3 (by rw [z1, z2, z3, z4])).symm))   -- leaf 2
      · have dz_i1 := drop_end (xs := a) (i := Int.toNat i1) (by omega)
        have tz_i1 := take_end (xs := a) (i := Int.toNat i1) (by omega)
        refine hF _ _ ?_
        conv => cbv
        exact hQ _ (congrArg PV.bool (by exact (decide_eq_true (eq_of_takes (by omega) q (by omega))).symm))   -- leaf 3

theorem pSameTexts_ok (a : List (List UInt8)) (b : List (List UInt8))  : OkA Try.prog 30 [.isl 1 (rows cStr a), .isl 1 (rows cStr b)] (· = .bool (decide (a = b))) :=
  fn_intro envOk fieldsOk mixed Try.func30 rfl fun κ X Y L Q m hQ => by
    conv => cbv
    refine r_lenR m.sX fun n1 hn1 mn1 => ?_
    conv => cbv
    refine r_lenR m.sX fun n2 hn2 mn2 => ?_
    conv => cbv
    refine r_neq m.sX (fun h1 => ?_) (fun h1 => ?_) <;> conv => cbv
    · exact hQ _ (congrArg PV.bool (by exact (decide_eq_false fun e => by rw [e] at hn1; omega).symm))   -- leaf 1
    · refine r_lenR m.sX fun n3 hn3 mn3 => ?_
      conv => cbv
      refine r_loopF (α := Int) m 26 [0, 1, 12, 13] [] (fun σ => [(0, .isl 1 (rows cStr a)), (1, .isl 1 (rows cStr b)), (12, .int .i64 n3), (13, .int .i64 σ)]) (fun σ => [])
        (fun σ => (0 ≤ σ) ∧ (σ ≤ n3) ∧ (a.take σ.toNat = b.take σ.toNat)) (fun σ => (n3 - σ).toNat) 0 ?_ ?_ ?_ ?_
      · cbv
      · cbv
      · exact ⟨(by (try dsimp only); first | omega | (simp only [List.length_nil]; omega) | (simp only [List.length_cons, List.length_nil]; omega)), (by (try dsimp only); first | omega | (simp only [List.length_nil]; omega) | (simp only [List.length_cons, List.length_nil]; omega)), (by (try dsimp only) <;> first | omega | rfl | (simp [*]; done))⟩
      rintro i1 ⟨lo1, hi1, q⟩ E hE F hF
      conv => cbv
      refine r_lss m.sX (fun h2 => ?_) (fun h2 => ?_) <;> conv => cbv
      · refine r_draw m (by kernel_rfl) ?_
        conv => cbv
        refine r_index m.sY (by omega) (by omega) fun x1 hx1 => ?_
        conv => cbv
        have mx1 := get_mem hx1
        have dx1 := drop_cons hx1
        have kx1 := take_snoc hx1
        have jx1 : (i1 + 1).toNat = Int.toNat i1 + 1 := by omega
        refine r_index m.sY (by omega) (by omega) fun x2 hx2 => ?_
        conv => cbv
        have mx2 := get_mem hx2
        have dx2 := drop_cons hx2
        have kx2 := take_snoc hx2
        have jx2 : (i1 + 1).toNat = Int.toNat i1 + 1 := by omega
        refine r_sneq m.sY (fun h3 => ?_) (fun h3 => ?_) <;> conv => cbv
        · refine hF _ _ ?_
          conv => cbv
          exact hQ _ (congrArg PV.bool (by exact (decide_eq_false fun e => by rw [e] at hx1; exact h3 (Option.some.inj (hx1.symm.trans hx2))).symm))   -- leaf 2
        · refine r_addf m.sX (by omega) (by omega) fun r1 hr1 => ?_
          conv => cbv
          try have tr1 : Int.toNat r1 = Int.toNat i1 + 1 := by omega
          refine hE _ r1 ?_ ?_ ⟨(by (try dsimp only); first | omega | (simp only [List.length_nil]; omega) | (simp only [List.length_cons, List.length_nil]; omega)), (by (try dsimp only); first | omega | (simp only [List.length_nil]; omega) | (simp only [List.length_cons, List.length_nil]; omega)), (by (try dsimp only) <;> (rw [tr1, kx1, kx2, q, show x1 = x2 from by assumption]))⟩ (by first | omega | (dsimp only; omega))
          · cbv
          · cbv
      · have dz_i1 := drop_end (xs := a) (i := Int.toNat i1) (by omega)
        have tz_i1 := take_end (xs := a) (i := Int.toNat i1) (by omega)
        refine hF _ _ ?_
        conv => cbv
        exact hQ _ (congrArg PV.bool (by exact (decide_eq_true (eq_of_takes (by omega) q (by omega))).symm))   -- leaf 3

noncomputable abbrev midStates (more : List Int) : List (Nat × PV) := [(1, .isl 1 (rows cU8 more))]

section
variable {κ : Ctx} {X Y : Req → (PV → Prop) → Prop} {L : Code → (Ex → St → Prop) → St → Prop} {Q : PV → Prop}

theorem states_part1 (m : Mach Try.prog G κ X Y L) (hQ : ∀ r, r = PV.bool true → Q r) (code more : List Int) (hf : ∀ x ∈ code, 0 ≤ x ∧ x ≤ 255) (E0 : St → Prop)
    (hE0 : ∀ (s' : St) (a : Unit), headOk s' [] = true → Ai.norm [1] [] s' = St.at 272 (midStates more) [] → (more.length : Int) ≤ 9223372036854775807 → E0 s') :
    Ai.code X L G (front 7 (Try.f4.body.getD .skip)) (fun e s' => match e with | .normal => E0 s' | .exit i => EndsIn (post G Try.f4.results.toList Q) (.exit i) s' | .ret => EndsIn (post G Try.f4.results.toList Q) .ret s') (start 272 [.isl 1 (rows cU8 code), .isl 1 (rows cU8 more)] []) := by
  conv => cbv
  refine r_callB m.sX (big_ok code more) (fun h1 => ?_) (fun h1 => ?_) <;> conv => cbv
  · exact hQ _ (congrArg PV.bool (by first | rfl | omega | (simp [*]; done) | (subst_vars; simp [*]; done)))   -- leaf 1
  · rw [Bool.or_eq_false_iff, decide_eq_false_iff_not, decide_eq_false_iff_not] at h1
    have h : CurIn code := ⟨by omega, hf⟩
    have hmr : (more.length : Int) ≤ 9223372036854775807 := by omega
    refine r_callE m.sX ((drawMarksToNext_ok code h).iceE) ?_
    rintro _ ⟨_, ⟨l, i, rfl, bl_1, bl_2⟩, rfl⟩
    conv => cbv
    refine r_callF (lbI 4 cMark) m.sX ((MarksToNext_ok l i).ice) fun v hm_ => ?_
    obtain ⟨m_, ok⟩ := v
    conv => cbv
    refine r_callF (lbI 4 cMark) m.sX ((specMarksToNext_ok l i).ice) fun y1 hy1 => ?_
    obtain rfl := hm_.trans hy1.symm
    clear hy1
    conv => cbv
    rcases Bool.eq_false_or_eq_true ok with rfl | rfl <;> conv => cbv
    · obtain ⟨⟨b1, b2⟩, cl, nl, ml, wl⟩ := next_law hm_
      obtain ⟨s1, i0, i9⟩ := has_at b1
      obtain ⟨-, j0, j9⟩ := has_at b2
      obtain ⟨⟨l1, l6⟩, sp⟩ := states_at s1
      refine r_callBT m.sX (pSameMarks_ok m_ m_) (by first | assumption | exact decide_eq_true rfl | (simp [*]; done) | omega) ?_   -- h2
      conv => cbv
      refine r_index m.sX (by omega) (by omega) fun x1 hx1 => ?_
      conv => cbv
      have mx1 := get_mem hx1
      rw [stAt_some hx1] at cl nl wl
      refine r_callF (lbI 1 cStr) m.sX ((CorrectLines_ok x1 m_).ice) fun v hnext => ?_
      obtain ⟨next, one⟩ := v
      conv => cbv
      refine r_addf m.sX (by omega) (by omega) fun r1 hr1 => ?_
      conv => cbv
      refine r_callF (lbI 1 cInt) m.sX (ChangedBetween_ok l i r1) fun v hchanged => ?_
      obtain ⟨changed, two⟩ := v
      conv => cbv
      obtain ⟨t2, ec⟩ := chBet_yes hchanged b1 (by rw [show r1 = i + 1 by omega]; exact b2)
      refine r_addf m.sX (by omega) (by omega) fun r2 hr2 => ?_
      conv => cbv
      refine r_callF (lbI 1 cInt) m.sX ((specChangedBetween_ok l i r2).ice) fun v hknown => ?_
      obtain ⟨known, three⟩ := v
      conv => cbv
      obtain ⟨t3, ek⟩ := chBet_yes hknown b1 (by rw [show r2 = i + 1 by omega]; exact b2)
      obtain rfl : one = true := by exact (Prod.mk.inj (hnext.trans cl)).2
      conv => cbv
      refine r_addf m.sX (by omega) (by omega) fun r3 hr3 => ?_
      conv => cbv
      refine r_index m.sX (by omega) (by omega) fun x2 hx2 => ?_
      conv => cbv
      have mx2 := get_mem hx2
      have e2 : stAt l (i + 1) = x2 := stAt_some (by rw [show i + 1 = r3 by omega]; exact hx2)
      rw [e2] at cl nl wl
      have ek2 : known = chgF x1 x2 x1.length := by rw [ek, show r2 = i + 1 by omega, e2, stAt_some hx1]
      refine r_callBT m.sX (pSameTexts_ok next x2) (by exact decide_eq_true (Prod.mk.inj (hnext.trans cl)).1) ?_   -- h3
      conv => cbv
      obtain rfl : two = true := by exact t2
      conv => cbv
      obtain rfl : three = true := by exact t3
      conv => cbv
      refine r_callBT m.sX (sameInts_ok changed known) (by exact decide_eq_true (by rw [ec, ek, show r1 = r2 by omega])) ?_   -- h4
      conv => cbv
      refine r_lenR m.sX fun n1 hn1 mn1 => ?_
      conv => cbv
      refine r_eql m.sX (fun h5 => ?_) (fun h5 => ?_) <;> conv => cbv
      · have z0 : m_.length = 0 := by rw [nl.2 ((chgF_nil wl).1 (by rw [← ek2]; omega))]; rfl
        refine r_lenR m.sX fun n2 hn2 mn2 => ?_
        conv => cbv
        refine r_eqlT m.sX (by first | omega | rfl) ?_
        conv => cbv
        exact hE0 _ () (by cbv) (by cbv) hmr
      · have z0 : ¬ m_.length = 0 := fun e => h5 (by have := (chgF_nil wl).2 (nl.1 (List.eq_nil_of_length_eq_zero e)); rw [← ek2] at this; omega)
        refine r_lenR m.sX fun n3 hn3 mn3 => ?_
        conv => cbv
        refine r_eqlF m.sX (by first | omega | rfl) ?_
        conv => cbv
        exact hE0 _ () (by cbv) (by cbv) hmr
    · refine r_callBT m.sX (pSameMarks_ok m_ m_) (by first | assumption | exact decide_eq_true rfl | (simp [*]; done) | omega) ?_   -- h8
      conv => cbv
      exact hE0 _ () (by cbv) (by cbv) hmr

theorem states_part2 (m : Mach Try.prog G κ X Y L) (hQ : ∀ r, r = PV.bool true → Q r) (more : List Int) (h : CurIn more) (E0 : St → Prop)
    (hE0 : ∀ (s' : St) (a : Unit), headOk s' [] = true → Ai.norm [1] [] s' = St.at 272 (midStates more) [] → True → E0 s') :
    Ai.code X L G (front 5 (rest 7 (Try.f4.body.getD .skip))) (fun e s' => match e with | .normal => E0 s' | .exit i => EndsIn (post G Try.f4.results.toList Q) (.exit i) s' | .ret => EndsIn (post G Try.f4.results.toList Q) .ret s') (St.at 272 (midStates more) []) := by
  conv => cbv
  refine r_callE m.sX ((drawSettledLines_ok more h).iceE) ?_
  rintro _ ⟨_, ⟨s_, rfl, bs__1⟩, rfl⟩
  conv => cbv
  refine r_callF (lbI 1 cInt) m.sX ((SettledLines_ok s_).ice) fun v ht => ?_
  obtain ⟨t, one⟩ := v
  conv => cbv
  refine r_callF (lbI 1 cInt) m.sX ((specSettledLines_ok s_).ice) fun y1 hy1 => ?_
  obtain rfl := ht.trans hy1.symm
  clear hy1
  conv => cbv
  rcases Bool.eq_false_or_eq_true one with rfl | rfl <;> conv => cbv
  · obtain ⟨s1, es⟩ := set_yes ht
    obtain ⟨⟨l1, l6⟩, sp⟩ := states_at s1
    refine r_callBT m.sX (sameInts_ok t t) (by first | assumption | exact decide_eq_true rfl | (simp [*]; done) | omega) ?_   -- h1
    conv => cbv
    refine r_callBT m.sX (AreStates_ok s_) (by exact s1) ?_   -- h2
    conv => cbv
    refine r_index m.sX (by omega) (by omega) fun x1 hx1 => ?_
    conv => cbv
    have mx1 := get_mem hx1
    have w1 := (sp x1 mx1).2
    have w3 := pf_len (sp x1 mx1).1
    refine r_lenR m.sX fun n1 hn1 mn1 => ?_
    conv => cbv
    refine r_loopF (α := Int) m 272 [1, 17, 20, 163, 164] [] (fun σ => [(1, .isl 1 (rows cU8 more)), (17, .isl 1 (rows (cSl 1 cStr) s_)), (20, .isl 1 (rows cInt t)), (163, .int .i64 n1), (164, .int .i64 σ)]) (fun σ => [])
      (fun σ => (0 ≤ σ) ∧ (σ ≤ n1)) (fun σ => (n1 - σ).toNat) 0 ?_ ?_ ?_ ?_
    · cbv
    · cbv
    · exact ⟨(by (try dsimp only); first | omega | (simp only [List.length_nil]; omega) | (simp only [List.length_cons, List.length_nil]; omega)), (by (try dsimp only); first | omega | (simp only [List.length_nil]; omega) | (simp only [List.length_cons, List.length_nil]; omega))⟩
    rintro i1 ⟨lo1, hi1⟩ E hE F hF
    conv => cbv
    refine r_lss m.sX (fun h3 => ?_) (fun h3 => ?_) <;> conv => cbv
    · refine r_callF (lbI 1 cInt) m.sX ((ChangesOfLine_ok s_ i1).ice) fun v hchanges => ?_
      obtain ⟨changes, three⟩ := v
      conv => cbv
      obtain ⟨t3, ec⟩ := chLine_yes hchanges s1 ⟨by omega, by omega⟩
      have me := setL2_mem (l := s_) (n := (headLen s_).toNat) (k := i1.toNat) (by omega)
      rw [← es, ← ec, show ((i1.toNat : Nat) : Int) = i1 by omega] at me
      refine r_callF (lbI 1 cInt) m.sX ((specChangesOfLine_ok s_ i1).ice) fun y2 hy2 => ?_
      obtain rfl := hchanges.trans hy2.symm
      clear hy2
      conv => cbv
      obtain rfl : three = true := by exact t3
      conv => cbv
      refine r_callBT m.sX (sameInts_ok changes changes) (by first | assumption | exact decide_eq_true rfl | (simp [*]; done) | omega) ?_   -- h4
      conv => cbv
      refine r_callB m.sX (pIn_ok t i1) (fun h5 => ?_) (fun h5 => ?_) <;> conv => cbv
      · have z5 : changes.length = 0 := by rw [me.1 (of_decide_eq_true h5)]; rfl
        refine r_lenR m.sX fun n2 hn2 mn2 => ?_
        conv => cbv
        refine r_eqlT m.sX (by first | omega | rfl) ?_
        conv => cbv
        refine r_addf m.sX (by omega) (by omega) fun r1 hr1 => ?_
        conv => cbv
        try have tr1 : Int.toNat r1 = Int.toNat i1 + 1 := by omega
        refine hE _ r1 ?_ ?_ ⟨(by (try dsimp only); first | omega | (simp only [List.length_nil]; omega) | (simp only [List.length_cons, List.length_nil]; omega)), (by (try dsimp only); first | omega | (simp only [List.length_nil]; omega) | (simp only [List.length_cons, List.length_nil]; omega))⟩ (by first | omega | (dsimp only; omega))
        · cbv
        · cbv
      · have z5 : ¬ changes.length = 0 := fun e => of_decide_eq_false h5 (me.2 (List.eq_nil_of_length_eq_zero e))
        refine r_lenR m.sX fun n3 hn3 mn3 => ?_
        conv => cbv
        refine r_eqlF m.sX (by first | omega | rfl) ?_
        conv => cbv
        refine r_addf m.sX (by omega) (by omega) fun r2 hr2 => ?_
        conv => cbv
        try have tr2 : Int.toNat r2 = Int.toNat i1 + 1 := by omega
        refine hE _ r2 ?_ ?_ ⟨(by (try dsimp only); first | omega | (simp only [List.length_nil]; omega) | (simp only [List.length_cons, List.length_nil]; omega)), (by (try dsimp only); first | omega | (simp only [List.length_nil]; omega) | (simp only [List.length_cons, List.length_nil]; omega))⟩ (by first | omega | (dsimp only; omega))
        · cbv
        · cbv
    · have dz_i1 := drop_end (xs := x1) (i := Int.toNat i1) (by omega)
      have tz_i1 := take_end (xs := x1) (i := Int.toNat i1) (by omega)
      refine hF _ _ ?_
      conv => cbv
      exact hE0 _ () (by cbv) (by cbv) trivial
  · have s1 := set_not ht
    refine r_callBT m.sX (sameInts_ok t t) (by first | assumption | exact decide_eq_true rfl | (simp [*]; done) | omega) ?_   -- h8
    conv => cbv
    refine r_callBF m.sX (AreStates_ok s_) (by exact s1) ?_   -- h9
    conv => cbv
    exact hE0 _ () (by cbv) (by cbv) trivial

theorem states_part3 (m : Mach Try.prog G κ X Y L) (hQ : ∀ r, r = PV.bool true → Q r) (more : List Int) (h : CurIn more) :
    Ai.code X L G (rest 5 (rest 7 (Try.f4.body.getD .skip))) (EndsIn (post G Try.f4.results.toList Q)) (St.at 272 (midStates more) []) := by
  conv => cbv
  refine r_callE m.sX ((drawChangesOfLine_ok more h).iceE) ?_
  rintro _ ⟨_, ⟨u, line, rfl, bu_1⟩, rfl⟩
  conv => cbv
  refine r_callF (lbI 1 cInt) m.sX ((ChangesOfLine_ok u line).ice) fun v hc => ?_
  obtain ⟨c, three⟩ := v
  conv => cbv
  refine r_callF (lbI 1 cInt) m.sX ((specChangesOfLine_ok u line).ice) fun y1 hy1 => ?_
  obtain rfl := hc.trans hy1.symm
  clear hy1
  conv => cbv
  refine r_callE m.sX ((drawChangedBetween_ok more h).iceE) ?_
  rintro _ ⟨_, ⟨v, a, b, rfl, bv_1⟩, rfl⟩
  conv => cbv
  refine r_callF (lbI 1 cInt) m.sX (ChangedBetween_ok v a b) fun v hd => ?_
  obtain ⟨d, five⟩ := v
  conv => cbv
  refine r_callF (lbI 1 cInt) m.sX ((specChangedBetween_ok v a b).ice) fun y2 hy2 => ?_
  obtain rfl := hd.trans hy2.symm
  clear hy2
  conv => cbv
  rcases Bool.eq_false_or_eq_true three with rfl | rfl <;> conv => cbv
  · refine r_callBT m.sX (sameInts_ok c c) (by first | assumption | exact decide_eq_true rfl | (simp [*]; done) | omega) ?_   -- h1
    conv => cbv
    rcases Bool.eq_false_or_eq_true five with rfl | rfl <;> conv => cbv
    · refine r_callBT m.sX (sameInts_ok d d) (by first | assumption | exact decide_eq_true rfl | (simp [*]; done) | omega) ?_   -- h2
      conv => cbv
      refine r_callF (lbI 1 cInt) m.sX (ChangedBetween_ok v b a) fun v hback => ?_
      obtain ⟨back, seven⟩ := v
      conv => cbv
      obtain rfl : seven = true := by exact (chBet_back hd hback).1
      conv => cbv
      refine r_callBT m.sX (sameInts_ok back d) (by exact decide_eq_true (chBet_back hd hback).2) ?_   -- h3
      conv => cbv
      exact hQ _ (congrArg PV.bool (by first | rfl | omega | (simp [*]; done) | (subst_vars; simp [*]; done)))   -- leaf 2
    · refine r_callBT m.sX (sameInts_ok d d) (by first | assumption | exact decide_eq_true rfl | (simp [*]; done) | omega) ?_   -- h4
      conv => cbv
      exact hQ _ (congrArg PV.bool (by first | rfl | omega | (simp [*]; done) | (subst_vars; simp [*]; done)))   -- leaf 3
  · refine r_callBT m.sX (sameInts_ok c c) (by first | assumption | exact decide_eq_true rfl | (simp [*]; done) | omega) ?_   -- h5
    conv => cbv
    rcases Bool.eq_false_or_eq_true five with rfl | rfl <;> conv => cbv
    · refine r_callBT m.sX (sameInts_ok d d) (by first | assumption | exact decide_eq_true rfl | (simp [*]; done) | omega) ?_   -- h6
      conv => cbv
      refine r_callF (lbI 1 cInt) m.sX (ChangedBetween_ok v b a) fun v hback_2 => ?_
      obtain ⟨back_2, seven_2⟩ := v
      conv => cbv
      obtain rfl : seven_2 = true := by exact (chBet_back hd hback_2).1
      conv => cbv
      refine r_callBT m.sX (sameInts_ok back_2 d) (by exact decide_eq_true (chBet_back hd hback_2).2) ?_   -- h7
      conv => cbv
      exact hQ _ (congrArg PV.bool (by first | rfl | omega | (simp [*]; done) | (subst_vars; simp [*]; done)))   -- leaf 4
    · refine r_callBT m.sX (sameInts_ok d d) (by first | assumption | exact decide_eq_true rfl | (simp [*]; done) | omega) ?_   -- h8
      conv => cbv
      exact hQ _ (congrArg PV.bool (by first | rfl | omega | (simp [*]; done) | (subst_vars; simp [*]; done)))   -- leaf 5

end

theorem lawStates_ok (code more : List Int) (hf : ∀ x ∈ code, 0 ≤ x ∧ x ≤ 255) (hg : ∀ x ∈ more, 0 ≤ x ∧ x ≤ 255) : OkA Try.prog 4 [.isl 1 (rows cU8 code), .isl 1 (rows cU8 more)] (· = .bool true) :=
  fn_introW envOk fieldsOk mixed Try.func4 rfl (c := Try.f4.body.getD .skip) rfl fun κ X Y L Q m hQ =>
    W_cut m 7 272 [1] [] (fun _ : Unit => midStates more) (fun _ => []) (fun _ => (more.length : Int) ≤ 9223372036854775807) (states_part1 m hQ code more hf) fun _ hl =>
    W_cut m 5 272 [1] [] (fun _ : Unit => midStates more) (fun _ => []) (fun _ => True) (states_part2 m hQ more ⟨hl, hg⟩) fun _ _ =>
    W_last m (states_part3 m hQ more ⟨hl, hg⟩)


end Go.Proofs.Ytngefbdedbbplaa.Ai
