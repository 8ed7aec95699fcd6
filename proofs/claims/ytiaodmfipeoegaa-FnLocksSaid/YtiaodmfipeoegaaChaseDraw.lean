/- Contracts of what FnChases draws. -/
import Derived.Test.YtiaodmfipeoegaaFill
import Derived.Test.YtiaodmfipeoegaaAiIceM
import Derived.Test.YtiaodmfipeoegaaCur2
import Derived.Test.YtiaodmfipeoegaaThaw
namespace Go.Proofs.Ytiaodmfipeoegaa.Ai
open Go Go.Proofs
set_option linter.unusedSimpArgs false
set_option maxRecDepth 10000
set_option maxHeartbeats 4000000
set_option linter.unusedVariables false
theorem OkM.iceR {P : Program} {f : FuncId} {cs args : List PV} {Q : PV → List PV → Prop} (h : OkM P f cs args (fun r cs' => Q (Ai.ice r) cs')) : OkM P f cs args Q :=
  h.iceE.mono fun r cs' ⟨r0, q, e⟩ => by rw [e]; exact q
/-- The last of several results: a nil slice is an empty one. -/
def unnilL (sz : Nat) : List PV → List PV
  | [] => []
  | [v] => [unnilI sz v]
  | v :: u :: r => v :: unnilL sz (u :: r)
def unnilZ (sz : Nat) : PV → PV
  | .tup vs => .tup (unnilL sz vs)
  | v => v
theorem ResL.unnilL {w : World} {I : Nat → Prop} {base : Nat} (sz : Nat) : ∀ {ps : List PV} {vs : List Value} {gs : List Nat}, ResL w I base ps vs gs → ResL w I base (Ai.unnilL sz ps) vs gs
  | [], _, _, h => h
  | [_], _, _, h => by
    cases h with
    | cons h1 h2 => exact .cons (h1.unnilI sz) h2
  | _ :: _ :: _, _, _, h => by
    cases h with
    | cons h1 h2 => exact .cons h1 (ResL.unnilL sz h2)
theorem Res.unnilZ {w : World} {I : Nat → Prop} {base : Nat} {p : PV} {v : Value} {gs : List Nat} (sz : Nat) (h : Res w I base p v gs) : Res w I base (Ai.unnilZ sz p) v gs := by
  cases h with
  | one h =>
    have e1 : Ai.unnilZ sz p = p := by
      cases h with
      | imm h => cases h <;> rfl
      | _ => rfl
    rw [e1]
    exact .one h
  | tup h => exact .tup (h.unnilL sz)
theorem OkA.unnilZ {P : Program} {f : FuncId} {args : List PV} {Q : PV → Prop} (sz : Nat) (h : OkA P f args (fun r => Q (Ai.unnilZ sz r))) : OkA P f args Q :=
  ⟨h.1, fun w I vs hI ha => (h.2 w I vs hI ha).mono fun _ _ ⟨u, r, gs, e1, q, e2, e3, e4, e5⟩ => ⟨u, Ai.unnilZ sz r, gs, e1, q, e2, e3, e4, e5.unnilZ sz⟩⟩
theorem OkA.iceZ {P : Program} {f : FuncId} {args : List PV} {Q : PV → Prop} (h : OkA P f args (fun r => Q (Ai.unnilZ 4 (Ai.ice r)))) : OkA P f args Q := OkA.unnilZ 4 (OkA.iceR (Q := fun r => Q (Ai.unnilZ 4 r)) h)
theorem mkP {a b : Int} (h1 : 1 ≤ a ∧ a ≤ 8) (h2 : 1 ≤ b ∧ b ≤ 8) : okP (a, b) = true := by simp [okP, inB]; omega
theorem pk_next {l l2 l3 : List Piece} {k : Nat} {a b : Piece} (h : ∀ q ∈ l, okP q = true) (ha : okP a = true) (hb : okP b = true) (e2 : l2 = l.set k a) (e3 : l3 = l2 ++ [b]) : ∀ q ∈ l3, okP q = true := fun q hq => by
  subst e2 e3
  rcases List.mem_append.1 hq with hq | hq
  · rcases List.mem_or_eq_of_mem_set hq with hq | rfl
    · exact h q hq
    · exact ha
  · rw [List.mem_singleton.1 hq]; exact hb
theorem set_bnd {l l2 : List Plc} {k : Nat} {p : Plc} (h : ∀ q ∈ l, q.2.1 ≤ 1000000 ∧ q.2.2.1 ≤ 1000000) (e : l2 = l.set k p) (hp : p.2.1 ≤ 1000000 ∧ p.2.2.1 ≤ 1000000) : ∀ q ∈ l2, q.2.1 ≤ 1000000 ∧ q.2.2.1 ≤ 1000000 := fun q hq => by
  subst e
  rcases List.mem_or_eq_of_mem_set hq with hq | rfl
  · exact h q hq
  · exact hp
theorem cSide_ok (code : List Int) (b0 t0 : Int)  (h : CurIn code) (h0 : 0 ≤ b0) (hk : b0 ≤ 899999999999990000)  : OkM Try.prog 73 (cCur code b0 t0) [] (fun r cs => ∃ (q : Int), r = .int .i64 q ∧ CurTo code b0 10 cs ∧ (0 ≤ q ∧ q ≤ 9)) :=
  fnM_intro envOk fieldsOk mixed Try.func73 rfl fun κ X Y L Q m hQ => by
    conv => cbv
    refine r_mcall m.sX (cAmong_ok code b0 t0 ([1, 0, 9, 3]) (by simp) h (by omega) (by omega)) ?_
    rintro _ _ ⟨q1, rfl, ⟨a1, s1, rfl, ea1, fa1⟩, bq1⟩
    simp only [List.mem_cons, List.not_mem_nil, or_false] at bq1
    conv => cbv
    refine r_mcall m.sX (cAmong_ok code a1 s1 ([2, 3, 4, 5, 6, 3, 4, 8, q1]) (by simp) h (by omega) (by omega)) ?_
    rintro _ _ ⟨q2, rfl, ⟨a2, s2, rfl, ea2, fa2⟩, bq2⟩
    simp only [List.mem_cons, List.not_mem_nil, or_false] at bq2
    conv => cbv
    exact hQ (.int .i64 q2) (cCur code a2 s2) ⟨q2, rfl, ⟨a2, s2, rfl, by omega, by omega⟩, (by first | omega | assumption | (simp; done) | (simp [*]; done) | (simp at *; omega))⟩   -- leaf 1

theorem cCutUp_ok (code : List Int) (b0 t0 : Int) (width : Int) (height : Int) (h : CurIn code) (h0 : 0 ≤ b0) (hk : b0 ≤ 899999999999900000) (hw : 1 ≤ width ∧ width ≤ 8) (hh : 1 ≤ height ∧ height ≤ 8) : OkM Try.prog 131 (cCur code b0 t0) [.int .i64 width, .int .i64 height] (fun r cs => ∃ (q : List Piece), r = .fr 62 2 (rows cPiece q) ∧ CurTo code b0 100 cs ∧ (1 ≤ q.length ∧ q.length ≤ 8)) :=
  fnM_intro envOk fieldsOk mixed Try.func131 rfl fun κ X Y L Q m hQ => by
    conv => cbv
    refine r_mcall m.sX (cPick_ok code b0 t0 6 h (by omega) (by omega)) ?_
    rintro _ _ ⟨n, rfl, ⟨a1, s1, rfl, ea1, fa1⟩, bn, cn, dn⟩
    conv => cbv
    refine r_loopF (α := Int × Int × List Piece × Int) m 112 [8] [⟨0, 1, 0, 0, 0⟩, ⟨7, 57, 62, 2, 0⟩] (fun σ => [(0, .optr 1 0 0 0 0), (7, .osl 57 0), (8, .int .i64 σ.2.2.2)]) (fun σ => [(1, 0, .box (cCur code σ.1 σ.2.1)), (57, 0, .row 62 2 (rows cPiece σ.2.2.1))])
      (fun σ => (0 ≤ σ.2.2.2 ∧ σ.2.2.2 ≤ 5) ∧ (b0 ≤ σ.1 ∧ σ.1 ≤ b0 + 2 + 10 * (5 - σ.2.2.2)) ∧ (1 ≤ σ.2.2.1.length ∧ σ.2.2.1.length ≤ 8) ∧ (∀ q ∈ σ.2.2.1, okP q = true)) (fun σ => σ.2.2.2.toNat) (a1, s1, [(width, height)], n) ?_ ?_ ?_ ?_
    · cbv
    · (try dsimp only); (try simp only [rows_cons, rows_nil]); cbv
    · exact ⟨(by (try dsimp only) <;> first | omega | rfl | (simp [*]; done)), (by (try dsimp only) <;> first | omega | rfl | (simp [*]; done)), (by (try dsimp only) <;> (exact ⟨Nat.le_refl _, by simp⟩)), (by (try dsimp only) <;> (exact fun q hq => by rw [List.mem_singleton.1 hq]; exact mkP hw hh))⟩
    rintro ⟨a2, s2, pieces, n_2⟩ ⟨nn, cu, ln, pk⟩ E hE F hF
    dsimp only at nn cu ln pk
    conv => cbv
    refine r_gtr m.sX (fun h1 => ?_) (fun h1 => ?_) <;> conv => cbv
    · refine r_lenR m.sX fun n1 hn1 mn1 => ?_
      conv => cbv
      refine r_lss m.sX (fun h2 => ?_) (fun h2 => ?_) <;> conv => cbv
      · refine r_lenR m.sX fun n2 hn2 mn2 => ?_
        conv => cbv
        refine r_mcall m.sX (cPick_ok code a2 s2 n2 h (by omega) (by omega)) ?_
        rintro _ _ ⟨k, rfl, ⟨a3, s3, rfl, ea3, fa3⟩, bk, ck, dk⟩
        conv => cbv
        refine r_oindex m.sX (by omega) (by omega) ?_
        conv => cbv
        obtain ⟨⟨pA, pB⟩, hp⟩ := get_ex (xs := pieces) (i := Int.toNat k) (by omega)
        have mp := get_mem hp
        have bp := okP_spec (pk _ mp)
        try dsimp only at bp
        refine r_oload m.sX hp (Nat.le_of_ble_eq_true rfl) ?_
        conv => cbv
        refine r_mcall m.sX (cOne_ok code a3 s3 2 h (by omega) (by omega)) ?_
        rintro _ _ ⟨q1, rfl, ⟨a4, s4, rfl, ea4, fa4⟩⟩
        conv => cbv
        rcases Bool.eq_false_or_eq_true q1 with rfl | rfl <;> conv => cbv
        · refine r_gtr m.sX (fun h3 => ?_) (fun h3 => ?_) <;> conv => cbv
          · refine r_subf m.sX (by omega) (by omega) fun r1 hr1 => ?_
            conv => cbv
            refine r_mcall m.sX (cPick_ok code a4 s4 r1 h (by omega) (by omega)) ?_
            rintro _ _ ⟨q2, rfl, ⟨a5, s5, rfl, ea5, fa5⟩, bq2, cq2, dq2⟩
            conv => cbv
            refine r_addf m.sX (by omega) (by omega) fun at_ hat_ => ?_
            conv => cbv
            refine r_oindex m.sX (by omega) (by omega) ?_
            conv => cbv
            obtain ⟨⟨y1A, y1B⟩, hy1⟩ := get_ex (xs := pieces) (i := Int.toNat k) (by omega)
            refine r_ostore (l := Int.toNat k) (at_, y1B) m.sX hy1 (Nat.le_of_ble_eq_true rfl) rfl fun pieces_2 hpieces_2 => ?_
            have lpieces_2 : (pieces_2.length : Int) = pieces.length := by rw [hpieces_2]; first | done | (simp; done) | (simp; omega)
            conv => cbv
            refine r_subf m.sX (by omega) (by omega) fun r2 hr2 => ?_
            conv => cbv
            refine r_append1 ((r2, pB)) m.sX rfl (by first | omega | (dsimp only; omega)) (by first | omega | (dsimp only; omega)) fun pieces_3 hpieces_3 => ?_
            conv => cbv
            have lpieces_3 : (pieces_3.length : Int) = pieces_2.length + 1 := by rw [hpieces_3]; first | done | (simp; done) | (simp; omega)
            refine r_subf m.sX (by omega) (by omega) fun n_3 hn_3 => ?_
            conv => cbv
            refine hE _ (a5, s5, pieces_3, n_3) ?_ ?_ ⟨(by (try dsimp only) <;> first | omega | rfl | (simp [*]; done) | (rw [nn]; simp [*]; done)), (by (try dsimp only) <;> first | omega | rfl | (simp [*]; done) | (rw [cu]; simp [*]; done)), (by (try dsimp only) <;> first | omega | rfl | (simp [*]; done) | (rw [ln]; simp [*]; done)), (by (try dsimp only) <;> (first | exact pk | exact pk_next pk (mkP (by omega) (okP_spec (pk _ (get_mem hy1))).2) (mkP (by omega) (by omega)) hpieces_2 hpieces_3 | exact pk_next pk (mkP (okP_spec (pk _ (get_mem hy2))).1 (by omega)) (mkP (by omega) (by omega)) hpieces_4 hpieces_5 | exact pk_next pk (mkP (okP_spec (pk _ (get_mem hy3))).1 (by omega)) (mkP (by omega) (by omega)) hpieces_6 hpieces_7))⟩ (by first | omega | (dsimp only; omega))
            · cbv
            · cbv
          · refine r_gtr m.sX (fun h4 => ?_) (fun h4 => ?_) <;> conv => cbv
            · refine r_subf m.sX (by omega) (by omega) fun r3 hr3 => ?_
              conv => cbv
              refine r_mcall m.sX (cPick_ok code a4 s4 r3 h (by omega) (by omega)) ?_
              rintro _ _ ⟨q3, rfl, ⟨a6, s6, rfl, ea6, fa6⟩, bq3, cq3, dq3⟩
              conv => cbv
              refine r_addf m.sX (by omega) (by omega) fun at__2 hat__2 => ?_
              conv => cbv
              refine r_oindex m.sX (by omega) (by omega) ?_
              conv => cbv
              obtain ⟨⟨y2A, y2B⟩, hy2⟩ := get_ex (xs := pieces) (i := Int.toNat k) (by omega)
              refine r_ostore (l := Int.toNat k) (y2A, at__2) m.sX hy2 (Nat.le_of_ble_eq_true rfl) rfl fun pieces_4 hpieces_4 => ?_
              have lpieces_4 : (pieces_4.length : Int) = pieces.length := by rw [hpieces_4]; first | done | (simp; done) | (simp; omega)
              conv => cbv
              refine r_subf m.sX (by omega) (by omega) fun r4 hr4 => ?_
              conv => cbv
              refine r_append1 ((pA, r4)) m.sX rfl (by first | omega | (dsimp only; omega)) (by first | omega | (dsimp only; omega)) fun pieces_5 hpieces_5 => ?_
              conv => cbv
              have lpieces_5 : (pieces_5.length : Int) = pieces_4.length + 1 := by rw [hpieces_5]; first | done | (simp; done) | (simp; omega)
              refine r_subf m.sX (by omega) (by omega) fun n_4 hn_4 => ?_
              conv => cbv
              refine hE _ (a6, s6, pieces_5, n_4) ?_ ?_ ⟨(by (try dsimp only) <;> first | omega | rfl | (simp [*]; done) | (rw [nn]; simp [*]; done)), (by (try dsimp only) <;> first | omega | rfl | (simp [*]; done) | (rw [cu]; simp [*]; done)), (by (try dsimp only) <;> first | omega | rfl | (simp [*]; done) | (rw [ln]; simp [*]; done)), (by (try dsimp only) <;> (first | exact pk | exact pk_next pk (mkP (by omega) (okP_spec (pk _ (get_mem hy1))).2) (mkP (by omega) (by omega)) hpieces_2 hpieces_3 | exact pk_next pk (mkP (okP_spec (pk _ (get_mem hy2))).1 (by omega)) (mkP (by omega) (by omega)) hpieces_4 hpieces_5 | exact pk_next pk (mkP (okP_spec (pk _ (get_mem hy3))).1 (by omega)) (mkP (by omega) (by omega)) hpieces_6 hpieces_7))⟩ (by first | omega | (dsimp only; omega))
              · cbv
              · cbv
            · refine r_subf m.sX (by omega) (by omega) fun n_5 hn_5 => ?_
              conv => cbv
              refine hE _ (a4, s4, pieces, n_5) ?_ ?_ ⟨(by (try dsimp only) <;> first | omega | rfl | (simp [*]; done) | (rw [nn]; simp [*]; done)), (by (try dsimp only) <;> first | omega | rfl | (simp [*]; done) | (rw [cu]; simp [*]; done)), (by (try dsimp only) <;> first | omega | rfl | (simp [*]; done) | (rw [ln]; simp [*]; done)), (by (try dsimp only) <;> (first | exact pk | exact pk_next pk (mkP (by omega) (okP_spec (pk _ (get_mem hy1))).2) (mkP (by omega) (by omega)) hpieces_2 hpieces_3 | exact pk_next pk (mkP (okP_spec (pk _ (get_mem hy2))).1 (by omega)) (mkP (by omega) (by omega)) hpieces_4 hpieces_5 | exact pk_next pk (mkP (okP_spec (pk _ (get_mem hy3))).1 (by omega)) (mkP (by omega) (by omega)) hpieces_6 hpieces_7))⟩ (by first | omega | (dsimp only; omega))
              · cbv
              · cbv
        · refine r_gtr m.sX (fun h5 => ?_) (fun h5 => ?_) <;> conv => cbv
          · refine r_subf m.sX (by omega) (by omega) fun r5 hr5 => ?_
            conv => cbv
            refine r_mcall m.sX (cPick_ok code a4 s4 r5 h (by omega) (by omega)) ?_
            rintro _ _ ⟨q4, rfl, ⟨a7, s7, rfl, ea7, fa7⟩, bq4, cq4, dq4⟩
            conv => cbv
            refine r_addf m.sX (by omega) (by omega) fun at__3 hat__3 => ?_
            conv => cbv
            refine r_oindex m.sX (by omega) (by omega) ?_
            conv => cbv
            obtain ⟨⟨y3A, y3B⟩, hy3⟩ := get_ex (xs := pieces) (i := Int.toNat k) (by omega)
            refine r_ostore (l := Int.toNat k) (y3A, at__3) m.sX hy3 (Nat.le_of_ble_eq_true rfl) rfl fun pieces_6 hpieces_6 => ?_
            have lpieces_6 : (pieces_6.length : Int) = pieces.length := by rw [hpieces_6]; first | done | (simp; done) | (simp; omega)
            conv => cbv
            refine r_subf m.sX (by omega) (by omega) fun r6 hr6 => ?_
            conv => cbv
            refine r_append1 ((pA, r6)) m.sX rfl (by first | omega | (dsimp only; omega)) (by first | omega | (dsimp only; omega)) fun pieces_7 hpieces_7 => ?_
            conv => cbv
            have lpieces_7 : (pieces_7.length : Int) = pieces_6.length + 1 := by rw [hpieces_7]; first | done | (simp; done) | (simp; omega)
            refine r_subf m.sX (by omega) (by omega) fun n_6 hn_6 => ?_
            conv => cbv
            refine hE _ (a7, s7, pieces_7, n_6) ?_ ?_ ⟨(by (try dsimp only) <;> first | omega | rfl | (simp [*]; done) | (rw [nn]; simp [*]; done)), (by (try dsimp only) <;> first | omega | rfl | (simp [*]; done) | (rw [cu]; simp [*]; done)), (by (try dsimp only) <;> first | omega | rfl | (simp [*]; done) | (rw [ln]; simp [*]; done)), (by (try dsimp only) <;> (first | exact pk | exact pk_next pk (mkP (by omega) (okP_spec (pk _ (get_mem hy1))).2) (mkP (by omega) (by omega)) hpieces_2 hpieces_3 | exact pk_next pk (mkP (okP_spec (pk _ (get_mem hy2))).1 (by omega)) (mkP (by omega) (by omega)) hpieces_4 hpieces_5 | exact pk_next pk (mkP (okP_spec (pk _ (get_mem hy3))).1 (by omega)) (mkP (by omega) (by omega)) hpieces_6 hpieces_7))⟩ (by first | omega | (dsimp only; omega))
            · cbv
            · cbv
          · refine r_subf m.sX (by omega) (by omega) fun n_7 hn_7 => ?_
            conv => cbv
            refine hE _ (a4, s4, pieces, n_7) ?_ ?_ ⟨(by (try dsimp only) <;> first | omega | rfl | (simp [*]; done) | (rw [nn]; simp [*]; done)), (by (try dsimp only) <;> first | omega | rfl | (simp [*]; done) | (rw [cu]; simp [*]; done)), (by (try dsimp only) <;> first | omega | rfl | (simp [*]; done) | (rw [ln]; simp [*]; done)), (by (try dsimp only) <;> (first | exact pk | exact pk_next pk (mkP (by omega) (okP_spec (pk _ (get_mem hy1))).2) (mkP (by omega) (by omega)) hpieces_2 hpieces_3 | exact pk_next pk (mkP (okP_spec (pk _ (get_mem hy2))).1 (by omega)) (mkP (by omega) (by omega)) hpieces_4 hpieces_5 | exact pk_next pk (mkP (okP_spec (pk _ (get_mem hy3))).1 (by omega)) (mkP (by omega) (by omega)) hpieces_6 hpieces_7))⟩ (by first | omega | (dsimp only; omega))
            · cbv
            · cbv
      · refine hF _ _ ?_
        conv => cbv
        refine r_lenR m.sX fun n3 hn3 mn3 => ?_
        conv => cbv
        refine r_loopF (α := Int × Int × List Piece × Int) m 112 [90, 91] [⟨0, 1, 0, 0, 0⟩, ⟨7, 57, 62, 2, 0⟩] (fun σ => [(0, .optr 1 0 0 0 0), (7, .osl 57 0), (90, .int .i64 n3), (91, .int .i64 σ.2.2.2)]) (fun σ => [(1, 0, .box (cCur code σ.1 σ.2.1)), (57, 0, .row 62 2 (rows cPiece σ.2.2.1))])
          (fun σ => (0 ≤ σ.2.2.2) ∧ (σ.2.2.2 ≤ n3) ∧ (a2 ≤ σ.1 ∧ σ.1 ≤ a2 + 4 * σ.2.2.2) ∧ ((σ.2.2.1.length : Int) = n3)) (fun σ => (n3 - σ.2.2.2).toNat) (a2, s2, pieces, 0) ?_ ?_ ?_ ?_
        · cbv
        · cbv
        · exact ⟨(by (try dsimp only); first | omega | (simp only [List.length_nil]; omega) | (simp only [List.length_cons, List.length_nil]; omega)), (by (try dsimp only); first | omega | (simp only [List.length_nil]; omega) | (simp only [List.length_cons, List.length_nil]; omega)), (by (try dsimp only); first | omega | (simp only [List.length_nil]; omega) | (simp only [List.length_cons, List.length_nil]; omega)), (by (try dsimp only) <;> first | omega | rfl | (simp [*]; done))⟩
        rintro ⟨a8, s8, pieces_8, i1⟩ ⟨lo2, hi2, cl2, l2⟩ E hE F hF
        dsimp only at lo2 hi2 cl2 l2
        conv => cbv
        refine r_lss m.sX (fun h6 => ?_) (fun h6 => ?_) <;> conv => cbv
        · refine r_mcall m.sX (cOne_ok code a8 s8 3 h (by omega) (by omega)) ?_
          rintro _ _ ⟨q5, rfl, ⟨a9, s9, rfl, ea9, fa9⟩⟩
          conv => cbv
          rcases Bool.eq_false_or_eq_true q5 with rfl | rfl <;> conv => cbv
          · refine r_draw m (by kernel_rfl) ?_
            conv => cbv
            refine r_oindex m.sY (by omega) (by omega) ?_
            conv => cbv
            obtain ⟨⟨x1A, x1B⟩, hx1⟩ := get_ex (xs := pieces_8) (i := Int.toNat i1) (by omega)
            have mx1 := get_mem hx1
            have dx1 := drop_cons hx1
            have kx1 := take_snoc hx1
            have jx1 : (i1 + 1).toNat = Int.toNat i1 + 1 := by omega
            refine r_oload m.sY hx1 (Nat.le_of_ble_eq_true rfl) ?_
            conv => cbv
            refine r_oindex m.sY (by omega) (by omega) ?_
            conv => cbv
            obtain ⟨⟨x2A, x2B⟩, hx2⟩ := get_ex (xs := pieces_8) (i := Int.toNat i1) (by omega)
            have mx2 := get_mem hx2
            have dx2 := drop_cons hx2
            have kx2 := take_snoc hx2
            have jx2 : (i1 + 1).toNat = Int.toNat i1 + 1 := by omega
            refine r_oload m.sY hx2 (Nat.le_of_ble_eq_true rfl) ?_
            conv => cbv
            refine r_oindex m.sY (by omega) (by omega) ?_
            conv => cbv
            obtain ⟨⟨y4A, y4B⟩, hy4⟩ := get_ex (xs := pieces_8) (i := Int.toNat i1) (by omega)
            refine r_ostore (l := Int.toNat i1) (x1B, x2A) m.sY hy4 (Nat.le_of_ble_eq_true rfl) rfl fun pieces_9 hpieces_9 => ?_
            have lpieces_9 : (pieces_9.length : Int) = pieces_8.length := by rw [hpieces_9]; first | done | (simp; done) | (simp; omega)
            conv => cbv
            refine r_addf m.sX (by omega) (by omega) fun r7 hr7 => ?_
            conv => cbv
            try have tr7 : Int.toNat r7 = Int.toNat i1 + 1 := by omega
            refine hE _ (a9, s9, pieces_9, r7) ?_ ?_ ⟨(by (try dsimp only); first | omega | (simp only [List.length_nil]; omega) | (simp only [List.length_cons, List.length_nil]; omega)), (by (try dsimp only); first | omega | (simp only [List.length_nil]; omega) | (simp only [List.length_cons, List.length_nil]; omega)), (by (try dsimp only); first | omega | (simp only [List.length_nil]; omega) | (simp only [List.length_cons, List.length_nil]; omega)), (by (try dsimp only) <;> first | omega | rfl | (simp [*]; done) | (rw [l2]; simp [*]; done))⟩ (by first | omega | (dsimp only; omega))
            · cbv
            · cbv
          · refine r_addf m.sX (by omega) (by omega) fun r8 hr8 => ?_
            conv => cbv
            try have tr8 : Int.toNat r8 = Int.toNat i1 + 1 := by omega
            refine hE _ (a9, s9, pieces_8, r8) ?_ ?_ ⟨(by (try dsimp only); first | omega | (simp only [List.length_nil]; omega) | (simp only [List.length_cons, List.length_nil]; omega)), (by (try dsimp only); first | omega | (simp only [List.length_nil]; omega) | (simp only [List.length_cons, List.length_nil]; omega)), (by (try dsimp only); first | omega | (simp only [List.length_nil]; omega) | (simp only [List.length_cons, List.length_nil]; omega)), (by (try dsimp only) <;> first | omega | rfl | (simp [*]; done) | (rw [l2]; simp [*]; done))⟩ (by first | omega | (dsimp only; omega))
            · cbv
            · cbv
        · have dz_i1 := drop_end (xs := pieces) (i := Int.toNat i1) (by omega)
          have tz_i1 := take_end (xs := pieces) (i := Int.toNat i1) (by omega)
          refine hF _ _ ?_
          conv => cbv
          exact hQ (.fr 62 2 (rows cPiece pieces_8)) (cCur code a8 s8) ⟨pieces_8, rfl, ⟨a8, s8, rfl, by omega, by omega⟩, (by first | omega | assumption | (simp; done) | (simp [*]; done) | (simp at *; omega))⟩   -- leaf 1
    · refine hF _ _ ?_
      conv => cbv
      refine r_lenR m.sX fun n4 hn4 mn4 => ?_
      conv => cbv
      refine r_loopF (α := Int × Int × List Piece × Int) m 112 [90, 91] [⟨0, 1, 0, 0, 0⟩, ⟨7, 57, 62, 2, 0⟩] (fun σ => [(0, .optr 1 0 0 0 0), (7, .osl 57 0), (90, .int .i64 n4), (91, .int .i64 σ.2.2.2)]) (fun σ => [(1, 0, .box (cCur code σ.1 σ.2.1)), (57, 0, .row 62 2 (rows cPiece σ.2.2.1))])
        (fun σ => (0 ≤ σ.2.2.2) ∧ (σ.2.2.2 ≤ n4) ∧ (a2 ≤ σ.1 ∧ σ.1 ≤ a2 + 4 * σ.2.2.2) ∧ ((σ.2.2.1.length : Int) = n4)) (fun σ => (n4 - σ.2.2.2).toNat) (a2, s2, pieces, 0) ?_ ?_ ?_ ?_
      · cbv
      · cbv
      · exact ⟨(by (try dsimp only); first | omega | (simp only [List.length_nil]; omega) | (simp only [List.length_cons, List.length_nil]; omega)), (by (try dsimp only); first | omega | (simp only [List.length_nil]; omega) | (simp only [List.length_cons, List.length_nil]; omega)), (by (try dsimp only); first | omega | (simp only [List.length_nil]; omega) | (simp only [List.length_cons, List.length_nil]; omega)), (by (try dsimp only) <;> first | omega | rfl | (simp [*]; done))⟩
      rintro ⟨a10, s10, pieces_10, i2⟩ ⟨lo3, hi3, cl3, l3⟩ E hE F hF
      dsimp only at lo3 hi3 cl3 l3
      conv => cbv
      refine r_lss m.sX (fun h7 => ?_) (fun h7 => ?_) <;> conv => cbv
      · refine r_mcall m.sX (cOne_ok code a10 s10 3 h (by omega) (by omega)) ?_
        rintro _ _ ⟨q6, rfl, ⟨a11, s11, rfl, ea11, fa11⟩⟩
        conv => cbv
        rcases Bool.eq_false_or_eq_true q6 with rfl | rfl <;> conv => cbv
        · refine r_draw m (by kernel_rfl) ?_
          conv => cbv
          refine r_oindex m.sY (by omega) (by omega) ?_
          conv => cbv
          obtain ⟨⟨x3A, x3B⟩, hx3⟩ := get_ex (xs := pieces_10) (i := Int.toNat i2) (by omega)
          have mx3 := get_mem hx3
          have dx3 := drop_cons hx3
          have kx3 := take_snoc hx3
          have jx3 : (i2 + 1).toNat = Int.toNat i2 + 1 := by omega
          refine r_oload m.sY hx3 (Nat.le_of_ble_eq_true rfl) ?_
          conv => cbv
          refine r_oindex m.sY (by omega) (by omega) ?_
          conv => cbv
          obtain ⟨⟨x4A, x4B⟩, hx4⟩ := get_ex (xs := pieces_10) (i := Int.toNat i2) (by omega)
          have mx4 := get_mem hx4
          have dx4 := drop_cons hx4
          have kx4 := take_snoc hx4
          have jx4 : (i2 + 1).toNat = Int.toNat i2 + 1 := by omega
          refine r_oload m.sY hx4 (Nat.le_of_ble_eq_true rfl) ?_
          conv => cbv
          refine r_oindex m.sY (by omega) (by omega) ?_
          conv => cbv
          obtain ⟨⟨y5A, y5B⟩, hy5⟩ := get_ex (xs := pieces_10) (i := Int.toNat i2) (by omega)
          refine r_ostore (l := Int.toNat i2) (x3B, x4A) m.sY hy5 (Nat.le_of_ble_eq_true rfl) rfl fun pieces_11 hpieces_11 => ?_
          have lpieces_11 : (pieces_11.length : Int) = pieces_10.length := by rw [hpieces_11]; first | done | (simp; done) | (simp; omega)
          conv => cbv
          refine r_addf m.sX (by omega) (by omega) fun r9 hr9 => ?_
          conv => cbv
          try have tr9 : Int.toNat r9 = Int.toNat i2 + 1 := by omega
          refine hE _ (a11, s11, pieces_11, r9) ?_ ?_ ⟨(by (try dsimp only); first | omega | (simp only [List.length_nil]; omega) | (simp only [List.length_cons, List.length_nil]; omega)), (by (try dsimp only); first | omega | (simp only [List.length_nil]; omega) | (simp only [List.length_cons, List.length_nil]; omega)), (by (try dsimp only); first | omega | (simp only [List.length_nil]; omega) | (simp only [List.length_cons, List.length_nil]; omega)), (by (try dsimp only) <;> first | omega | rfl | (simp [*]; done) | (rw [l3]; simp [*]; done))⟩ (by first | omega | (dsimp only; omega))
          · cbv
          · cbv
        · refine r_addf m.sX (by omega) (by omega) fun r10 hr10 => ?_
          conv => cbv
          try have tr10 : Int.toNat r10 = Int.toNat i2 + 1 := by omega
          refine hE _ (a11, s11, pieces_10, r10) ?_ ?_ ⟨(by (try dsimp only); first | omega | (simp only [List.length_nil]; omega) | (simp only [List.length_cons, List.length_nil]; omega)), (by (try dsimp only); first | omega | (simp only [List.length_nil]; omega) | (simp only [List.length_cons, List.length_nil]; omega)), (by (try dsimp only); first | omega | (simp only [List.length_nil]; omega) | (simp only [List.length_cons, List.length_nil]; omega)), (by (try dsimp only) <;> first | omega | rfl | (simp [*]; done) | (rw [l3]; simp [*]; done))⟩ (by first | omega | (dsimp only; omega))
          · cbv
          · cbv
      · have dz_i2 := drop_end (xs := pieces) (i := Int.toNat i2) (by omega)
        have tz_i2 := take_end (xs := pieces) (i := Int.toNat i2) (by omega)
        refine hF _ _ ?_
        conv => cbv
        exact hQ (.fr 62 2 (rows cPiece pieces_10)) (cCur code a10 s10) ⟨pieces_10, rfl, ⟨a10, s10, rfl, by omega, by omega⟩, (by first | omega | assumption | (simp; done) | (simp [*]; done) | (simp at *; omega))⟩   -- leaf 2

theorem cPieces_ok (code : List Int) (b0 t0 : Int) (width : Int) (height : Int) (h : CurIn code) (h0 : 0 ≤ b0) (hk : b0 ≤ 899999999999800000)  : OkM Try.prog 72 (cCur code b0 t0) [.int .i64 width, .int .i64 height] (fun r cs => ∃ (q : List Piece), r = .isl 2 (rows cPiece q) ∧ CurTo code b0 200 cs ∧ (q.length ≤ 9)) :=
  OkM.iceR (fnM_intro envOk fieldsOk mixed Try.func72 rfl fun κ X Y L Q m hQ => by
    conv => cbv
    refine r_callB m.sX (fuSize_ok width) (fun h1 => ?_) (fun h1 => ?_) <;> conv => cbv
    · have iw := inB_spec h1
      refine r_callB m.sX (fuSize_ok height) (fun h2 => ?_) (fun h2 => ?_) <;> conv => cbv
      · have ih_ := inB_spec h2
        refine r_mcall m.sX (cOne_ok code b0 t0 12 h (by omega) (by omega)) ?_
        rintro _ _ ⟨q1, rfl, ⟨a1, s1, rfl, ea1, fa1⟩⟩
        conv => cbv
        rcases Bool.eq_false_or_eq_true q1 with rfl | rfl <;> conv => cbv
        · exact hQ (.fr 62 2 [[.int .i64 1, .int .i64 2], [.int .i64 2, .int .i64 2]]) (cCur code a1 s1) ⟨[(1, 2), (2, 2)], (by first | rfl | (simp only [rows_nil]; rfl) | (simp only [rows_cons, rows_nil]; rfl)), ⟨a1, s1, rfl, by omega, by omega⟩, (by first | omega | assumption | (simp; done) | (simp [*]; done) | (simp at *; omega))⟩   -- leaf 1
        · refine r_mcall m.sX (cCutUp_ok code a1 s1 width height h (by omega) (by omega) (by first | rfl | assumption | omega | (simp only [List.length_append, List.length_cons, List.length_nil] at *; omega)) (by first | rfl | assumption | omega | (simp only [List.length_append, List.length_cons, List.length_nil] at *; omega))) ?_
          rintro _ _ ⟨pieces, rfl, ⟨a2, s2, rfl, ea2, fa2⟩, bpieces_1⟩
          conv => cbv
          refine r_lenR m.sX fun n1 hn1 mn1 => ?_
          conv => cbv
          refine r_mcall m.sX (cPick_ok code a2 s2 n1 h (by omega) (by omega)) ?_
          rintro _ _ ⟨k, rfl, ⟨a3, s3, rfl, ea3, fa3⟩, bk, ck, dk⟩
          conv => cbv
          refine r_mcall m.sX (cPick_ok code a3 s3 16 h (by omega) (by omega)) ?_
          rintro _ _ ⟨q2, rfl, ⟨a4, s4, rfl, ea4, fa4⟩, bq2, cq2, dq2⟩
          conv => cbv
          refine r_eql m.sX (fun h3 => ?_) (fun h3 => ?_) <;> conv => cbv
          · refine r_mcall m.sX (cAmong_ok code a4 s4 ([0, 8, 9, 1]) (by simp) h (by omega) (by omega)) ?_
            rintro _ _ ⟨q3, rfl, ⟨a5, s5, rfl, ea5, fa5⟩, bq3⟩
            simp only [List.mem_cons, List.not_mem_nil, or_false] at bq3
            conv => cbv
            refine r_oindex m.sX (by omega) (by omega) ?_
            conv => cbv
            obtain ⟨⟨y1A, y1B⟩, hy1⟩ := get_ex (xs := pieces) (i := Int.toNat k) (by omega)
            refine r_ostore (l := Int.toNat k) (q3, y1B) m.sX hy1 (Nat.le_of_ble_eq_true rfl) rfl fun zs1 hzs1 => ?_
            have lzs1 : (zs1.length : Int) = pieces.length := by rw [hzs1]; first | done | (simp; done) | (simp; omega)
            conv => cbv
            exact hQ (.fr 62 2 (rows cPiece zs1)) (cCur code a5 s5) ⟨zs1, rfl, ⟨a5, s5, rfl, by omega, by omega⟩, (by first | omega | assumption | (simp; done) | (simp [*]; done) | (simp at *; omega))⟩   -- leaf 2
          · refine r_eql m.sX (fun h4 => ?_) (fun h4 => ?_) <;> conv => cbv
            · refine r_append1 ((1, 1)) m.sX rfl (by first | omega | (dsimp only; omega)) (by first | omega | (dsimp only; omega)) fun pieces_2 hpieces_2 => ?_
              conv => cbv
              have lpieces_2 : (pieces_2.length : Int) = pieces.length + 1 := by rw [hpieces_2]; first | done | (simp; done) | (simp; omega)
              exact hQ (.fr 62 2 (rows cPiece pieces_2)) (cCur code a4 s4) ⟨pieces_2, rfl, ⟨a4, s4, rfl, by omega, by omega⟩, (by first | omega | assumption | (simp; done) | (simp [*]; done) | (simp at *; omega))⟩   -- leaf 3
            · refine r_eql m.sX (fun h5 => ?_) (fun h5 => ?_) <;> conv => cbv
              · refine r_mcall m.sX (cPick_ok code a4 s4 2 h (by omega) (by omega)) ?_
                rintro _ _ ⟨q4, rfl, ⟨a6, s6, rfl, ea6, fa6⟩, bq4, cq4, dq4⟩
                conv => cbv
                refine r_addf m.sX (by omega) (by omega) fun n hn => ?_
                conv => cbv
                refine r_loopF (α := List Piece) m 69 [9] [⟨0, 1, 0, 0, 0⟩, ⟨7, 57, 62, 2, 0⟩] (fun σ => [(0, .optr 1 0 0 0 0), (7, .osl 57 0), (9, .int .i64 n)]) (fun σ => [(1, 0, .box (cCur code a6 s6)), (57, 0, .row 62 2 (rows cPiece σ))])
                  (fun σ => σ.length ≤ 9) (fun σ => (10 - σ.length)) pieces ?_ ?_ ?_ ?_
                · cbv
                · cbv
                · exact (by (try dsimp only) <;> first | omega | rfl | (simp [*]; done))
                rintro pieces_3 ln E hE F hF
                conv => cbv
                refine r_lenR m.sX fun n2 hn2 mn2 => ?_
                conv => cbv
                refine r_lss m.sX (fun h6 => ?_) (fun h6 => ?_) <;> conv => cbv
                · refine r_append1 ((1, 1)) m.sX rfl (by first | omega | (dsimp only; omega)) (by first | omega | (dsimp only; omega)) fun pieces_4 hpieces_4 => ?_
                  conv => cbv
                  have lpieces_4 : (pieces_4.length : Int) = pieces_3.length + 1 := by rw [hpieces_4]; first | done | (simp; done) | (simp; omega)
                  refine hE _ pieces_4 ?_ ?_ (by (try dsimp only) <;> first | omega | rfl | (simp [*]; done) | (rw [ln]; simp [*]; done)) (by first | omega | (dsimp only; omega))
                  · cbv
                  · cbv
                · refine hF _ _ ?_
                  conv => cbv
                  exact hQ (.fr 62 2 (rows cPiece pieces_3)) (cCur code a6 s6) ⟨pieces_3, rfl, ⟨a6, s6, rfl, by omega, by omega⟩, (by first | omega | assumption | (simp; done) | (simp [*]; done) | (simp at *; omega))⟩   -- leaf 4
              · refine r_eql m.sX (fun h7 => ?_) (fun h7 => ?_) <;> conv => cbv
                · exact hQ (.fr 62 2 [[.int .i64 2, .int .i64 2], [.int .i64 5, .int .i64 1]]) (cCur code a4 s4) ⟨[(2, 2), (5, 1)], (by first | rfl | (simp only [rows_nil]; rfl) | (simp only [rows_cons, rows_nil]; rfl)), ⟨a4, s4, rfl, by omega, by omega⟩, (by first | omega | assumption | (simp; done) | (simp [*]; done) | (simp at *; omega))⟩   -- leaf 5
                · exact hQ (.fr 62 2 (rows cPiece pieces)) (cCur code a4 s4) ⟨pieces, rfl, ⟨a4, s4, rfl, by omega, by omega⟩, (by first | omega | assumption | (simp; done) | (simp [*]; done) | (simp at *; omega))⟩   -- leaf 6
      · exact hQ (.fr 62 2 [[.int .i64 1, .int .i64 2], [.int .i64 2, .int .i64 2]]) (cCur code b0 t0) ⟨[(1, 2), (2, 2)], (by first | rfl | (simp only [rows_nil]; rfl) | (simp only [rows_cons, rows_nil]; rfl)), ⟨b0, t0, rfl, by omega, by omega⟩, (by first | omega | assumption | (simp; done) | (simp [*]; done) | (simp at *; omega))⟩   -- leaf 7
    · exact hQ (.fr 62 2 [[.int .i64 1, .int .i64 2], [.int .i64 2, .int .i64 2]]) (cCur code b0 t0) ⟨[(1, 2), (2, 2)], (by first | rfl | (simp only [rows_nil]; rfl) | (simp only [rows_cons, rows_nil]; rfl)), ⟨b0, t0, rfl, by omega, by omega⟩, (by first | omega | assumption | (simp; done) | (simp [*]; done) | (simp at *; omega))⟩)   -- leaf 8

end Go.Proofs.Ytiaodmfipeoegaa.Ai
