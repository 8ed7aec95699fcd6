/- Contracts of the functions on marks: marks alone, marks of a proof, clashes. -/
import Derived.Test.YtngefbdedbbplaaPfLine
namespace Go.Proofs.Ytngefbdedbbplaa.Ai
open Go Go.Proofs
set_option linter.unusedSimpArgs false
set_option maxRecDepth 10000
set_option maxHeartbeats 1000000
set_option linter.unusedVariables false
theorem alone_bnd {a b c : Int} {t : List UInt8} (h : aloneB (a, b, c, t) = true) : (0 ≤ a ∧ a ≤ 11) ∧ (0 ≤ b ∧ b ≤ 40) := by
  unfold aloneB at h
  rw [Bool.and_eq_true, Bool.and_eq_true] at h
  exact ⟨inB_spec h.1.1, inB_spec h.1.2⟩
theorem markB_no {lines : List Tx} {m : Mark} (h : aloneB m = false) : markB lines m = false := by rw [markB, h]; rfl
theorem markB_big {lines : List Tx} {a b c : Int} {t : List UInt8} (h : (lines.length : Int) ≤ a) : markB lines (a, b, c, t) = false := by
  rw [markB, decide_eq_false (show ¬ a < (lines.length : Int) by omega), Bool.false_and, Bool.and_false]
theorem markB_t {lines : List Tx} {a b c : Int} {t : List UInt8} {x : Tx} (h : aloneB (a, b, c, t) = true) (h1 : a < lines.length) (hx : lines[a.toNat]? = some x) (h2 : b ≤ x.length ∧ ¬ (b = x.length ∧ (c = 1 ∨ c = 3))) : markB lines (a, b, c, t) = true := by
  have e : lenAt lines a = x.length := by rw [lenAt, hx]; rfl
  simp only [markB, h, e, h1, h2.1, decide_true, Bool.true_and, Bool.not_eq_true', Bool.and_eq_false_iff, decide_eq_false_iff_not]
  omega
theorem markB_f {lines : List Tx} {a b c : Int} {t : List UInt8} {x : Tx} (hx : lines[a.toNat]? = some x) (h2 : (x.length : Int) < b ∨ (b = x.length ∧ (c = 1 ∨ c = 3))) : markB lines (a, b, c, t) = false := by
  have e : lenAt lines a = x.length := by rw [lenAt, hx]; rfl
  simp only [markB, e, Bool.and_eq_false_iff, Bool.not_eq_false', Bool.and_eq_true, decide_eq_false_iff_not, decide_eq_true_iff]
  omega
theorem anyM_drop {p : Mark → Bool} {l : List Mark} {i : Nat} {x : Mark} (h : l[i]? = some x) : (l.drop i).any p = (p x || (l.drop (i + 1)).any p) := by
  have hi := (List.getElem?_eq_some_iff.1 h).1
  rw [List.drop_eq_getElem_cons hi, List.any_cons, (List.getElem?_eq_some_iff.1 h).2]
theorem isMarkAlone_ok (m_ : Mark)  : OkA Try.prog 55 [.agg (cMark m_)] (· = .bool (aloneB m_)) := by
  obtain ⟨m_A, m_B, m_C, m_D⟩ := m_
  try dsimp only at *
  exact fn_intro envOk fieldsOk mixed Try.func55 rfl fun κ X Y L Q m hQ => by
    conv => cbv
    refine r_callB m.sX (within_ok m_A 0 11) (fun h1 => ?_) (fun h1 => ?_) <;> conv => cbv
    · refine r_callB m.sX (within_ok m_B 0 40) (fun h2 => ?_) (fun h2 => ?_) <;> conv => cbv
      · refine r_eql m.sX (fun h3 => ?_) (fun h3 => ?_) <;> conv => cbv
        · refine r_seql m.sX (fun h4 => ?_) (fun h4 => ?_) <;> conv => cbv
          · exact hQ _ (congrArg PV.bool (by simp [aloneB, *]))   -- leaf 1
          · exact hQ _ (congrArg PV.bool (by simp [aloneB, *]))   -- leaf 2
        · refine r_eql m.sX (fun h5 => ?_) (fun h5 => ?_) <;> conv => cbv
          · refine r_seql m.sX (fun h6 => ?_) (fun h6 => ?_) <;> conv => cbv
            · exact hQ _ (congrArg PV.bool (by simp [aloneB, *]))   -- leaf 3
            · exact hQ _ (congrArg PV.bool (by simp [aloneB, *]))   -- leaf 4
          · refine r_eql m.sX (fun h7 => ?_) (fun h7 => ?_) <;> conv => cbv
            · refine r_callB m.sX (isPlainText_ok m_D 1 10) (fun h8 => ?_) (fun h8 => ?_) <;> conv => cbv
              · exact hQ _ (congrArg PV.bool (by simp [aloneB, *]))   -- leaf 5
              · exact hQ _ (congrArg PV.bool (by simp [aloneB, *]))   -- leaf 6
            · refine r_eql m.sX (fun h9 => ?_) (fun h9 => ?_) <;> conv => cbv
              · refine r_callB m.sX (isPlainText_ok m_D 1 10) (fun h10 => ?_) (fun h10 => ?_) <;> conv => cbv
                · exact hQ _ (congrArg PV.bool (by simp [aloneB, *]))   -- leaf 7
                · exact hQ _ (congrArg PV.bool (by simp [aloneB, *]))   -- leaf 8
              · exact hQ _ (congrArg PV.bool (by simp [aloneB, *]))   -- leaf 9
      · exact hQ _ (congrArg PV.bool (by simp [aloneB, *]))   -- leaf 10
    · exact hQ _ (congrArg PV.bool (by simp [aloneB, *]))   -- leaf 11

theorem pfMark_ok (m_ : Mark)  : OkA Try.prog 71 [.agg (cMark m_)] (· = .bool (aloneB m_)) := by
  obtain ⟨m_A, m_B, m_C, m_D⟩ := m_
  try dsimp only at *
  exact fn_intro envOk fieldsOk mixed Try.func71 rfl fun κ X Y L Q m hQ => by
    conv => cbv
    refine r_callB m.sX (l1In_ok m_A 0 11) (fun h1 => ?_) (fun h1 => ?_) <;> conv => cbv
    · refine r_callB m.sX (l1In_ok m_B 0 40) (fun h2 => ?_) (fun h2 => ?_) <;> conv => cbv
      · refine r_eql m.sX (fun h3 => ?_) (fun h3 => ?_) <;> conv => cbv
        · refine r_seql m.sX (fun h4 => ?_) (fun h4 => ?_) <;> conv => cbv
          · exact hQ _ (congrArg PV.bool (by simp [aloneB, *]))   -- leaf 1
          · exact hQ _ (congrArg PV.bool (by simp [aloneB, *]))   -- leaf 2
        · refine r_eql m.sX (fun h5 => ?_) (fun h5 => ?_) <;> conv => cbv
          · refine r_seql m.sX (fun h6 => ?_) (fun h6 => ?_) <;> conv => cbv
            · exact hQ _ (congrArg PV.bool (by simp [aloneB, *]))   -- leaf 3
            · exact hQ _ (congrArg PV.bool (by simp [aloneB, *]))   -- leaf 4
          · refine r_eql m.sX (fun h7 => ?_) (fun h7 => ?_) <;> conv => cbv
            · refine r_callB m.sX (pfLetters_ok m_D 1 10) (fun h8 => ?_) (fun h8 => ?_) <;> conv => cbv
              · exact hQ _ (congrArg PV.bool (by simp [aloneB, *]))   -- leaf 5
              · exact hQ _ (congrArg PV.bool (by simp [aloneB, *]))   -- leaf 6
            · refine r_eql m.sX (fun h9 => ?_) (fun h9 => ?_) <;> conv => cbv
              · refine r_callB m.sX (pfLetters_ok m_D 1 10) (fun h10 => ?_) (fun h10 => ?_) <;> conv => cbv
                · exact hQ _ (congrArg PV.bool (by simp [aloneB, *]))   -- leaf 7
                · exact hQ _ (congrArg PV.bool (by simp [aloneB, *]))   -- leaf 8
              · exact hQ _ (congrArg PV.bool (by simp [aloneB, *]))   -- leaf 9
      · exact hQ _ (congrArg PV.bool (by simp [aloneB, *]))   -- leaf 10
    · exact hQ _ (congrArg PV.bool (by simp [aloneB, *]))   -- leaf 11

theorem AreMarks_ok (lines : List (List UInt8)) (marks : List Mark)  : OkA Try.prog 16 [.isl 1 (rows cStr lines), .isl 4 (rows cMark marks)] (· = .bool (marksB lines marks)) :=
  fn_intro envOk fieldsOk mixed Try.func16 rfl fun κ X Y L Q m hQ => by
    conv => cbv
    refine r_lenR m.sX fun n1 hn1 mn1 => ?_
    conv => cbv
    refine r_loopF (α := Int) m 58 [0, 1, 8, 9, 10] [] (fun σ => [(0, .isl 1 (rows cStr lines)), (1, .isl 4 (rows cMark marks)), (8, .isl 4 (rows cMark marks)), (9, .int .i64 n1), (10, .int .i64 σ)]) (fun σ => [])
      (fun σ => (0 ≤ σ) ∧ (σ ≤ n1) ∧ (marks.all (markB lines) = (marks.drop σ.toNat).all (markB lines))) (fun σ => (n1 - σ).toNat) 0 ?_ ?_ ?_ ?_
    · cbv
    · cbv
    · exact ⟨(by (try dsimp only); first | omega | (simp only [List.length_nil]; omega) | (simp only [List.length_cons, List.length_nil]; omega)), (by (try dsimp only); first | omega | (simp only [List.length_nil]; omega) | (simp only [List.length_cons, List.length_nil]; omega)), (by (try dsimp only) <;> (rfl))⟩
    rintro i1 ⟨lo1, hi1, q⟩ E hE F hF
    conv => cbv
    refine r_lss m.sX (fun h1 => ?_) (fun h1 => ?_) <;> conv => cbv
    · refine r_index m.sX (by omega) (by omega) fun v hm_A => ?_
      obtain ⟨m_A, m_B, m_C, m_D⟩ := v
      conv => cbv
      have hm_ := hm_A
      have mm_ := get_mem hm_
      have dm_ := drop_cons hm_
      have km_ := take_snoc hm_
      have jm_ : (i1 + 1).toNat = Int.toNat i1 + 1 := by omega
      refine r_callB m.sX (isMarkAlone_ok (m_A, m_B, m_C, m_D)) (fun h2 => ?_) (fun h2 => ?_) <;> conv => cbv
      · have ab := alone_bnd h2
        try dsimp only at ab
        refine r_lenR m.sX fun n2 hn2 mn2 => ?_
        conv => cbv
        refine r_geq m.sX (fun h3 => ?_) (fun h3 => ?_) <;> conv => cbv
        · refine hF _ _ ?_
          conv => cbv
          exact hQ _ (congrArg PV.bool (by rw [marksB, q, allM_drop hm_, markB_big (by omega)]; rfl))   -- leaf 1
        · refine r_index m.sX (by omega) (by omega) fun x1 hx1 => ?_
          conv => cbv
          have mx1 := get_mem hx1
          refine r_slen (u := x1) m.sX fun length hlength mlength => ?_   -- length = length of x1
          conv => cbv
          refine r_gtr m.sX (fun h4 => ?_) (fun h4 => ?_) <;> conv => cbv
          · refine hF _ _ ?_
            conv => cbv
            exact hQ _ (congrArg PV.bool (by rw [marksB, q, allM_drop hm_, markB_f hx1 (by omega)]; rfl))   -- leaf 2
          · refine r_eql m.sX (fun h5 => ?_) (fun h5 => ?_) <;> conv => cbv
            · refine r_eql m.sX (fun h6 => ?_) (fun h6 => ?_) <;> conv => cbv
              · refine hF _ _ ?_
                conv => cbv
                exact hQ _ (congrArg PV.bool (by rw [marksB, q, allM_drop hm_, markB_f hx1 (by omega)]; rfl))   -- leaf 3
              · refine r_eql m.sX (fun h7 => ?_) (fun h7 => ?_) <;> conv => cbv
                · refine hF _ _ ?_
                  conv => cbv
                  exact hQ _ (congrArg PV.bool (by rw [marksB, q, allM_drop hm_, markB_f hx1 (by omega)]; rfl))   -- leaf 4
                · refine r_addf m.sX (by omega) (by omega) fun r1 hr1 => ?_
                  conv => cbv
                  try have tr1 : Int.toNat r1 = Int.toNat i1 + 1 := by omega
                  refine hE _ r1 ?_ ?_ ⟨(by (try dsimp only); first | omega | (simp only [List.length_nil]; omega) | (simp only [List.length_cons, List.length_nil]; omega)), (by (try dsimp only); first | omega | (simp only [List.length_nil]; omega) | (simp only [List.length_cons, List.length_nil]; omega)), (by (try dsimp only) <;> (rw [q, allM_drop hm_, markB_t h2 (by omega) hx1 (by omega), Bool.true_and, tr1]))⟩ (by first | omega | (dsimp only; omega))
                  · cbv
                  · cbv
            · refine r_addf m.sX (by omega) (by omega) fun r2 hr2 => ?_
              conv => cbv
              try have tr2 : Int.toNat r2 = Int.toNat i1 + 1 := by omega
              refine hE _ r2 ?_ ?_ ⟨(by (try dsimp only); first | omega | (simp only [List.length_nil]; omega) | (simp only [List.length_cons, List.length_nil]; omega)), (by (try dsimp only); first | omega | (simp only [List.length_nil]; omega) | (simp only [List.length_cons, List.length_nil]; omega)), (by (try dsimp only) <;> (rw [q, allM_drop hm_, markB_t h2 (by omega) hx1 (by omega), Bool.true_and, tr2]))⟩ (by first | omega | (dsimp only; omega))
              · cbv
              · cbv
      · refine hF _ _ ?_
        conv => cbv
        exact hQ _ (congrArg PV.bool (by rw [marksB, q, allM_drop hm_, markB_no h2]; rfl))   -- leaf 5
    · have dz_i1 := drop_end (xs := marks) (i := Int.toNat i1) (by omega)
      have tz_i1 := take_end (xs := marks) (i := Int.toNat i1) (by omega)
      refine hF _ _ ?_
      conv => cbv
      refine r_callB m.sX (IsProof_ok lines) (fun h8 => ?_) (fun h8 => ?_) <;> conv => cbv
      · refine r_lenR m.sX fun n3 hn3 mn3 => ?_
        conv => cbv
        refine r_leq m.sX (fun h9 => ?_) (fun h9 => ?_) <;> conv => cbv
        · exact hQ _ (congrArg PV.bool (by rw [marksB, q, dz_i1, h8, decide_eq_true (by omega)]; rfl))   -- leaf 6
        · exact hQ _ (congrArg PV.bool (by rw [marksB, q, dz_i1, h8, decide_eq_false (by omega)]; rfl))   -- leaf 7
      · exact hQ _ (congrArg PV.bool (by rw [marksB, q, dz_i1, h8]; rfl))   -- leaf 8

theorem pfMarks_ok (lines : List (List UInt8)) (marks : List Mark) (hl : lines.length ≤ 1000) (hw : ∀ s ∈ lines, s.length ≤ 1000000) : OkA Try.prog 48 [.isl 1 (rows cStr lines), .isl 4 (rows cMark marks)] (· = .bool (marksB lines marks)) :=
  fn_intro envOk fieldsOk mixed Try.func48 rfl fun κ X Y L Q m hQ => by
    conv => cbv
    refine r_lenR m.sX fun n1 hn1 mn1 => ?_
    conv => cbv
    refine r_loopF (α := Int) m 61 [0, 1, 7, 8, 9] [] (fun σ => [(0, .isl 1 (rows cStr lines)), (1, .isl 4 (rows cMark marks)), (7, .isl 4 (rows cMark marks)), (8, .int .i64 n1), (9, .int .i64 σ)]) (fun σ => [])
      (fun σ => (0 ≤ σ) ∧ (σ ≤ n1) ∧ (marks.all (markB lines) = (marks.drop σ.toNat).all (markB lines))) (fun σ => (n1 - σ).toNat) 0 ?_ ?_ ?_ ?_
    · cbv
    · cbv
    · exact ⟨(by (try dsimp only); first | omega | (simp only [List.length_nil]; omega) | (simp only [List.length_cons, List.length_nil]; omega)), (by (try dsimp only); first | omega | (simp only [List.length_nil]; omega) | (simp only [List.length_cons, List.length_nil]; omega)), (by (try dsimp only) <;> (rfl))⟩
    rintro i1 ⟨lo1, hi1, q⟩ E hE F hF
    conv => cbv
    refine r_lss m.sX (fun h1 => ?_) (fun h1 => ?_) <;> conv => cbv
    · refine r_index m.sX (by omega) (by omega) fun v hm_A => ?_
      obtain ⟨m_A, m_B, m_C, m_D⟩ := v
      conv => cbv
      have hm_ := hm_A
      have mm_ := get_mem hm_
      have dm_ := drop_cons hm_
      have km_ := take_snoc hm_
      have jm_ : (i1 + 1).toNat = Int.toNat i1 + 1 := by omega
      refine r_draw m (by kernel_rfl) ?_
      conv => cbv
      refine r_callBS m.sY (pfMark_ok (m_A, m_B, m_C, m_D)) (fun h2 => ?_) (fun h2 => ?_) <;> conv => cbv
      · have ab := alone_bnd h2
        try dsimp only at ab
        refine r_lenRS m.sY (by omega) fun n2 hn2 => ?_
        conv => cbv
        refine r_geq m.sY (fun h3 => ?_) (fun h3 => ?_) <;> conv => cbv
        · refine hF _ _ ?_
          conv => cbv
          exact hQ _ (congrArg PV.bool (by rw [marksB, q, allM_drop hm_, markB_big (by omega)]; rfl))   -- leaf 1
        · refine r_index m.sY (by omega) (by omega) fun x1 hx1 => ?_
          conv => cbv
          have mx1 := get_mem hx1
          have bx := hw x1 mx1
          try dsimp only at bx
          refine r_slenS (u := x1) m.sY (by omega) fun n3 hn3 => ?_   -- n3 = length of x1
          conv => cbv
          refine r_gtr m.sY (fun h4 => ?_) (fun h4 => ?_) <;> conv => cbv
          · refine hF _ _ ?_
            conv => cbv
            exact hQ _ (congrArg PV.bool (by rw [marksB, q, allM_drop hm_, markB_f hx1 (by omega)]; rfl))   -- leaf 2
          · refine r_draw m (by kernel_rfl) ?_
            conv => cbv
            refine r_index m.sY (by omega) (by omega) fun x2 hx2 => ?_
            conv => cbv
            have mx2 := get_mem hx2
            obtain rfl : x1 = x2 := Option.some.inj (hx1.symm.trans hx2)
            refine r_slenS (u := x1) m.sY (by omega) fun n4 hn4 => ?_   -- n4 = length of x1
            conv => cbv
            refine r_eql m.sY (fun h5 => ?_) (fun h5 => ?_) <;> conv => cbv
            · refine r_eql m.sY (fun h6 => ?_) (fun h6 => ?_) <;> conv => cbv
              · refine hF _ _ ?_
                conv => cbv
                exact hQ _ (congrArg PV.bool (by rw [marksB, q, allM_drop hm_, markB_f hx1 (by omega)]; rfl))   -- leaf 3
              · refine r_eql m.sY (fun h7 => ?_) (fun h7 => ?_) <;> conv => cbv
                · refine hF _ _ ?_
                  conv => cbv
                  exact hQ _ (congrArg PV.bool (by rw [marksB, q, allM_drop hm_, markB_f hx1 (by omega)]; rfl))   -- leaf 4
                · refine r_addf m.sX (by omega) (by omega) fun r1 hr1 => ?_
                  conv => cbv
                  try have tr1 : Int.toNat r1 = Int.toNat i1 + 1 := by omega
                  refine hE _ r1 ?_ ?_ ⟨(by (try dsimp only); first | omega | (simp only [List.length_nil]; omega) | (simp only [List.length_cons, List.length_nil]; omega)), (by (try dsimp only); first | omega | (simp only [List.length_nil]; omega) | (simp only [List.length_cons, List.length_nil]; omega)), (by (try dsimp only) <;> (rw [q, allM_drop hm_, markB_t h2 (by omega) hx1 (by omega), Bool.true_and, tr1]))⟩ (by first | omega | (dsimp only; omega))
                  · cbv
                  · cbv
            · refine r_addf m.sX (by omega) (by omega) fun r2 hr2 => ?_
              conv => cbv
              try have tr2 : Int.toNat r2 = Int.toNat i1 + 1 := by omega
              refine hE _ r2 ?_ ?_ ⟨(by (try dsimp only); first | omega | (simp only [List.length_nil]; omega) | (simp only [List.length_cons, List.length_nil]; omega)), (by (try dsimp only); first | omega | (simp only [List.length_nil]; omega) | (simp only [List.length_cons, List.length_nil]; omega)), (by (try dsimp only) <;> (rw [q, allM_drop hm_, markB_t h2 (by omega) hx1 (by omega), Bool.true_and, tr2]))⟩ (by first | omega | (dsimp only; omega))
              · cbv
              · cbv
      · refine hF _ _ ?_
        conv => cbv
        exact hQ _ (congrArg PV.bool (by rw [marksB, q, allM_drop hm_, markB_no h2]; rfl))   -- leaf 5
    · have dz_i1 := drop_end (xs := marks) (i := Int.toNat i1) (by omega)
      have tz_i1 := take_end (xs := marks) (i := Int.toNat i1) (by omega)
      refine hF _ _ ?_
      conv => cbv
      refine r_callB m.sX (pfGood_ok lines) (fun h8 => ?_) (fun h8 => ?_) <;> conv => cbv
      · refine r_lenR m.sX fun n5 hn5 mn5 => ?_
        conv => cbv
        refine r_leq m.sX (fun h9 => ?_) (fun h9 => ?_) <;> conv => cbv
        · exact hQ _ (congrArg PV.bool (by rw [marksB, q, dz_i1, h8, decide_eq_true (by omega)]; rfl))   -- leaf 6
        · exact hQ _ (congrArg PV.bool (by rw [marksB, q, dz_i1, h8, decide_eq_false (by omega)]; rfl))   -- leaf 7
      · exact hQ _ (congrArg PV.bool (by rw [marksB, q, dz_i1, h8]; rfl))   -- leaf 8

theorem isLive_ok (marks : List Mark) (i : Int) (hi : 0 ≤ i ∧ i < marks.length) (hm : marks.length ≤ 1000) : OkA Try.prog 72 [.isl 4 (rows cMark marks), .int .i64 i] (· = .bool (isLiveF (marks.drop i.toNat))) :=
  fn_intro envOk fieldsOk mixed Try.func72 rfl fun κ X Y L Q m hQ => by
    conv => cbv
    refine r_index m.sX (by omega) (by omega) fun v hm_A => ?_
    obtain ⟨m_A, m_B, m_C, m_D⟩ := v
    conv => cbv
    have hm_ := hm_A
    have mm_ := get_mem hm_
    refine r_addf m.sX (by omega) (by omega) fun r1 hr1 => ?_
    conv => cbv
    refine r_islice' (i := r1) m.sX (by omega) (by omega) fun zs1 hzs1 => ?_   -- zs1 = marks[r1:None]
    have lzs1 : (zs1.length : Int) = marks.length - r1 := by rw [hzs1]; first | done | (simp; done) | (simp; omega)
    have ez : zs1 = marks.drop (i.toNat + 1) := by rw [hzs1, show r1.toNat = i.toNat + 1 by omega]
    conv => cbv
    refine r_lenR m.sX fun n1 hn1 mn1 => ?_
    conv => cbv
    refine r_loopF (α := Int) m 42 [15, 16, 17] [⟨5, 41, 0, 0, 0⟩] (fun σ => [(5, .optr 41 0 4 0 0), (15, .isl 4 (rows cMark zs1)), (16, .int .i64 n1), (17, .int .i64 σ)]) (fun σ => [(41, 0, .box [.int .i64 m_A, .int .i64 m_B, .int .i64 m_C, .str m_D])])
      (fun σ => (0 ≤ σ) ∧ (σ ≤ n1) ∧ (zs1.any (stetB (m_A, m_B, m_C, m_D)) = (zs1.drop σ.toNat).any (stetB (m_A, m_B, m_C, m_D)))) (fun σ => (n1 - σ).toNat) 0 ?_ ?_ ?_ ?_
    · cbv
    · cbv
    · exact ⟨(by (try dsimp only); first | omega | (simp only [List.length_nil]; omega) | (simp only [List.length_cons, List.length_nil]; omega)), (by (try dsimp only); first | omega | (simp only [List.length_nil]; omega) | (simp only [List.length_cons, List.length_nil]; omega)), (by (try dsimp only) <;> (rfl))⟩
    rintro i1 ⟨lo1, hi1, q⟩ E hE F hF
    conv => cbv
    refine r_lss m.sX (fun h1 => ?_) (fun h1 => ?_) <;> conv => cbv
    · refine r_index m.sX (by omega) (by omega) fun v hxA => ?_
      obtain ⟨xA, xB, xC, xD⟩ := v
      conv => cbv
      have hx := hxA
      have mx := get_mem hx
      have dx := drop_cons hx
      have kx := take_snoc hx
      have jx : (i1 + 1).toNat = Int.toNat i1 + 1 := by omega
      refine r_eql m.sX (fun h2 => ?_) (fun h2 => ?_) <;> conv => cbv
      · refine r_eql m.sX (fun h3 => ?_) (fun h3 => ?_) <;> conv => cbv
        · refine r_eql m.sX (fun h4 => ?_) (fun h4 => ?_) <;> conv => cbv
          · refine hF _ _ ?_
            conv => cbv
            exact hQ _ (congrArg PV.bool (by rw [isLive_at hm_, ← ez, q, anyM_drop hx, show stetB (m_A, m_B, m_C, m_D) (xA, xB, xC, xD) = true by simp [stetB, h2, h3, h4]]; rfl))   -- leaf 1
          · refine r_addf m.sX (by omega) (by omega) fun r2 hr2 => ?_
            conv => cbv
            try have tr2 : Int.toNat r2 = Int.toNat i1 + 1 := by omega
            refine hE _ r2 ?_ ?_ ⟨(by (try dsimp only); first | omega | (simp only [List.length_nil]; omega) | (simp only [List.length_cons, List.length_nil]; omega)), (by (try dsimp only); first | omega | (simp only [List.length_nil]; omega) | (simp only [List.length_cons, List.length_nil]; omega)), (by (try dsimp only) <;> (rw [q, anyM_drop hx, show stetB (m_A, m_B, m_C, m_D) (xA, xB, xC, xD) = false by first | simp [stetB, h4] | simp [stetB, h3] | simp [stetB, h2], Bool.false_or, tr2]))⟩ (by first | omega | (dsimp only; omega))
            · cbv
            · cbv
        · refine r_addf m.sX (by omega) (by omega) fun r3 hr3 => ?_
          conv => cbv
          try have tr3 : Int.toNat r3 = Int.toNat i1 + 1 := by omega
          refine hE _ r3 ?_ ?_ ⟨(by (try dsimp only); first | omega | (simp only [List.length_nil]; omega) | (simp only [List.length_cons, List.length_nil]; omega)), (by (try dsimp only); first | omega | (simp only [List.length_nil]; omega) | (simp only [List.length_cons, List.length_nil]; omega)), (by (try dsimp only) <;> (rw [q, anyM_drop hx, show stetB (m_A, m_B, m_C, m_D) (xA, xB, xC, xD) = false by first | simp [stetB, h4] | simp [stetB, h3] | simp [stetB, h2], Bool.false_or, tr3]))⟩ (by first | omega | (dsimp only; omega))
          · cbv
          · cbv
      · refine r_addf m.sX (by omega) (by omega) fun r4 hr4 => ?_
        conv => cbv
        try have tr4 : Int.toNat r4 = Int.toNat i1 + 1 := by omega
        refine hE _ r4 ?_ ?_ ⟨(by (try dsimp only); first | omega | (simp only [List.length_nil]; omega) | (simp only [List.length_cons, List.length_nil]; omega)), (by (try dsimp only); first | omega | (simp only [List.length_nil]; omega) | (simp only [List.length_cons, List.length_nil]; omega)), (by (try dsimp only) <;> (rw [q, anyM_drop hx, show stetB (m_A, m_B, m_C, m_D) (xA, xB, xC, xD) = false by first | simp [stetB, h4] | simp [stetB, h3] | simp [stetB, h2], Bool.false_or, tr4]))⟩ (by first | omega | (dsimp only; omega))
        · cbv
        · cbv
    · have dz_i1 := drop_end (xs := zs1) (i := Int.toNat i1) (by omega)
      have tz_i1 := take_end (xs := zs1) (i := Int.toNat i1) (by omega)
      refine hF _ _ ?_
      conv => cbv
      refine r_neq m.sX (fun h5 => ?_) (fun h5 => ?_) <;> conv => cbv
      · exact hQ _ (congrArg PV.bool (by rw [isLive_at hm_, ← ez, q, dz_i1]; simp [h5]))   -- leaf 2
      · exact hQ _ (congrArg PV.bool (by rw [isLive_at hm_, ← ez, q, dz_i1]; simp [h5]))   -- leaf 3

theorem clash_ok (m_ : Mark) (n : Mark)  : OkA Try.prog 73 [.agg (cMark m_), .agg (cMark n)] (· = .bool (clashB m_ n)) := by
  obtain ⟨m_A, m_B, m_C, m_D⟩ := m_
  obtain ⟨nA, nB, nC, nD⟩ := n
  try dsimp only at *
  exact fn_intro envOk fieldsOk mixed Try.func73 rfl fun κ X Y L Q m hQ => by
    conv => cbv
    refine r_eql m.sX (fun h1 => ?_) (fun h1 => ?_) <;> conv => cbv
    · refine r_eql m.sX (fun h2 => ?_) (fun h2 => ?_) <;> conv => cbv
      · refine r_eql m.sX (fun h3 => ?_) (fun h3 => ?_) <;> conv => cbv
        · refine r_eql m.sX (fun h4 => ?_) (fun h4 => ?_) <;> conv => cbv
          · exact hQ _ (congrArg PV.bool (by simp [clashB, *]))   -- leaf 1
          · exact hQ _ (congrArg PV.bool (by simp [clashB, *]))   -- leaf 2
        · refine r_eql m.sX (fun h5 => ?_) (fun h5 => ?_) <;> conv => cbv
          · exact hQ _ (congrArg PV.bool (by simp [clashB, *]))   -- leaf 3
          · exact hQ _ (congrArg PV.bool (by simp [clashB, *]))   -- leaf 4
      · exact hQ _ (congrArg PV.bool (by simp [clashB, *]))   -- leaf 5
    · exact hQ _ (congrArg PV.bool (by simp [clashB, *]))   -- leaf 6

end Go.Proofs.Ytngefbdedbbplaa.Ai
