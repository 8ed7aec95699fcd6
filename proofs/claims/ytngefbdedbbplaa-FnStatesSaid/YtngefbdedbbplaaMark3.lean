/- Contracts: marks between lines (programs and reference), clashes, a line set right. -/
import Derived.Test.YtngefbdedbbplaaMark2
namespace Go.Proofs.Ytngefbdedbbplaa.Ai
open Go Go.Proofs
set_option linter.unusedSimpArgs false
set_option maxRecDepth 10000
set_option maxHeartbeats 1000000
set_option linter.unusedVariables false
theorem AreMarksL_ok (a : Tx) (marks : List Mark) : OkA Try.prog 16 [.isl 1 [[.str a]], .isl 4 (rows cMark marks)] (· = .bool (marksB [a] marks)) := by
  have h := AreMarks_ok [a] marks
  simp only [rows_cons, rows_nil] at h
  exact h
def corT (M : List Mark) (line : Int) (s : Tx) (k : Nat) : List UInt8 := if k ≤ s.length then corR M line k (s.drop k) else []
theorem corT_out {M : List Mark} {line : Int} {s : Tx} {k : Nat} (h : s.length < k) : corT M line s k = [] := if_neg (by omega)
theorem corT_last {M : List Mark} {line : Int} {s : Tx} {k : Nat} (h : k = s.length) : corT M line s k = pieceF M line k [] ++ corT M line s (k + 1) := by
  rw [corT_out (k := k + 1) (by omega), corT, if_pos (by omega), List.drop_of_length_le (by omega), corR, List.append_nil]
theorem corT_step {M : List Mark} {line : Int} {s : Tx} {k : Nat} {c : UInt8} (h : s[k]? = some c) : corT M line s k = pieceF M line k [c] ++ corT M line s (k + 1) := by
  have hi := (List.getElem?_eq_some_iff.1 h).1
  rw [corT, if_pos (by omega), List.drop_eq_getElem_cons hi, (List.getElem?_eq_some_iff.1 h).2, corR, corT, if_pos (by omega)]
  rfl
theorem foldM_drop {α : Type} {f : α → Mark → α} {M : List Mark} {i : Nat} {m : Mark} {st : α} (h : M[i]? = some m) : (M.drop i).foldl f st = (M.drop (i + 1)).foldl f (f st m) := by
  have hi := (List.getElem?_eq_some_iff.1 h).1
  rw [List.drop_eq_getElem_cons hi, List.foldl_cons, (List.getElem?_eq_some_iff.1 h).2]
theorem step_l {line k a b c : Int} {t : List UInt8} {st : List UInt8 × List UInt8} (h : a ≠ line) : stepC line k st (a, b, c, t) = st := if_neg fun e => h e.1
theorem step_a {line k a b c : Int} {t : List UInt8} {st : List UInt8 × List UInt8} (h : b ≠ k) : stepC line k st (a, b, c, t) = st := if_neg fun e => h e.2
theorem step_i {line k a b c : Int} {t : List UInt8} {st : List UInt8 × List UInt8} (h1 : a = line) (h2 : b = k) (h3 : c = 2) : stepC line k st (a, b, c, t) = (t, st.2) := by
  rw [stepC, if_pos ⟨h1, h2⟩, if_pos h3]
theorem step_o {line k a b c : Int} {t : List UInt8} {st : List UInt8 × List UInt8} (h1 : a = line) (h2 : b = k) (h3 : ¬ c = 2) : stepC line k st (a, b, c, t) = (st.1, t) := by
  rw [stepC, if_pos ⟨h1, h2⟩, if_neg h3]
theorem piece_of {M : List Mark} {line k : Int} {own b o : List UInt8} (h : M.foldl (stepC line k) ([], own) = (b, o)) : pieceF M line k own = b ++ o := by
  unfold pieceF pieceS; rw [h]
theorem MarksBetween_ok (a : List UInt8) (b : List UInt8)  : OkA Try.prog 6 [.str a, .str b] (· = (lb 44 4 cMark) (betA a b)) :=
  OkA.unnil 44 4 (fn_intro envOk fieldsOk mixed Try.func6 rfl fun κ X Y L Q m hQ => by
    conv => cbv
    refine r_callB m.sX (isProofLine_ok a) (fun h1 => ?_) (fun h1 => ?_) <;> conv => cbv
    · refine r_callB m.sX (isProofLine_ok b) (fun h2 => ?_) (fun h2 => ?_) <;> conv => cbv
      · refine r_callF (fun l => PV.fr _ _ (rows _ l)) m.sX (between_ok a b (by first | rfl | assumption | omega | (simp only [List.length_append, List.length_cons, List.length_nil] at *; omega)) (by first | rfl | assumption | omega | (simp only [List.length_append, List.length_cons, List.length_nil] at *; omega))) fun marks hmarks => ?_
        conv => cbv
        refine .inl (r_callBO m.sX ((AreMarksL_ok a marks).ok flat_bool) (fun h3 => ?_) (fun h3 => ?_)) <;> conv => cbv
        · exact hQ (.tup [.fr 44 4 (rows cMark marks), .bool true]) (Eq.trans (by first | rfl | (simp only [lb, lbI, rows_cons, rows_nil, unnilT, unnil, unnilTI, unnilI]; done) | (simp only [lb, lbI, rows_cons, rows_nil, unnilT, unnil, unnilTI, unnilI]; rfl)) (congrArg ((lb 44 4 cMark)) (show (marks, true) = betA a b from by rw [betA, if_pos ⟨h1, h2⟩, ← hmarks, if_pos h3])))   -- leaf 1
        · exact hQ (.tup [.fr 44 4 [], .bool false]) (Eq.trans (by first | rfl | (simp only [lb, lbI, rows_cons, rows_nil, unnilT, unnil, unnilTI, unnilI]; done) | (simp only [lb, lbI, rows_cons, rows_nil, unnilT, unnil, unnilTI, unnilI]; rfl)) (congrArg ((lb 44 4 cMark)) (show ([], false) = betA a b from by rw [betA, if_pos ⟨h1, h2⟩, ← hmarks, if_neg (by rw [h3]; exact Bool.false_ne_true)])))   -- leaf 2
      · exact hQ (.tup [.fr 44 4 [], .bool false]) (Eq.trans (by first | rfl | (simp only [lb, lbI, rows_cons, rows_nil, unnilT, unnil, unnilTI, unnilI]; done) | (simp only [lb, lbI, rows_cons, rows_nil, unnilT, unnil, unnilTI, unnilI]; rfl)) (congrArg ((lb 44 4 cMark)) (show ([], false) = betA a b from by rw [betA, if_neg (fun h => by rw [h2] at h; cases h.2)])))   -- leaf 3
    · exact hQ (.tup [.fr 44 4 [], .bool false]) (Eq.trans (by first | rfl | (simp only [lb, lbI, rows_cons, rows_nil, unnilT, unnil, unnilTI, unnilI]; done) | (simp only [lb, lbI, rows_cons, rows_nil, unnilT, unnil, unnilTI, unnilI]; rfl)) (congrArg ((lb 44 4 cMark)) (show ([], false) = betA a b from by rw [betA, if_neg (fun h => by rw [h1] at h; cases h.1)]))))   -- leaf 4

theorem conflicts_ok (marks : List Mark) (hm : marks.length ≤ 20) : OkA Try.prog 49 [.isl 4 (rows cMark marks)] (· = .isl 1 (rows (cSl 1 cInt) (confF marks marks.length))) :=
  OkA.iceI 1 (fn_intro envOk fieldsOk mixed Try.func49 rfl fun κ X Y L Q m hQ => by
    conv => cbv
    refine r_lenR m.sX fun n1 hn1 mn1 => ?_
    conv => cbv
    refine r_loopF (α := List (List Int) × Int) m 47 [0, 8, 9] [⟨3, 25, 35, 1, 0⟩] (fun σ => [(0, .isl 4 (rows cMark marks)), (3, .osl 25 0), (8, .int .i64 n1), (9, .int .i64 σ.2)]) (fun σ => [(25, 0, .row 35 1 (rows (cSl 1 cInt) σ.1))])
      (fun σ => (0 ≤ σ.2) ∧ (σ.2 ≤ n1) ∧ (σ.1 = confF marks σ.2.toNat) ∧ ((σ.1.length : Int) ≤ 20 * σ.2)) (fun σ => (n1 - σ.2).toNat) ([], 0) ?_ ?_ ?_ ?_
    · cbv
    · (try dsimp only); (try simp only [rows_cons, rows_nil]); cbv
    · exact ⟨(by (try dsimp only); first | omega | (simp only [List.length_nil]; omega) | (simp only [List.length_cons, List.length_nil]; omega)), (by (try dsimp only); first | omega | (simp only [List.length_nil]; omega) | (simp only [List.length_cons, List.length_nil]; omega)), (by (try dsimp only) <;> (rfl)), (by (try dsimp only) <;> (simp))⟩
    rintro ⟨pairs, i1⟩ ⟨lo1, hi1, q, lq⟩ E hE F hF
    dsimp only at lo1 hi1 q lq
    conv => cbv
    refine r_lss m.sX (fun h1 => ?_) (fun h1 => ?_) <;> conv => cbv
    · refine r_addf m.sX (by omega) (by omega) fun k hk => ?_
      conv => cbv
      refine r_loopF (α := List (List Int) × Int) m 47 [0, 4, 5, 8, 9] [⟨3, 25, 35, 1, 0⟩] (fun σ => [(0, .isl 4 (rows cMark marks)), (3, .osl 25 0), (4, .int .i64 i1), (5, .int .i64 σ.2), (8, .int .i64 n1), (9, .int .i64 i1)]) (fun σ => [(25, 0, .row 35 1 (rows (cSl 1 cInt) σ.1))])
        (fun σ => (i1 + 1 ≤ σ.2 ∧ σ.2 ≤ n1) ∧ (σ.1 = confF marks i1.toNat ++ confI marks i1.toNat σ.2.toNat) ∧ ((σ.1.length : Int) ≤ 20 * i1 + (σ.2 - i1))) (fun σ => (n1 - σ.2).toNat) (pairs, k) ?_ ?_ ?_ ?_
      · cbv
      · cbv
      · exact ⟨(by (try dsimp only) <;> first | omega | rfl | (simp [*]; done)), (by (try dsimp only) <;> (rw [show Int.toNat k = i1.toNat + 1 by omega, confI_first, List.append_nil]; exact q)), (by (try dsimp only) <;> (omega))⟩
      rintro ⟨pairs_2, k_2⟩ ⟨kb, q2, lq2⟩ E2 hE2 F2 hF2
      dsimp only at kb q2 lq2
      conv => cbv
      refine r_lenR m.sX fun n2 hn2 mn2 => ?_
      conv => cbv
      refine r_lss m.sX (fun h2 => ?_) (fun h2 => ?_) <;> conv => cbv
      · refine r_draw m (by kernel_rfl) ?_
        conv => cbv
        refine r_callBS m.sY (isLive_ok marks i1 (by first | rfl | assumption | omega | (simp only [List.length_append, List.length_cons, List.length_nil] at *; omega)) (by first | rfl | assumption | omega | (simp only [List.length_append, List.length_cons, List.length_nil] at *; omega))) (fun h3 => ?_) (fun h3 => ?_) <;> conv => cbv
        · refine r_callBS m.sY (isLive_ok marks k_2 (by first | rfl | assumption | omega | (simp only [List.length_append, List.length_cons, List.length_nil] at *; omega)) (by first | rfl | assumption | omega | (simp only [List.length_append, List.length_cons, List.length_nil] at *; omega))) (fun h4 => ?_) (fun h4 => ?_) <;> conv => cbv
          · refine r_index m.sY (by omega) (by omega) fun v hx1A => ?_
            obtain ⟨x1A, x1B, x1C, x1D⟩ := v
            conv => cbv
            have hx1 := hx1A
            have mx1 := get_mem hx1
            have dx1 := drop_cons hx1
            have kx1 := take_snoc hx1
            have jx1 : (i1 + 1).toNat = Int.toNat i1 + 1 := by omega
            refine r_index m.sY (by omega) (by omega) fun v hx2A => ?_
            obtain ⟨x2A, x2B, x2C, x2D⟩ := v
            conv => cbv
            have hx2 := hx2A
            have mx2 := get_mem hx2
            refine r_callBS m.sY (clash_ok (x1A, x1B, x1C, x1D) (x2A, x2B, x2C, x2D)) (fun h5 => ?_) (fun h5 => ?_) <;> conv => cbv
            · refine r_append1 [i1, k_2] m.sX (by simp only [cSl, rows_cons, rows_nil]; first | done | rfl) (by first | omega | (dsimp only; omega)) (by first | omega | (dsimp only; omega)) fun pairs_3 hpairs_3 => ?_
              conv => cbv
              have lpairs_3 : (pairs_3.length : Int) = pairs_2.length + 1 := by rw [hpairs_3]; first | done | (simp; done) | (simp; omega)
              refine r_addf m.sX (by omega) (by omega) fun k_3 hk_3 => ?_
              conv => cbv
              refine hE2 _ (pairs_3, k_3) ?_ ?_ ⟨(by (try dsimp only) <;> first | omega | rfl | (simp [*]; done) | (rw [kb]; simp [*]; done)), (by (try dsimp only) <;> (first | (rw [show Int.toNat k_3 = k_2.toNat + 1 by omega, confI_yes (by rw [pairB, decide_eq_true (by omega), h3, h4, nthM_some hx1, nthM_some hx2, h5]; rfl), hpairs_3, q2, List.append_assoc, show ((i1.toNat : Nat) : Int) = i1 by omega, show ((k_2.toNat : Nat) : Int) = k_2 by omega]; done) | (rw [show Int.toNat k_3 = k_2.toNat + 1 by omega, confI_no (by first | (rw [pairB, nthM_some hx1, nthM_some hx2, h5]; simp; done) | (simp [pairB, h4]; done) | (simp [pairB, h3]; done)), q2]))), (by (try dsimp only) <;> (omega))⟩ (by first | omega | (dsimp only; omega))
              · cbv
              · cbv
            · refine r_addf m.sX (by omega) (by omega) fun k_4 hk_4 => ?_
              conv => cbv
              refine hE2 _ (pairs_2, k_4) ?_ ?_ ⟨(by (try dsimp only) <;> first | omega | rfl | (simp [*]; done) | (rw [kb]; simp [*]; done)), (by (try dsimp only) <;> (first | (rw [show Int.toNat k_4 = k_2.toNat + 1 by omega, confI_yes (by rw [pairB, decide_eq_true (by omega), h3, h4, nthM_some hx1, nthM_some hx2, h5]; rfl), hpairs_2, q2, List.append_assoc, show ((i1.toNat : Nat) : Int) = i1 by omega, show ((k_2.toNat : Nat) : Int) = k_2 by omega]; done) | (rw [show Int.toNat k_4 = k_2.toNat + 1 by omega, confI_no (by first | (rw [pairB, nthM_some hx1, nthM_some hx2, h5]; simp; done) | (simp [pairB, h4]; done) | (simp [pairB, h3]; done)), q2]))), (by (try dsimp only) <;> (omega))⟩ (by first | omega | (dsimp only; omega))
              · cbv
              · cbv
          · refine r_addf m.sX (by omega) (by omega) fun k_5 hk_5 => ?_
            conv => cbv
            refine hE2 _ (pairs_2, k_5) ?_ ?_ ⟨(by (try dsimp only) <;> first | omega | rfl | (simp [*]; done) | (rw [kb]; simp [*]; done)), (by (try dsimp only) <;> (first | (rw [show Int.toNat k_5 = k_2.toNat + 1 by omega, confI_yes (by rw [pairB, decide_eq_true (by omega), h3, h4, nthM_some hx1, nthM_some hx2, h5]; rfl), hpairs_2, q2, List.append_assoc, show ((i1.toNat : Nat) : Int) = i1 by omega, show ((k_2.toNat : Nat) : Int) = k_2 by omega]; done) | (rw [show Int.toNat k_5 = k_2.toNat + 1 by omega, confI_no (by first | (rw [pairB, nthM_some hx1, nthM_some hx2, h5]; simp; done) | (simp [pairB, h4]; done) | (simp [pairB, h3]; done)), q2]))), (by (try dsimp only) <;> (omega))⟩ (by first | omega | (dsimp only; omega))
            · cbv
            · cbv
        · refine r_addf m.sX (by omega) (by omega) fun k_6 hk_6 => ?_
          conv => cbv
          refine hE2 _ (pairs_2, k_6) ?_ ?_ ⟨(by (try dsimp only) <;> first | omega | rfl | (simp [*]; done) | (rw [kb]; simp [*]; done)), (by (try dsimp only) <;> (first | (rw [show Int.toNat k_6 = k_2.toNat + 1 by omega, confI_yes (by rw [pairB, decide_eq_true (by omega), h3, h4, nthM_some hx1, nthM_some hx2, h5]; rfl), hpairs_2, q2, List.append_assoc, show ((i1.toNat : Nat) : Int) = i1 by omega, show ((k_2.toNat : Nat) : Int) = k_2 by omega]; done) | (rw [show Int.toNat k_6 = k_2.toNat + 1 by omega, confI_no (by first | (rw [pairB, nthM_some hx1, nthM_some hx2, h5]; simp; done) | (simp [pairB, h4]; done) | (simp [pairB, h3]; done)), q2]))), (by (try dsimp only) <;> (omega))⟩ (by first | omega | (dsimp only; omega))
          · cbv
          · cbv
      · refine hF2 _ _ ?_
        conv => cbv
        refine r_addf m.sX (by omega) (by omega) fun r1 hr1 => ?_
        conv => cbv
        try have tr1 : Int.toNat r1 = Int.toNat i1 + 1 := by omega
        refine hE _ (pairs_2, r1) ?_ ?_ ⟨(by (try dsimp only); first | omega | (simp only [List.length_nil]; omega) | (simp only [List.length_cons, List.length_nil]; omega)), (by (try dsimp only); first | omega | (simp only [List.length_nil]; omega) | (simp only [List.length_cons, List.length_nil]; omega)), (by (try dsimp only) <;> (rw [tr1, confF_next, q2, show Int.toNat k_2 = marks.length by omega])), (by (try dsimp only) <;> (omega))⟩ (by first | omega | (dsimp only; omega))
        · cbv
        · cbv
    · have dz_i1 := drop_end (xs := marks) (i := Int.toNat i1) (by omega)
      have tz_i1 := take_end (xs := marks) (i := Int.toNat i1) (by omega)
      refine hF _ _ ?_
      conv => cbv
      exact hQ (.fr 35 1 (rows (cSl 1 cInt) pairs)) (Eq.trans (by first | rfl | (simp only [lb, lbI, rows_cons, rows_nil, unnilT, unnil, unnilTI, unnilI]; done) | (simp only [lb, lbI, rows_cons, rows_nil, unnilT, unnil, unnilTI, unnilI]; rfl)) (congrArg (fun l => PV.isl 1 (rows (cSl 1 cInt) l)) (show pairs = confF marks marks.length from by rw [q, show Int.toNat i1 = marks.length by omega]))))   -- leaf 1

theorem correct_ok (s_ : List UInt8) (line : Int) (marks : List Mark) (hs : s_.length ≤ 1000) (ht : ∀ m ∈ marks, m.2.2.2.length ≤ 10) : OkA Try.prog 50 [.str s_, .int .i64 line, .isl 4 (rows cMark marks)] (· = .str (corF s_ line marks)) :=
  fn_intro envOk fieldsOk mixed Try.func50 rfl fun κ X Y L Q m hQ => by
    conv => cbv
    refine r_loopF (α := List UInt8 × Int) m 58 [0, 1, 2, 7, 8] [] (fun σ => [(0, .str s_), (1, .int .i64 line), (2, .isl 4 (rows cMark marks)), (7, .str σ.1), (8, .int .i64 σ.2)]) (fun σ => [])
      (fun σ => (0 ≤ σ.2 ∧ σ.2 ≤ (s_.length : Int) + 1) ∧ (corF s_ line marks = σ.1 ++ corT marks line s_ σ.2.toNat) ∧ ((σ.1.length : Int) ≤ 20 * σ.2)) (fun σ => ((s_.length : Int) + 1 - σ.2).toNat) (([] : List UInt8), 0) ?_ ?_ ?_ ?_
    · cbv
    · cbv
    · exact ⟨(by (try dsimp only) <;> (omega)), (by (try dsimp only) <;> (rw [corT, if_pos (show Int.toNat 0 ≤ s_.length from Nat.zero_le _)]; rfl)), (by (try dsimp only) <;> (simp))⟩
    rintro ⟨text, at_⟩ ⟨ab, q, tl⟩ E hE F hF
    dsimp only at ab q tl
    conv => cbv
    refine r_slen (u := s_) m.sX fun n1 hn1 mn1 => ?_   -- n1 = length of s_
    conv => cbv
    refine r_leq m.sX (fun h1 => ?_) (fun h1 => ?_) <;> conv => cbv
    · refine r_slen (u := s_) m.sX fun n2 hn2 mn2 => ?_   -- n2 = length of s_
      conv => cbv
      refine r_lss m.sX (fun h2 => ?_) (fun h2 => ?_) <;> conv => cbv
      · refine r_addf m.sX (by omega) (by omega) fun r1 hr1 => ?_
        conv => cbv
        refine r_sslice (u := s_) (i := at_) (j := r1) m.sX (by omega) (by omega) (by first | omega | (simp only [List.length_cons, List.length_nil]; omega) | (simp; omega)) fun own hown => ?_   -- own = s_[at_:r1]
        obtain ⟨c0, hc0⟩ := get_ex (xs := s_) (i := at_.toNat) (by omega)
        have w0 : own = [c0] := slice_one hc0 (by omega) (by omega) hown
        have lown : (own.length : Int) = r1 - at_ := by rw [hown]; first | done | (simp; done) | (simp; omega)
        conv => cbv
        refine r_lenR m.sX fun n3 hn3 mn3 => ?_
        conv => cbv
        refine r_loopF (α := List UInt8 × List UInt8 × Int) m 58 [0, 1, 2, 7, 8, 9, 10, 28, 29, 30] [] (fun σ => [(0, .str s_), (1, .int .i64 line), (2, .isl 4 (rows cMark marks)), (7, .str text), (8, .int .i64 at_), (9, .str σ.1), (10, .str σ.2.1), (28, .isl 4 (rows cMark marks)), (29, .int .i64 n3), (30, .int .i64 σ.2.2)]) (fun σ => [])
          (fun σ => (0 ≤ σ.2.2) ∧ (σ.2.2 ≤ n3) ∧ (marks.foldl (stepC line at_) ([], own) = (marks.drop σ.2.2.toNat).foldl (stepC line at_) (σ.2.1, σ.1)) ∧ ((σ.1.length : Int) ≤ 10 ∧ (σ.2.1.length : Int) ≤ 10)) (fun σ => (n3 - σ.2.2).toNat) (own, ([] : List UInt8), 0) ?_ ?_ ?_ ?_
        · cbv
        · cbv
        · exact ⟨(by (try dsimp only); first | omega | (simp only [List.length_nil]; omega) | (simp only [List.length_cons, List.length_nil]; omega)), (by (try dsimp only); first | omega | (simp only [List.length_nil]; omega) | (simp only [List.length_cons, List.length_nil]; omega)), (by (try dsimp only) <;> (rfl)), (by (try dsimp only) <;> (exact ⟨by omega, by simp⟩))⟩
        rintro ⟨own_2, before, i1⟩ ⟨lo2, hi2, q2, ol⟩ E2 hE2 F2 hF2
        dsimp only at lo2 hi2 q2 ol
        conv => cbv
        refine r_lss m.sX (fun h3 => ?_) (fun h3 => ?_) <;> conv => cbv
        · refine r_index m.sX (by omega) (by omega) fun v hm_A => ?_
          obtain ⟨m_A, m_B, m_C, m_D⟩ := v
          conv => cbv
          have hm_ := hm_A
          have mm_ := get_mem hm_
          have dm_ := drop_cons hm_
          have km_ := take_snoc hm_
          have jm_ : (i1 + 1).toNat = Int.toNat i1 + 1 := by omega
          have tm := ht _ mm_
          try dsimp only at tm
          try dsimp only at tm
          refine r_neq m.sX (fun h4 => ?_) (fun h4 => ?_) <;> conv => cbv
          · refine r_addf m.sX (by omega) (by omega) fun r2 hr2 => ?_
            conv => cbv
            try have tr2 : Int.toNat r2 = Int.toNat i1 + 1 := by omega
            refine hE2 _ (own_2, before, r2) ?_ ?_ ⟨(by (try dsimp only); first | omega | (simp only [List.length_nil]; omega) | (simp only [List.length_cons, List.length_nil]; omega)), (by (try dsimp only); first | omega | (simp only [List.length_nil]; omega) | (simp only [List.length_cons, List.length_nil]; omega)), (by (try dsimp only) <;> (rw [q2, foldM_drop hm_, tr2]; first | rw [step_l h4] | rw [step_a h5] | rw [step_i h4 h5 h6] | rw [step_o h4 h5 h6])), (by (try dsimp only) <;> (omega))⟩ (by first | omega | (dsimp only; omega))
            · cbv
            · cbv
          · refine r_neq m.sX (fun h5 => ?_) (fun h5 => ?_) <;> conv => cbv
            · refine r_addf m.sX (by omega) (by omega) fun r3 hr3 => ?_
              conv => cbv
              try have tr3 : Int.toNat r3 = Int.toNat i1 + 1 := by omega
              refine hE2 _ (own_2, before, r3) ?_ ?_ ⟨(by (try dsimp only); first | omega | (simp only [List.length_nil]; omega) | (simp only [List.length_cons, List.length_nil]; omega)), (by (try dsimp only); first | omega | (simp only [List.length_nil]; omega) | (simp only [List.length_cons, List.length_nil]; omega)), (by (try dsimp only) <;> (rw [q2, foldM_drop hm_, tr3]; first | rw [step_l h4] | rw [step_a h5] | rw [step_i h4 h5 h6] | rw [step_o h4 h5 h6])), (by (try dsimp only) <;> (omega))⟩ (by first | omega | (dsimp only; omega))
              · cbv
              · cbv
            · refine r_eql m.sX (fun h6 => ?_) (fun h6 => ?_) <;> conv => cbv
              · refine r_addf m.sX (by omega) (by omega) fun r4 hr4 => ?_
                conv => cbv
                try have tr4 : Int.toNat r4 = Int.toNat i1 + 1 := by omega
                refine hE2 _ (own_2, m_D, r4) ?_ ?_ ⟨(by (try dsimp only); first | omega | (simp only [List.length_nil]; omega) | (simp only [List.length_cons, List.length_nil]; omega)), (by (try dsimp only); first | omega | (simp only [List.length_nil]; omega) | (simp only [List.length_cons, List.length_nil]; omega)), (by (try dsimp only) <;> (rw [q2, foldM_drop hm_, tr4]; first | rw [step_l h4] | rw [step_a h5] | rw [step_i h4 h5 h6] | rw [step_o h4 h5 h6])), (by (try dsimp only) <;> (omega))⟩ (by first | omega | (dsimp only; omega))
                · cbv
                · cbv
              · refine r_addf m.sX (by omega) (by omega) fun r5 hr5 => ?_
                conv => cbv
                try have tr5 : Int.toNat r5 = Int.toNat i1 + 1 := by omega
                refine hE2 _ (m_D, before, r5) ?_ ?_ ⟨(by (try dsimp only); first | omega | (simp only [List.length_nil]; omega) | (simp only [List.length_cons, List.length_nil]; omega)), (by (try dsimp only); first | omega | (simp only [List.length_nil]; omega) | (simp only [List.length_cons, List.length_nil]; omega)), (by (try dsimp only) <;> (rw [q2, foldM_drop hm_, tr5]; first | rw [step_l h4] | rw [step_a h5] | rw [step_i h4 h5 h6] | rw [step_o h4 h5 h6])), (by (try dsimp only) <;> (omega))⟩ (by first | omega | (dsimp only; omega))
                · cbv
                · cbv
        · have dz_i1 := drop_end (xs := marks) (i := Int.toNat i1) (by omega)
          have tz_i1 := take_end (xs := marks) (i := Int.toNat i1) (by omega)
          refine hF2 _ _ ?_
          conv => cbv
          refine r_scat (u := before) (v := own_2) m.sX (by first | omega | (simp only [List.length_cons, List.length_nil]; omega) | (simp; omega)) fun s1 hs1 => ?_   -- s1 = before ++ own_2
          have ls1 : (s1.length : Int) = before.length + own_2.length := by rw [hs1, List.length_append, Int.natCast_add]
          try simp only [List.length_cons, List.length_nil] at ls1
          conv => cbv
          refine r_scat (u := text) (v := s1) m.sX (by first | omega | (simp only [List.length_cons, List.length_nil]; omega) | (simp; omega)) fun text_2 htext_2 => ?_   -- text_2 = text ++ s1
          have ltext_2 : (text_2.length : Int) = text.length + s1.length := by rw [htext_2, List.length_append, Int.natCast_add]
          try simp only [List.length_cons, List.length_nil] at ltext_2
          conv => cbv
          refine r_addf m.sX (by omega) (by omega) fun at__2 hat__2 => ?_
          conv => cbv
          refine hE _ (text_2, at__2) ?_ ?_ ⟨(by (try dsimp only) <;> (omega)), (by (try dsimp only) <;> (first | (rw [q, corT_last (show at_.toNat = s_.length by omega), show ((at_.toNat : Nat) : Int) = at_ by omega, piece_of (q2.trans (by rw [dz_i2, List.foldl_nil])), htext_2, hs2, show Int.toNat at__2 = at_.toNat + 1 by omega]; simp only [List.append_assoc]; done) | (rw [q, corT_step hc0, show ((at_.toNat : Nat) : Int) = at_ by omega, ← w0, piece_of (q2.trans (by rw [dz_i1, List.foldl_nil])), htext_2, hs1, show Int.toNat at__2 = at_.toNat + 1 by omega]; simp only [List.append_assoc]; done))), (by (try dsimp only) <;> (omega))⟩ (by first | omega | (dsimp only; omega))
          · cbv
          · cbv
      · refine r_lenR m.sX fun n4 hn4 mn4 => ?_
        conv => cbv
        refine r_loopF (α := List UInt8 × List UInt8 × Int) m 58 [0, 1, 2, 7, 8, 9, 10, 28, 29, 30] [] (fun σ => [(0, .str s_), (1, .int .i64 line), (2, .isl 4 (rows cMark marks)), (7, .str text), (8, .int .i64 at_), (9, .str σ.1), (10, .str σ.2.1), (28, .isl 4 (rows cMark marks)), (29, .int .i64 n4), (30, .int .i64 σ.2.2)]) (fun σ => [])
          (fun σ => (0 ≤ σ.2.2) ∧ (σ.2.2 ≤ n4) ∧ (marks.foldl (stepC line at_) ([], []) = (marks.drop σ.2.2.toNat).foldl (stepC line at_) (σ.2.1, σ.1)) ∧ ((σ.1.length : Int) ≤ 10 ∧ (σ.2.1.length : Int) ≤ 10)) (fun σ => (n4 - σ.2.2).toNat) (([] : List UInt8), ([] : List UInt8), 0) ?_ ?_ ?_ ?_
        · cbv
        · cbv
        · exact ⟨(by (try dsimp only); first | omega | (simp only [List.length_nil]; omega) | (simp only [List.length_cons, List.length_nil]; omega)), (by (try dsimp only); first | omega | (simp only [List.length_nil]; omega) | (simp only [List.length_cons, List.length_nil]; omega)), (by (try dsimp only) <;> (rfl)), (by (try dsimp only) <;> (exact ⟨by simp, by simp⟩))⟩
        rintro ⟨own_3, before_2, i2⟩ ⟨lo3, hi3, q2, ol⟩ E2 hE2 F2 hF2
        dsimp only at lo3 hi3 q2 ol
        conv => cbv
        refine r_lss m.sX (fun h7 => ?_) (fun h7 => ?_) <;> conv => cbv
        · refine r_index m.sX (by omega) (by omega) fun v hm__2A => ?_
          obtain ⟨m__2A, m__2B, m__2C, m__2D⟩ := v
          conv => cbv
          have hm__2 := hm__2A
          have mm__2 := get_mem hm__2
          have dm__2 := drop_cons hm__2
          have km__2 := take_snoc hm__2
          have jm__2 : (i2 + 1).toNat = Int.toNat i2 + 1 := by omega
          have tm := ht _ mm__2
          try dsimp only at tm
          try dsimp only at tm
          refine r_neq m.sX (fun h8 => ?_) (fun h8 => ?_) <;> conv => cbv
          · refine r_addf m.sX (by omega) (by omega) fun r6 hr6 => ?_
            conv => cbv
            try have tr6 : Int.toNat r6 = Int.toNat i2 + 1 := by omega
            refine hE2 _ (own_3, before_2, r6) ?_ ?_ ⟨(by (try dsimp only); first | omega | (simp only [List.length_nil]; omega) | (simp only [List.length_cons, List.length_nil]; omega)), (by (try dsimp only); first | omega | (simp only [List.length_nil]; omega) | (simp only [List.length_cons, List.length_nil]; omega)), (by (try dsimp only) <;> (rw [q2, foldM_drop hm__2, tr6]; first | rw [step_l h8] | rw [step_a h9] | rw [step_i h8 h9 h10] | rw [step_o h8 h9 h10])), (by (try dsimp only) <;> (omega))⟩ (by first | omega | (dsimp only; omega))
            · cbv
            · cbv
          · refine r_neq m.sX (fun h9 => ?_) (fun h9 => ?_) <;> conv => cbv
            · refine r_addf m.sX (by omega) (by omega) fun r7 hr7 => ?_
              conv => cbv
              try have tr7 : Int.toNat r7 = Int.toNat i2 + 1 := by omega
              refine hE2 _ (own_3, before_2, r7) ?_ ?_ ⟨(by (try dsimp only); first | omega | (simp only [List.length_nil]; omega) | (simp only [List.length_cons, List.length_nil]; omega)), (by (try dsimp only); first | omega | (simp only [List.length_nil]; omega) | (simp only [List.length_cons, List.length_nil]; omega)), (by (try dsimp only) <;> (rw [q2, foldM_drop hm__2, tr7]; first | rw [step_l h8] | rw [step_a h9] | rw [step_i h8 h9 h10] | rw [step_o h8 h9 h10])), (by (try dsimp only) <;> (omega))⟩ (by first | omega | (dsimp only; omega))
              · cbv
              · cbv
            · refine r_eql m.sX (fun h10 => ?_) (fun h10 => ?_) <;> conv => cbv
              · refine r_addf m.sX (by omega) (by omega) fun r8 hr8 => ?_
                conv => cbv
                try have tr8 : Int.toNat r8 = Int.toNat i2 + 1 := by omega
                refine hE2 _ (own_3, m__2D, r8) ?_ ?_ ⟨(by (try dsimp only); first | omega | (simp only [List.length_nil]; omega) | (simp only [List.length_cons, List.length_nil]; omega)), (by (try dsimp only); first | omega | (simp only [List.length_nil]; omega) | (simp only [List.length_cons, List.length_nil]; omega)), (by (try dsimp only) <;> (rw [q2, foldM_drop hm__2, tr8]; first | rw [step_l h8] | rw [step_a h9] | rw [step_i h8 h9 h10] | rw [step_o h8 h9 h10])), (by (try dsimp only) <;> (omega))⟩ (by first | omega | (dsimp only; omega))
                · cbv
                · cbv
              · refine r_addf m.sX (by omega) (by omega) fun r9 hr9 => ?_
                conv => cbv
                try have tr9 : Int.toNat r9 = Int.toNat i2 + 1 := by omega
                refine hE2 _ (m__2D, before_2, r9) ?_ ?_ ⟨(by (try dsimp only); first | omega | (simp only [List.length_nil]; omega) | (simp only [List.length_cons, List.length_nil]; omega)), (by (try dsimp only); first | omega | (simp only [List.length_nil]; omega) | (simp only [List.length_cons, List.length_nil]; omega)), (by (try dsimp only) <;> (rw [q2, foldM_drop hm__2, tr9]; first | rw [step_l h8] | rw [step_a h9] | rw [step_i h8 h9 h10] | rw [step_o h8 h9 h10])), (by (try dsimp only) <;> (omega))⟩ (by first | omega | (dsimp only; omega))
                · cbv
                · cbv
        · have dz_i2 := drop_end (xs := marks) (i := Int.toNat i2) (by omega)
          have tz_i2 := take_end (xs := marks) (i := Int.toNat i2) (by omega)
          refine hF2 _ _ ?_
          conv => cbv
          refine r_scat (u := before_2) (v := own_3) m.sX (by first | omega | (simp only [List.length_cons, List.length_nil]; omega) | (simp; omega)) fun s2 hs2 => ?_   -- s2 = before_2 ++ own_3
          have ls2 : (s2.length : Int) = before_2.length + own_3.length := by rw [hs2, List.length_append, Int.natCast_add]
          try simp only [List.length_cons, List.length_nil] at ls2
          conv => cbv
          refine r_scat (u := text) (v := s2) m.sX (by first | omega | (simp only [List.length_cons, List.length_nil]; omega) | (simp; omega)) fun text_3 htext_3 => ?_   -- text_3 = text ++ s2
          have ltext_3 : (text_3.length : Int) = text.length + s2.length := by rw [htext_3, List.length_append, Int.natCast_add]
          try simp only [List.length_cons, List.length_nil] at ltext_3
          conv => cbv
          refine r_addf m.sX (by omega) (by omega) fun at__3 hat__3 => ?_
          conv => cbv
          refine hE _ (text_3, at__3) ?_ ?_ ⟨(by (try dsimp only) <;> (omega)), (by (try dsimp only) <;> (first | (rw [q, corT_last (show at_.toNat = s_.length by omega), show ((at_.toNat : Nat) : Int) = at_ by omega, piece_of (q2.trans (by rw [dz_i2, List.foldl_nil])), htext_3, hs2, show Int.toNat at__3 = at_.toNat + 1 by omega]; simp only [List.append_assoc]; done) | (rw [q, corT_step hc0, show ((at_.toNat : Nat) : Int) = at_ by omega, ← w0, piece_of (q2.trans (by rw [dz_i1, List.foldl_nil])), htext_3, hs1, show Int.toNat at__3 = at_.toNat + 1 by omega]; simp only [List.append_assoc]; done))), (by (try dsimp only) <;> (omega))⟩ (by first | omega | (dsimp only; omega))
          · cbv
          · cbv
    · refine hF _ _ ?_
      conv => cbv
      exact hQ (.str text) (Eq.trans (by first | rfl | (simp only [lb, lbI, rows_cons, rows_nil, unnilT, unnil, unnilTI, unnilI]; done) | (simp only [lb, lbI, rows_cons, rows_nil, unnilT, unnil, unnilTI, unnilI]; rfl)) (congrArg (PV.str) (show text = corF s_ line marks from by rw [q, corT_out (by omega), List.append_nil])))   -- leaf 1

theorem AddMark_ok (lines : List (List UInt8)) (marks : List Mark) (m_ : Mark) (hk : marks.length ≤ 1000) : OkA Try.prog 21 [.isl 1 (rows cStr lines), .isl 4 (rows cMark marks), .agg (cMark m_)] (· = (lb 44 4 cMark) (addA lines marks m_)) := by
  obtain ⟨m_A, m_B, m_C, m_D⟩ := m_
  try dsimp only at *
  exact OkA.unnil 44 4 (fn_intro envOk fieldsOk mixed Try.func21 rfl fun κ X Y L Q m hQ => by
    conv => cbv
    refine r_draw m (by kernel_rfl) ?_
    conv => cbv
    refine r_append0R m.sY (by first | omega | (dsimp only; omega)) (by first | omega | (dsimp only; omega)) fun zs1 hzs1 => ?_
    conv => cbv
    have lzs1 : (zs1.length : Int) = marks.length := by rw [hzs1]; first | done | (simp; done) | (simp; omega)
    refine r_append1 ((m_A, m_B, m_C, m_D)) m.sY rfl (by first | omega | (dsimp only; omega)) (by first | omega | (dsimp only; omega)) fun next hnext => ?_
    conv => cbv
    have lnext : (next.length : Int) = zs1.length + 1 := by rw [hnext]; first | done | (simp; done) | (simp; omega)
    have en : next = marks ++ [(m_A, m_B, m_C, m_D)] := by rw [hnext, hzs1]
    refine r_callB m.sX (AreMarks_ok lines marks) (fun h1 => ?_) (fun h1 => ?_) <;> conv => cbv
    · refine .inl (r_callBO m.sX ((AreMarks_ok lines next).ok flat_bool) (fun h2 => ?_) (fun h2 => ?_)) <;> conv => cbv
      · exact hQ (.tup [.fr 44 4 (rows cMark next), .bool true]) (Eq.trans (by first | rfl | (simp only [lb, lbI, rows_cons, rows_nil, unnilT, unnil, unnilTI, unnilI]; done) | (simp only [lb, lbI, rows_cons, rows_nil, unnilT, unnil, unnilTI, unnilI]; rfl)) (congrArg ((lb 44 4 cMark)) (show (next, true) = addA lines marks (m_A, m_B, m_C, m_D) from by rw [addA, ← en, if_pos ⟨h1, h2⟩])))   -- leaf 1
      · exact hQ (.tup [.fr 44 4 [], .bool false]) (Eq.trans (by first | rfl | (simp only [lb, lbI, rows_cons, rows_nil, unnilT, unnil, unnilTI, unnilI]; done) | (simp only [lb, lbI, rows_cons, rows_nil, unnilT, unnil, unnilTI, unnilI]; rfl)) (congrArg ((lb 44 4 cMark)) (show ([], false) = addA lines marks (m_A, m_B, m_C, m_D) from by rw [addA, ← en, if_neg (fun h => by rw [h2] at h; cases h.2)])))   -- leaf 2
    · exact hQ (.tup [.fr 44 4 [], .bool false]) (Eq.trans (by first | rfl | (simp only [lb, lbI, rows_cons, rows_nil, unnilT, unnil, unnilTI, unnilI]; done) | (simp only [lb, lbI, rows_cons, rows_nil, unnilT, unnil, unnilTI, unnilI]; rfl)) (congrArg ((lb 44 4 cMark)) (show ([], false) = addA lines marks (m_A, m_B, m_C, m_D) from by rw [addA, if_neg (fun h => by rw [h1] at h; cases h.1)]))))   -- leaf 3

theorem specAddMark_ok (lines : List (List UInt8)) (marks : List Mark) (m_ : Mark) (hk : marks.length ≤ 1000) (hl : lines.length ≤ 1000) (hw : ∀ s ∈ lines, s.length ≤ 1000000) : OkA Try.prog 22 [.isl 1 (rows cStr lines), .isl 4 (rows cMark marks), .agg (cMark m_)] (· = (lb 44 4 cMark) (addA lines marks m_)) := by
  obtain ⟨m_A, m_B, m_C, m_D⟩ := m_
  try dsimp only at *
  exact OkA.unnil 44 4 (fn_intro envOk fieldsOk mixed Try.func22 rfl fun κ X Y L Q m hQ => by
    conv => cbv
    refine r_draw m (by kernel_rfl) ?_
    conv => cbv
    refine r_append0R m.sY (by first | omega | (dsimp only; omega)) (by first | omega | (dsimp only; omega)) fun zs1 hzs1 => ?_
    conv => cbv
    have lzs1 : (zs1.length : Int) = marks.length := by rw [hzs1]; first | done | (simp; done) | (simp; omega)
    refine r_append1 ((m_A, m_B, m_C, m_D)) m.sY rfl (by first | omega | (dsimp only; omega)) (by first | omega | (dsimp only; omega)) fun out hout => ?_
    conv => cbv
    have lout : (out.length : Int) = zs1.length + 1 := by rw [hout]; first | done | (simp; done) | (simp; omega)
    have en : out = marks ++ [(m_A, m_B, m_C, m_D)] := by rw [hout, hzs1]
    refine r_callB m.sX (pfMarks_ok lines marks (by first | rfl | assumption | omega | (simp only [List.length_append, List.length_cons, List.length_nil] at *; omega)) (by first | rfl | assumption | omega | (simp only [List.length_append, List.length_cons, List.length_nil] at *; omega))) (fun h1 => ?_) (fun h1 => ?_) <;> conv => cbv
    · refine .inl (r_callBO m.sX ((pfMarks_ok lines out (by first | rfl | assumption | omega | (simp only [List.length_append, List.length_cons, List.length_nil] at *; omega)) (by first | rfl | assumption | omega | (simp only [List.length_append, List.length_cons, List.length_nil] at *; omega))).ok flat_bool) (fun h2 => ?_) (fun h2 => ?_)) <;> conv => cbv
      · exact hQ (.tup [.fr 44 4 (rows cMark out), .bool true]) (Eq.trans (by first | rfl | (simp only [lb, lbI, rows_cons, rows_nil, unnilT, unnil, unnilTI, unnilI]; done) | (simp only [lb, lbI, rows_cons, rows_nil, unnilT, unnil, unnilTI, unnilI]; rfl)) (congrArg ((lb 44 4 cMark)) (show (out, true) = addA lines marks (m_A, m_B, m_C, m_D) from by rw [addA, ← en, if_pos ⟨h1, h2⟩])))   -- leaf 1
      · exact hQ (.tup [.nil, .bool false]) (Eq.trans (by first | rfl | (simp only [lb, lbI, rows_cons, rows_nil, unnilT, unnil, unnilTI, unnilI]; done) | (simp only [lb, lbI, rows_cons, rows_nil, unnilT, unnil, unnilTI, unnilI]; rfl)) (congrArg ((lb 44 4 cMark)) (show ([], false) = addA lines marks (m_A, m_B, m_C, m_D) from by rw [addA, ← en, if_neg (fun h => by rw [h2] at h; cases h.2)])))   -- leaf 2
    · exact hQ (.tup [.nil, .bool false]) (Eq.trans (by first | rfl | (simp only [lb, lbI, rows_cons, rows_nil, unnilT, unnil, unnilTI, unnilI]; done) | (simp only [lb, lbI, rows_cons, rows_nil, unnilT, unnil, unnilTI, unnilI]; rfl)) (congrArg ((lb 44 4 cMark)) (show ([], false) = addA lines marks (m_A, m_B, m_C, m_D) from by rw [addA, if_neg (fun h => by rw [h1] at h; cases h.1)]))))   -- leaf 3

end Go.Proofs.Ytngefbdedbbplaa.Ai
