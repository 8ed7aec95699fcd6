/- PoundsText of both, and numbers joined. -/
import Derived.Test.YtbamclepgabciaaDoorNum
namespace Go.Proofs.YtbamclepgabciaaDoor.Ai
open Go Go.Proofs
set_option linter.unusedSimpArgs false
set_option maxRecDepth 10000
set_option maxHeartbeats 4000000
set_option linter.unusedVariables false
def i64B (n : Int) : Prop := -9223372036854775808 ≤ n ∧ n ≤ 9223372036854775807
theorem flat_str {v : List UInt8} : ∀ r, r = PV.str v → flatR r := fun r h => by subst h; trivial
def sb (p : List UInt8 × Bool) : PV := .tup [.str p.1, .bool p.2]
/-- An amount as text: pounds, shillings, pence. -/
def poundsB (n : Int) : List UInt8 × Bool :=
  if inB n 0 1000000000 then (Lib.itoa (n / 240) ++ [46] ++ Lib.itoa (n % 240 / 12) ++ [46] ++ Lib.itoa (n % 12), true) else ([], false)
theorem join3 (a b c : Int) : Lib.join ([a, b, c].map Lib.itoa) [46] = Lib.itoa a ++ [46] ++ Lib.itoa b ++ [46] ++ Lib.itoa c := by
  simp [Lib.join, List.intercalate]
theorem join_ok (l : List Int) (sep : List UInt8) (hl : l.length ≤ 1000000) (hs : sep.length ≤ 16) (hb : ∀ n ∈ l, -9223372036854775808 ≤ n ∧ n ≤ 9223372036854775807) : OkA Tryd.prog 95 [.isl 1 (rows cInt l), .str sep] (· = .str (Lib.join (l.map Lib.itoa) sep)) :=
  fn_intro envOk fieldsOk mixed Tryd.func95 rfl fun κ X Y L Q m hQ => by
    conv => cbv
    refine r_lenR m.sX fun n1 hn1 mn1 => ?_
    conv => cbv
    refine r_loopF (α := List (List UInt8) × Int) m 24 [1, 9, 10, 11] [⟨5, 41, 9, 1, 0⟩] (fun σ => [(1, .str sep), (5, .osl 41 0), (9, .isl 1 (rows cInt l)), (10, .int .i64 n1), (11, .int .i64 σ.2)]) (fun σ => [(41, 0, .row 9 1 (rows cStr σ.1))])
      (fun σ => (0 ≤ σ.2) ∧ (σ.2 ≤ n1) ∧ (σ.1 = (l.take σ.2.toNat).map Lib.itoa) ∧ ((σ.1.length : Int) = σ.2)) (fun σ => (n1 - σ.2).toNat) ([], 0) ?_ ?_ ?_ ?_
    · cbv
    · (try dsimp only); (try simp only [rows_cons, rows_nil]); cbv
    · exact ⟨(by (try dsimp only); first | omega | (simp only [List.length_nil]; omega) | (simp only [List.length_cons, List.length_nil]; omega)), (by (try dsimp only); first | omega | (simp only [List.length_nil]; omega) | (simp only [List.length_cons, List.length_nil]; omega)), (by (try dsimp only) <;> first | omega | rfl | (simp [*]; done)), (by (try dsimp only) <;> first | omega | rfl | (simp [*]; done))⟩
    rintro ⟨words, i1⟩ ⟨lo1, hi1, q, wl⟩ E hE F hF
    dsimp only at lo1 hi1 q wl
    conv => cbv
    refine r_lss m.sX (fun h1 => ?_) (fun h1 => ?_) <;> conv => cbv
    · refine r_index m.sX (by omega) (by omega) fun n hn => ?_
      conv => cbv
      have mn := get_mem hn
      have dn := drop_cons hn
      have kn := take_snoc hn
      have jn : (i1 + 1).toNat = Int.toNat i1 + 1 := by omega
      have vn := nth_some hn
      have bn := hb n mn
      refine r_callF .str m.sX (itoa_ok n (by omega) (by omega)) fun v1 hv1 => ?_
      conv => cbv
      refine r_append1 (v1) m.sX rfl (by first | omega | (dsimp only; omega)) (by first | omega | (dsimp only; omega)) fun words_2 hwords_2 => ?_
      conv => cbv
      have lwords_2 : (words_2.length : Int) = words.length + 1 := by rw [hwords_2]; first | done | (simp; done) | (simp; omega)
      refine r_addf m.sX (by omega) (by omega) fun r1 hr1 => ?_
      conv => cbv
      try have tr1 : Int.toNat r1 = Int.toNat i1 + 1 := by omega
      refine hE _ (words_2, r1) ?_ ?_ ⟨(by (try dsimp only); first | omega | (simp only [List.length_nil]; omega) | (simp only [List.length_cons, List.length_nil]; omega)), (by (try dsimp only); first | omega | (simp only [List.length_nil]; omega) | (simp only [List.length_cons, List.length_nil]; omega)), (by (try dsimp only) <;> (rw [hwords_2, q, tr1, kn, List.map_append, hv1]; rfl)), (by (try dsimp only) <;> first | omega | rfl | (simp [*]; done) | (rw [wl]; simp [*]; done))⟩ (by first | omega | (dsimp only; omega))
      · cbv
      · cbv
    · have dz_i1 := drop_end (xs := l) (i := Int.toNat i1) (by omega)
      have tz_i1 := take_end (xs := l) (i := Int.toNat i1) (by omega)
      refine hF _ _ ?_
      conv => cbv
      refine .inl (r_callFO .str m.sX ((joinS_ok words sep (by omega) (by rw [q, tz_i1]; exact Nat.le_trans (join_len sep l hb hl hs) (by omega))).ok flat_str) fun v2 hv2 => ?_)
      conv => cbv
      exact hQ (.str v2) (Eq.trans (by first | rfl | (simp only [lb, lbI, rows_cons, rows_nil, unnilT, unnil, unnilTI, unnilI]; done) | (simp only [lb, lbI, rows_cons, rows_nil, unnilT, unnil, unnilTI, unnilI]; rfl)) (congrArg (PV.str) (show v2 = Lib.join (l.map Lib.itoa) sep from by rw [hv2, q, tz_i1])))   -- leaf 1

theorem joinLit_ok (l : List Int) (sep : List UInt8) {es : List (List PV)} (he : es = l.map cInt) (hl : l.length ≤ 1000000) (hs : sep.length ≤ 16) (hb : ∀ n ∈ l, -9223372036854775808 ≤ n ∧ n ≤ 9223372036854775807) :
    OkA Tryd.prog 95 [.isl 1 es, .str sep] (· = .str (Lib.join (l.map Lib.itoa) sep)) := by subst he; rw [← rows_eq]; exact join_ok l sep hl hs hb
theorem PoundsText_ok (pence : Int)  : OkA Tryd.prog 51 [.int .i64 pence] (· = sb (poundsB pence)) :=
  fn_intro envOk fieldsOk mixed Tryd.func51 rfl fun κ X Y L Q m hQ => by
    conv => cbv
    refine r_callB m.sX (within_ok pence 0 1000000000) (fun h1 => ?_) (fun h1 => ?_) <;> conv => cbv
    · have bd := inB_spec h1
      first | refine r_divf m.sX (by omega) (by omega) fun r1 hr1 br1 => ?_ | refine r_tdivf m.sX (by omega) (by omega) fun r1 hr1 br1 => ?_
      conv => cbv
      refine r_modf m.sX (by omega) (by omega) fun r2 hr2 br2 => ?_
      conv => cbv
      first | refine r_divf m.sX (by omega) (by omega) fun r3 hr3 br3 => ?_ | refine r_tdivf m.sX (by omega) (by omega) fun r3 hr3 br3 => ?_
      conv => cbv
      refine r_modf m.sX (by omega) (by omega) fun r4 hr4 br4 => ?_
      conv => cbv
      refine .inl (r_callFO .str m.sX ((joinLit_ok ([r1, r3, r4]) ([46] : List UInt8) rfl (by simp) (by simp) (by intro n hn; simp at hn; omega)).ok flat_str) fun v1 hv1 => ?_)
      conv => cbv
      exact hQ (.tup [.str v1, .bool true]) (Eq.trans (by first | rfl | (simp only [lb, lbI, rows_cons, rows_nil, unnilT, unnil, unnilTI, unnilI]; done) | (simp only [lb, lbI, rows_cons, rows_nil, unnilT, unnil, unnilTI, unnilI]; rfl)) (congrArg (sb) (show (v1, true) = poundsB pence from by rw [poundsB, if_pos h1, hv1, join3, hr1, hr3, hr2, hr4])))   -- leaf 1
    · exact hQ (.tup [.str ([] : List UInt8), .bool false]) (Eq.trans (by first | rfl | (simp only [lb, lbI, rows_cons, rows_nil, unnilT, unnil, unnilTI, unnilI]; done) | (simp only [lb, lbI, rows_cons, rows_nil, unnilT, unnil, unnilTI, unnilI]; rfl)) (congrArg (sb) (show (([] : List UInt8), false) = poundsB pence from by rw [poundsB, if_neg (by rw [h1]; decide)])))   -- leaf 2

theorem itoa_nn {n : Int} (h : 0 ≤ n) : Lib.itoa n = Lib.decDigits n.toNat := by rw [Lib.itoa, if_neg (by omega)]
theorem specPoundsText_ok (pence : Int)  : OkA Tryd.prog 52 [.int .i64 pence] (· = sb (poundsB pence)) :=
  fn_intro envOk fieldsOk mixed Tryd.func52 rfl fun κ X Y L Q m hQ => by
    conv => cbv
    refine r_callB m.sX (l1In_ok pence 0 1000000000) (fun h1 => ?_) (fun h1 => ?_) <;> conv => cbv
    · have bd := inB_spec h1
      first | refine r_divf m.sX (by omega) (by omega) fun r1 hr1 br1 => ?_ | refine r_tdivf m.sX (by omega) (by omega) fun r1 hr1 br1 => ?_
      conv => cbv
      refine r_callF .str m.sX (l1Num_ok r1 (by omega) (by omega)) fun v1 hv1 => ?_
      conv => cbv
      have lv1 : v1.length ≤ 20 := by rw [hv1]; exact decDigits_le (by omega)
      refine r_scat (u := v1) (v := ([46] : List UInt8)) m.sX (by first | omega | (simp only [List.length_cons, List.length_nil]; omega) | (simp; omega)) fun s1 hs1 => ?_   -- s1 = v1 ++ ([46] : List UInt8)
      have ls1 : (s1.length : Int) = v1.length + ([46] : List UInt8).length := by rw [hs1, List.length_append, Int.natCast_add]
      try simp only [List.length_cons, List.length_nil] at ls1
      conv => cbv
      refine r_modf m.sX (by omega) (by omega) fun r2 hr2 br2 => ?_
      conv => cbv
      first | refine r_divf m.sX (by omega) (by omega) fun r3 hr3 br3 => ?_ | refine r_tdivf m.sX (by omega) (by omega) fun r3 hr3 br3 => ?_
      conv => cbv
      refine r_callF .str m.sX (l1Num_ok r3 (by omega) (by omega)) fun v2 hv2 => ?_
      conv => cbv
      have lv2 : v2.length ≤ 20 := by rw [hv2]; exact decDigits_le (by omega)
      refine r_scat (u := s1) (v := v2) m.sX (by first | omega | (simp only [List.length_cons, List.length_nil]; omega) | (simp; omega)) fun s2 hs2 => ?_   -- s2 = s1 ++ v2
      have ls2 : (s2.length : Int) = s1.length + v2.length := by rw [hs2, List.length_append, Int.natCast_add]
      try simp only [List.length_cons, List.length_nil] at ls2
      conv => cbv
      refine r_scat (u := s2) (v := ([46] : List UInt8)) m.sX (by first | omega | (simp only [List.length_cons, List.length_nil]; omega) | (simp; omega)) fun s3 hs3 => ?_   -- s3 = s2 ++ ([46] : List UInt8)
      have ls3 : (s3.length : Int) = s2.length + ([46] : List UInt8).length := by rw [hs3, List.length_append, Int.natCast_add]
      try simp only [List.length_cons, List.length_nil] at ls3
      conv => cbv
      refine r_modf m.sX (by omega) (by omega) fun r4 hr4 br4 => ?_
      conv => cbv
      refine r_callF .str m.sX (l1Num_ok r4 (by omega) (by omega)) fun v3 hv3 => ?_
      conv => cbv
      have lv3 : v3.length ≤ 20 := by rw [hv3]; exact decDigits_le (by omega)
      refine r_scat (u := s3) (v := v3) m.sX (by first | omega | (simp only [List.length_cons, List.length_nil]; omega) | (simp; omega)) fun s4 hs4 => ?_   -- s4 = s3 ++ v3
      have ls4 : (s4.length : Int) = s3.length + v3.length := by rw [hs4, List.length_append, Int.natCast_add]
      try simp only [List.length_cons, List.length_nil] at ls4
      conv => cbv
      exact hQ (.tup [.str s4, .bool true]) (Eq.trans (by first | rfl | (simp only [lb, lbI, rows_cons, rows_nil, unnilT, unnil, unnilTI, unnilI]; done) | (simp only [lb, lbI, rows_cons, rows_nil, unnilT, unnil, unnilTI, unnilI]; rfl)) (congrArg (sb) (show (s4, true) = poundsB pence from by rw [poundsB, if_pos h1, hs4, hs3, hs2, hs1, hv1, hv2, hv3, itoa_nn (by omega), itoa_nn (by omega), itoa_nn (by omega), ← hr1, ← hr2, ← hr3, ← hr4])))   -- leaf 1
    · exact hQ (.tup [.str ([] : List UInt8), .bool false]) (Eq.trans (by first | rfl | (simp only [lb, lbI, rows_cons, rows_nil, unnilT, unnil, unnilTI, unnilI]; done) | (simp only [lb, lbI, rows_cons, rows_nil, unnilT, unnil, unnilTI, unnilI]; rfl)) (congrArg (sb) (show (([] : List UInt8), false) = poundsB pence from by rw [poundsB, if_neg (by rw [h1]; decide)])))   -- leaf 2

