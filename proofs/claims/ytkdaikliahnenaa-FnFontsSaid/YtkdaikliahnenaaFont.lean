/- Contracts of the functions on words set with sorts: widths, ligatures, the narrowest way. -/
import Derived.Test.YtkdaikliahnenaaFontLaw
import Derived.Test.YtkdaikliahnenaaBill
import Derived.Test.YtkdaikliahnenaaTri
namespace Go.Proofs.Ytkdaikliahnenaa.Ai
open Go Go.Proofs
set_option maxRecDepth 10000
set_option maxHeartbeats 4000000
set_option linter.unusedVariables false
theorem widthOf_ok (f : List FSort) (list : List Int) (hz : ∀ z ∈ list, 0 ≤ z ∧ z < f.length) (hl : list.length ≤ 100) (hf : ∀ k, -100 ≤ setAt f k ∧ setAt f k ≤ 100) : OkA Try.prog 75 [.isl 2 (rows cSort f), .isl 1 (rows cInt list)] (· = .int .i64 (wideI f list)) :=
  fn_intro envOk fieldsOk mixed Try.func75 rfl fun κ X Y L Q m hQ => by
    conv => cbv
    refine r_lenR m.sX fun n1 hn1 mn1 => ?_
    conv => cbv
    refine r_loopF (α := Int × Int) m 23 [0, 5, 8, 9, 10] [] (fun σ => [(0, .isl 2 (rows cSort f)), (5, .int .i64 σ.1), (8, .isl 1 (rows cInt list)), (9, .int .i64 n1), (10, .int .i64 σ.2)]) (fun σ => [])
      (fun σ => (0 ≤ σ.2) ∧ (σ.2 ≤ n1) ∧ (σ.1 = wideI f (list.take σ.2.toNat)) ∧ (-(100 * σ.2) ≤ σ.1 ∧ σ.1 ≤ 100 * σ.2)) (fun σ => (n1 - σ.2).toNat) (0, 0) ?_ ?_ ?_ ?_
    · cbv
    · cbv
    · exact ⟨(by (try dsimp only); first | omega | (simp only [List.length_nil]; omega)), (by (try dsimp only); first | omega | (simp only [List.length_nil]; omega)), (by (try dsimp only) <;> (rfl)), (by (try dsimp only) <;> first | omega | rfl | (simp [*]; done))⟩
    rintro ⟨n, i1⟩ ⟨lo1, hi1, q, sb⟩ E hE F hF
    dsimp only at lo1 hi1 q sb
    conv => cbv
    refine r_lss m.sX (fun h1 => ?_) (fun h1 => ?_) <;> conv => cbv
    · refine r_index m.sX (by omega) (by omega) fun i hi => ?_
      conv => cbv
      have mi := get_mem hi
      have di := drop_cons hi
      have ki := take_snoc hi
      have ji : (i1 + 1).toNat = Int.toNat i1 + 1 := by omega
      have vi := nth_some hi
      have bi := hz _ mi
      refine r_index m.sX (by omega) (by omega) fun v hx1A => ?_
      obtain ⟨x1A, x1B⟩ := v
      conv => cbv
      have hx1 := hx1A
      have mx1 := get_mem hx1
      have sv : setAt f i = x1B := setAt_some hx1
      have sb1 := hf i
      try dsimp only at sb1
      refine r_addf m.sX (by omega) (by omega) fun n_2 hn_2 => ?_
      conv => cbv
      refine r_addf m.sX (by omega) (by omega) fun r1 hr1 => ?_
      conv => cbv
      try have tr1 : Int.toNat r1 = Int.toNat i1 + 1 := by omega
      refine hE _ (n_2, r1) ?_ ?_ ⟨(by (try dsimp only); first | omega | (simp only [List.length_nil]; omega)), (by (try dsimp only); first | omega | (simp only [List.length_nil]; omega)), (by (try dsimp only) <;> (rw [hn_2, q, tr1, wideI_take hi, sv])), (by (try dsimp only) <;> (omega))⟩ (by first | omega | (dsimp only; omega))
      · cbv
      · cbv
    · have dz_i1 := drop_end (xs := list) (i := Int.toNat i1) (by omega)
      have tz_i1 := take_end (xs := list) (i := Int.toNat i1) (by omega)
      refine hF _ _ ?_
      conv => cbv
      exact hQ (.int .i64 n) (Eq.trans (by first | rfl | (simp only [lb, lbI, rows_cons, rows_nil, unnilT, unnil, unnilTI, unnilI]; done) | (simp only [lb, lbI, rows_cons, rows_nil, unnilT, unnil, unnilTI, unnilI]; rfl)) (congrArg (PV.int .i64) (show n = wideI f list from by rw [q, tz_i1])))   -- leaf 1

theorem WidthOfWord_ok (f : List FSort) (word : List UInt8)  : OkA Try.prog 10 [.isl 2 (rows cSort f), .str word] (· = ib (widA f word)) :=
  fn_intro envOk fieldsOk mixed Try.func10 rfl fun κ X Y L Q m hQ => by
    conv => cbv
    refine r_callF (lb 3 1 cInt) m.sX (SortsOfWord_ok f word) fun v hlist => ?_
    obtain ⟨list, ok⟩ := v
    conv => cbv
    rcases Bool.eq_false_or_eq_true ok with rfl | rfl <;> conv => cbv
    · obtain ⟨fo, wo, we⟩ := sorts_true hlist
      have wi := wordI_in (okFont_codes fo) word
      rw [← we] at wi
      have w1 := wi.1
      have wl := okWord_len wo
      have w2 : list.length ≤ 100 := by omega
      have fs : ∀ k, -100 ≤ setAt f k ∧ setAt f k ≤ 100 := fun k => by have z := font_sets fo k; omega
      refine .inl (r_callFO intPV m.sX ((widthOf_ok f list (by first | rfl | assumption | omega | (simp only [List.length_append, List.length_cons, List.length_nil] at *; omega)) (by first | rfl | assumption | omega | (simp only [List.length_append, List.length_cons, List.length_nil] at *; omega)) (by first | rfl | assumption | omega | (simp only [List.length_append, List.length_cons, List.length_nil] at *; omega))).ok flat_int) fun r1 hr1 => ?_)
      conv => cbv
      exact hQ (.tup [.int .i64 r1, .bool true]) (Eq.trans (by first | rfl | (simp only [lb, lbI, rows_cons, rows_nil, unnilT, unnil, unnilTI, unnilI]; done) | (simp only [lb, lbI, rows_cons, rows_nil, unnilT, unnil, unnilTI, unnilI]; rfl)) (congrArg (ib) (show (r1, true) = widA f word from by rw [widA, ← hlist, if_pos rfl, hr1])))   -- leaf 1
    · exact hQ (.tup [.int .i64 0, .bool false]) (Eq.trans (by first | rfl | (simp only [lb, lbI, rows_cons, rows_nil, unnilT, unnil, unnilTI, unnilI]; done) | (simp only [lb, lbI, rows_cons, rows_nil, unnilT, unnil, unnilTI, unnilI]; rfl)) (congrArg (ib) (show (0, false) = widA f word from by rw [widA, ← hlist]; rfl)))   -- leaf 2

theorem tyWide_ok (f : List FSort) (sorts : List Int) (hz : ∀ z ∈ sorts, 0 ≤ z ∧ z < f.length) (hl : sorts.length ≤ 100) (hf : ∀ k, -100 ≤ setAt f k ∧ setAt f k ≤ 100) : OkA Try.prog 79 [.isl 2 (rows cSort f), .isl 1 (rows cInt sorts)] (· = .int .i64 (wideI f sorts)) :=
  fn_intro envOk fieldsOk mixed Try.func79 rfl fun κ X Y L Q m hQ => by
    conv => cbv
    refine r_lenR m.sX fun n1 hn1 mn1 => ?_
    conv => cbv
    refine r_loopF (α := Int × Int) m 23 [0, 5, 8, 9, 10] [] (fun σ => [(0, .isl 2 (rows cSort f)), (5, .int .i64 σ.1), (8, .isl 1 (rows cInt sorts)), (9, .int .i64 n1), (10, .int .i64 σ.2)]) (fun σ => [])
      (fun σ => (0 ≤ σ.2) ∧ (σ.2 ≤ n1) ∧ (σ.1 = wideI f (sorts.take σ.2.toNat)) ∧ (-(100 * σ.2) ≤ σ.1 ∧ σ.1 ≤ 100 * σ.2)) (fun σ => (n1 - σ.2).toNat) (0, 0) ?_ ?_ ?_ ?_
    · cbv
    · cbv
    · exact ⟨(by (try dsimp only); first | omega | (simp only [List.length_nil]; omega)), (by (try dsimp only); first | omega | (simp only [List.length_nil]; omega)), (by (try dsimp only) <;> (rfl)), (by (try dsimp only) <;> first | omega | rfl | (simp [*]; done))⟩
    rintro ⟨sum, i1⟩ ⟨lo1, hi1, q, sb⟩ E hE F hF
    dsimp only at lo1 hi1 q sb
    conv => cbv
    refine r_lss m.sX (fun h1 => ?_) (fun h1 => ?_) <;> conv => cbv
    · refine r_index m.sX (by omega) (by omega) fun i hi => ?_
      conv => cbv
      have mi := get_mem hi
      have di := drop_cons hi
      have ki := take_snoc hi
      have ji : (i1 + 1).toNat = Int.toNat i1 + 1 := by omega
      have vi := nth_some hi
      have bi := hz _ mi
      refine r_index m.sX (by omega) (by omega) fun v hx1A => ?_
      obtain ⟨x1A, x1B⟩ := v
      conv => cbv
      have hx1 := hx1A
      have mx1 := get_mem hx1
      have sv : setAt f i = x1B := setAt_some hx1
      have sb1 := hf i
      try dsimp only at sb1
      refine r_addf m.sX (by omega) (by omega) fun sum_2 hsum_2 => ?_
      conv => cbv
      refine r_addf m.sX (by omega) (by omega) fun r1 hr1 => ?_
      conv => cbv
      try have tr1 : Int.toNat r1 = Int.toNat i1 + 1 := by omega
      refine hE _ (sum_2, r1) ?_ ?_ ⟨(by (try dsimp only); first | omega | (simp only [List.length_nil]; omega)), (by (try dsimp only); first | omega | (simp only [List.length_nil]; omega)), (by (try dsimp only) <;> (rw [hsum_2, q, tr1, wideI_take hi, sv])), (by (try dsimp only) <;> (omega))⟩ (by first | omega | (dsimp only; omega))
      · cbv
      · cbv
    · have dz_i1 := drop_end (xs := sorts) (i := Int.toNat i1) (by omega)
      have tz_i1 := take_end (xs := sorts) (i := Int.toNat i1) (by omega)
      refine hF _ _ ?_
      conv => cbv
      exact hQ (.int .i64 sum) (Eq.trans (by first | rfl | (simp only [lb, lbI, rows_cons, rows_nil, unnilT, unnil, unnilTI, unnilI]; done) | (simp only [lb, lbI, rows_cons, rows_nil, unnilT, unnil, unnilTI, unnilI]; rfl)) (congrArg (PV.int .i64) (show sum = wideI f sorts from by rw [q, tz_i1])))   -- leaf 1

theorem tyWidth_ok (f : List FSort) (word : List UInt8) (hc : CodesOk f) (hw : word.length ≤ 16) (hf : ∀ k, -100 ≤ setAt f k ∧ setAt f k ≤ 100) : OkA Try.prog 76 [.isl 2 (rows cSort f), .str word] (· = ib ((wideI f (wordI f word), (setW f word []).2))) :=
  fn_intro envOk fieldsOk mixed Try.func76 rfl fun κ X Y L Q m hQ => by
    conv => cbv
    refine r_callF (lb 3 1 cInt) m.sX (tySet_ok f word (by first | rfl | assumption | omega | (simp only [List.length_append, List.length_cons, List.length_nil] at *; omega)) (by first | rfl | assumption | omega | (simp only [List.length_append, List.length_cons, List.length_nil] at *; omega))) fun v hsorts => ?_
    obtain ⟨sorts, ok⟩ := v
    conv => cbv
    have we := setW_wordI hsorts
    have wi := wordI_in hc word
    rw [← we] at wi
    have w1 := wi.1
    have w2 : sorts.length ≤ 100 := by omega
    refine .inl (r_callFO intPV m.sX ((tyWide_ok f sorts (by first | rfl | assumption | omega | (simp only [List.length_append, List.length_cons, List.length_nil] at *; omega)) (by first | rfl | assumption | omega | (simp only [List.length_append, List.length_cons, List.length_nil] at *; omega)) (by first | rfl | assumption | omega | (simp only [List.length_append, List.length_cons, List.length_nil] at *; omega))).ok flat_int) fun r1 hr1 => ?_)
    conv => cbv
    exact hQ (.tup [.int .i64 r1, .bool ok]) (Eq.trans (by first | rfl | (simp only [lb, lbI, rows_cons, rows_nil, unnilT, unnil, unnilTI, unnilI]; done) | (simp only [lb, lbI, rows_cons, rows_nil, unnilT, unnil, unnilTI, unnilI]; rfl)) (congrArg (ib) (show (r1, ok) = (wideI f (wordI f word), (setW f word []).2) from by exact Prod.ext (by show r1 = wideI f (wordI f word); rw [hr1, we]) (by show ok = (setW f word []).2; rw [← hsorts]))))   -- leaf 1

theorem tyAsked_ok (f : List FSort) (word : List UInt8)  : OkA Try.prog 73 [.isl 2 (rows cSort f), .str word] (· = .bool (okFont f && okWord word)) :=
  fn_intro envOk fieldsOk mixed Try.func73 rfl fun κ X Y L Q m hQ => by
    conv => cbv
    refine r_callB m.sX (tyFont_ok f) (fun h1 => ?_) (fun h1 => ?_) <;> conv => cbv
    · refine r_callB m.sX (tyWord_ok word) (fun h2 => ?_) (fun h2 => ?_) <;> conv => cbv
      · exact hQ _ (congrArg PV.bool (by first | rfl | omega | (simp [*]; done) | (subst_vars; simp [*]; done)))   -- leaf 1
      · exact hQ _ (congrArg PV.bool (by first | rfl | omega | (simp [*]; done) | (subst_vars; simp [*]; done)))   -- leaf 2
    · exact hQ _ (congrArg PV.bool (by first | rfl | omega | (simp [*]; done) | (subst_vars; simp [*]; done)))   -- leaf 3

theorem specSortsOfWord_ok (f : List FSort) (word : List UInt8)  : OkA Try.prog 9 [.isl 2 (rows cSort f), .str word] (· = (lb 3 1 cInt) (sortsA f word)) :=
  OkA.unnil 3 1 (fn_intro envOk fieldsOk mixed Try.func9 rfl fun κ X Y L Q m hQ => by
    conv => cbv
    refine r_callB m.sX (tyAsked_ok f word) (fun h1 => ?_) (fun h1 => ?_) <;> conv => cbv
    · have h1' := h1
      rw [Bool.and_eq_true] at h1'
      have hc := okFont_codes h1'.1
      have wl := okWord_len h1'.2
      refine r_callF (lb 3 1 cInt) m.sX (tySet_ok f word (by first | rfl | assumption | omega | (simp only [List.length_append, List.length_cons, List.length_nil] at *; omega)) (by first | rfl | assumption | omega | (simp only [List.length_append, List.length_cons, List.length_nil] at *; omega))) fun v hv1 => ?_
      obtain ⟨v1, v2⟩ := v
      conv => cbv
      exact hQ (.tup [.fr 3 1 (rows cInt v1), .bool v2]) (Eq.trans (by first | rfl | (simp only [lb, lbI, rows_cons, rows_nil, unnilT, unnil, unnilTI, unnilI]; done) | (simp only [lb, lbI, rows_cons, rows_nil, unnilT, unnil, unnilTI, unnilI]; rfl)) (congrArg ((lb 3 1 cInt)) (show (v1, v2) = sortsA f word from by rw [sortsA, h1]; exact hv1)))   -- leaf 1
    · exact hQ (.tup [.nil, .bool false]) (Eq.trans (by first | rfl | (simp only [lb, lbI, rows_cons, rows_nil, unnilT, unnil, unnilTI, unnilI]; done) | (simp only [lb, lbI, rows_cons, rows_nil, unnilT, unnil, unnilTI, unnilI]; rfl)) (congrArg ((lb 3 1 cInt)) (show ([], false) = sortsA f word from by rw [sortsA, h1]; rfl))))   -- leaf 2

theorem specWidthOfWord_ok (f : List FSort) (word : List UInt8)  : OkA Try.prog 11 [.isl 2 (rows cSort f), .str word] (· = ib (widA f word)) :=
  fn_intro envOk fieldsOk mixed Try.func11 rfl fun κ X Y L Q m hQ => by
    conv => cbv
    refine r_callB m.sX (tyAsked_ok f word) (fun h1 => ?_) (fun h1 => ?_) <;> conv => cbv
    · have h1' := h1
      rw [Bool.and_eq_true] at h1'
      have hc := okFont_codes h1'.1
      have wl := okWord_len h1'.2
      have fs : ∀ k, -100 ≤ setAt f k ∧ setAt f k ≤ 100 := fun k => by have z := font_sets h1'.1 k; omega
      refine r_callF ib m.sX (tyWidth_ok f word (by first | rfl | assumption | omega | (simp only [List.length_append, List.length_cons, List.length_nil] at *; omega)) (by first | rfl | assumption | omega | (simp only [List.length_append, List.length_cons, List.length_nil] at *; omega)) (by first | rfl | assumption | omega | (simp only [List.length_append, List.length_cons, List.length_nil] at *; omega))) fun v hv1 => ?_
      obtain ⟨v1, v2⟩ := v
      conv => cbv
      exact hQ (.tup [.int .i64 v1, .bool v2]) (Eq.trans (by first | rfl | (simp only [lb, lbI, rows_cons, rows_nil, unnilT, unnil, unnilTI, unnilI]; done) | (simp only [lb, lbI, rows_cons, rows_nil, unnilT, unnil, unnilTI, unnilI]; rfl)) (congrArg (ib) (show (v1, v2) = widA f word from by first | (rw [widA, sortsA, h1, hv1, wordI]; show _ = if (setW f word []).2 = true then (wideI f (setW f word []).1, true) else (0, false); cases hz : (setW f word []).2; rw [if_neg (by simp)]; rw [show (setW f word []).1 = [] from setW_false (by rw [← hz])]; rfl; rw [if_pos rfl]) | (rw [widA, sortsA, h1]; rfl))))   -- leaf 1
    · exact hQ (.tup [.int .i64 0, .bool false]) (Eq.trans (by first | rfl | (simp only [lb, lbI, rows_cons, rows_nil, unnilT, unnil, unnilTI, unnilI]; done) | (simp only [lb, lbI, rows_cons, rows_nil, unnilT, unnil, unnilTI, unnilI]; rfl)) (congrArg (ib) (show (0, false) = widA f word from by first | (rw [widA, sortsA, h1, hv1, wordI]; show _ = if (setW f word []).2 = true then (wideI f (setW f word []).1, true) else (0, false); cases hz : (setW f word []).2; rw [if_neg (by simp)]; rw [show (setW f word []).1 = [] from setW_false (by rw [← hz])]; rfl; rw [if_pos rfl]) | (rw [widA, sortsA, h1]; rfl))))   -- leaf 2

theorem LigaturesIn_ok (f : List FSort) (word : List UInt8)  : OkA Try.prog 12 [.isl 2 (rows cSort f), .str word] (· = (lb 9 1 cStr) (ligA f word)) :=
  OkA.unnil 9 1 (fn_intro envOk fieldsOk mixed Try.func12 rfl fun κ X Y L Q m hQ => by
    conv => cbv
    refine r_callF (lb 3 1 cInt) m.sX (SortsOfWord_ok f word) fun v hlist => ?_
    obtain ⟨list, ok⟩ := v
    conv => cbv
    have li := sortsA_in hlist
    refine r_lenR m.sX fun n1 hn1 mn1 => ?_
    conv => cbv
    refine r_loopF (α := List (List UInt8) × Int) m 42 [0, 7, 19, 20] [⟨8, 65, 9, 1, 0⟩, ⟨18, 145, 3, 1, 0⟩] (fun σ => [(0, .isl 2 (rows cSort f)), (7, .bool ok), (8, .osl 65 0), (18, .osl 145 0), (19, .int .i64 n1), (20, .int .i64 σ.2)]) (fun σ => [(65, 0, .row 9 1 (rows cStr σ.1)), (145, 0, .row 3 1 (rows cInt list))])
      (fun σ => (0 ≤ σ.2) ∧ (σ.2 ≤ n1) ∧ (σ.1 = ligF f (list.take σ.2.toNat)) ∧ ((σ.1.length : Int) ≤ σ.2)) (fun σ => (n1 - σ.2).toNat) ([], 0) ?_ ?_ ?_ ?_
    · cbv
    · (try dsimp only); simp only [rows_cons, rows_nil]; cbv
    · exact ⟨(by (try dsimp only); first | omega | (simp only [List.length_nil]; omega)), (by (try dsimp only); first | omega | (simp only [List.length_nil]; omega)), (by (try dsimp only) <;> (rfl)), (by (try dsimp only) <;> first | omega | rfl | (simp [*]; done))⟩
    rintro ⟨codes, i1⟩ ⟨lo1, hi1, q, cl⟩ E hE F hF
    dsimp only at lo1 hi1 q cl
    conv => cbv
    refine r_lss m.sX (fun h1 => ?_) (fun h1 => ?_) <;> conv => cbv
    · refine r_oindex m.sX (by omega) (by omega) ?_
      conv => cbv
      obtain ⟨i, hi⟩ := get_ex (xs := list) (i := Int.toNat i1) (by omega)
      have mi := get_mem hi
      have di := drop_cons hi
      have ki := take_snoc hi
      have ji : (i1 + 1).toNat = Int.toNat i1 + 1 := by omega
      have vi := nth_some hi
      have bi := li.1 _ mi
      refine r_oload m.sX hi (Nat.le_of_ble_eq_true rfl) ?_
      conv => cbv
      refine r_index m.sX (by omega) (by omega) fun v hx1A => ?_
      obtain ⟨x1A, x1B⟩ := v
      conv => cbv
      have hx1 := hx1A
      have mx1 := get_mem hx1
      refine r_slen (u := x1A) m.sX fun n2 hn2 mn2 => ?_   -- n2 = length of x1A
      conv => cbv
      refine r_gtr m.sX (fun h2 => ?_) (fun h2 => ?_) <;> conv => cbv
      · refine r_index m.sX (by omega) (by omega) fun v hx2A => ?_
        obtain ⟨x2A, x2B⟩ := v
        conv => cbv
        have hx2 := hx2A
        have mx2 := get_mem hx2
        obtain ⟨rfl, rfl⟩ : x1A = x2A ∧ x1B = x2B := by have := Option.some.inj (hx1.symm.trans hx2); simpa using this
        refine r_append1 (x1A) m.sX rfl (by first | omega | (dsimp only; omega)) (by first | omega | (dsimp only; omega)) fun codes_2 hcodes_2 => ?_
        conv => cbv
        have lcodes_2 : (codes_2.length : Int) = codes.length + 1 := by rw [hcodes_2]; first | done | (simp; done) | (simp; omega)
        refine r_addf m.sX (by omega) (by omega) fun r1 hr1 => ?_
        conv => cbv
        try have tr1 : Int.toNat r1 = Int.toNat i1 + 1 := by omega
        refine hE _ (codes_2, r1) ?_ ?_ ⟨(by (try dsimp only); first | omega | (simp only [List.length_nil]; omega)), (by (try dsimp only); first | omega | (simp only [List.length_nil]; omega)), (by (try dsimp only) <;> (rw [tr1, ligF_take hi hx1]; dsimp only; first | (rw [if_pos (show 1 < x1A.length by omega), hcodes_2, q]; done) | (rw [if_neg (show ¬ 1 < x1A.length by omega), q]; done))), (by (try dsimp only) <;> first | omega | rfl | (simp [*]; done) | (rw [cl]; simp [*]; done))⟩ (by first | omega | (dsimp only; omega))
        · cbv
        · cbv
      · refine r_addf m.sX (by omega) (by omega) fun r2 hr2 => ?_
        conv => cbv
        try have tr2 : Int.toNat r2 = Int.toNat i1 + 1 := by omega
        refine hE _ (codes, r2) ?_ ?_ ⟨(by (try dsimp only); first | omega | (simp only [List.length_nil]; omega)), (by (try dsimp only); first | omega | (simp only [List.length_nil]; omega)), (by (try dsimp only) <;> (rw [tr2, ligF_take hi hx1]; dsimp only; first | (rw [if_pos (show 1 < x1A.length by omega), hcodes_2, q]; done) | (rw [if_neg (show ¬ 1 < x1A.length by omega), q]; done))), (by (try dsimp only) <;> first | omega | rfl | (simp [*]; done) | (rw [cl]; simp [*]; done))⟩ (by first | omega | (dsimp only; omega))
        · cbv
        · cbv
    · have dz_i1 := drop_end (xs := list) (i := Int.toNat i1) (by omega)
      have tz_i1 := take_end (xs := list) (i := Int.toNat i1) (by omega)
      refine hF _ _ ?_
      conv => cbv
      exact hQ (.tup [.fr 9 1 (rows cStr codes), .bool ok]) (Eq.trans (by first | rfl | (simp only [lb, lbI, rows_cons, rows_nil, unnilT, unnil, unnilTI, unnilI]; done) | (simp only [lb, lbI, rows_cons, rows_nil, unnilT, unnil, unnilTI, unnilI]; rfl)) (congrArg ((lb 9 1 cStr)) (show (codes, ok) = ligA f word from by rw [ligA, ← hlist, q, tz_i1]))))   -- leaf 1

theorem specLigaturesIn_ok (f : List FSort) (word : List UInt8)  : OkA Try.prog 13 [.isl 2 (rows cSort f), .str word] (· = (lb 9 1 cStr) (ligA f word)) :=
  OkA.unnil 9 1 (fn_intro envOk fieldsOk mixed Try.func13 rfl fun κ X Y L Q m hQ => by
    conv => cbv
    refine r_callB m.sX (tyAsked_ok f word) (fun h1 => ?_) (fun h1 => ?_) <;> conv => cbv
    · have h1' := h1
      rw [Bool.and_eq_true] at h1'
      have hc := okFont_codes h1'.1
      have wl := okWord_len h1'.2
      refine r_callF (lb 3 1 cInt) m.sX (tySet_ok f word (by first | rfl | assumption | omega | (simp only [List.length_append, List.length_cons, List.length_nil] at *; omega)) (by first | rfl | assumption | omega | (simp only [List.length_append, List.length_cons, List.length_nil] at *; omega))) fun v hsorts => ?_
      obtain ⟨sorts, ok⟩ := v
      conv => cbv
      have se : (sorts, ok) = sortsA f word := (by rw [sortsA, h1]; exact hsorts)
      have li := sortsA_in se
      rcases Bool.eq_false_or_eq_true ok with rfl | rfl <;> conv => cbv
      · refine r_lenR m.sX fun n1 hn1 mn1 => ?_
        conv => cbv
        refine r_loopF (α := List (List UInt8) × Int) m 46 [0, 24, 25] [⟨8, 65, 9, 1, 0⟩, ⟨23, 185, 3, 1, 0⟩] (fun σ => [(0, .isl 2 (rows cSort f)), (8, .osl 65 0), (23, .osl 185 0), (24, .int .i64 n1), (25, .int .i64 σ.2)]) (fun σ => [(65, 0, .row 9 1 (rows cStr σ.1)), (185, 0, .row 3 1 (rows cInt sorts))])
          (fun σ => (0 ≤ σ.2) ∧ (σ.2 ≤ n1) ∧ (σ.1 = ligF f (sorts.take σ.2.toNat)) ∧ ((σ.1.length : Int) ≤ σ.2)) (fun σ => (n1 - σ.2).toNat) ([], 0) ?_ ?_ ?_ ?_
        · cbv
        · (try dsimp only); simp only [rows_cons, rows_nil]; cbv
        · exact ⟨(by (try dsimp only); first | omega | (simp only [List.length_nil]; omega)), (by (try dsimp only); first | omega | (simp only [List.length_nil]; omega)), (by (try dsimp only) <;> (rfl)), (by (try dsimp only) <;> first | omega | rfl | (simp [*]; done))⟩
        rintro ⟨out, i1⟩ ⟨lo1, hi1, q, cl⟩ E hE F hF
        dsimp only at lo1 hi1 q cl
        conv => cbv
        refine r_lss m.sX (fun h2 => ?_) (fun h2 => ?_) <;> conv => cbv
        · refine r_oindex m.sX (by omega) (by omega) ?_
          conv => cbv
          obtain ⟨i, hi⟩ := get_ex (xs := sorts) (i := Int.toNat i1) (by omega)
          have mi := get_mem hi
          have di := drop_cons hi
          have ki := take_snoc hi
          have ji : (i1 + 1).toNat = Int.toNat i1 + 1 := by omega
          have vi := nth_some hi
          have bi := li.1 _ mi
          refine r_oload m.sX hi (Nat.le_of_ble_eq_true rfl) ?_
          conv => cbv
          refine r_index m.sX (by omega) (by omega) fun v hx1A => ?_
          obtain ⟨x1A, x1B⟩ := v
          conv => cbv
          have hx1 := hx1A
          have mx1 := get_mem hx1
          refine r_slen (u := x1A) m.sX fun n2 hn2 mn2 => ?_   -- n2 = length of x1A
          conv => cbv
          refine r_gtr m.sX (fun h3 => ?_) (fun h3 => ?_) <;> conv => cbv
          · refine r_index m.sX (by omega) (by omega) fun v hx2A => ?_
            obtain ⟨x2A, x2B⟩ := v
            conv => cbv
            have hx2 := hx2A
            have mx2 := get_mem hx2
            obtain ⟨rfl, rfl⟩ : x1A = x2A ∧ x1B = x2B := by have := Option.some.inj (hx1.symm.trans hx2); simpa using this
            refine r_append1 (x1A) m.sX rfl (by first | omega | (dsimp only; omega)) (by first | omega | (dsimp only; omega)) fun out_2 hout_2 => ?_
            conv => cbv
            have lout_2 : (out_2.length : Int) = out.length + 1 := by rw [hout_2]; first | done | (simp; done) | (simp; omega)
            refine r_addf m.sX (by omega) (by omega) fun r1 hr1 => ?_
            conv => cbv
            try have tr1 : Int.toNat r1 = Int.toNat i1 + 1 := by omega
            refine hE _ (out_2, r1) ?_ ?_ ⟨(by (try dsimp only); first | omega | (simp only [List.length_nil]; omega)), (by (try dsimp only); first | omega | (simp only [List.length_nil]; omega)), (by (try dsimp only) <;> (rw [tr1, ligF_take hi hx1]; dsimp only; first | (rw [if_pos (show 1 < x1A.length by omega), hout_2, q]; done) | (rw [if_neg (show ¬ 1 < x1A.length by omega), q]; done))), (by (try dsimp only) <;> first | omega | rfl | (simp [*]; done) | (rw [cl]; simp [*]; done))⟩ (by first | omega | (dsimp only; omega))
            · cbv
            · cbv
          · refine r_addf m.sX (by omega) (by omega) fun r2 hr2 => ?_
            conv => cbv
            try have tr2 : Int.toNat r2 = Int.toNat i1 + 1 := by omega
            refine hE _ (out, r2) ?_ ?_ ⟨(by (try dsimp only); first | omega | (simp only [List.length_nil]; omega)), (by (try dsimp only); first | omega | (simp only [List.length_nil]; omega)), (by (try dsimp only) <;> (rw [tr2, ligF_take hi hx1]; dsimp only; first | (rw [if_pos (show 1 < x1A.length by omega), hout_2, q]; done) | (rw [if_neg (show ¬ 1 < x1A.length by omega), q]; done))), (by (try dsimp only) <;> first | omega | rfl | (simp [*]; done) | (rw [cl]; simp [*]; done))⟩ (by first | omega | (dsimp only; omega))
            · cbv
            · cbv
        · have dz_i1 := drop_end (xs := sorts) (i := Int.toNat i1) (by omega)
          have tz_i1 := take_end (xs := sorts) (i := Int.toNat i1) (by omega)
          refine hF _ _ ?_
          conv => cbv
          exact hQ (.tup [.fr 9 1 (rows cStr out), .bool true]) (Eq.trans (by first | rfl | (simp only [lb, lbI, rows_cons, rows_nil, unnilT, unnil, unnilTI, unnilI]; done) | (simp only [lb, lbI, rows_cons, rows_nil, unnilT, unnil, unnilTI, unnilI]; rfl)) (congrArg ((lb 9 1 cStr)) (show (out, true) = ligA f word from by first | (rw [ligA, ← se, q, tz_i1]; done) | (rw [ligA, ← se, setW_false hsorts]; rfl) | (rw [ligA, sortsA, h1]; rfl))))   -- leaf 1
      · exact hQ (.tup [.nil, .bool false]) (Eq.trans (by first | rfl | (simp only [lb, lbI, rows_cons, rows_nil, unnilT, unnil, unnilTI, unnilI]; done) | (simp only [lb, lbI, rows_cons, rows_nil, unnilT, unnil, unnilTI, unnilI]; rfl)) (congrArg ((lb 9 1 cStr)) (show ([], false) = ligA f word from by first | (rw [ligA, ← se, q, tz_i1]; done) | (rw [ligA, ← se, setW_false hsorts]; rfl) | (rw [ligA, sortsA, h1]; rfl))))   -- leaf 2
    · exact hQ (.tup [.nil, .bool false]) (Eq.trans (by first | rfl | (simp only [lb, lbI, rows_cons, rows_nil, unnilT, unnil, unnilTI, unnilI]; done) | (simp only [lb, lbI, rows_cons, rows_nil, unnilT, unnil, unnilTI, unnilI]; rfl)) (congrArg ((lb 9 1 cStr)) (show ([], false) = ligA f word from by first | (rw [ligA, ← se, q, tz_i1]; done) | (rw [ligA, ← se, setW_false hsorts]; rfl) | (rw [ligA, sortsA, h1]; rfl)))))   -- leaf 3

end Go.Proofs.Ytkdaikliahnenaa.Ai
