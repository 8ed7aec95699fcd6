/- Contracts of the functions on filled pages, leads and texts of galleys. -/
import Derived.Test.YtbamclepgabciaaDoorGalLaw
import Derived.Test.YtbamclepgabciaaDoorPage2
import Derived.Test.YtbamclepgabciaaDoorPound
namespace Go.Proofs.YtbamclepgabciaaDoor.Ai
open Go Go.Proofs
set_option linter.unusedSimpArgs false
set_option maxRecDepth 10000
set_option maxHeartbeats 4000000
set_option linter.unusedVariables false

theorem depthOfW_ok (l : List SLine) (hs : ∀ x ∈ l, -100000 ≤ x.1 + x.2.1 ∧ x.1 + x.2.1 ≤ 100000) (hl : (l.length : Int) ≤ 1000) : OkA Tryd.prog 76 [.isl 3 (rows cSetLine l)] (· = .int .i64 (deepS l)) :=
  fn_intro envOk fieldsOk mixed Tryd.func76 rfl fun κ X Y L Q m hQ => by
    conv => cbv
    refine r_lenR m.sX fun n1 hn1 mn1 => ?_
    conv => cbv
    refine r_loopF (α := Int × Int) m 18 [3, 6, 7, 8] [] (fun σ => [(3, .int .i64 σ.1), (6, .isl 3 (rows cSetLine l)), (7, .int .i64 n1), (8, .int .i64 σ.2)]) (fun σ => [])
      (fun σ => (0 ≤ σ.2) ∧ (σ.2 ≤ n1) ∧ (σ.1 = deepS (l.take σ.2.toNat)) ∧ (-100000 * σ.2 ≤ σ.1 ∧ σ.1 ≤ 100000 * σ.2)) (fun σ => (n1 - σ.2).toNat) (0, 0) ?_ ?_ ?_ ?_
    · cbv
    · cbv
    · exact ⟨(by (try dsimp only); first | omega | (simp only [List.length_nil]; omega) | (simp only [List.length_cons, List.length_nil]; omega)), (by (try dsimp only); first | omega | (simp only [List.length_nil]; omega) | (simp only [List.length_cons, List.length_nil]; omega)), (by (try dsimp only) <;> first | omega | rfl | (simp [*]; done)), (by (try dsimp only) <;> first | omega | rfl | (simp [*]; done))⟩
    rintro ⟨n, i1⟩ ⟨lo1, hi1, q, b⟩ E hE F hF
    dsimp only at lo1 hi1 q b
    conv => cbv
    refine r_lss m.sX (fun h1 => ?_) (fun h1 => ?_) <;> conv => cbv
    · refine r_index m.sX (by omega) (by omega) fun v hxA => ?_
      obtain ⟨xA, xB, xC⟩ := v
      conv => cbv
      have hx := hxA
      have mx := get_mem hx
      have dx := drop_cons hx
      have kx := take_snoc hx
      have jx : (i1 + 1).toNat = Int.toNat i1 + 1 := by omega
      have ob := hs _ mx
      try dsimp only at ob
      refine r_callF (PV.int .i64) m.sX (high_ok (xA, xB, xC) (by first | rfl | assumption | omega | (simp only [List.length_append, List.length_cons, List.length_nil] at *; omega))) fun r1 hr1 => ?_
      conv => cbv
      try dsimp only at hr1
      refine r_addf m.sX (by omega) (by omega) fun n_2 hn_2 => ?_
      conv => cbv
      refine r_addf m.sX (by omega) (by omega) fun r2 hr2 => ?_
      conv => cbv
      try have tr2 : Int.toNat r2 = Int.toNat i1 + 1 := by omega
      refine hE _ (n_2, r2) ?_ ?_ ⟨(by (try dsimp only); first | omega | (simp only [List.length_nil]; omega) | (simp only [List.length_cons, List.length_nil]; omega)), (by (try dsimp only); first | omega | (simp only [List.length_nil]; omega) | (simp only [List.length_cons, List.length_nil]; omega)), (by (try dsimp only) <;> (rw [hn_2, q, tr2, deepS_take hx, hr1])), (by (try dsimp only) <;> first | omega | rfl | (simp [*]; done) | (rw [b]; simp [*]; done))⟩ (by first | omega | (dsimp only; omega))
      · cbv
      · cbv
    · have dz_i1 := drop_end (xs := l) (i := Int.toNat i1) (by omega)
      have tz_i1 := take_end (xs := l) (i := Int.toNat i1) (by omega)
      refine hF _ _ ?_
      conv => cbv
      exact hQ (.int .i64 n) (Eq.trans (by first | rfl | (simp only [lb, lbI, rows_cons, rows_nil, unnilT, unnil, unnilTI, unnilI]; done) | (simp only [lb, lbI, rows_cons, rows_nil, unnilT, unnil, unnilTI, unnilI]; rfl)) (congrArg (PV.int .i64) (show n = deepS l from by rw [q, tz_i1])))   -- leaf 1

theorem PageFill_ok (l : List SLine) (depth : Int) (hp : ∀ x ∈ l, -1000 ≤ x.2.2 ∧ x.2.2 ≤ 1000) (hs : ∀ x ∈ l, -100000 ≤ x.1 + x.2.1 ∧ x.1 + x.2.1 ≤ 100000) (hl : (l.length : Int) ≤ 1000) : OkA Tryd.prog 9 [.isl 3 (rows cSetLine l), .int .i64 depth] (· = (lb 3 1 cInt) (fillPg l depth)) :=
  OkA.unnil 3 1 (fn_intro envOk fieldsOk mixed Tryd.func9 rfl fun κ X Y L Q m hQ => by
    conv => cbv
    refine r_callB m.sX (isPaged_ok l depth (by first | rfl | assumption | omega | (simp only [List.length_append, List.length_cons, List.length_nil] at *; omega)) (by first | rfl | assumption | omega | (simp only [List.length_append, List.length_cons, List.length_nil] at *; omega)) (by first | rfl | assumption | omega | (simp only [List.length_append, List.length_cons, List.length_nil] at *; omega))) (fun h1 => ?_) (fun h1 => ?_) <;> conv => cbv
    · obtain ⟨os, oh, ol, od, og⟩ := okPg_spec h1
      refine r_callF (fun l => PV.fr _ _ (rows _ l)) m.sX (pageFill_ok l depth (by first | rfl | assumption | omega | (simp only [List.length_append, List.length_cons, List.length_nil] at *; omega)) (by first | rfl | assumption | omega | (simp only [List.length_append, List.length_cons, List.length_nil] at *; omega))) fun v1 hv1 => ?_
      conv => cbv
      exact hQ (.tup [.fr 3 1 (rows cInt v1), .bool true]) (Eq.trans (by first | rfl | (simp only [lb, lbI, rows_cons, rows_nil, unnilT, unnil, unnilTI, unnilI]; done) | (simp only [lb, lbI, rows_cons, rows_nil, unnilT, unnil, unnilTI, unnilI]; rfl)) (congrArg ((lb 3 1 cInt)) (show (v1, true) = fillPg l depth from by rw [fillPg, h1, hv1]; rfl)))   -- leaf 1
    · exact hQ (.tup [.fr 3 1 [], .bool false]) (Eq.trans (by first | rfl | (simp only [lb, lbI, rows_cons, rows_nil, unnilT, unnil, unnilTI, unnilI]; done) | (simp only [lb, lbI, rows_cons, rows_nil, unnilT, unnil, unnilTI, unnilI]; rfl)) (congrArg ((lb 3 1 cInt)) (show ([], false) = fillPg l depth from by rw [fillPg, h1]; rfl))))   -- leaf 2

theorem pgFill_ok (l : List SLine) (depth : Int) (hs : ∀ x ∈ l, okS x = true) (hl : (l.length : Int) ≤ 40) : OkA Tryd.prog 72 [.isl 3 (rows cSetLine l), .int .i64 depth] (· = .fr 3 1 (rows cInt (fillL depth 0 0 l))) :=
  OkA.unnil 3 1 (fn_intro envOk fieldsOk mixed Tryd.func72 rfl fun κ X Y L Q m hQ => by
    conv => cbv
    refine r_lenR m.sX fun n1 hn1 mn1 => ?_
    conv => cbv
    refine r_loopF (α := List Int × Int × Int) m 32 [0, 1, 6, 9, 10] [⟨5, 41, 3, 1, 0⟩] (fun σ => [(0, .isl 3 (rows cSetLine l)), (1, .int .i64 depth), (5, .osl 41 0), (6, .int .i64 σ.2.1), (9, .int .i64 n1), (10, .int .i64 σ.2.2)]) (fun σ => [(41, 0, .row 3 1 (rows cInt σ.1))])
      (fun σ => (0 ≤ σ.2.2) ∧ (σ.2.2 ≤ n1) ∧ (0 ≤ σ.2.1 ∧ σ.2.1 ≤ σ.2.2) ∧ (fillL depth 0 0 l = σ.1 ++ fillL depth (deepS ((l.take σ.2.2.toNat).drop σ.2.1.toNat)) σ.2.2 (l.drop σ.2.2.toNat)) ∧ ((σ.1.length : Int) ≤ σ.2.2)) (fun σ => (n1 - σ.2.2).toNat) ([], 0, 0) ?_ ?_ ?_ ?_
    · cbv
    · (try dsimp only); (try simp only [rows_cons, rows_nil]); cbv
    · exact ⟨(by (try dsimp only); first | omega | (simp only [List.length_nil]; omega) | (simp only [List.length_cons, List.length_nil]; omega)), (by (try dsimp only); first | omega | (simp only [List.length_nil]; omega) | (simp only [List.length_cons, List.length_nil]; omega)), (by (try dsimp only) <;> first | omega | rfl | (simp [*]; done)), (by (try dsimp only) <;> first | omega | rfl | (simp [*]; done)), (by (try dsimp only) <;> first | omega | rfl | (simp [*]; done))⟩
    rintro ⟨out, from_, i1⟩ ⟨lo1, hi1, k1, q, ln⟩ E hE F hF
    dsimp only at lo1 hi1 k1 q ln
    conv => cbv
    refine r_lss m.sX (fun h1 => ?_) (fun h1 => ?_) <;> conv => cbv
    · obtain ⟨x, hx⟩ := get_ex (xs := l) (i := Int.toNat i1) (by omega)
      have ox := okS_spec (hs x (get_mem hx))
      refine r_addf m.sX (by omega) (by omega) fun r1 hr1 => ?_
      conv => cbv
      refine r_islice (i := from_) (j := r1) m.sX (by omega) (by omega) (by omega) fun zs1 hzs1 => ?_   -- zs1 = l[from_:r1]
      have lzs1 : (zs1.length : Int) = r1 - from_ := by rw [hzs1]; first | done | (simp; done) | (simp; omega)
      have zs := cut_mem (i := from_.toNat) (j := r1.toNat) hs
      rw [← hzs1] at zs
      conv => cbv
      refine r_callF (PV.int .i64) m.sX (pgDeep_ok zs1 (by first | rfl | assumption | omega | (simp only [List.length_append, List.length_cons, List.length_nil] at *; omega)) (by first | rfl | assumption | omega | (simp only [List.length_append, List.length_cons, List.length_nil] at *; omega))) fun r2 hr2 => ?_
      conv => cbv
      have e2 : r2 = deepS ((l.take (Int.toNat i1)).drop (Int.toNat from_)) + (x.1 + x.2.1) := by rw [hr2, hzs1, show Int.toNat r1 = Int.toNat i1 + 1 by omega]; exact deep_more hx (by omega)
      refine r_gtr m.sX (fun h2 => ?_) (fun h2 => ?_) <;> conv => cbv
      · have e3 : deepS ((l.take (Int.toNat i1 + 1)).drop (Int.toNat i1)) = x.1 + x.2.1 := deep_one hx
        refine r_append1 (i1) m.sX rfl (by first | omega | (dsimp only; omega)) (by first | omega | (dsimp only; omega)) fun out_2 hout_2 => ?_
        conv => cbv
        have lout_2 : (out_2.length : Int) = out.length + 1 := by rw [hout_2]; first | done | (simp; done) | (simp; omega)
        refine r_addf m.sX (by omega) (by omega) fun r3 hr3 => ?_
        conv => cbv
        try have tr3 : Int.toNat r3 = Int.toNat i1 + 1 := by omega
        refine hE _ (out_2, i1, r3) ?_ ?_ ⟨(by (try dsimp only); first | omega | (simp only [List.length_nil]; omega) | (simp only [List.length_cons, List.length_nil]; omega)), (by (try dsimp only); first | omega | (simp only [List.length_nil]; omega) | (simp only [List.length_cons, List.length_nil]; omega)), (by (try dsimp only) <;> first | omega | rfl | (simp [*]; done) | (rw [k1]; simp [*]; done)), (by (try dsimp only) <;> (rw [q, drop_cons hx, fillL, tr3, show r3 = i1 + 1 by omega]; first | (rw [if_pos (by omega), hout_2, e3]; simp) | (rw [if_neg (by omega), ← e2, hr2, hzs1, show Int.toNat r1 = Int.toNat i1 + 1 by omega]))), (by (try dsimp only) <;> first | omega | rfl | (simp [*]; done) | (rw [ln]; simp [*]; done))⟩ (by first | omega | (dsimp only; omega))
        · cbv
        · cbv
      · refine r_addf m.sX (by omega) (by omega) fun r4 hr4 => ?_
        conv => cbv
        try have tr4 : Int.toNat r4 = Int.toNat i1 + 1 := by omega
        refine hE _ (out, from_, r4) ?_ ?_ ⟨(by (try dsimp only); first | omega | (simp only [List.length_nil]; omega) | (simp only [List.length_cons, List.length_nil]; omega)), (by (try dsimp only); first | omega | (simp only [List.length_nil]; omega) | (simp only [List.length_cons, List.length_nil]; omega)), (by (try dsimp only) <;> first | omega | rfl | (simp [*]; done) | (rw [k1]; simp [*]; done)), (by (try dsimp only) <;> (rw [q, drop_cons hx, fillL, tr4, show r4 = i1 + 1 by omega]; first | (rw [if_pos (by omega), hout, e3]; simp) | (rw [if_neg (by omega), ← e2, hr2, hzs1, show Int.toNat r1 = Int.toNat i1 + 1 by omega]))), (by (try dsimp only) <;> first | omega | rfl | (simp [*]; done) | (rw [ln]; simp [*]; done))⟩ (by first | omega | (dsimp only; omega))
        · cbv
        · cbv
    · have dz_i1 := drop_end (xs := l) (i := Int.toNat i1) (by omega)
      have tz_i1 := take_end (xs := l) (i := Int.toNat i1) (by omega)
      refine hF _ _ ?_
      conv => cbv
      refine r_lenR m.sX fun n2 hn2 mn2 => ?_
      conv => cbv
      refine r_append1 (n2) m.sX rfl (by first | omega | (dsimp only; omega)) (by first | omega | (dsimp only; omega)) fun zs2 hzs2 => ?_
      conv => cbv
      have lzs2 : (zs2.length : Int) = out.length + 1 := by rw [hzs2]; first | done | (simp; done) | (simp; omega)
      exact hQ (.fr 3 1 (rows cInt zs2)) (Eq.trans (by first | rfl | (simp only [lb, lbI, rows_cons, rows_nil, unnilT, unnil, unnilTI, unnilI]; done) | (simp only [lb, lbI, rows_cons, rows_nil, unnilT, unnil, unnilTI, unnilI]; rfl)) (congrArg (fun l => PV.fr 3 1 (rows cInt l)) (show zs2 = fillL depth 0 0 l from by rw [hzs2, q, dz_i1, fillL, show n2 = i1 by omega]))))   -- leaf 1

theorem specPageFill_ok (l : List SLine) (depth : Int) (hp : ∀ x ∈ l, -1000 ≤ x.2.2 ∧ x.2.2 ≤ 1000) (hs : ∀ x ∈ l, -100000 ≤ x.1 + x.2.1 ∧ x.1 + x.2.1 ≤ 100000) (hl : (l.length : Int) ≤ 1000) : OkA Tryd.prog 10 [.isl 3 (rows cSetLine l), .int .i64 depth] (· = (lb 3 1 cInt) (fillPg l depth)) :=
  OkA.unnil 3 1 (fn_intro envOk fieldsOk mixed Tryd.func10 rfl fun κ X Y L Q m hQ => by
    conv => cbv
    refine r_callB m.sX (pgAsked_ok l depth (by first | rfl | assumption | omega | (simp only [List.length_append, List.length_cons, List.length_nil] at *; omega)) (by first | rfl | assumption | omega | (simp only [List.length_append, List.length_cons, List.length_nil] at *; omega))) (fun h1 => ?_) (fun h1 => ?_) <;> conv => cbv
    · obtain ⟨os, oh, ol, od, og⟩ := okPg_spec h1
      refine r_callF (fun l => PV.fr _ _ (rows _ l)) m.sX (pgFill_ok l depth (by first | rfl | assumption | omega | (simp only [List.length_append, List.length_cons, List.length_nil] at *; omega)) (by first | rfl | assumption | omega | (simp only [List.length_append, List.length_cons, List.length_nil] at *; omega))) fun v1 hv1 => ?_
      conv => cbv
      exact hQ (.tup [.fr 3 1 (rows cInt v1), .bool true]) (Eq.trans (by first | rfl | (simp only [lb, lbI, rows_cons, rows_nil, unnilT, unnil, unnilTI, unnilI]; done) | (simp only [lb, lbI, rows_cons, rows_nil, unnilT, unnil, unnilTI, unnilI]; rfl)) (congrArg ((lb 3 1 cInt)) (show (v1, true) = fillPg l depth from by rw [fillPg, h1, hv1]; rfl)))   -- leaf 1
    · exact hQ (.tup [.nil, .bool false]) (Eq.trans (by first | rfl | (simp only [lb, lbI, rows_cons, rows_nil, unnilT, unnil, unnilTI, unnilI]; done) | (simp only [lb, lbI, rows_cons, rows_nil, unnilT, unnil, unnilTI, unnilI]; rfl)) (congrArg ((lb 3 1 cInt)) (show ([], false) = fillPg l depth from by rw [fillPg, h1]; rfl))))   -- leaf 2

theorem specPagesOfGalley_ok (l : List SLine) (depth : Int) (hp : ∀ x ∈ l, -1000 ≤ x.2.2 ∧ x.2.2 ≤ 1000) (hs : ∀ x ∈ l, -100000 ≤ x.1 + x.2.1 ∧ x.1 + x.2.1 ≤ 100000) (hl : (l.length : Int) ≤ 1000) : OkA Tryd.prog 12 [.isl 3 (rows cSetLine l), .int .i64 depth] (· = ib (pagesF l depth)) :=
  fn_intro envOk fieldsOk mixed Tryd.func12 rfl fun κ X Y L Q m hQ => by
    conv => cbv
    refine r_callB m.sX (pgAsked_ok l depth (by first | rfl | assumption | omega | (simp only [List.length_append, List.length_cons, List.length_nil] at *; omega)) (by first | rfl | assumption | omega | (simp only [List.length_append, List.length_cons, List.length_nil] at *; omega))) (fun h1 => ?_) (fun h1 => ?_) <;> conv => cbv
    · obtain ⟨os, oh, ol, od, og⟩ := okPg_spec h1
      refine r_callF (fun l => PV.fr _ _ (rows _ l)) m.sX (pgFill_ok l depth (by first | rfl | assumption | omega | (simp only [List.length_append, List.length_cons, List.length_nil] at *; omega)) (by first | rfl | assumption | omega | (simp only [List.length_append, List.length_cons, List.length_nil] at *; omega))) fun v1 hv1 => ?_
      conv => cbv
      refine r_lenR m.sX fun n1 hn1 mn1 => ?_
      conv => cbv
      exact hQ (.tup [.int .i64 n1, .bool true]) (Eq.trans (by first | rfl | (simp only [lb, lbI, rows_cons, rows_nil, unnilT, unnil, unnilTI, unnilI]; done) | (simp only [lb, lbI, rows_cons, rows_nil, unnilT, unnil, unnilTI, unnilI]; rfl)) (congrArg (ib) (show (n1, true) = pagesF l depth from by rw [pagesF, h1, ← fillL_length depth l 0 0, ← hv1, ← hn1]; rfl)))   -- leaf 1
    · exact hQ (.tup [.int .i64 0, .bool false]) (Eq.trans (by first | rfl | (simp only [lb, lbI, rows_cons, rows_nil, unnilT, unnil, unnilTI, unnilI]; done) | (simp only [lb, lbI, rows_cons, rows_nil, unnilT, unnil, unnilTI, unnilI]; rfl)) (congrArg (ib) (show (0, false) = pagesF l depth from by rw [pagesF, h1]; rfl)))   -- leaf 2

theorem LeadsFor_ok (l : List SLine) (depth : Int) (hp : ∀ x ∈ l, -1000 ≤ x.2.2 ∧ x.2.2 ≤ 1000) (hs : ∀ x ∈ l, -100000 ≤ x.1 + x.2.1 ∧ x.1 + x.2.1 ≤ 100000) (hl : (l.length : Int) ≤ 1000) (hd : -1000000 ≤ depth ∧ depth ≤ 1000000) : OkA Tryd.prog 19 [.isl 3 (rows cSetLine l), .int .i64 depth] (· = (lb 3 1 cInt) (leadsF l depth)) :=
  OkA.unnil 3 1 (fn_intro envOk fieldsOk mixed Tryd.func19 rfl fun κ X Y L Q m hQ => by
    have dw := deepS_wide hs
    conv => cbv
    refine r_callF (PV.int .i64) m.sX (depthOfW_ok l (by first | rfl | assumption | omega | (simp only [List.length_append, List.length_cons, List.length_nil] at *; omega)) (by first | rfl | assumption | omega | (simp only [List.length_append, List.length_cons, List.length_nil] at *; omega))) fun r1 hr1 => ?_
    conv => cbv
    refine r_subf m.sX (by omega) (by omega) fun left hleft => ?_
    conv => cbv
    refine r_lenR m.sX fun n1 hn1 mn1 => ?_
    conv => cbv
    refine r_subf m.sX (by omega) (by omega) fun gaps hgaps => ?_
    conv => cbv
    refine r_callB m.sX (isPaged_ok l depth (by first | rfl | assumption | omega | (simp only [List.length_append, List.length_cons, List.length_nil] at *; omega)) (by first | rfl | assumption | omega | (simp only [List.length_append, List.length_cons, List.length_nil] at *; omega)) (by first | rfl | assumption | omega | (simp only [List.length_append, List.length_cons, List.length_nil] at *; omega))) (fun h1 => ?_) (fun h1 => ?_) <;> conv => cbv
    · obtain ⟨os, oh, ol, od, og⟩ := okPg_spec h1
      refine r_lss m.sX (fun h2 => ?_) (fun h2 => ?_) <;> conv => cbv
      · exact hQ (.tup [.fr 3 1 [], .bool false]) (Eq.trans (by first | rfl | (simp only [lb, lbI, rows_cons, rows_nil, unnilT, unnil, unnilTI, unnilI]; done) | (simp only [lb, lbI, rows_cons, rows_nil, unnilT, unnil, unnilTI, unnilI]; rfl)) (congrArg ((lb 3 1 cInt)) (show ([], false) = leadsF l depth from by exact leadsF_no (.inr (.inl (by omega))))))   -- leaf 1
      · refine r_eql m.sX (fun h3 => ?_) (fun h3 => ?_) <;> conv => cbv
        · refine r_gtr m.sX (fun h4 => ?_) (fun h4 => ?_) <;> conv => cbv
          · exact hQ (.tup [.fr 3 1 [], .bool false]) (Eq.trans (by first | rfl | (simp only [lb, lbI, rows_cons, rows_nil, unnilT, unnil, unnilTI, unnilI]; done) | (simp only [lb, lbI, rows_cons, rows_nil, unnilT, unnil, unnilTI, unnilI]; rfl)) (congrArg ((lb 3 1 cInt)) (show ([], false) = leadsF l depth from by exact leadsF_no (.inr (.inr (by omega))))))   -- leaf 2
          · refine r_loopF (α := List Int × Int) m 56 [6, 7, 9] [⟨8, 65, 3, 1, 0⟩] (fun σ => [(6, .int .i64 left), (7, .int .i64 gaps), (8, .osl 65 0), (9, .int .i64 σ.2)]) (fun σ => [(65, 0, .row 3 1 (rows cInt σ.1))])
              (fun σ => (0 ≤ σ.2) ∧ (σ.2 ≤ gaps) ∧ (σ.1 = leadsL (left / gaps) (left % gaps) σ.2.toNat) ∧ ((σ.1.length : Int) ≤ σ.2)) (fun σ => (gaps - σ.2).toNat) ([], 0) ?_ ?_ ?_ ?_
            · cbv
            · (try dsimp only); (try simp only [rows_cons, rows_nil]); cbv
            · exact ⟨(by (try dsimp only); first | omega | (simp only [List.length_nil]; omega) | (simp only [List.length_cons, List.length_nil]; omega)), (by (try dsimp only); first | omega | (simp only [List.length_nil]; omega) | (simp only [List.length_cons, List.length_nil]; omega)), (by (try dsimp only) <;> (simp [leadsL])), (by (try dsimp only) <;> first | omega | rfl | (simp [*]; done))⟩
            rintro ⟨leads, i⟩ ⟨lo1, hi1, q, ln⟩ E hE F hF
            dsimp only at lo1 hi1 q ln
            conv => cbv
            refine r_lss m.sX (fun h5 => ?_) (fun h5 => ?_) <;> conv => cbv
            · first | refine r_divf m.sX (by omega) (by omega) fun lead hlead blead => ?_ | refine r_tdivf m.sX (by omega) (by omega) fun lead hlead blead => ?_
              conv => cbv
              refine r_modf m.sX (by omega) (by omega) fun r2 hr2 br2 => ?_
              conv => cbv
              refine r_lss m.sX (fun h6 => ?_) (fun h6 => ?_) <;> conv => cbv
              · refine r_addf m.sX (by omega) (by omega) fun lead_2 hlead_2 => ?_
                conv => cbv
                refine r_append1 (lead_2) m.sX rfl (by first | omega | (dsimp only; omega)) (by first | omega | (dsimp only; omega)) fun leads_2 hleads_2 => ?_
                conv => cbv
                have lleads_2 : (leads_2.length : Int) = leads.length + 1 := by rw [hleads_2]; first | done | (simp; done) | (simp; omega)
                refine r_addf m.sX (by omega) (by omega) fun i_2 hi_2 => ?_
                conv => cbv
                try have ti_2 : Int.toNat i_2 = Int.toNat i + 1 := by omega
                refine hE _ (leads_2, i_2) ?_ ?_ ⟨(by (try dsimp only); first | omega | (simp only [List.length_nil]; omega) | (simp only [List.length_cons, List.length_nil]; omega)), (by (try dsimp only); first | omega | (simp only [List.length_nil]; omega) | (simp only [List.length_cons, List.length_nil]; omega)), (by (try dsimp only) <;> (rw [hleads_2, q, ti_2, leadsL_succ]; first | (rw [if_pos (by omega)]; congr 2 <;> omega) | (rw [if_neg (by omega)]; congr 2 <;> omega))), (by (try dsimp only) <;> first | omega | rfl | (simp [*]; done) | (rw [ln]; simp [*]; done))⟩ (by first | omega | (dsimp only; omega))
                · cbv
                · cbv
              · refine r_append1 (lead) m.sX rfl (by first | omega | (dsimp only; omega)) (by first | omega | (dsimp only; omega)) fun leads_3 hleads_3 => ?_
                conv => cbv
                have lleads_3 : (leads_3.length : Int) = leads.length + 1 := by rw [hleads_3]; first | done | (simp; done) | (simp; omega)
                refine r_addf m.sX (by omega) (by omega) fun i_3 hi_3 => ?_
                conv => cbv
                try have ti_3 : Int.toNat i_3 = Int.toNat i + 1 := by omega
                refine hE _ (leads_3, i_3) ?_ ?_ ⟨(by (try dsimp only); first | omega | (simp only [List.length_nil]; omega) | (simp only [List.length_cons, List.length_nil]; omega)), (by (try dsimp only); first | omega | (simp only [List.length_nil]; omega) | (simp only [List.length_cons, List.length_nil]; omega)), (by (try dsimp only) <;> (rw [hleads_3, q, ti_3, leadsL_succ]; first | (rw [if_pos (by omega)]; congr 2 <;> omega) | (rw [if_neg (by omega)]; congr 2 <;> omega))), (by (try dsimp only) <;> first | omega | rfl | (simp [*]; done) | (rw [ln]; simp [*]; done))⟩ (by first | omega | (dsimp only; omega))
                · cbv
                · cbv
            · refine hF _ _ ?_
              conv => cbv
              exact hQ (.tup [.fr 3 1 (rows cInt leads), .bool true]) (Eq.trans (by first | rfl | (simp only [lb, lbI, rows_cons, rows_nil, unnilT, unnil, unnilTI, unnilI]; done) | (simp only [lb, lbI, rows_cons, rows_nil, unnilT, unnil, unnilTI, unnilI]; rfl)) (congrArg ((lb 3 1 cInt)) (show (leads, true) = leadsF l depth from by exact leadsF_yes h1 (by omega) (by omega) (by omega) (by omega) (by omega) q)))   -- leaf 3
        · refine r_loopF (α := List Int × Int) m 56 [6, 7, 9] [⟨8, 65, 3, 1, 0⟩] (fun σ => [(6, .int .i64 left), (7, .int .i64 gaps), (8, .osl 65 0), (9, .int .i64 σ.2)]) (fun σ => [(65, 0, .row 3 1 (rows cInt σ.1))])
            (fun σ => (0 ≤ σ.2) ∧ (σ.2 ≤ gaps) ∧ (σ.1 = leadsL (left / gaps) (left % gaps) σ.2.toNat) ∧ ((σ.1.length : Int) ≤ σ.2)) (fun σ => (gaps - σ.2).toNat) ([], 0) ?_ ?_ ?_ ?_
          · cbv
          · (try dsimp only); (try simp only [rows_cons, rows_nil]); cbv
          · exact ⟨(by (try dsimp only); first | omega | (simp only [List.length_nil]; omega) | (simp only [List.length_cons, List.length_nil]; omega)), (by (try dsimp only); first | omega | (simp only [List.length_nil]; omega) | (simp only [List.length_cons, List.length_nil]; omega)), (by (try dsimp only) <;> (simp [leadsL])), (by (try dsimp only) <;> first | omega | rfl | (simp [*]; done))⟩
          rintro ⟨leads_4, i_4⟩ ⟨lo2, hi2, q, ln⟩ E hE F hF
          dsimp only at lo2 hi2 q ln
          conv => cbv
          refine r_lss m.sX (fun h7 => ?_) (fun h7 => ?_) <;> conv => cbv
          · first | refine r_divf m.sX (by omega) (by omega) fun lead_3 hlead_3 blead_3 => ?_ | refine r_tdivf m.sX (by omega) (by omega) fun lead_3 hlead_3 blead_3 => ?_
            conv => cbv
            refine r_modf m.sX (by omega) (by omega) fun r3 hr3 br3 => ?_
            conv => cbv
            refine r_lss m.sX (fun h8 => ?_) (fun h8 => ?_) <;> conv => cbv
            · refine r_addf m.sX (by omega) (by omega) fun lead_4 hlead_4 => ?_
              conv => cbv
              refine r_append1 (lead_4) m.sX rfl (by first | omega | (dsimp only; omega)) (by first | omega | (dsimp only; omega)) fun leads_5 hleads_5 => ?_
              conv => cbv
              have lleads_5 : (leads_5.length : Int) = leads_4.length + 1 := by rw [hleads_5]; first | done | (simp; done) | (simp; omega)
              refine r_addf m.sX (by omega) (by omega) fun i_5 hi_5 => ?_
              conv => cbv
              try have ti_5 : Int.toNat i_5 = Int.toNat i_4 + 1 := by omega
              refine hE _ (leads_5, i_5) ?_ ?_ ⟨(by (try dsimp only); first | omega | (simp only [List.length_nil]; omega) | (simp only [List.length_cons, List.length_nil]; omega)), (by (try dsimp only); first | omega | (simp only [List.length_nil]; omega) | (simp only [List.length_cons, List.length_nil]; omega)), (by (try dsimp only) <;> (rw [hleads_5, q, ti_5, leadsL_succ]; first | (rw [if_pos (by omega)]; congr 2 <;> omega) | (rw [if_neg (by omega)]; congr 2 <;> omega))), (by (try dsimp only) <;> first | omega | rfl | (simp [*]; done) | (rw [ln]; simp [*]; done))⟩ (by first | omega | (dsimp only; omega))
              · cbv
              · cbv
            · refine r_append1 (lead_3) m.sX rfl (by first | omega | (dsimp only; omega)) (by first | omega | (dsimp only; omega)) fun leads_6 hleads_6 => ?_
              conv => cbv
              have lleads_6 : (leads_6.length : Int) = leads_4.length + 1 := by rw [hleads_6]; first | done | (simp; done) | (simp; omega)
              refine r_addf m.sX (by omega) (by omega) fun i_6 hi_6 => ?_
              conv => cbv
              try have ti_6 : Int.toNat i_6 = Int.toNat i_4 + 1 := by omega
              refine hE _ (leads_6, i_6) ?_ ?_ ⟨(by (try dsimp only); first | omega | (simp only [List.length_nil]; omega) | (simp only [List.length_cons, List.length_nil]; omega)), (by (try dsimp only); first | omega | (simp only [List.length_nil]; omega) | (simp only [List.length_cons, List.length_nil]; omega)), (by (try dsimp only) <;> (rw [hleads_6, q, ti_6, leadsL_succ]; first | (rw [if_pos (by omega)]; congr 2 <;> omega) | (rw [if_neg (by omega)]; congr 2 <;> omega))), (by (try dsimp only) <;> first | omega | rfl | (simp [*]; done) | (rw [ln]; simp [*]; done))⟩ (by first | omega | (dsimp only; omega))
              · cbv
              · cbv
          · refine hF _ _ ?_
            conv => cbv
            exact hQ (.tup [.fr 3 1 (rows cInt leads_4), .bool true]) (Eq.trans (by first | rfl | (simp only [lb, lbI, rows_cons, rows_nil, unnilT, unnil, unnilTI, unnilI]; done) | (simp only [lb, lbI, rows_cons, rows_nil, unnilT, unnil, unnilTI, unnilI]; rfl)) (congrArg ((lb 3 1 cInt)) (show (leads_4, true) = leadsF l depth from by exact leadsF_yes h1 (by omega) (by omega) (by omega) (by omega) (by omega) q)))   -- leaf 4
    · exact hQ (.tup [.fr 3 1 [], .bool false]) (Eq.trans (by first | rfl | (simp only [lb, lbI, rows_cons, rows_nil, unnilT, unnil, unnilTI, unnilI]; done) | (simp only [lb, lbI, rows_cons, rows_nil, unnilT, unnil, unnilTI, unnilI]; rfl)) (congrArg ((lb 3 1 cInt)) (show ([], false) = leadsF l depth from by exact leadsF_no (.inl h1)))))   -- leaf 5

theorem specLeadsFor_ok (l : List SLine) (depth : Int) (hp : ∀ x ∈ l, -1000 ≤ x.2.2 ∧ x.2.2 ≤ 1000) (hs : ∀ x ∈ l, -100000 ≤ x.1 + x.2.1 ∧ x.1 + x.2.1 ≤ 100000) (hl : (l.length : Int) ≤ 1000) (hd : -1000000 ≤ depth ∧ depth ≤ 1000000) : OkA Tryd.prog 20 [.isl 3 (rows cSetLine l), .int .i64 depth] (· = (lb 3 1 cInt) (leadsF l depth)) :=
  OkA.unnil 3 1 (fn_intro envOk fieldsOk mixed Tryd.func20 rfl fun κ X Y L Q m hQ => by
    have dw := deepS_wide hs
    conv => cbv
    refine r_callB m.sX (pgAsked_ok l depth (by first | rfl | assumption | omega | (simp only [List.length_append, List.length_cons, List.length_nil] at *; omega)) (by first | rfl | assumption | omega | (simp only [List.length_append, List.length_cons, List.length_nil] at *; omega))) (fun h1 => ?_) (fun h1 => ?_) <;> conv => cbv
    · obtain ⟨os, oh, ol, od, og⟩ := okPg_spec h1
      refine r_callF (PV.int .i64) m.sX (pgDeep_ok l (by first | rfl | assumption | omega | (simp only [List.length_append, List.length_cons, List.length_nil] at *; omega)) (by first | rfl | assumption | omega | (simp only [List.length_append, List.length_cons, List.length_nil] at *; omega))) fun r1 hr1 => ?_
      conv => cbv
      refine r_subf m.sX (by omega) (by omega) fun rest hrest => ?_
      conv => cbv
      refine r_lenR m.sX fun n1 hn1 mn1 => ?_
      conv => cbv
      refine r_subf m.sX (by omega) (by omega) fun gaps hgaps => ?_
      conv => cbv
      refine r_lss m.sX (fun h2 => ?_) (fun h2 => ?_) <;> conv => cbv
      · exact hQ (.tup [.nil, .bool false]) (Eq.trans (by first | rfl | (simp only [lb, lbI, rows_cons, rows_nil, unnilT, unnil, unnilTI, unnilI]; done) | (simp only [lb, lbI, rows_cons, rows_nil, unnilT, unnil, unnilTI, unnilI]; rfl)) (congrArg ((lb 3 1 cInt)) (show ([], false) = leadsF l depth from by exact leadsF_no (.inr (.inl (by omega))))))   -- leaf 1
      · refine r_eql m.sX (fun h3 => ?_) (fun h3 => ?_) <;> conv => cbv
        · refine r_gtr m.sX (fun h4 => ?_) (fun h4 => ?_) <;> conv => cbv
          · exact hQ (.tup [.nil, .bool false]) (Eq.trans (by first | rfl | (simp only [lb, lbI, rows_cons, rows_nil, unnilT, unnil, unnilTI, unnilI]; done) | (simp only [lb, lbI, rows_cons, rows_nil, unnilT, unnil, unnilTI, unnilI]; rfl)) (congrArg ((lb 3 1 cInt)) (show ([], false) = leadsF l depth from by exact leadsF_no (.inr (.inr (by omega))))))   -- leaf 2
          · refine r_loopF (α := List Int × Int) m 52 [6, 7, 9] [⟨8, 65, 3, 1, 0⟩] (fun σ => [(6, .int .i64 rest), (7, .int .i64 gaps), (8, .osl 65 0), (9, .int .i64 σ.2)]) (fun σ => [(65, 0, .row 3 1 (rows cInt σ.1))])
              (fun σ => (0 ≤ σ.2) ∧ (σ.2 ≤ gaps) ∧ (σ.1 = leadsL (rest / gaps) (rest % gaps) σ.2.toNat) ∧ ((σ.1.length : Int) ≤ σ.2)) (fun σ => (gaps - σ.2).toNat) ([], 0) ?_ ?_ ?_ ?_
            · cbv
            · (try dsimp only); (try simp only [rows_cons, rows_nil]); cbv
            · exact ⟨(by (try dsimp only); first | omega | (simp only [List.length_nil]; omega) | (simp only [List.length_cons, List.length_nil]; omega)), (by (try dsimp only); first | omega | (simp only [List.length_nil]; omega) | (simp only [List.length_cons, List.length_nil]; omega)), (by (try dsimp only) <;> (simp [leadsL])), (by (try dsimp only) <;> first | omega | rfl | (simp [*]; done))⟩
            rintro ⟨out, i⟩ ⟨lo1, hi1, q, ln⟩ E hE F hF
            dsimp only at lo1 hi1 q ln
            conv => cbv
            refine r_lss m.sX (fun h5 => ?_) (fun h5 => ?_) <;> conv => cbv
            · first | refine r_divf m.sX (by omega) (by omega) fun n hn bn => ?_ | refine r_tdivf m.sX (by omega) (by omega) fun n hn bn => ?_
              conv => cbv
              refine r_modf m.sX (by omega) (by omega) fun r2 hr2 br2 => ?_
              conv => cbv
              refine r_lss m.sX (fun h6 => ?_) (fun h6 => ?_) <;> conv => cbv
              · refine r_addf m.sX (by omega) (by omega) fun n_2 hn_2 => ?_
                conv => cbv
                refine r_append1 (n_2) m.sX rfl (by first | omega | (dsimp only; omega)) (by first | omega | (dsimp only; omega)) fun out_2 hout_2 => ?_
                conv => cbv
                have lout_2 : (out_2.length : Int) = out.length + 1 := by rw [hout_2]; first | done | (simp; done) | (simp; omega)
                refine r_addf m.sX (by omega) (by omega) fun i_2 hi_2 => ?_
                conv => cbv
                try have ti_2 : Int.toNat i_2 = Int.toNat i + 1 := by omega
                refine hE _ (out_2, i_2) ?_ ?_ ⟨(by (try dsimp only); first | omega | (simp only [List.length_nil]; omega) | (simp only [List.length_cons, List.length_nil]; omega)), (by (try dsimp only); first | omega | (simp only [List.length_nil]; omega) | (simp only [List.length_cons, List.length_nil]; omega)), (by (try dsimp only) <;> (rw [hout_2, q, ti_2, leadsL_succ]; first | (rw [if_pos (by omega)]; congr 2 <;> omega) | (rw [if_neg (by omega)]; congr 2 <;> omega))), (by (try dsimp only) <;> first | omega | rfl | (simp [*]; done) | (rw [ln]; simp [*]; done))⟩ (by first | omega | (dsimp only; omega))
                · cbv
                · cbv
              · refine r_append1 (n) m.sX rfl (by first | omega | (dsimp only; omega)) (by first | omega | (dsimp only; omega)) fun out_3 hout_3 => ?_
                conv => cbv
                have lout_3 : (out_3.length : Int) = out.length + 1 := by rw [hout_3]; first | done | (simp; done) | (simp; omega)
                refine r_addf m.sX (by omega) (by omega) fun i_3 hi_3 => ?_
                conv => cbv
                try have ti_3 : Int.toNat i_3 = Int.toNat i + 1 := by omega
                refine hE _ (out_3, i_3) ?_ ?_ ⟨(by (try dsimp only); first | omega | (simp only [List.length_nil]; omega) | (simp only [List.length_cons, List.length_nil]; omega)), (by (try dsimp only); first | omega | (simp only [List.length_nil]; omega) | (simp only [List.length_cons, List.length_nil]; omega)), (by (try dsimp only) <;> (rw [hout_3, q, ti_3, leadsL_succ]; first | (rw [if_pos (by omega)]; congr 2 <;> omega) | (rw [if_neg (by omega)]; congr 2 <;> omega))), (by (try dsimp only) <;> first | omega | rfl | (simp [*]; done) | (rw [ln]; simp [*]; done))⟩ (by first | omega | (dsimp only; omega))
                · cbv
                · cbv
            · refine hF _ _ ?_
              conv => cbv
              exact hQ (.tup [.fr 3 1 (rows cInt out), .bool true]) (Eq.trans (by first | rfl | (simp only [lb, lbI, rows_cons, rows_nil, unnilT, unnil, unnilTI, unnilI]; done) | (simp only [lb, lbI, rows_cons, rows_nil, unnilT, unnil, unnilTI, unnilI]; rfl)) (congrArg ((lb 3 1 cInt)) (show (out, true) = leadsF l depth from by exact leadsF_yes h1 (by omega) (by omega) (by omega) (by omega) (by omega) q)))   -- leaf 3
        · refine r_loopF (α := List Int × Int) m 52 [6, 7, 9] [⟨8, 65, 3, 1, 0⟩] (fun σ => [(6, .int .i64 rest), (7, .int .i64 gaps), (8, .osl 65 0), (9, .int .i64 σ.2)]) (fun σ => [(65, 0, .row 3 1 (rows cInt σ.1))])
            (fun σ => (0 ≤ σ.2) ∧ (σ.2 ≤ gaps) ∧ (σ.1 = leadsL (rest / gaps) (rest % gaps) σ.2.toNat) ∧ ((σ.1.length : Int) ≤ σ.2)) (fun σ => (gaps - σ.2).toNat) ([], 0) ?_ ?_ ?_ ?_
          · cbv
          · (try dsimp only); (try simp only [rows_cons, rows_nil]); cbv
          · exact ⟨(by (try dsimp only); first | omega | (simp only [List.length_nil]; omega) | (simp only [List.length_cons, List.length_nil]; omega)), (by (try dsimp only); first | omega | (simp only [List.length_nil]; omega) | (simp only [List.length_cons, List.length_nil]; omega)), (by (try dsimp only) <;> (simp [leadsL])), (by (try dsimp only) <;> first | omega | rfl | (simp [*]; done))⟩
          rintro ⟨out_4, i_4⟩ ⟨lo2, hi2, q, ln⟩ E hE F hF
          dsimp only at lo2 hi2 q ln
          conv => cbv
          refine r_lss m.sX (fun h7 => ?_) (fun h7 => ?_) <;> conv => cbv
          · first | refine r_divf m.sX (by omega) (by omega) fun n_3 hn_3 bn_3 => ?_ | refine r_tdivf m.sX (by omega) (by omega) fun n_3 hn_3 bn_3 => ?_
            conv => cbv
            refine r_modf m.sX (by omega) (by omega) fun r3 hr3 br3 => ?_
            conv => cbv
            refine r_lss m.sX (fun h8 => ?_) (fun h8 => ?_) <;> conv => cbv
            · refine r_addf m.sX (by omega) (by omega) fun n_4 hn_4 => ?_
              conv => cbv
              refine r_append1 (n_4) m.sX rfl (by first | omega | (dsimp only; omega)) (by first | omega | (dsimp only; omega)) fun out_5 hout_5 => ?_
              conv => cbv
              have lout_5 : (out_5.length : Int) = out_4.length + 1 := by rw [hout_5]; first | done | (simp; done) | (simp; omega)
              refine r_addf m.sX (by omega) (by omega) fun i_5 hi_5 => ?_
              conv => cbv
              try have ti_5 : Int.toNat i_5 = Int.toNat i_4 + 1 := by omega
              refine hE _ (out_5, i_5) ?_ ?_ ⟨(by (try dsimp only); first | omega | (simp only [List.length_nil]; omega) | (simp only [List.length_cons, List.length_nil]; omega)), (by (try dsimp only); first | omega | (simp only [List.length_nil]; omega) | (simp only [List.length_cons, List.length_nil]; omega)), (by (try dsimp only) <;> (rw [hout_5, q, ti_5, leadsL_succ]; first | (rw [if_pos (by omega)]; congr 2 <;> omega) | (rw [if_neg (by omega)]; congr 2 <;> omega))), (by (try dsimp only) <;> first | omega | rfl | (simp [*]; done) | (rw [ln]; simp [*]; done))⟩ (by first | omega | (dsimp only; omega))
              · cbv
              · cbv
            · refine r_append1 (n_3) m.sX rfl (by first | omega | (dsimp only; omega)) (by first | omega | (dsimp only; omega)) fun out_6 hout_6 => ?_
              conv => cbv
              have lout_6 : (out_6.length : Int) = out_4.length + 1 := by rw [hout_6]; first | done | (simp; done) | (simp; omega)
              refine r_addf m.sX (by omega) (by omega) fun i_6 hi_6 => ?_
              conv => cbv
              try have ti_6 : Int.toNat i_6 = Int.toNat i_4 + 1 := by omega
              refine hE _ (out_6, i_6) ?_ ?_ ⟨(by (try dsimp only); first | omega | (simp only [List.length_nil]; omega) | (simp only [List.length_cons, List.length_nil]; omega)), (by (try dsimp only); first | omega | (simp only [List.length_nil]; omega) | (simp only [List.length_cons, List.length_nil]; omega)), (by (try dsimp only) <;> (rw [hout_6, q, ti_6, leadsL_succ]; first | (rw [if_pos (by omega)]; congr 2 <;> omega) | (rw [if_neg (by omega)]; congr 2 <;> omega))), (by (try dsimp only) <;> first | omega | rfl | (simp [*]; done) | (rw [ln]; simp [*]; done))⟩ (by first | omega | (dsimp only; omega))
              · cbv
              · cbv
          · refine hF _ _ ?_
            conv => cbv
            exact hQ (.tup [.fr 3 1 (rows cInt out_4), .bool true]) (Eq.trans (by first | rfl | (simp only [lb, lbI, rows_cons, rows_nil, unnilT, unnil, unnilTI, unnilI]; done) | (simp only [lb, lbI, rows_cons, rows_nil, unnilT, unnil, unnilTI, unnilI]; rfl)) (congrArg ((lb 3 1 cInt)) (show (out_4, true) = leadsF l depth from by exact leadsF_yes h1 (by omega) (by omega) (by omega) (by omega) (by omega) q)))   -- leaf 4
    · exact hQ (.tup [.nil, .bool false]) (Eq.trans (by first | rfl | (simp only [lb, lbI, rows_cons, rows_nil, unnilT, unnil, unnilTI, unnilI]; done) | (simp only [lb, lbI, rows_cons, rows_nil, unnilT, unnil, unnilTI, unnilI]; rfl)) (congrArg ((lb 3 1 cInt)) (show ([], false) = leadsF l depth from by exact leadsF_no (.inl h1)))))   -- leaf 5

theorem GalleyText_ok (l : List SLine) (hp : ∀ x ∈ l, -1000 ≤ x.2.2 ∧ x.2.2 ≤ 1000) (hl : (l.length : Int) ≤ 1000) : OkA Tryd.prog 21 [.isl 3 (rows cSetLine l)] (· = sb (textF l)) :=
  fn_intro envOk fieldsOk mixed Tryd.func21 rfl fun κ X Y L Q m hQ => by
    conv => cbv
    refine r_callB m.sX (IsGalley_ok l (by first | rfl | assumption | omega | (simp only [List.length_append, List.length_cons, List.length_nil] at *; omega)) (by first | rfl | assumption | omega | (simp only [List.length_append, List.length_cons, List.length_nil] at *; omega))) (fun h1 => ?_) (fun h1 => ?_) <;> conv => cbv
    · have os := (okGal_spec h1).1
      have ol := (okGal_spec h1).2
      refine r_lenR m.sX fun n1 hn1 mn1 => ?_
      conv => cbv
      refine r_loopF (α := List UInt8 × Int) m 40 [0, 4, 10, 11, 12] [] (fun σ => [(0, .isl 3 (rows cSetLine l)), (4, .str σ.1), (10, .isl 3 (rows cSetLine l)), (11, .int .i64 n1), (12, .int .i64 σ.2)]) (fun σ => [])
        (fun σ => (0 ≤ σ.2) ∧ (σ.2 ≤ n1) ∧ (σ.1 = galT l σ.2.toNat)) (fun σ => (n1 - σ.2).toNat) (([] : List UInt8), 0) ?_ ?_ ?_ ?_
      · cbv
      · cbv
      · exact ⟨(by (try dsimp only); first | omega | (simp only [List.length_nil]; omega) | (simp only [List.length_cons, List.length_nil]; omega)), (by (try dsimp only); first | omega | (simp only [List.length_nil]; omega) | (simp only [List.length_cons, List.length_nil]; omega)), (by (try dsimp only) <;> (simp [galT]))⟩
      rintro ⟨s_, i1⟩ ⟨lo1, hi1, q⟩ E hE F hF
      dsimp only at lo1 hi1 q
      conv => cbv
      refine r_lss m.sX (fun h2 => ?_) (fun h2 => ?_) <;> conv => cbv
      · refine r_index m.sX (by omega) (by omega) fun v hxA => ?_
        obtain ⟨xA, xB, xC⟩ := v
        conv => cbv
        have hx := hxA
        have mx := get_mem hx
        have dx := drop_cons hx
        have kx := take_snoc hx
        have jx : (i1 + 1).toNat = Int.toNat i1 + 1 := by omega
        have gl := galT_len l os i1.toNat
        try dsimp only at gl
        rw [← q] at gl
        have ox := okS_spec (os _ mx)
        try dsimp only at ox
        have ci : ((Int.toNat i1 : Nat) : Int) = i1 := by omega
        refine r_callF .str m.sX (itoa_ok xA (by omega) (by omega)) fun v1 hv1 => ?_
        conv => cbv
        try dsimp only at hv1
        have lv1 : v1.length ≤ 21 := by rw [hv1]; exact Lib.itoa_length_le _ (by omega) (by omega)
        refine r_scat (u := s_) (v := v1) m.sX (by first | omega | (simp only [List.length_cons, List.length_nil]; omega) | (simp; omega)) fun s__2 hs__2 => ?_   -- s__2 = s_ ++ v1
        have ls__2 : (s__2.length : Int) = s_.length + v1.length := by rw [hs__2, List.length_append, Int.natCast_add]
        try simp only [List.length_cons, List.length_nil] at ls__2
        conv => cbv
        refine r_gtr m.sX (fun h3 => ?_) (fun h3 => ?_) <;> conv => cbv
        · refine r_callF .str m.sX (itoa_ok xB (by omega) (by omega)) fun v2 hv2 => ?_
          conv => cbv
          try dsimp only at hv2
          have lv2 : v2.length ≤ 21 := by rw [hv2]; exact Lib.itoa_length_le _ (by omega) (by omega)
          refine r_scat (u := ([43] : List UInt8)) (v := v2) m.sX (by first | omega | (simp only [List.length_cons, List.length_nil]; omega) | (simp; omega)) fun s1 hs1 => ?_   -- s1 = ([43] : List UInt8) ++ v2
          have ls1 : (s1.length : Int) = ([43] : List UInt8).length + v2.length := by rw [hs1, List.length_append, Int.natCast_add]
          try simp only [List.length_cons, List.length_nil] at ls1
          conv => cbv
          refine r_scat (u := s__2) (v := s1) m.sX (by first | omega | (simp only [List.length_cons, List.length_nil]; omega) | (simp; omega)) fun s__3 hs__3 => ?_   -- s__3 = s__2 ++ s1
          have ls__3 : (s__3.length : Int) = s__2.length + s1.length := by rw [hs__3, List.length_append, Int.natCast_add]
          try simp only [List.length_cons, List.length_nil] at ls__3
          conv => cbv
          refine r_callB m.sX (isLast_ok l i1 (by first | rfl | assumption | omega | (simp only [List.length_append, List.length_cons, List.length_nil] at *; omega)) (by first | rfl | assumption | omega | (simp only [List.length_append, List.length_cons, List.length_nil] at *; omega))) (fun h4 => ?_) (fun h4 => ?_) <;> conv => cbv
          · refine r_scat (u := s__3) (v := ([59] : List UInt8)) m.sX (by first | omega | (simp only [List.length_cons, List.length_nil]; omega) | (simp; omega)) fun s__4 hs__4 => ?_   -- s__4 = s__3 ++ ([59] : List UInt8)
            have ls__4 : (s__4.length : Int) = s__3.length + ([59] : List UInt8).length := by rw [hs__4, List.length_append, Int.natCast_add]
            try simp only [List.length_cons, List.length_nil] at ls__4
            conv => cbv
            refine r_addf m.sX (by omega) (by omega) fun r1 hr1 => ?_
            conv => cbv
            try have tr1 : Int.toNat r1 = Int.toNat i1 + 1 := by omega
            refine hE _ (s__4, r1) ?_ ?_ ⟨(by (try dsimp only); first | omega | (simp only [List.length_nil]; omega) | (simp only [List.length_cons, List.length_nil]; omega)), (by (try dsimp only); first | omega | (simp only [List.length_nil]; omega) | (simp only [List.length_cons, List.length_nil]; omega)), (by (try dsimp only) <;> (first | rw [tr1, galT_note hx (by dsimp only; omega) (c := [59]) (by rw [ci, h4]; rfl), hs__4, hs__3, hs__2, hs1, hv1, hv2, q] | rw [tr1, galT_note hx (by dsimp only; omega) (c := [44]) (by rw [ci, h4]; rfl), hs__5, hs__3, hs__2, hs1, hv1, hv2, q] | rw [tr1, galT_bare hx (by dsimp only; omega) (c := [59]) (by rw [ci, h5]; rfl), hs__6, hs__2, hv1, q] | rw [tr1, galT_bare hx (by dsimp only; omega) (c := [44]) (by rw [ci, h5]; rfl), hs__7, hs__2, hv1, q]))⟩ (by first | omega | (dsimp only; omega))
            · cbv
            · cbv
          · refine r_scat (u := s__3) (v := ([44] : List UInt8)) m.sX (by first | omega | (simp only [List.length_cons, List.length_nil]; omega) | (simp; omega)) fun s__5 hs__5 => ?_   -- s__5 = s__3 ++ ([44] : List UInt8)
            have ls__5 : (s__5.length : Int) = s__3.length + ([44] : List UInt8).length := by rw [hs__5, List.length_append, Int.natCast_add]
            try simp only [List.length_cons, List.length_nil] at ls__5
            conv => cbv
            refine r_addf m.sX (by omega) (by omega) fun r2 hr2 => ?_
            conv => cbv
            try have tr2 : Int.toNat r2 = Int.toNat i1 + 1 := by omega
            refine hE _ (s__5, r2) ?_ ?_ ⟨(by (try dsimp only); first | omega | (simp only [List.length_nil]; omega) | (simp only [List.length_cons, List.length_nil]; omega)), (by (try dsimp only); first | omega | (simp only [List.length_nil]; omega) | (simp only [List.length_cons, List.length_nil]; omega)), (by (try dsimp only) <;> (first | rw [tr2, galT_note hx (by dsimp only; omega) (c := [59]) (by rw [ci, h4]; rfl), hs__4, hs__3, hs__2, hs1, hv1, hv2, q] | rw [tr2, galT_note hx (by dsimp only; omega) (c := [44]) (by rw [ci, h4]; rfl), hs__5, hs__3, hs__2, hs1, hv1, hv2, q] | rw [tr2, galT_bare hx (by dsimp only; omega) (c := [59]) (by rw [ci, h5]; rfl), hs__6, hs__2, hv1, q] | rw [tr2, galT_bare hx (by dsimp only; omega) (c := [44]) (by rw [ci, h5]; rfl), hs__7, hs__2, hv1, q]))⟩ (by first | omega | (dsimp only; omega))
            · cbv
            · cbv
        · refine r_callB m.sX (isLast_ok l i1 (by first | rfl | assumption | omega | (simp only [List.length_append, List.length_cons, List.length_nil] at *; omega)) (by first | rfl | assumption | omega | (simp only [List.length_append, List.length_cons, List.length_nil] at *; omega))) (fun h5 => ?_) (fun h5 => ?_) <;> conv => cbv
          · refine r_scat (u := s__2) (v := ([59] : List UInt8)) m.sX (by first | omega | (simp only [List.length_cons, List.length_nil]; omega) | (simp; omega)) fun s__6 hs__6 => ?_   -- s__6 = s__2 ++ ([59] : List UInt8)
            have ls__6 : (s__6.length : Int) = s__2.length + ([59] : List UInt8).length := by rw [hs__6, List.length_append, Int.natCast_add]
            try simp only [List.length_cons, List.length_nil] at ls__6
            conv => cbv
            refine r_addf m.sX (by omega) (by omega) fun r3 hr3 => ?_
            conv => cbv
            try have tr3 : Int.toNat r3 = Int.toNat i1 + 1 := by omega
            refine hE _ (s__6, r3) ?_ ?_ ⟨(by (try dsimp only); first | omega | (simp only [List.length_nil]; omega) | (simp only [List.length_cons, List.length_nil]; omega)), (by (try dsimp only); first | omega | (simp only [List.length_nil]; omega) | (simp only [List.length_cons, List.length_nil]; omega)), (by (try dsimp only) <;> (first | rw [tr3, galT_note hx (by dsimp only; omega) (c := [59]) (by rw [ci, h4]; rfl), hs__4, hs__3, hs__2, hs1, hv1, hv2, q] | rw [tr3, galT_note hx (by dsimp only; omega) (c := [44]) (by rw [ci, h4]; rfl), hs__5, hs__3, hs__2, hs1, hv1, hv2, q] | rw [tr3, galT_bare hx (by dsimp only; omega) (c := [59]) (by rw [ci, h5]; rfl), hs__6, hs__2, hv1, q] | rw [tr3, galT_bare hx (by dsimp only; omega) (c := [44]) (by rw [ci, h5]; rfl), hs__7, hs__2, hv1, q]))⟩ (by first | omega | (dsimp only; omega))
            · cbv
            · cbv
          · refine r_scat (u := s__2) (v := ([44] : List UInt8)) m.sX (by first | omega | (simp only [List.length_cons, List.length_nil]; omega) | (simp; omega)) fun s__7 hs__7 => ?_   -- s__7 = s__2 ++ ([44] : List UInt8)
            have ls__7 : (s__7.length : Int) = s__2.length + ([44] : List UInt8).length := by rw [hs__7, List.length_append, Int.natCast_add]
            try simp only [List.length_cons, List.length_nil] at ls__7
            conv => cbv
            refine r_addf m.sX (by omega) (by omega) fun r4 hr4 => ?_
            conv => cbv
            try have tr4 : Int.toNat r4 = Int.toNat i1 + 1 := by omega
            refine hE _ (s__7, r4) ?_ ?_ ⟨(by (try dsimp only); first | omega | (simp only [List.length_nil]; omega) | (simp only [List.length_cons, List.length_nil]; omega)), (by (try dsimp only); first | omega | (simp only [List.length_nil]; omega) | (simp only [List.length_cons, List.length_nil]; omega)), (by (try dsimp only) <;> (first | rw [tr4, galT_note hx (by dsimp only; omega) (c := [59]) (by rw [ci, h4]; rfl), hs__4, hs__3, hs__2, hs1, hv1, hv2, q] | rw [tr4, galT_note hx (by dsimp only; omega) (c := [44]) (by rw [ci, h4]; rfl), hs__5, hs__3, hs__2, hs1, hv1, hv2, q] | rw [tr4, galT_bare hx (by dsimp only; omega) (c := [59]) (by rw [ci, h5]; rfl), hs__6, hs__2, hv1, q] | rw [tr4, galT_bare hx (by dsimp only; omega) (c := [44]) (by rw [ci, h5]; rfl), hs__7, hs__2, hv1, q]))⟩ (by first | omega | (dsimp only; omega))
            · cbv
            · cbv
      · have dz_i1 := drop_end (xs := l) (i := Int.toNat i1) (by omega)
        have tz_i1 := take_end (xs := l) (i := Int.toNat i1) (by omega)
        refine hF _ _ ?_
        conv => cbv
        exact hQ (.tup [.str s_, .bool true]) (Eq.trans (by first | rfl | (simp only [lb, lbI, rows_cons, rows_nil, unnilT, unnil, unnilTI, unnilI]; done) | (simp only [lb, lbI, rows_cons, rows_nil, unnilT, unnil, unnilTI, unnilI]; rfl)) (congrArg (sb) (show (s_, true) = textF l from by rw [textF, h1, q, show Int.toNat i1 = l.length by omega]; rfl)))   -- leaf 1
    · exact hQ (.tup [.str ([] : List UInt8), .bool false]) (Eq.trans (by first | rfl | (simp only [lb, lbI, rows_cons, rows_nil, unnilT, unnil, unnilTI, unnilI]; done) | (simp only [lb, lbI, rows_cons, rows_nil, unnilT, unnil, unnilTI, unnilI]; rfl)) (congrArg (sb) (show (([] : List UInt8), false) = textF l from by rw [textF, h1]; rfl)))   -- leaf 2

theorem specGalleyText_ok (l : List SLine) (hp : ∀ x ∈ l, -1000 ≤ x.2.2 ∧ x.2.2 ≤ 1000) (hl : (l.length : Int) ≤ 1000) : OkA Tryd.prog 22 [.isl 3 (rows cSetLine l)] (· = sb (textF l)) :=
  fn_intro envOk fieldsOk mixed Tryd.func22 rfl fun κ X Y L Q m hQ => by
    conv => cbv
    refine r_callB m.sX (pgGood_ok l (by first | rfl | assumption | omega | (simp only [List.length_append, List.length_cons, List.length_nil] at *; omega)) (by first | rfl | assumption | omega | (simp only [List.length_append, List.length_cons, List.length_nil] at *; omega))) (fun h1 => ?_) (fun h1 => ?_) <;> conv => cbv
    · have os := (okGal_spec h1).1
      have ol := (okGal_spec h1).2
      refine r_lenR m.sX fun n1 hn1 mn1 => ?_
      conv => cbv
      refine r_loopF (α := List UInt8 × Int) m 53 [0, 4, 10, 11, 12] [] (fun σ => [(0, .isl 3 (rows cSetLine l)), (4, .str σ.1), (10, .isl 3 (rows cSetLine l)), (11, .int .i64 n1), (12, .int .i64 σ.2)]) (fun σ => [])
        (fun σ => (0 ≤ σ.2) ∧ (σ.2 ≤ n1) ∧ (σ.1 = galT l σ.2.toNat)) (fun σ => (n1 - σ.2).toNat) (([] : List UInt8), 0) ?_ ?_ ?_ ?_
      · cbv
      · cbv
      · exact ⟨(by (try dsimp only); first | omega | (simp only [List.length_nil]; omega) | (simp only [List.length_cons, List.length_nil]; omega)), (by (try dsimp only); first | omega | (simp only [List.length_nil]; omega) | (simp only [List.length_cons, List.length_nil]; omega)), (by (try dsimp only) <;> (simp [galT]))⟩
      rintro ⟨s_, i1⟩ ⟨lo1, hi1, q⟩ E hE F hF
      dsimp only at lo1 hi1 q
      conv => cbv
      refine r_lss m.sX (fun h2 => ?_) (fun h2 => ?_) <;> conv => cbv
      · refine r_index m.sX (by omega) (by omega) fun v hxA => ?_
        obtain ⟨xA, xB, xC⟩ := v
        conv => cbv
        have hx := hxA
        have mx := get_mem hx
        have dx := drop_cons hx
        have kx := take_snoc hx
        have jx : (i1 + 1).toNat = Int.toNat i1 + 1 := by omega
        have gl := galT_len l os i1.toNat
        try dsimp only at gl
        rw [← q] at gl
        have ox := okS_spec (os _ mx)
        try dsimp only at ox
        have ci : ((Int.toNat i1 : Nat) : Int) = i1 := by omega
        have px := hp _ mx
        try dsimp only at px
        refine r_callF .str m.sX (l1Num_ok xA (by omega) (by omega)) fun v1 hv1 => ?_
        conv => cbv
        try dsimp only at hv1
        have lv1 : v1.length ≤ 20 := by rw [hv1]; exact decDigits_le (by omega)
        have w1 : v1 = Lib.itoa xA := by rw [hv1, itoa_nn (by omega)]
        refine r_scat (u := s_) (v := v1) m.sX (by first | omega | (simp only [List.length_cons, List.length_nil]; omega) | (simp; omega)) fun s__2 hs__2 => ?_   -- s__2 = s_ ++ v1
        have ls__2 : (s__2.length : Int) = s_.length + v1.length := by rw [hs__2, List.length_append, Int.natCast_add]
        try simp only [List.length_cons, List.length_nil] at ls__2
        conv => cbv
        refine r_gtr m.sX (fun h3 => ?_) (fun h3 => ?_) <;> conv => cbv
        · refine r_callF .str m.sX (l1Num_ok xB (by omega) (by omega)) fun v2 hv2 => ?_
          conv => cbv
          try dsimp only at hv2
          have lv2 : v2.length ≤ 20 := by rw [hv2]; exact decDigits_le (by omega)
          have w2 : v2 = Lib.itoa xB := by rw [hv2, itoa_nn (by omega)]
          refine r_scat (u := ([43] : List UInt8)) (v := v2) m.sX (by first | omega | (simp only [List.length_cons, List.length_nil]; omega) | (simp; omega)) fun s1 hs1 => ?_   -- s1 = ([43] : List UInt8) ++ v2
          have ls1 : (s1.length : Int) = ([43] : List UInt8).length + v2.length := by rw [hs1, List.length_append, Int.natCast_add]
          try simp only [List.length_cons, List.length_nil] at ls1
          conv => cbv
          refine r_scat (u := s__2) (v := s1) m.sX (by first | omega | (simp only [List.length_cons, List.length_nil]; omega) | (simp; omega)) fun s__3 hs__3 => ?_   -- s__3 = s__2 ++ s1
          have ls__3 : (s__3.length : Int) = s__2.length + s1.length := by rw [hs__3, List.length_append, Int.natCast_add]
          try simp only [List.length_cons, List.length_nil] at ls__3
          conv => cbv
          refine r_draw m (by kernel_rfl) ?_
          conv => cbv
          refine r_lenRS m.sY (by omega) fun n2 hn2 => ?_
          conv => cbv
          refine r_subf m.sY (by omega) (by omega) fun r1 hr1 => ?_
          conv => cbv
          refine r_eql m.sY (fun h4 => ?_) (fun h4 => ?_) <;> conv => cbv
          · have lb : lastB l i1 = true := by rw [lastB, decide_eq_true (by omega)]; rfl
            refine r_scat (u := s__3) (v := ([59] : List UInt8)) m.sX (by first | omega | (simp only [List.length_cons, List.length_nil]; omega) | (simp; omega)) fun s__4 hs__4 => ?_   -- s__4 = s__3 ++ ([59] : List UInt8)
            have ls__4 : (s__4.length : Int) = s__3.length + ([59] : List UInt8).length := by rw [hs__4, List.length_append, Int.natCast_add]
            try simp only [List.length_cons, List.length_nil] at ls__4
            conv => cbv
            refine r_addf m.sX (by omega) (by omega) fun r2 hr2 => ?_
            conv => cbv
            try have tr2 : Int.toNat r2 = Int.toNat i1 + 1 := by omega
            refine hE _ (s__4, r2) ?_ ?_ ⟨(by (try dsimp only); first | omega | (simp only [List.length_nil]; omega) | (simp only [List.length_cons, List.length_nil]; omega)), (by (try dsimp only); first | omega | (simp only [List.length_nil]; omega) | (simp only [List.length_cons, List.length_nil]; omega)), (by (try dsimp only) <;> (first | rw [tr2, galT_note hx (by dsimp only; omega) (c := [59]) (by rw [ci, lb]; rfl), hs__4, hs__3, hs__2, hs1, w1, w2, q] | rw [tr2, galT_note hx (by dsimp only; omega) (c := [59]) (by rw [ci, lb]; rfl), hs__5, hs__3, hs__2, hs1, w1, w2, q] | rw [tr2, galT_note hx (by dsimp only; omega) (c := [44]) (by rw [ci, lb]; rfl), hs__6, hs__3, hs__2, hs1, w1, w2, q] | rw [tr2, galT_bare hx (by dsimp only; omega) (c := [59]) (by rw [ci, lb]; rfl), hs__7, hs__2, w1, q] | rw [tr2, galT_bare hx (by dsimp only; omega) (c := [59]) (by rw [ci, lb]; rfl), hs__8, hs__2, w1, q] | rw [tr2, galT_bare hx (by dsimp only; omega) (c := [44]) (by rw [ci, lb]; rfl), hs__9, hs__2, w1, q]))⟩ (by first | omega | (dsimp only; omega))
            · cbv
            · cbv
          · refine r_addf m.sY (by omega) (by omega) fun r3 hr3 => ?_
            conv => cbv
            refine r_index m.sY (by omega) (by omega) fun v hx1A => ?_
            obtain ⟨x1A, x1B, x1C⟩ := v
            conv => cbv
            have hx1 := hx1A
            have mx1 := get_mem hx1
            have px1 := hp _ mx1
            try dsimp only at px1
            refine r_neq m.sY (fun h5 => ?_) (fun h5 => ?_) <;> conv => cbv
            · have lb : lastB l i1 = true := by rw [lastB, ← hr3, parAt_some hx1, parAt_some hx, decide_eq_false h5]; simp
              refine r_scat (u := s__3) (v := ([59] : List UInt8)) m.sX (by first | omega | (simp only [List.length_cons, List.length_nil]; omega) | (simp; omega)) fun s__5 hs__5 => ?_   -- s__5 = s__3 ++ ([59] : List UInt8)
              have ls__5 : (s__5.length : Int) = s__3.length + ([59] : List UInt8).length := by rw [hs__5, List.length_append, Int.natCast_add]
              try simp only [List.length_cons, List.length_nil] at ls__5
              conv => cbv
              refine r_addf m.sX (by omega) (by omega) fun r4 hr4 => ?_
              conv => cbv
              try have tr4 : Int.toNat r4 = Int.toNat i1 + 1 := by omega
              refine hE _ (s__5, r4) ?_ ?_ ⟨(by (try dsimp only); first | omega | (simp only [List.length_nil]; omega) | (simp only [List.length_cons, List.length_nil]; omega)), (by (try dsimp only); first | omega | (simp only [List.length_nil]; omega) | (simp only [List.length_cons, List.length_nil]; omega)), (by (try dsimp only) <;> (first | rw [tr4, galT_note hx (by dsimp only; omega) (c := [59]) (by rw [ci, lb]; rfl), hs__4, hs__3, hs__2, hs1, w1, w2, q] | rw [tr4, galT_note hx (by dsimp only; omega) (c := [59]) (by rw [ci, lb]; rfl), hs__5, hs__3, hs__2, hs1, w1, w2, q] | rw [tr4, galT_note hx (by dsimp only; omega) (c := [44]) (by rw [ci, lb]; rfl), hs__6, hs__3, hs__2, hs1, w1, w2, q] | rw [tr4, galT_bare hx (by dsimp only; omega) (c := [59]) (by rw [ci, lb]; rfl), hs__7, hs__2, w1, q] | rw [tr4, galT_bare hx (by dsimp only; omega) (c := [59]) (by rw [ci, lb]; rfl), hs__8, hs__2, w1, q] | rw [tr4, galT_bare hx (by dsimp only; omega) (c := [44]) (by rw [ci, lb]; rfl), hs__9, hs__2, w1, q]))⟩ (by first | omega | (dsimp only; omega))
              · cbv
              · cbv
            · have lb : lastB l i1 = false := by rw [lastB, ← hr3, parAt_some hx1, parAt_some hx, decide_eq_true h5, decide_eq_false (by omega)]; rfl
              refine r_scat (u := s__3) (v := ([44] : List UInt8)) m.sX (by first | omega | (simp only [List.length_cons, List.length_nil]; omega) | (simp; omega)) fun s__6 hs__6 => ?_   -- s__6 = s__3 ++ ([44] : List UInt8)
              have ls__6 : (s__6.length : Int) = s__3.length + ([44] : List UInt8).length := by rw [hs__6, List.length_append, Int.natCast_add]
              try simp only [List.length_cons, List.length_nil] at ls__6
              conv => cbv
              refine r_addf m.sX (by omega) (by omega) fun r5 hr5 => ?_
              conv => cbv
              try have tr5 : Int.toNat r5 = Int.toNat i1 + 1 := by omega
              refine hE _ (s__6, r5) ?_ ?_ ⟨(by (try dsimp only); first | omega | (simp only [List.length_nil]; omega) | (simp only [List.length_cons, List.length_nil]; omega)), (by (try dsimp only); first | omega | (simp only [List.length_nil]; omega) | (simp only [List.length_cons, List.length_nil]; omega)), (by (try dsimp only) <;> (first | rw [tr5, galT_note hx (by dsimp only; omega) (c := [59]) (by rw [ci, lb]; rfl), hs__4, hs__3, hs__2, hs1, w1, w2, q] | rw [tr5, galT_note hx (by dsimp only; omega) (c := [59]) (by rw [ci, lb]; rfl), hs__5, hs__3, hs__2, hs1, w1, w2, q] | rw [tr5, galT_note hx (by dsimp only; omega) (c := [44]) (by rw [ci, lb]; rfl), hs__6, hs__3, hs__2, hs1, w1, w2, q] | rw [tr5, galT_bare hx (by dsimp only; omega) (c := [59]) (by rw [ci, lb]; rfl), hs__7, hs__2, w1, q] | rw [tr5, galT_bare hx (by dsimp only; omega) (c := [59]) (by rw [ci, lb]; rfl), hs__8, hs__2, w1, q] | rw [tr5, galT_bare hx (by dsimp only; omega) (c := [44]) (by rw [ci, lb]; rfl), hs__9, hs__2, w1, q]))⟩ (by first | omega | (dsimp only; omega))
              · cbv
              · cbv
        · refine r_draw m (by kernel_rfl) ?_
          conv => cbv
          refine r_lenRS m.sY (by omega) fun n3 hn3 => ?_
          conv => cbv
          refine r_subf m.sY (by omega) (by omega) fun r6 hr6 => ?_
          conv => cbv
          refine r_eql m.sY (fun h6 => ?_) (fun h6 => ?_) <;> conv => cbv
          · have lb : lastB l i1 = true := by rw [lastB, decide_eq_true (by omega)]; rfl
            refine r_scat (u := s__2) (v := ([59] : List UInt8)) m.sX (by first | omega | (simp only [List.length_cons, List.length_nil]; omega) | (simp; omega)) fun s__7 hs__7 => ?_   -- s__7 = s__2 ++ ([59] : List UInt8)
            have ls__7 : (s__7.length : Int) = s__2.length + ([59] : List UInt8).length := by rw [hs__7, List.length_append, Int.natCast_add]
            try simp only [List.length_cons, List.length_nil] at ls__7
            conv => cbv
            refine r_addf m.sX (by omega) (by omega) fun r7 hr7 => ?_
            conv => cbv
            try have tr7 : Int.toNat r7 = Int.toNat i1 + 1 := by omega
            refine hE _ (s__7, r7) ?_ ?_ ⟨(by (try dsimp only); first | omega | (simp only [List.length_nil]; omega) | (simp only [List.length_cons, List.length_nil]; omega)), (by (try dsimp only); first | omega | (simp only [List.length_nil]; omega) | (simp only [List.length_cons, List.length_nil]; omega)), (by (try dsimp only) <;> (first | rw [tr7, galT_note hx (by dsimp only; omega) (c := [59]) (by rw [ci, lb]; rfl), hs__4, hs__3, hs__2, hs1, w1, w2, q] | rw [tr7, galT_note hx (by dsimp only; omega) (c := [59]) (by rw [ci, lb]; rfl), hs__5, hs__3, hs__2, hs1, w1, w2, q] | rw [tr7, galT_note hx (by dsimp only; omega) (c := [44]) (by rw [ci, lb]; rfl), hs__6, hs__3, hs__2, hs1, w1, w2, q] | rw [tr7, galT_bare hx (by dsimp only; omega) (c := [59]) (by rw [ci, lb]; rfl), hs__7, hs__2, w1, q] | rw [tr7, galT_bare hx (by dsimp only; omega) (c := [59]) (by rw [ci, lb]; rfl), hs__8, hs__2, w1, q] | rw [tr7, galT_bare hx (by dsimp only; omega) (c := [44]) (by rw [ci, lb]; rfl), hs__9, hs__2, w1, q]))⟩ (by first | omega | (dsimp only; omega))
            · cbv
            · cbv
          · refine r_addf m.sY (by omega) (by omega) fun r8 hr8 => ?_
            conv => cbv
            refine r_index m.sY (by omega) (by omega) fun v hx2A => ?_
            obtain ⟨x2A, x2B, x2C⟩ := v
            conv => cbv
            have hx2 := hx2A
            have mx2 := get_mem hx2
            have px2 := hp _ mx2
            try dsimp only at px2
            refine r_neq m.sY (fun h7 => ?_) (fun h7 => ?_) <;> conv => cbv
            · have lb : lastB l i1 = true := by rw [lastB, ← hr8, parAt_some hx2, parAt_some hx, decide_eq_false h7]; simp
              refine r_scat (u := s__2) (v := ([59] : List UInt8)) m.sX (by first | omega | (simp only [List.length_cons, List.length_nil]; omega) | (simp; omega)) fun s__8 hs__8 => ?_   -- s__8 = s__2 ++ ([59] : List UInt8)
              have ls__8 : (s__8.length : Int) = s__2.length + ([59] : List UInt8).length := by rw [hs__8, List.length_append, Int.natCast_add]
              try simp only [List.length_cons, List.length_nil] at ls__8
              conv => cbv
              refine r_addf m.sX (by omega) (by omega) fun r9 hr9 => ?_
              conv => cbv
              try have tr9 : Int.toNat r9 = Int.toNat i1 + 1 := by omega
              refine hE _ (s__8, r9) ?_ ?_ ⟨(by (try dsimp only); first | omega | (simp only [List.length_nil]; omega) | (simp only [List.length_cons, List.length_nil]; omega)), (by (try dsimp only); first | omega | (simp only [List.length_nil]; omega) | (simp only [List.length_cons, List.length_nil]; omega)), (by (try dsimp only) <;> (first | rw [tr9, galT_note hx (by dsimp only; omega) (c := [59]) (by rw [ci, lb]; rfl), hs__4, hs__3, hs__2, hs1, w1, w2, q] | rw [tr9, galT_note hx (by dsimp only; omega) (c := [59]) (by rw [ci, lb]; rfl), hs__5, hs__3, hs__2, hs1, w1, w2, q] | rw [tr9, galT_note hx (by dsimp only; omega) (c := [44]) (by rw [ci, lb]; rfl), hs__6, hs__3, hs__2, hs1, w1, w2, q] | rw [tr9, galT_bare hx (by dsimp only; omega) (c := [59]) (by rw [ci, lb]; rfl), hs__7, hs__2, w1, q] | rw [tr9, galT_bare hx (by dsimp only; omega) (c := [59]) (by rw [ci, lb]; rfl), hs__8, hs__2, w1, q] | rw [tr9, galT_bare hx (by dsimp only; omega) (c := [44]) (by rw [ci, lb]; rfl), hs__9, hs__2, w1, q]))⟩ (by first | omega | (dsimp only; omega))
              · cbv
              · cbv
            · have lb : lastB l i1 = false := by rw [lastB, ← hr8, parAt_some hx2, parAt_some hx, decide_eq_true h7, decide_eq_false (by omega)]; rfl
              refine r_scat (u := s__2) (v := ([44] : List UInt8)) m.sX (by first | omega | (simp only [List.length_cons, List.length_nil]; omega) | (simp; omega)) fun s__9 hs__9 => ?_   -- s__9 = s__2 ++ ([44] : List UInt8)
              have ls__9 : (s__9.length : Int) = s__2.length + ([44] : List UInt8).length := by rw [hs__9, List.length_append, Int.natCast_add]
              try simp only [List.length_cons, List.length_nil] at ls__9
              conv => cbv
              refine r_addf m.sX (by omega) (by omega) fun r10 hr10 => ?_
              conv => cbv
              try have tr10 : Int.toNat r10 = Int.toNat i1 + 1 := by omega
              refine hE _ (s__9, r10) ?_ ?_ ⟨(by (try dsimp only); first | omega | (simp only [List.length_nil]; omega) | (simp only [List.length_cons, List.length_nil]; omega)), (by (try dsimp only); first | omega | (simp only [List.length_nil]; omega) | (simp only [List.length_cons, List.length_nil]; omega)), (by (try dsimp only) <;> (first | rw [tr10, galT_note hx (by dsimp only; omega) (c := [59]) (by rw [ci, lb]; rfl), hs__4, hs__3, hs__2, hs1, w1, w2, q] | rw [tr10, galT_note hx (by dsimp only; omega) (c := [59]) (by rw [ci, lb]; rfl), hs__5, hs__3, hs__2, hs1, w1, w2, q] | rw [tr10, galT_note hx (by dsimp only; omega) (c := [44]) (by rw [ci, lb]; rfl), hs__6, hs__3, hs__2, hs1, w1, w2, q] | rw [tr10, galT_bare hx (by dsimp only; omega) (c := [59]) (by rw [ci, lb]; rfl), hs__7, hs__2, w1, q] | rw [tr10, galT_bare hx (by dsimp only; omega) (c := [59]) (by rw [ci, lb]; rfl), hs__8, hs__2, w1, q] | rw [tr10, galT_bare hx (by dsimp only; omega) (c := [44]) (by rw [ci, lb]; rfl), hs__9, hs__2, w1, q]))⟩ (by first | omega | (dsimp only; omega))
              · cbv
              · cbv
      · have dz_i1 := drop_end (xs := l) (i := Int.toNat i1) (by omega)
        have tz_i1 := take_end (xs := l) (i := Int.toNat i1) (by omega)
        refine hF _ _ ?_
        conv => cbv
        exact hQ (.tup [.str s_, .bool true]) (Eq.trans (by first | rfl | (simp only [lb, lbI, rows_cons, rows_nil, unnilT, unnil, unnilTI, unnilI]; done) | (simp only [lb, lbI, rows_cons, rows_nil, unnilT, unnil, unnilTI, unnilI]; rfl)) (congrArg (sb) (show (s_, true) = textF l from by rw [textF, h1, q, show Int.toNat i1 = l.length by omega]; rfl)))   -- leaf 1
    · exact hQ (.tup [.str ([] : List UInt8), .bool false]) (Eq.trans (by first | rfl | (simp only [lb, lbI, rows_cons, rows_nil, unnilT, unnil, unnilTI, unnilI]; done) | (simp only [lb, lbI, rows_cons, rows_nil, unnilT, unnil, unnilTI, unnilI]; rfl)) (congrArg (sb) (show (([] : List UInt8), false) = textF l from by rw [textF, h1]; rfl)))   -- leaf 2

theorem specIsGalley_ok (l : List SLine) (hp : ∀ x ∈ l, -1000 ≤ x.2.2 ∧ x.2.2 ≤ 1000) (hl : (l.length : Int) ≤ 1000) : OkA Tryd.prog 24 [.isl 3 (rows cSetLine l)] (· = .bool (okGal l)) :=
  fn_intro envOk fieldsOk mixed Tryd.func24 rfl fun κ X Y L Q m hQ => by
    conv => cbv
    refine r_callB m.sX (pgGood_ok l (by first | rfl | assumption | omega | (simp only [List.length_append, List.length_cons, List.length_nil] at *; omega)) (by first | rfl | assumption | omega | (simp only [List.length_append, List.length_cons, List.length_nil] at *; omega))) (fun h1 => ?_) (fun h1 => ?_) <;> conv => cbv
    · exact hQ _ (congrArg PV.bool (by exact h1.symm))   -- leaf 1
    · exact hQ _ (congrArg PV.bool (by exact h1.symm))   -- leaf 2

end Go.Proofs.YtbamclepgabciaaDoor.Ai
