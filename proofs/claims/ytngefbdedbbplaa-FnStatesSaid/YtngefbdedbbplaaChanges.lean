/- Contracts of the functions on states: marks to the next state. -/
import Derived.Test.YtngefbdedbbplaaMark5
namespace Go.Proofs.Ytngefbdedbbplaa.Ai
open Go Go.Proofs
set_option linter.unusedSimpArgs false
set_option maxRecDepth 10000
set_option maxHeartbeats 1000000
set_option linter.unusedVariables false
theorem states_at {l : List (List Tx)} (h : statesB l = true) : (1 ≤ l.length ∧ l.length ≤ 6) ∧ ∀ p ∈ l, proofB p = true ∧ (p.length : Int) = headLen l := by
  unfold statesB at h
  rw [Bool.and_eq_true] at h
  have h1 := inB_spec h.2
  refine ⟨by omega, fun p hp => ?_⟩
  have h2 := h.1
  unfold wideB at h2
  have := List.all_eq_true.1 h2 p hp
  rw [Bool.and_eq_true] at this
  exact ⟨this.1, of_decide_eq_true this.2⟩
def hasB (l : List (List Tx)) (i : Int) : Bool := statesB l && inB i 0 (l.length - 1)
theorem has_at {l : List (List Tx)} {i : Int} (h : hasB l i = true) : statesB l = true ∧ 0 ≤ i ∧ i < l.length := by
  unfold hasB at h
  rw [Bool.and_eq_true] at h
  have := inB_spec h.2
  exact ⟨h.1, by omega, by omega⟩
def stAt (l : List (List Tx)) (i : Int) : List Tx := (l[i.toNat]?).getD []
theorem stAt_some {l : List (List Tx)} {i : Int} {p : List Tx} (h : l[i.toNat]? = some p) : stAt l i = p := by rw [stAt, h]; rfl
def nextOk (p q : List Tx) (n : Nat) : Bool := (List.range n).all fun k => (betA (atL p k) (atL q k)).2
theorem nextOk_step (p q : List Tx) (n : Nat) : nextOk p q (n + 1) = (nextOk p q n && (betA (atL p n) (atL q n)).2) := by
  unfold nextOk
  rw [List.range_succ, List.all_append]; simp
theorem nextOk_le {p q : List Tx} {n m : Nat} (h : nextOk p q m = true) (hn : n ≤ m) : nextOk p q n = true := by
  unfold nextOk at *
  rw [List.all_eq_true] at *
  intro k hk
  exact h k (List.mem_range.2 (by have := List.mem_range.1 hk; omega))
theorem bet_ok {a b : Tx} {m : List Mark} (h : (m, true) = betA a b) : m = betF a b ∧ (betA a b).2 = true ∧ m.length ≤ 20 := by
  refine ⟨?_, by rw [← h], marks_len (bet_law h).2.2⟩
  unfold betA at h
  split at h
  · split at h
    · exact (Prod.mk.inj h).1
    · cases (Prod.mk.inj h).2
  · cases (Prod.mk.inj h).2
theorem atL_some {p : List Tx} {k : Nat} {s : Tx} (h : p[k]? = some s) : atL p k = s := by rw [atL, h]; rfl
def toNextA (l : List (List Tx)) (i : Int) : List Mark × Bool :=
  if hasB l i = true ∧ hasB l (i + 1) = true then
    (if nextOk (stAt l i) (stAt l (i + 1)) (stAt l i).length = true ∧ marksB (stAt l i) (nextM (stAt l i) (stAt l (i + 1)) (stAt l i).length) = true then (nextM (stAt l i) (stAt l (i + 1)) (stAt l i).length, true) else ([], false))
  else ([], false)
theorem toNext_no {l : List (List Tx)} {i : Int} (h : hasB l i = false ∨ hasB l (i + 1) = false) : toNextA l i = ([], false) := if_neg fun e => by
  rcases h with h | h
  · rw [h] at e; cases e.1
  · rw [h] at e; cases e.2
theorem toNext_bad {l : List (List Tx)} {i : Int} {p q : List Tx} (hp : l[i.toNat]? = some p) (hq : l[(i + 1).toNat]? = some q) {k : Nat} {m : List Mark} {s t : Tx} (hs : p[k]? = some s) (ht : q[k]? = some t) (hm : (m, false) = betA s t) : toNextA l i = ([], false) := by
  unfold toNextA
  split
  · rw [stAt_some hp, stAt_some hq, if_neg]
    rintro ⟨h, -⟩
    have hk := (List.getElem?_eq_some_iff.1 hs).1
    have := nextOk_le h (show k + 1 ≤ p.length by omega)
    rw [nextOk_step, Bool.and_eq_true, atL_some hs, atL_some ht, ← hm] at this
    cases this.2
  · rfl
theorem toNext_yes {l : List (List Tx)} {i : Int} {p q : List Tx} {L : List Mark} {n : Nat} {b : Bool} (h1 : hasB l i = true) (h2 : hasB l (i + 1) = true) (hp : l[i.toNat]? = some p) (hq : l[(i + 1).toNat]? = some q) (hL : L = nextM p q n) (hok : nextOk p q n = true) (hn : n = p.length) (hb : marksB p L = b) : toNextA l i = if b = true then (L, true) else ([], false) := by
  unfold toNextA
  rw [if_pos ⟨h1, h2⟩, stAt_some hp, stAt_some hq, ← hn, ← hL, hb, hok]
  cases b <;> simp
theorem has_next {l : List (List Tx)} {i : Int} (h : hasB l i = true) (hn : i ≠ (l.length : Int) - 1) : hasB l (i + 1) = true := by
  obtain ⟨h1, h2, h3⟩ := has_at h
  rw [hasB, h1, Bool.true_and, inB, decide_eq_true (show (0 : Int) ≤ i + 1 by omega), decide_eq_true (show i + 1 ≤ (l.length : Int) - 1 by omega)]; rfl
theorem has_last {l : List (List Tx)} {i : Int} (hn : i = (l.length : Int) - 1) : hasB l (i + 1) = false := by
  rw [hasB, inB, decide_eq_false (show ¬ i + 1 ≤ (l.length : Int) - 1 by omega), Bool.and_false, Bool.and_false]
theorem isStateOf_ok (l : List (List (List UInt8))) (i : Int)  : OkA Try.prog 63 [.isl 1 (rows (cSl 1 cStr) l), .int .i64 i] (· = .bool (hasB l i)) :=
  fn_intro envOk fieldsOk mixed Try.func63 rfl fun κ X Y L Q m hQ => by
    conv => cbv
    refine r_callB m.sX (AreStates_ok l) (fun h1 => ?_) (fun h1 => ?_) <;> conv => cbv
    · refine r_lenR m.sX fun n1 hn1 mn1 => ?_
      conv => cbv
      refine r_subf m.sX (by omega) (by omega) fun r1 hr1 => ?_
      conv => cbv
      refine r_callB m.sX (within_ok i 0 r1) (fun h2 => ?_) (fun h2 => ?_) <;> conv => cbv
      · exact hQ _ (congrArg PV.bool (by rw [hasB, h1, show (l.length : Int) - 1 = r1 by omega, h2]; rfl))   -- leaf 1
      · exact hQ _ (congrArg PV.bool (by rw [hasB, h1, show (l.length : Int) - 1 = r1 by omega, h2]; rfl))   -- leaf 2
    · exact hQ _ (congrArg PV.bool (by rw [hasB, h1]; rfl))   -- leaf 3

theorem rvHas_ok (l : List (List (List UInt8))) (i : Int)  : OkA Try.prog 64 [.isl 1 (rows (cSl 1 cStr) l), .int .i64 i] (· = .bool (hasB l i)) :=
  fn_intro envOk fieldsOk mixed Try.func64 rfl fun κ X Y L Q m hQ => by
    conv => cbv
    refine r_callB m.sX (rvGood_ok l) (fun h1 => ?_) (fun h1 => ?_) <;> conv => cbv
    · refine r_lenR m.sX fun n1 hn1 mn1 => ?_
      conv => cbv
      refine r_subf m.sX (by omega) (by omega) fun r1 hr1 => ?_
      conv => cbv
      refine r_callB m.sX (l1In_ok i 0 r1) (fun h2 => ?_) (fun h2 => ?_) <;> conv => cbv
      · exact hQ _ (congrArg PV.bool (by rw [hasB, h1, show (l.length : Int) - 1 = r1 by omega, h2]; rfl))   -- leaf 1
      · exact hQ _ (congrArg PV.bool (by rw [hasB, h1, show (l.length : Int) - 1 = r1 by omega, h2]; rfl))   -- leaf 2
    · exact hQ _ (congrArg PV.bool (by rw [hasB, h1]; rfl))   -- leaf 3

theorem MarksToNext_ok (l : List (List (List UInt8))) (i : Int)  : OkA Try.prog 25 [.isl 1 (rows (cSl 1 cStr) l), .int .i64 i] (· = (lb 44 4 cMark) (toNextA l i)) :=
  OkA.unnil 44 4 (fn_intro envOk fieldsOk mixed Try.func25 rfl fun κ X Y L Q m hQ => by
    conv => cbv
    refine r_callB m.sX (isStateOf_ok l i) (fun h1 => ?_) (fun h1 => ?_) <;> conv => cbv
    · obtain ⟨s1, i0, i9⟩ := has_at h1
      obtain ⟨⟨l1, l6⟩, sp⟩ := states_at s1
      refine r_addf m.sX (by omega) (by omega) fun r1 hr1 => ?_
      conv => cbv
      refine r_callB m.sX (isStateOf_ok l r1) (fun h2 => ?_) (fun h2 => ?_) <;> conv => cbv
      · have h2' : hasB l (i + 1) = true := by rw [show i + 1 = r1 by omega]; exact h2
        obtain ⟨-, -, j9⟩ := has_at h2'
        refine r_index m.sX (by omega) (by omega) fun x1 hx1 => ?_
        conv => cbv
        have mx1 := get_mem hx1
        obtain ⟨y2, hy2⟩ := get_ex (xs := l) (i := (i + 1).toNat) (by omega)
        have w1 := (sp x1 mx1).2
        have w2 := (sp y2 (get_mem hy2)).2
        have w3 := pf_len (sp x1 mx1).1
        refine r_lenR m.sX fun n1 hn1 mn1 => ?_
        conv => cbv
        refine r_loopF (α := List Mark × Int) m 75 [0, 1, 29, 30, 31] [⟨6, 49, 44, 4, 0⟩] (fun σ => [(0, .isl 1 (rows (cSl 1 cStr) l)), (1, .int .i64 i), (6, .osl 49 0), (29, .isl 1 (rows cStr x1)), (30, .int .i64 n1), (31, .int .i64 σ.2)]) (fun σ => [(49, 0, .row 44 4 (rows cMark σ.1))])
          (fun σ => (0 ≤ σ.2) ∧ (σ.2 ≤ n1) ∧ (σ.1 = nextM x1 y2 σ.2.toNat) ∧ (nextOk x1 y2 σ.2.toNat = true) ∧ ((σ.1.length : Int) ≤ 20 * σ.2)) (fun σ => (n1 - σ.2).toNat) ([], 0) ?_ ?_ ?_ ?_
        · cbv
        · (try dsimp only); (try simp only [rows_cons, rows_nil]); cbv
        · exact ⟨(by (try dsimp only); first | omega | (simp only [List.length_nil]; omega) | (simp only [List.length_cons, List.length_nil]; omega)), (by (try dsimp only); first | omega | (simp only [List.length_nil]; omega) | (simp only [List.length_cons, List.length_nil]; omega)), (by (try dsimp only) <;> (rfl)), (by (try dsimp only) <;> (rfl)), (by (try dsimp only) <;> (simp))⟩
        rintro ⟨list, i1⟩ ⟨lo1, hi1, q, ok, ll⟩ E hE F hF
        dsimp only at lo1 hi1 q ok ll
        conv => cbv
        refine r_lss m.sX (fun h3 => ?_) (fun h3 => ?_) <;> conv => cbv
        · refine r_index m.sX (by omega) (by omega) fun s_ hs_ => ?_
          conv => cbv
          have ms_ := get_mem hs_
          have ds_ := drop_cons hs_
          have ks_ := take_snoc hs_
          have js_ : (i1 + 1).toNat = Int.toNat i1 + 1 := by omega
          refine r_addf m.sX (by omega) (by omega) fun r2 hr2 => ?_
          conv => cbv
          refine r_index m.sX (by omega) (by omega) fun x2 hx2 => ?_
          conv => cbv
          have mx2 := get_mem hx2
          obtain rfl : y2 = x2 := Option.some.inj (hy2.symm.trans (by rw [show i + 1 = r2 by omega]; exact hx2))
          refine r_index m.sX (by omega) (by omega) fun x3 hx3 => ?_
          conv => cbv
          have mx3 := get_mem hx3
          have dx3 := drop_cons hx3
          have kx3 := take_snoc hx3
          have jx3 : (i1 + 1).toNat = Int.toNat i1 + 1 := by omega
          refine r_callF (lb 44 4 cMark) m.sX (MarksBetween_ok s_ x3) fun v hmarks => ?_
          obtain ⟨marks, ok⟩ := v
          conv => cbv
          rcases Bool.eq_false_or_eq_true ok with rfl | rfl <;> conv => cbv
          · obtain ⟨me, mo, ml⟩ := bet_ok hmarks
            refine r_lenR m.sX fun n2 hn2 mn2 => ?_
            conv => cbv
            refine r_loopF (α := List Mark × Int) m 75 [0, 1, 7, 29, 30, 31, 53, 54] [⟨6, 49, 44, 4, 0⟩, ⟨52, 417, 44, 4, 0⟩] (fun σ => [(0, .isl 1 (rows (cSl 1 cStr) l)), (1, .int .i64 i), (6, .osl 49 0), (7, .int .i64 i1), (29, .isl 1 (rows cStr x1)), (30, .int .i64 n1), (31, .int .i64 i1), (52, .osl 417 0), (53, .int .i64 n2), (54, .int .i64 σ.2)]) (fun σ => [(49, 0, .row 44 4 (rows cMark σ.1)), (417, 0, .row 44 4 (rows cMark marks))])
              (fun σ => (0 ≤ σ.2) ∧ (σ.2 ≤ n2) ∧ (σ.1 = list ++ (marks.take σ.2.toNat).map (setL i1)) ∧ ((σ.1.length : Int) ≤ list.length + σ.2)) (fun σ => (n2 - σ.2).toNat) (list, 0) ?_ ?_ ?_ ?_
            · cbv
            · cbv
            · exact ⟨(by (try dsimp only); first | omega | (simp only [List.length_nil]; omega) | (simp only [List.length_cons, List.length_nil]; omega)), (by (try dsimp only); first | omega | (simp only [List.length_nil]; omega) | (simp only [List.length_cons, List.length_nil]; omega)), (by (try dsimp only) <;> (exact (List.append_nil _).symm)), (by (try dsimp only) <;> (omega))⟩
            rintro ⟨list_2, i2⟩ ⟨lo2, hi2, q2, ll2⟩ E2 hE2 F2 hF2
            dsimp only at lo2 hi2 q2 ll2
            conv => cbv
            refine r_lss m.sX (fun h4 => ?_) (fun h4 => ?_) <;> conv => cbv
            · refine r_oindex m.sX (by omega) (by omega) ?_
              conv => cbv
              obtain ⟨⟨m_A, m_B, m_C, m_D⟩, hm_⟩ := get_ex (xs := marks) (i := Int.toNat i2) (by omega)
              have mm_ := get_mem hm_
              have dm_ := drop_cons hm_
              have km_ := take_snoc hm_
              have jm_ : (i2 + 1).toNat = Int.toNat i2 + 1 := by omega
              refine r_oload m.sX hm_ (Nat.le_of_ble_eq_true rfl) ?_
              conv => cbv
              refine r_append1 ((i1, m_B, m_C, m_D)) m.sX rfl (by first | omega | (dsimp only; omega)) (by first | omega | (dsimp only; omega)) fun list_3 hlist_3 => ?_
              conv => cbv
              have llist_3 : (list_3.length : Int) = list_2.length + 1 := by rw [hlist_3]; first | done | (simp; done) | (simp; omega)
              refine r_addf m.sX (by omega) (by omega) fun r3 hr3 => ?_
              conv => cbv
              try have tr3 : Int.toNat r3 = Int.toNat i2 + 1 := by omega
              refine hE2 _ (list_3, r3) ?_ ?_ ⟨(by (try dsimp only); first | omega | (simp only [List.length_nil]; omega) | (simp only [List.length_cons, List.length_nil]; omega)), (by (try dsimp only); first | omega | (simp only [List.length_nil]; omega) | (simp only [List.length_cons, List.length_nil]; omega)), (by (try dsimp only) <;> (rw [hlist_3, q2, tr3, km_, List.map_append, List.append_assoc]; rfl)), (by (try dsimp only) <;> (omega))⟩ (by first | omega | (dsimp only; omega))
              · cbv
              · cbv
            · have dz_i2 := drop_end (xs := marks) (i := Int.toNat i2) (by omega)
              have tz_i2 := take_end (xs := marks) (i := Int.toNat i2) (by omega)
              refine hF2 _ _ ?_
              conv => cbv
              refine r_addf m.sX (by omega) (by omega) fun r4 hr4 => ?_
              conv => cbv
              try have tr4 : Int.toNat r4 = Int.toNat i1 + 1 := by omega
              refine hE _ (list_2, r4) ?_ ?_ ⟨(by (try dsimp only); first | omega | (simp only [List.length_nil]; omega) | (simp only [List.length_cons, List.length_nil]; omega)), (by (try dsimp only); first | omega | (simp only [List.length_nil]; omega) | (simp only [List.length_cons, List.length_nil]; omega)), (by (try dsimp only) <;> (rw [q2, tz_i2, q, tr4, nextM_step, atL_some hs_, atL_some hx3, ← me, show ((i1.toNat : Nat) : Int) = i1 by omega])), (by (try dsimp only) <;> (rw [tr4, nextOk_step, ok, atL_some hs_, atL_some hx3, mo]; rfl)), (by (try dsimp only) <;> (omega))⟩ (by first | omega | (dsimp only; omega))
              · cbv
              · cbv
          · refine hF _ _ ?_
            conv => cbv
            exact hQ (.tup [.fr 44 4 [], .bool false]) (Eq.trans (by first | rfl | (simp only [lb, lbI, rows_cons, rows_nil, unnilT, unnil, unnilTI, unnilI]; done) | (simp only [lb, lbI, rows_cons, rows_nil, unnilT, unnil, unnilTI, unnilI]; rfl)) (congrArg ((lb 44 4 cMark)) (show ([], false) = toNextA l i from by exact (toNext_bad hx1 hy2 hs_ hx3 hmarks).symm)))   -- leaf 1
        · have dz_i1 := drop_end (xs := x1) (i := Int.toNat i1) (by omega)
          have tz_i1 := take_end (xs := x1) (i := Int.toNat i1) (by omega)
          refine hF _ _ ?_
          conv => cbv
          refine r_index m.sX (by omega) (by omega) fun x4 hx4 => ?_
          conv => cbv
          have mx4 := get_mem hx4
          obtain rfl : x1 = x4 := Option.some.inj (hx1.symm.trans hx4)
          refine .inl (r_callBO m.sX ((AreMarks_ok x1 list).ok flat_bool) (fun h5 => ?_) (fun h5 => ?_)) <;> conv => cbv
          · exact hQ (.tup [.fr 44 4 (rows cMark list), .bool true]) (Eq.trans (by first | rfl | (simp only [lb, lbI, rows_cons, rows_nil, unnilT, unnil, unnilTI, unnilI]; done) | (simp only [lb, lbI, rows_cons, rows_nil, unnilT, unnil, unnilTI, unnilI]; rfl)) (congrArg ((lb 44 4 cMark)) (show (list, true) = toNextA l i from by rw [toNext_yes h1 h2' hx1 hy2 q ok (by omega) h5]; rfl)))   -- leaf 2
          · exact hQ (.tup [.fr 44 4 [], .bool false]) (Eq.trans (by first | rfl | (simp only [lb, lbI, rows_cons, rows_nil, unnilT, unnil, unnilTI, unnilI]; done) | (simp only [lb, lbI, rows_cons, rows_nil, unnilT, unnil, unnilTI, unnilI]; rfl)) (congrArg ((lb 44 4 cMark)) (show ([], false) = toNextA l i from by rw [toNext_yes h1 h2' hx1 hy2 q ok (by omega) h5]; rfl)))   -- leaf 3
      · exact hQ (.tup [.fr 44 4 [], .bool false]) (Eq.trans (by first | rfl | (simp only [lb, lbI, rows_cons, rows_nil, unnilT, unnil, unnilTI, unnilI]; done) | (simp only [lb, lbI, rows_cons, rows_nil, unnilT, unnil, unnilTI, unnilI]; rfl)) (congrArg ((lb 44 4 cMark)) (show ([], false) = toNextA l i from by exact (toNext_no (.inr (by rw [show i + 1 = r1 by omega]; exact h2))).symm)))   -- leaf 4
    · exact hQ (.tup [.fr 44 4 [], .bool false]) (Eq.trans (by first | rfl | (simp only [lb, lbI, rows_cons, rows_nil, unnilT, unnil, unnilTI, unnilI]; done) | (simp only [lb, lbI, rows_cons, rows_nil, unnilT, unnil, unnilTI, unnilI]; rfl)) (congrArg ((lb 44 4 cMark)) (show ([], false) = toNextA l i from by exact (toNext_no (.inl h1)).symm))))   -- leaf 5

theorem specMarksToNext_ok (l : List (List (List UInt8))) (i : Int)  : OkA Try.prog 26 [.isl 1 (rows (cSl 1 cStr) l), .int .i64 i] (· = (lb 44 4 cMark) (toNextA l i)) :=
  OkA.unnil 44 4 (fn_intro envOk fieldsOk mixed Try.func26 rfl fun κ X Y L Q m hQ => by
    conv => cbv
    refine r_callB m.sX (rvHas_ok l i) (fun h1 => ?_) (fun h1 => ?_) <;> conv => cbv
    · obtain ⟨s1, i0, i9⟩ := has_at h1
      obtain ⟨⟨l1, l6⟩, sp⟩ := states_at s1
      refine r_lenR m.sX fun n1 hn1 mn1 => ?_
      conv => cbv
      refine r_subf m.sX (by omega) (by omega) fun r1 hr1 => ?_
      conv => cbv
      refine r_eql m.sX (fun h2 => ?_) (fun h2 => ?_) <;> conv => cbv
      · exact hQ (.tup [.nil, .bool false]) (Eq.trans (by first | rfl | (simp only [lb, lbI, rows_cons, rows_nil, unnilT, unnil, unnilTI, unnilI]; done) | (simp only [lb, lbI, rows_cons, rows_nil, unnilT, unnil, unnilTI, unnilI]; rfl)) (congrArg ((lb 44 4 cMark)) (show ([], false) = toNextA l i from by exact (toNext_no (.inr (has_last (by omega)))).symm)))   -- leaf 1
      · have h2' : hasB l (i + 1) = true := has_next h1 (by omega)
        refine r_index m.sX (by omega) (by omega) fun x1 hx1 => ?_
        conv => cbv
        have mx1 := get_mem hx1
        obtain ⟨y2, hy2⟩ := get_ex (xs := l) (i := (i + 1).toNat) (by omega)
        have w1 := (sp x1 mx1).2
        have w2 := (sp y2 (get_mem hy2)).2
        have w3 := pf_len (sp x1 mx1).1
        have w4 : ∀ s ∈ x1, s.length ≤ 1000000 := fun s hs => by have := line_len (pf_line (sp x1 mx1).1 hs); omega
        refine r_lenR m.sX fun n2 hn2 mn2 => ?_
        conv => cbv
        refine r_loopF (α := List Mark × Int) m 71 [0, 1, 27, 28, 29] [⟨6, 49, 44, 4, 0⟩] (fun σ => [(0, .isl 1 (rows (cSl 1 cStr) l)), (1, .int .i64 i), (6, .osl 49 0), (27, .isl 1 (rows cStr x1)), (28, .int .i64 n2), (29, .int .i64 σ.2)]) (fun σ => [(49, 0, .row 44 4 (rows cMark σ.1))])
          (fun σ => (0 ≤ σ.2) ∧ (σ.2 ≤ n2) ∧ (σ.1 = nextM x1 y2 σ.2.toNat) ∧ (nextOk x1 y2 σ.2.toNat = true) ∧ ((σ.1.length : Int) ≤ 20 * σ.2)) (fun σ => (n2 - σ.2).toNat) ([], 0) ?_ ?_ ?_ ?_
        · cbv
        · (try dsimp only); (try simp only [rows_cons, rows_nil]); cbv
        · exact ⟨(by (try dsimp only); first | omega | (simp only [List.length_nil]; omega) | (simp only [List.length_cons, List.length_nil]; omega)), (by (try dsimp only); first | omega | (simp only [List.length_nil]; omega) | (simp only [List.length_cons, List.length_nil]; omega)), (by (try dsimp only) <;> (rfl)), (by (try dsimp only) <;> (rfl)), (by (try dsimp only) <;> (simp))⟩
        rintro ⟨out, i1⟩ ⟨lo1, hi1, q, ok, ll⟩ E hE F hF
        dsimp only at lo1 hi1 q ok ll
        conv => cbv
        refine r_lss m.sX (fun h3 => ?_) (fun h3 => ?_) <;> conv => cbv
        · refine r_index m.sX (by omega) (by omega) fun s_ hs_ => ?_
          conv => cbv
          have ms_ := get_mem hs_
          have ds_ := drop_cons hs_
          have ks_ := take_snoc hs_
          have js_ : (i1 + 1).toNat = Int.toNat i1 + 1 := by omega
          refine r_addf m.sX (by omega) (by omega) fun r2 hr2 => ?_
          conv => cbv
          refine r_index m.sX (by omega) (by omega) fun x2 hx2 => ?_
          conv => cbv
          have mx2 := get_mem hx2
          obtain rfl : y2 = x2 := Option.some.inj (hy2.symm.trans (by rw [show i + 1 = r2 by omega]; exact hx2))
          refine r_index m.sX (by omega) (by omega) fun x3 hx3 => ?_
          conv => cbv
          have mx3 := get_mem hx3
          have dx3 := drop_cons hx3
          have kx3 := take_snoc hx3
          have jx3 : (i1 + 1).toNat = Int.toNat i1 + 1 := by omega
          refine r_callF (lb 44 4 cMark) m.sX (specMarksBetween_ok s_ x3) fun v hmarks => ?_
          obtain ⟨marks, ok⟩ := v
          conv => cbv
          rcases Bool.eq_false_or_eq_true ok with rfl | rfl <;> conv => cbv
          · obtain ⟨me, mo, ml⟩ := bet_ok hmarks
            refine r_lenR m.sX fun n3 hn3 mn3 => ?_
            conv => cbv
            refine r_loopF (α := List Mark × Int) m 71 [0, 1, 7, 27, 28, 29, 50, 51] [⟨6, 49, 44, 4, 0⟩, ⟨49, 393, 44, 4, 0⟩] (fun σ => [(0, .isl 1 (rows (cSl 1 cStr) l)), (1, .int .i64 i), (6, .osl 49 0), (7, .int .i64 i1), (27, .isl 1 (rows cStr x1)), (28, .int .i64 n2), (29, .int .i64 i1), (49, .osl 393 0), (50, .int .i64 n3), (51, .int .i64 σ.2)]) (fun σ => [(49, 0, .row 44 4 (rows cMark σ.1)), (393, 0, .row 44 4 (rows cMark marks))])
              (fun σ => (0 ≤ σ.2) ∧ (σ.2 ≤ n3) ∧ (σ.1 = out ++ (marks.take σ.2.toNat).map (setL i1)) ∧ ((σ.1.length : Int) ≤ out.length + σ.2)) (fun σ => (n3 - σ.2).toNat) (out, 0) ?_ ?_ ?_ ?_
            · cbv
            · cbv
            · exact ⟨(by (try dsimp only); first | omega | (simp only [List.length_nil]; omega) | (simp only [List.length_cons, List.length_nil]; omega)), (by (try dsimp only); first | omega | (simp only [List.length_nil]; omega) | (simp only [List.length_cons, List.length_nil]; omega)), (by (try dsimp only) <;> (exact (List.append_nil _).symm)), (by (try dsimp only) <;> (omega))⟩
            rintro ⟨out_2, i2⟩ ⟨lo2, hi2, q2, ll2⟩ E2 hE2 F2 hF2
            dsimp only at lo2 hi2 q2 ll2
            conv => cbv
            refine r_lss m.sX (fun h4 => ?_) (fun h4 => ?_) <;> conv => cbv
            · refine r_oindex m.sX (by omega) (by omega) ?_
              conv => cbv
              obtain ⟨⟨m_A, m_B, m_C, m_D⟩, hm_⟩ := get_ex (xs := marks) (i := Int.toNat i2) (by omega)
              have mm_ := get_mem hm_
              have dm_ := drop_cons hm_
              have km_ := take_snoc hm_
              have jm_ : (i2 + 1).toNat = Int.toNat i2 + 1 := by omega
              refine r_oload m.sX hm_ (Nat.le_of_ble_eq_true rfl) ?_
              conv => cbv
              refine r_append1 ((i1, m_B, m_C, m_D)) m.sX rfl (by first | omega | (dsimp only; omega)) (by first | omega | (dsimp only; omega)) fun out_3 hout_3 => ?_
              conv => cbv
              have lout_3 : (out_3.length : Int) = out_2.length + 1 := by rw [hout_3]; first | done | (simp; done) | (simp; omega)
              refine r_addf m.sX (by omega) (by omega) fun r3 hr3 => ?_
              conv => cbv
              try have tr3 : Int.toNat r3 = Int.toNat i2 + 1 := by omega
              refine hE2 _ (out_3, r3) ?_ ?_ ⟨(by (try dsimp only); first | omega | (simp only [List.length_nil]; omega) | (simp only [List.length_cons, List.length_nil]; omega)), (by (try dsimp only); first | omega | (simp only [List.length_nil]; omega) | (simp only [List.length_cons, List.length_nil]; omega)), (by (try dsimp only) <;> (rw [hout_3, q2, tr3, km_, List.map_append, List.append_assoc]; rfl)), (by (try dsimp only) <;> (omega))⟩ (by first | omega | (dsimp only; omega))
              · cbv
              · cbv
            · have dz_i2 := drop_end (xs := marks) (i := Int.toNat i2) (by omega)
              have tz_i2 := take_end (xs := marks) (i := Int.toNat i2) (by omega)
              refine hF2 _ _ ?_
              conv => cbv
              refine r_addf m.sX (by omega) (by omega) fun r4 hr4 => ?_
              conv => cbv
              try have tr4 : Int.toNat r4 = Int.toNat i1 + 1 := by omega
              refine hE _ (out_2, r4) ?_ ?_ ⟨(by (try dsimp only); first | omega | (simp only [List.length_nil]; omega) | (simp only [List.length_cons, List.length_nil]; omega)), (by (try dsimp only); first | omega | (simp only [List.length_nil]; omega) | (simp only [List.length_cons, List.length_nil]; omega)), (by (try dsimp only) <;> (rw [q2, tz_i2, q, tr4, nextM_step, atL_some hs_, atL_some hx3, ← me, show ((i1.toNat : Nat) : Int) = i1 by omega])), (by (try dsimp only) <;> (rw [tr4, nextOk_step, ok, atL_some hs_, atL_some hx3, mo]; rfl)), (by (try dsimp only) <;> (omega))⟩ (by first | omega | (dsimp only; omega))
              · cbv
              · cbv
          · refine hF _ _ ?_
            conv => cbv
            exact hQ (.tup [.nil, .bool false]) (Eq.trans (by first | rfl | (simp only [lb, lbI, rows_cons, rows_nil, unnilT, unnil, unnilTI, unnilI]; done) | (simp only [lb, lbI, rows_cons, rows_nil, unnilT, unnil, unnilTI, unnilI]; rfl)) (congrArg ((lb 44 4 cMark)) (show ([], false) = toNextA l i from by exact (toNext_bad hx1 hy2 hs_ hx3 hmarks).symm)))   -- leaf 2
        · have dz_i1 := drop_end (xs := x1) (i := Int.toNat i1) (by omega)
          have tz_i1 := take_end (xs := x1) (i := Int.toNat i1) (by omega)
          refine hF _ _ ?_
          conv => cbv
          refine r_index m.sX (by omega) (by omega) fun x4 hx4 => ?_
          conv => cbv
          have mx4 := get_mem hx4
          obtain rfl : x1 = x4 := Option.some.inj (hx1.symm.trans hx4)
          refine .inl (r_callBO m.sX ((pfMarks_ok x1 out (by first | rfl | assumption | omega | (simp only [List.length_append, List.length_cons, List.length_nil] at *; omega)) (by first | rfl | assumption | omega | (simp only [List.length_append, List.length_cons, List.length_nil] at *; omega))).ok flat_bool) (fun h5 => ?_) (fun h5 => ?_)) <;> conv => cbv
          · exact hQ (.tup [.fr 44 4 (rows cMark out), .bool true]) (Eq.trans (by first | rfl | (simp only [lb, lbI, rows_cons, rows_nil, unnilT, unnil, unnilTI, unnilI]; done) | (simp only [lb, lbI, rows_cons, rows_nil, unnilT, unnil, unnilTI, unnilI]; rfl)) (congrArg ((lb 44 4 cMark)) (show (out, true) = toNextA l i from by rw [toNext_yes h1 h2' hx1 hy2 q ok (by omega) h5]; rfl)))   -- leaf 3
          · exact hQ (.tup [.nil, .bool false]) (Eq.trans (by first | rfl | (simp only [lb, lbI, rows_cons, rows_nil, unnilT, unnil, unnilTI, unnilI]; done) | (simp only [lb, lbI, rows_cons, rows_nil, unnilT, unnil, unnilTI, unnilI]; rfl)) (congrArg ((lb 44 4 cMark)) (show ([], false) = toNextA l i from by rw [toNext_yes h1 h2' hx1 hy2 q ok (by omega) h5]; rfl)))   -- leaf 4
    · exact hQ (.tup [.nil, .bool false]) (Eq.trans (by first | rfl | (simp only [lb, lbI, rows_cons, rows_nil, unnilT, unnil, unnilTI, unnilI]; done) | (simp only [lb, lbI, rows_cons, rows_nil, unnilT, unnil, unnilTI, unnilI]; rfl)) (congrArg ((lb 44 4 cMark)) (show ([], false) = toNextA l i from by exact (toNext_no (.inl h1)).symm))))   -- leaf 5


/- Contracts of the functions on states: changes, settled lines. -/
def chBetA (l : List (List Tx)) (i k : Int) : List Int × Bool := if hasB l i = true ∧ hasB l k = true then (chgF (stAt l i) (stAt l k) (stAt l i).length, true) else ([], false)
theorem chBet_no {l : List (List Tx)} {i k : Int} (h : hasB l i = false ∨ hasB l k = false) : chBetA l i k = ([], false) := if_neg fun e => by
  rcases h with h | h
  · rw [h] at e; cases e.1
  · rw [h] at e; cases e.2
def lineOf (l : List (List Tx)) (i n : Nat) : Option Tx := ((l[i]?).getD [])[n]?
theorem lineOf_some {l : List (List Tx)} {i n : Nat} {p : List Tx} {s : Tx} (h : l[i]? = some p) (hs : p[n]? = some s) : lineOf l i n = some s := by rw [lineOf, h]; exact hs
def chLn (l : List (List Tx)) (n m : Nat) : List Int := ((List.range m).filter fun (i : Nat) => decide (1 ≤ i) && decide (lineOf l i n ≠ lineOf l (i - 1) n)).map fun (i : Nat) => (i : Int)
theorem chLn_yes {l : List (List Tx)} {n m : Nat} (h1 : 1 ≤ m) (h : lineOf l m n ≠ lineOf l (m - 1) n) : chLn l n (m + 1) = chLn l n m ++ [(m : Int)] := by
  unfold chLn
  rw [List.range_succ, List.filter_append, List.map_append, List.filter_cons, if_pos (by rw [decide_eq_true h1, decide_eq_true h]; rfl)]
  rfl
theorem chLn_no {l : List (List Tx)} {n m : Nat} (h : lineOf l m n = lineOf l (m - 1) n) : chLn l n (m + 1) = chLn l n m := by
  unfold chLn
  rw [List.range_succ, List.filter_append, List.map_append, List.filter_cons, if_neg (by rw [decide_eq_false (p := lineOf l m n ≠ lineOf l (m - 1) n) (fun e => e h), Bool.and_false]; exact Bool.false_ne_true)]
  exact List.append_nil _
theorem chLn_one (l : List (List Tx)) (n : Nat) : chLn l n 1 = [] := rfl
def chLineA (l : List (List Tx)) (line : Int) : List Int × Bool := if statesB l = true ∧ (0 ≤ line ∧ line < headLen l) then (chLn l line.toNat l.length, true) else ([], false)
theorem chLine_st {l : List (List Tx)} {line : Int} (h : statesB l = false) : chLineA l line = ([], false) := if_neg fun e => by rw [h] at e; cases e.1
theorem chLine_no {l : List (List Tx)} {line : Int} (h : ¬ (0 ≤ line ∧ line < headLen l)) : chLineA l line = ([], false) := if_neg fun e => h e.2
def setL2 (l : List (List Tx)) (n : Nat) : List Int := ((List.range n).filter fun (k : Nat) => decide (chLn l k l.length = [])).map fun (k : Nat) => (k : Int)
theorem setL2_yes {l : List (List Tx)} {n : Nat} (h : chLn l n l.length = []) : setL2 l (n + 1) = setL2 l n ++ [(n : Int)] := by
  unfold setL2
  rw [List.range_succ, List.filter_append, List.map_append, List.filter_cons, if_pos (decide_eq_true h)]
  rfl
theorem setL2_no {l : List (List Tx)} {n : Nat} (h : chLn l n l.length ≠ []) : setL2 l (n + 1) = setL2 l n := by
  unfold setL2
  rw [List.range_succ, List.filter_append, List.map_append, List.filter_cons, if_neg (by simpa using h)]
  exact List.append_nil _
theorem setL2_mem {l : List (List Tx)} {n k : Nat} (hk : k < n) : (k : Int) ∈ setL2 l n ↔ chLn l k l.length = [] := by
  unfold setL2
  constructor
  · intro h
    obtain ⟨j, hj, e⟩ := List.mem_map.1 h
    obtain rfl : j = k := by omega
    exact of_decide_eq_true (List.mem_filter.1 hj).2
  · intro h
    exact List.mem_map.2 ⟨k, List.mem_filter.2 ⟨List.mem_range.2 hk, decide_eq_true h⟩, rfl⟩
def settA (l : List (List Tx)) : List Int × Bool := if statesB l = true then (setL2 l (headLen l).toNat, true) else ([], false)
theorem set_no {l : List (List Tx)} (h : statesB l = false) : settA l = ([], false) := if_neg (by rw [h]; exact Bool.false_ne_true)
/-- A line is settled when it is the first state's in all. -/
theorem settled_iff {l : List (List Tx)} {n : Nat} {p : List Tx} {s : Tx} (h0 : l[0]? = some p) (hs : p[n]? = some s) : (l.all fun q => decide (q[n]? = some s)) = true ↔ chLn l n l.length = [] := by
  have e0 := lineOf_some h0 hs
  constructor
  · intro h
    unfold chLn
    rw [List.map_eq_nil_iff, List.filter_eq_nil_iff]
    intro i hi
    have hi := List.mem_range.1 hi
    have at_ : ∀ j, j < l.length → lineOf l j n = some s := fun j hj => by
      have e : l[j]? = some l[j] := List.getElem?_eq_getElem hj
      have := of_decide_eq_true (List.all_eq_true.1 h l[j] (List.getElem_mem hj))
      rw [lineOf, e]; exact this
    rw [at_ i hi, at_ (i - 1) (by omega)]
    simp
  · intro h
    have step : ∀ j, j < l.length → lineOf l j n = some s := fun j => by
      induction j with
      | zero => intro _; exact e0
      | succ j ih =>
        intro hj
        have h2 := ih (by omega)
        unfold chLn at h
        rw [List.map_eq_nil_iff, List.filter_eq_nil_iff] at h
        have h3 := h (j + 1) (List.mem_range.2 hj)
        rw [decide_eq_true (show 1 ≤ j + 1 by omega), Bool.true_and] at h3
        have h4 : lineOf l (j + 1) n = lineOf l j n := by
          by_cases h5 : lineOf l (j + 1) n = lineOf l j n
          · exact h5
          · exact absurd (decide_eq_true h5) h3
        rw [h4]; exact h2
    rw [List.all_eq_true]
    intro q hq
    obtain ⟨j, hj, rfl⟩ := List.mem_iff_getElem.1 hq
    have := step j hj
    rw [lineOf, List.getElem?_eq_getElem hj] at this
    exact decide_eq_true this
theorem ChangedBetween_ok (l : List (List (List UInt8))) (i : Int) (k : Int)  : OkA Try.prog 28 [.isl 1 (rows (cSl 1 cStr) l), .int .i64 i, .int .i64 k] (· = (lbI 1 cInt) (chBetA l i k)) :=
  OkA.iceI 1 (fn_intro envOk fieldsOk mixed Try.func28 rfl fun κ X Y L Q m hQ => by
    conv => cbv
    refine r_callB m.sX (isStateOf_ok l i) (fun h1 => ?_) (fun h1 => ?_) <;> conv => cbv
    · obtain ⟨s1, i0, i9⟩ := has_at h1
      obtain ⟨⟨l1, l6⟩, sp⟩ := states_at s1
      refine r_callB m.sX (isStateOf_ok l k) (fun h2 => ?_) (fun h2 => ?_) <;> conv => cbv
      · obtain ⟨-, k0, k9⟩ := has_at h2
        refine r_draw m (by kernel_rfl) ?_
        conv => cbv
        refine r_index m.sY (by omega) (by omega) fun x1 hx1 => ?_
        conv => cbv
        have mx1 := get_mem hx1
        refine r_index m.sY (by omega) (by omega) fun x2 hx2 => ?_
        conv => cbv
        have mx2 := get_mem hx2
        have w1 := (sp x1 mx1).2
        have w2 := (sp x2 mx2).2
        have w3 := pf_len (sp x1 mx1).1
        refine r_callFS (fun l => PV.isl _ (rows _ l)) m.sY ((changedLines_ok x1 x2 (by first | rfl | assumption | omega | (simp only [List.length_append, List.length_cons, List.length_nil] at *; omega)) (by first | rfl | assumption | omega | (simp only [List.length_append, List.length_cons, List.length_nil] at *; omega))).ice) trivial fun v1 hv1 => ?_
        conv => cbv
        exact hQ (.tup [.isl 1 (rows cInt v1), .bool true]) (Eq.trans (by first | rfl | (simp only [lb, lbI, rows_cons, rows_nil, unnilT, unnil, unnilTI, unnilI]; done) | (simp only [lb, lbI, rows_cons, rows_nil, unnilT, unnil, unnilTI, unnilI]; rfl)) (congrArg ((lbI 1 cInt)) (show (v1, true) = chBetA l i k from by rw [chBetA, if_pos ⟨h1, h2⟩, stAt_some hx1, stAt_some hx2, ← hv1])))   -- leaf 1
      · exact hQ (.tup [.fr 3 1 [], .bool false]) (Eq.trans (by first | rfl | (simp only [lb, lbI, rows_cons, rows_nil, unnilT, unnil, unnilTI, unnilI]; done) | (simp only [lb, lbI, rows_cons, rows_nil, unnilT, unnil, unnilTI, unnilI]; rfl)) (congrArg ((lbI 1 cInt)) (show ([], false) = chBetA l i k from by exact (chBet_no (.inr h2)).symm)))   -- leaf 2
    · exact hQ (.tup [.fr 3 1 [], .bool false]) (Eq.trans (by first | rfl | (simp only [lb, lbI, rows_cons, rows_nil, unnilT, unnil, unnilTI, unnilI]; done) | (simp only [lb, lbI, rows_cons, rows_nil, unnilT, unnil, unnilTI, unnilI]; rfl)) (congrArg ((lbI 1 cInt)) (show ([], false) = chBetA l i k from by exact (chBet_no (.inl h1)).symm))))   -- leaf 3

theorem specChangedBetween_ok (l : List (List (List UInt8))) (i : Int) (k : Int)  : OkA Try.prog 29 [.isl 1 (rows (cSl 1 cStr) l), .int .i64 i, .int .i64 k] (· = (lb 3 1 cInt) (chBetA l i k)) :=
  OkA.unnil 3 1 (fn_intro envOk fieldsOk mixed Try.func29 rfl fun κ X Y L Q m hQ => by
    conv => cbv
    refine r_callB m.sX (rvHas_ok l i) (fun h1 => ?_) (fun h1 => ?_) <;> conv => cbv
    · obtain ⟨s1, i0, i9⟩ := has_at h1
      obtain ⟨⟨l1, l6⟩, sp⟩ := states_at s1
      refine r_callB m.sX (rvHas_ok l k) (fun h2 => ?_) (fun h2 => ?_) <;> conv => cbv
      · obtain ⟨-, k0, k9⟩ := has_at h2
        refine r_index m.sX (by omega) (by omega) fun x1 hx1 => ?_
        conv => cbv
        have mx1 := get_mem hx1
        obtain ⟨y2, hy2⟩ := get_ex (xs := l) (i := k.toNat) (by omega)
        have w1 := (sp x1 mx1).2
        have w2 := (sp y2 (get_mem hy2)).2
        have w3 := pf_len (sp x1 mx1).1
        refine r_lenR m.sX fun n1 hn1 mn1 => ?_
        conv => cbv
        refine r_loopF (α := List Int × Int) m 46 [0, 2, 24, 25, 26] [⟨8, 65, 3, 1, 0⟩] (fun σ => [(0, .isl 1 (rows (cSl 1 cStr) l)), (2, .int .i64 k), (8, .osl 65 0), (24, .isl 1 (rows cStr x1)), (25, .int .i64 n1), (26, .int .i64 σ.2)]) (fun σ => [(65, 0, .row 3 1 (rows cInt σ.1))])
          (fun σ => (0 ≤ σ.2) ∧ (σ.2 ≤ n1) ∧ (σ.1 = chgF x1 y2 σ.2.toNat) ∧ ((σ.1.length : Int) ≤ σ.2)) (fun σ => (n1 - σ.2).toNat) ([], 0) ?_ ?_ ?_ ?_
        · cbv
        · (try dsimp only); (try simp only [rows_cons, rows_nil]); cbv
        · exact ⟨(by (try dsimp only); first | omega | (simp only [List.length_nil]; omega) | (simp only [List.length_cons, List.length_nil]; omega)), (by (try dsimp only); first | omega | (simp only [List.length_nil]; omega) | (simp only [List.length_cons, List.length_nil]; omega)), (by (try dsimp only) <;> (rfl)), (by (try dsimp only) <;> first | omega | rfl | (simp [*]; done))⟩
        rintro ⟨out, i1⟩ ⟨lo1, hi1, q, ll⟩ E hE F hF
        dsimp only at lo1 hi1 q ll
        conv => cbv
        refine r_lss m.sX (fun h3 => ?_) (fun h3 => ?_) <;> conv => cbv
        · refine r_index m.sX (by omega) (by omega) fun s_ hs_ => ?_
          conv => cbv
          have ms_ := get_mem hs_
          have ds_ := drop_cons hs_
          have ks_ := take_snoc hs_
          have js_ : (i1 + 1).toNat = Int.toNat i1 + 1 := by omega
          refine r_index m.sX (by omega) (by omega) fun x2 hx2 => ?_
          conv => cbv
          have mx2 := get_mem hx2
          obtain rfl : y2 = x2 := Option.some.inj (hy2.symm.trans hx2)
          refine r_index m.sX (by omega) (by omega) fun x3 hx3 => ?_
          conv => cbv
          have mx3 := get_mem hx3
          have dx3 := drop_cons hx3
          have kx3 := take_snoc hx3
          have jx3 : (i1 + 1).toNat = Int.toNat i1 + 1 := by omega
          refine r_sneq m.sX (fun h4 => ?_) (fun h4 => ?_) <;> conv => cbv
          · refine r_append1 (i1) m.sX rfl (by first | omega | (dsimp only; omega)) (by first | omega | (dsimp only; omega)) fun out_2 hout_2 => ?_
            conv => cbv
            have lout_2 : (out_2.length : Int) = out.length + 1 := by rw [hout_2]; first | done | (simp; done) | (simp; omega)
            refine r_addf m.sX (by omega) (by omega) fun r1 hr1 => ?_
            conv => cbv
            try have tr1 : Int.toNat r1 = Int.toNat i1 + 1 := by omega
            refine hE _ (out_2, r1) ?_ ?_ ⟨(by (try dsimp only); first | omega | (simp only [List.length_nil]; omega) | (simp only [List.length_cons, List.length_nil]; omega)), (by (try dsimp only); first | omega | (simp only [List.length_nil]; omega) | (simp only [List.length_cons, List.length_nil]; omega)), (by (try dsimp only) <;> (first | (rw [hout_2, q, tr1, chgF_step, if_neg (by rw [hx3, hs_]; exact fun e => h4 (Option.some.inj e).symm), show ((i1.toNat : Nat) : Int) = i1 by omega]; done) | (rw [q, tr1, chgF_step, if_pos (by rw [hx3, hs_, h4]), List.append_nil]; done))), (by (try dsimp only) <;> (omega))⟩ (by first | omega | (dsimp only; omega))
            · cbv
            · cbv
          · refine r_addf m.sX (by omega) (by omega) fun r2 hr2 => ?_
            conv => cbv
            try have tr2 : Int.toNat r2 = Int.toNat i1 + 1 := by omega
            refine hE _ (out, r2) ?_ ?_ ⟨(by (try dsimp only); first | omega | (simp only [List.length_nil]; omega) | (simp only [List.length_cons, List.length_nil]; omega)), (by (try dsimp only); first | omega | (simp only [List.length_nil]; omega) | (simp only [List.length_cons, List.length_nil]; omega)), (by (try dsimp only) <;> (first | (rw [hout, q, tr2, chgF_step, if_neg (by rw [hx3, hs_]; exact fun e => h4 (Option.some.inj e).symm), show ((i1.toNat : Nat) : Int) = i1 by omega]; done) | (rw [q, tr2, chgF_step, if_pos (by rw [hx3, hs_, h4]), List.append_nil]; done))), (by (try dsimp only) <;> (omega))⟩ (by first | omega | (dsimp only; omega))
            · cbv
            · cbv
        · have dz_i1 := drop_end (xs := x1) (i := Int.toNat i1) (by omega)
          have tz_i1 := take_end (xs := x1) (i := Int.toNat i1) (by omega)
          refine hF _ _ ?_
          conv => cbv
          exact hQ (.tup [.fr 3 1 (rows cInt out), .bool true]) (Eq.trans (by first | rfl | (simp only [lb, lbI, rows_cons, rows_nil, unnilT, unnil, unnilTI, unnilI]; done) | (simp only [lb, lbI, rows_cons, rows_nil, unnilT, unnil, unnilTI, unnilI]; rfl)) (congrArg ((lb 3 1 cInt)) (show (out, true) = chBetA l i k from by rw [chBetA, if_pos ⟨h1, h2⟩, stAt_some hx1, stAt_some hy2, q, show i1.toNat = x1.length by omega])))   -- leaf 1
      · exact hQ (.tup [.nil, .bool false]) (Eq.trans (by first | rfl | (simp only [lb, lbI, rows_cons, rows_nil, unnilT, unnil, unnilTI, unnilI]; done) | (simp only [lb, lbI, rows_cons, rows_nil, unnilT, unnil, unnilTI, unnilI]; rfl)) (congrArg ((lb 3 1 cInt)) (show ([], false) = chBetA l i k from by exact (chBet_no (.inr h2)).symm)))   -- leaf 2
    · exact hQ (.tup [.nil, .bool false]) (Eq.trans (by first | rfl | (simp only [lb, lbI, rows_cons, rows_nil, unnilT, unnil, unnilTI, unnilI]; done) | (simp only [lb, lbI, rows_cons, rows_nil, unnilT, unnil, unnilTI, unnilI]; rfl)) (congrArg ((lb 3 1 cInt)) (show ([], false) = chBetA l i k from by exact (chBet_no (.inl h1)).symm))))   -- leaf 3

theorem ChangesOfLine_ok (l : List (List (List UInt8))) (line : Int)  : OkA Try.prog 36 [.isl 1 (rows (cSl 1 cStr) l), .int .i64 line] (· = (lb 3 1 cInt) (chLineA l line)) :=
  OkA.unnil 3 1 (fn_intro envOk fieldsOk mixed Try.func36 rfl fun κ X Y L Q m hQ => by
    conv => cbv
    refine r_callB m.sX (AreStates_ok l) (fun h1 => ?_) (fun h1 => ?_) <;> conv => cbv
    · obtain ⟨⟨l1, l6⟩, sp⟩ := states_at h1
      refine r_index m.sX (by omega) (by omega) fun x1 hx1 => ?_
      conv => cbv
      have mx1 := get_mem hx1
      have w1 := (sp x1 mx1).2
      have w3 := pf_len (sp x1 mx1).1
      refine r_lenR m.sX fun n1 hn1 mn1 => ?_
      conv => cbv
      refine r_subf m.sX (by omega) (by omega) fun r1 hr1 => ?_
      conv => cbv
      refine r_callB m.sX (within_ok line 0 r1) (fun h2 => ?_) (fun h2 => ?_) <;> conv => cbv
      · have lb2 := inB_spec h2
        refine r_loopF (α := List Int × Int) m 50 [0, 1, 7] [⟨6, 49, 3, 1, 0⟩] (fun σ => [(0, .isl 1 (rows (cSl 1 cStr) l)), (1, .int .i64 line), (6, .osl 49 0), (7, .int .i64 σ.2)]) (fun σ => [(49, 0, .row 3 1 (rows cInt σ.1))])
          (fun σ => (1 ≤ σ.2 ∧ σ.2 ≤ l.length) ∧ (σ.1 = chLn l line.toNat σ.2.toNat) ∧ ((σ.1.length : Int) ≤ σ.2)) (fun σ => ((l.length : Int) - σ.2).toNat) ([], 1) ?_ ?_ ?_ ?_
        · cbv
        · (try dsimp only); (try simp only [rows_cons, rows_nil]); cbv
        · exact ⟨(by (try dsimp only) <;> (omega)), (by (try dsimp only) <;> (exact (chLn_one _ _).symm)), (by (try dsimp only) <;> (simp))⟩
        rintro ⟨list, i⟩ ⟨ib, q, ll⟩ E hE F hF
        dsimp only at ib q ll
        conv => cbv
        refine r_lenR m.sX fun n2 hn2 mn2 => ?_
        conv => cbv
        refine r_lss m.sX (fun h3 => ?_) (fun h3 => ?_) <;> conv => cbv
        · refine r_draw m (by kernel_rfl) ?_
          conv => cbv
          refine r_index m.sY (by omega) (by omega) fun x2 hx2 => ?_
          conv => cbv
          have mx2 := get_mem hx2
          have w5 := (sp x2 mx2).2
          refine r_index m.sY (by omega) (by omega) fun x3 hx3 => ?_
          conv => cbv
          have mx3 := get_mem hx3
          refine r_subf m.sY (by omega) (by omega) fun r2 hr2 => ?_
          conv => cbv
          refine r_index m.sY (by omega) (by omega) fun x4 hx4 => ?_
          conv => cbv
          have mx4 := get_mem hx4
          have w6 := (sp x4 mx4).2
          refine r_index m.sY (by omega) (by omega) fun x5 hx5 => ?_
          conv => cbv
          have mx5 := get_mem hx5
          refine r_sneq m.sY (fun h4 => ?_) (fun h4 => ?_) <;> conv => cbv
          · refine r_append1 (i) m.sX rfl (by first | omega | (dsimp only; omega)) (by first | omega | (dsimp only; omega)) fun list_2 hlist_2 => ?_
            conv => cbv
            have llist_2 : (list_2.length : Int) = list.length + 1 := by rw [hlist_2]; first | done | (simp; done) | (simp; omega)
            refine r_addf m.sX (by omega) (by omega) fun i_2 hi_2 => ?_
            conv => cbv
            refine hE _ (list_2, i_2) ?_ ?_ ⟨(by (try dsimp only) <;> (omega)), (by (try dsimp only) <;> (first | (rw [hlist_2, q, show Int.toNat i_2 = i.toNat + 1 by omega, chLn_yes (by omega) (by rw [lineOf_some hx2 hx3, show i.toNat - 1 = r2.toNat by omega, lineOf_some hx4 hx5]; exact fun e => h4 (Option.some.inj e)), show ((i.toNat : Nat) : Int) = i by omega]; done) | (rw [q, show Int.toNat i_2 = i.toNat + 1 by omega, chLn_no (by rw [lineOf_some hx2 hx3, show i.toNat - 1 = r2.toNat by omega, lineOf_some hx4 hx5, h4])]; done))), (by (try dsimp only) <;> (omega))⟩ (by first | omega | (dsimp only; omega))
            · cbv
            · cbv
          · refine r_addf m.sX (by omega) (by omega) fun i_3 hi_3 => ?_
            conv => cbv
            refine hE _ (list, i_3) ?_ ?_ ⟨(by (try dsimp only) <;> (omega)), (by (try dsimp only) <;> (first | (rw [hlist, q, show Int.toNat i_3 = i.toNat + 1 by omega, chLn_yes (by omega) (by rw [lineOf_some hx2 hx3, show i.toNat - 1 = r2.toNat by omega, lineOf_some hx4 hx5]; exact fun e => h4 (Option.some.inj e)), show ((i.toNat : Nat) : Int) = i by omega]; done) | (rw [q, show Int.toNat i_3 = i.toNat + 1 by omega, chLn_no (by rw [lineOf_some hx2 hx3, show i.toNat - 1 = r2.toNat by omega, lineOf_some hx4 hx5, h4])]; done))), (by (try dsimp only) <;> (omega))⟩ (by first | omega | (dsimp only; omega))
            · cbv
            · cbv
        · refine hF _ _ ?_
          conv => cbv
          exact hQ (.tup [.fr 3 1 (rows cInt list), .bool true]) (Eq.trans (by first | rfl | (simp only [lb, lbI, rows_cons, rows_nil, unnilT, unnil, unnilTI, unnilI]; done) | (simp only [lb, lbI, rows_cons, rows_nil, unnilT, unnil, unnilTI, unnilI]; rfl)) (congrArg ((lb 3 1 cInt)) (show (list, true) = chLineA l line from by rw [chLineA, if_pos ⟨h1, by omega, by omega⟩, q, show i.toNat = l.length by omega])))   -- leaf 1
      · exact hQ (.tup [.fr 3 1 [], .bool false]) (Eq.trans (by first | rfl | (simp only [lb, lbI, rows_cons, rows_nil, unnilT, unnil, unnilTI, unnilI]; done) | (simp only [lb, lbI, rows_cons, rows_nil, unnilT, unnil, unnilTI, unnilI]; rfl)) (congrArg ((lb 3 1 cInt)) (show ([], false) = chLineA l line from by exact (chLine_no (fun e => by rw [inB, decide_eq_true e.1, decide_eq_true (show line ≤ r1 by omega)] at h2; cases h2)).symm)))   -- leaf 2
    · exact hQ (.tup [.fr 3 1 [], .bool false]) (Eq.trans (by first | rfl | (simp only [lb, lbI, rows_cons, rows_nil, unnilT, unnil, unnilTI, unnilI]; done) | (simp only [lb, lbI, rows_cons, rows_nil, unnilT, unnil, unnilTI, unnilI]; rfl)) (congrArg ((lb 3 1 cInt)) (show ([], false) = chLineA l line from by exact (chLine_st h1).symm))))   -- leaf 3

theorem specChangesOfLine_ok (l : List (List (List UInt8))) (line : Int)  : OkA Try.prog 37 [.isl 1 (rows (cSl 1 cStr) l), .int .i64 line] (· = (lb 3 1 cInt) (chLineA l line)) :=
  OkA.unnil 3 1 (fn_intro envOk fieldsOk mixed Try.func37 rfl fun κ X Y L Q m hQ => by
    conv => cbv
    refine r_callB m.sX (rvGood_ok l) (fun h1 => ?_) (fun h1 => ?_) <;> conv => cbv
    · obtain ⟨⟨l1, l6⟩, sp⟩ := states_at h1
      refine r_index m.sX (by omega) (by omega) fun x1 hx1 => ?_
      conv => cbv
      have mx1 := get_mem hx1
      have w1 := (sp x1 mx1).2
      have w3 := pf_len (sp x1 mx1).1
      refine r_lenR m.sX fun n1 hn1 mn1 => ?_
      conv => cbv
      refine r_subf m.sX (by omega) (by omega) fun r1 hr1 => ?_
      conv => cbv
      refine r_callB m.sX (l1In_ok line 0 r1) (fun h2 => ?_) (fun h2 => ?_) <;> conv => cbv
      · have lb2 := inB_spec h2
        refine r_loopF (α := List Int × Int) m 48 [0, 1, 7] [⟨6, 49, 3, 1, 0⟩] (fun σ => [(0, .isl 1 (rows (cSl 1 cStr) l)), (1, .int .i64 line), (6, .osl 49 0), (7, .int .i64 σ.2)]) (fun σ => [(49, 0, .row 3 1 (rows cInt σ.1))])
          (fun σ => (1 ≤ σ.2 ∧ σ.2 ≤ l.length) ∧ (σ.1 = chLn l line.toNat σ.2.toNat) ∧ ((σ.1.length : Int) ≤ σ.2)) (fun σ => ((l.length : Int) - σ.2).toNat) ([], 1) ?_ ?_ ?_ ?_
        · cbv
        · (try dsimp only); (try simp only [rows_cons, rows_nil]); cbv
        · exact ⟨(by (try dsimp only) <;> (omega)), (by (try dsimp only) <;> (exact (chLn_one _ _).symm)), (by (try dsimp only) <;> (simp))⟩
        rintro ⟨out, i⟩ ⟨ib, q, ll⟩ E hE F hF
        dsimp only at ib q ll
        conv => cbv
        refine r_lenR m.sX fun n2 hn2 mn2 => ?_
        conv => cbv
        refine r_lss m.sX (fun h3 => ?_) (fun h3 => ?_) <;> conv => cbv
        · refine r_draw m (by kernel_rfl) ?_
          conv => cbv
          refine r_index m.sY (by omega) (by omega) fun x2 hx2 => ?_
          conv => cbv
          have mx2 := get_mem hx2
          have w5 := (sp x2 mx2).2
          refine r_index m.sY (by omega) (by omega) fun x3 hx3 => ?_
          conv => cbv
          have mx3 := get_mem hx3
          refine r_subf m.sY (by omega) (by omega) fun r2 hr2 => ?_
          conv => cbv
          refine r_index m.sY (by omega) (by omega) fun x4 hx4 => ?_
          conv => cbv
          have mx4 := get_mem hx4
          have w6 := (sp x4 mx4).2
          refine r_index m.sY (by omega) (by omega) fun x5 hx5 => ?_
          conv => cbv
          have mx5 := get_mem hx5
          refine r_sneq m.sY (fun h4 => ?_) (fun h4 => ?_) <;> conv => cbv
          · refine r_append1 (i) m.sX rfl (by first | omega | (dsimp only; omega)) (by first | omega | (dsimp only; omega)) fun out_2 hout_2 => ?_
            conv => cbv
            have lout_2 : (out_2.length : Int) = out.length + 1 := by rw [hout_2]; first | done | (simp; done) | (simp; omega)
            refine r_addf m.sX (by omega) (by omega) fun i_2 hi_2 => ?_
            conv => cbv
            refine hE _ (out_2, i_2) ?_ ?_ ⟨(by (try dsimp only) <;> (omega)), (by (try dsimp only) <;> (first | (rw [hout_2, q, show Int.toNat i_2 = i.toNat + 1 by omega, chLn_yes (by omega) (by rw [lineOf_some hx2 hx3, show i.toNat - 1 = r2.toNat by omega, lineOf_some hx4 hx5]; exact fun e => h4 (Option.some.inj e)), show ((i.toNat : Nat) : Int) = i by omega]; done) | (rw [q, show Int.toNat i_2 = i.toNat + 1 by omega, chLn_no (by rw [lineOf_some hx2 hx3, show i.toNat - 1 = r2.toNat by omega, lineOf_some hx4 hx5, h4])]; done))), (by (try dsimp only) <;> (omega))⟩ (by first | omega | (dsimp only; omega))
            · cbv
            · cbv
          · refine r_addf m.sX (by omega) (by omega) fun i_3 hi_3 => ?_
            conv => cbv
            refine hE _ (out, i_3) ?_ ?_ ⟨(by (try dsimp only) <;> (omega)), (by (try dsimp only) <;> (first | (rw [hout, q, show Int.toNat i_3 = i.toNat + 1 by omega, chLn_yes (by omega) (by rw [lineOf_some hx2 hx3, show i.toNat - 1 = r2.toNat by omega, lineOf_some hx4 hx5]; exact fun e => h4 (Option.some.inj e)), show ((i.toNat : Nat) : Int) = i by omega]; done) | (rw [q, show Int.toNat i_3 = i.toNat + 1 by omega, chLn_no (by rw [lineOf_some hx2 hx3, show i.toNat - 1 = r2.toNat by omega, lineOf_some hx4 hx5, h4])]; done))), (by (try dsimp only) <;> (omega))⟩ (by first | omega | (dsimp only; omega))
            · cbv
            · cbv
        · refine hF _ _ ?_
          conv => cbv
          exact hQ (.tup [.fr 3 1 (rows cInt out), .bool true]) (Eq.trans (by first | rfl | (simp only [lb, lbI, rows_cons, rows_nil, unnilT, unnil, unnilTI, unnilI]; done) | (simp only [lb, lbI, rows_cons, rows_nil, unnilT, unnil, unnilTI, unnilI]; rfl)) (congrArg ((lb 3 1 cInt)) (show (out, true) = chLineA l line from by rw [chLineA, if_pos ⟨h1, by omega, by omega⟩, q, show i.toNat = l.length by omega])))   -- leaf 1
      · exact hQ (.tup [.nil, .bool false]) (Eq.trans (by first | rfl | (simp only [lb, lbI, rows_cons, rows_nil, unnilT, unnil, unnilTI, unnilI]; done) | (simp only [lb, lbI, rows_cons, rows_nil, unnilT, unnil, unnilTI, unnilI]; rfl)) (congrArg ((lb 3 1 cInt)) (show ([], false) = chLineA l line from by exact (chLine_no (fun e => by rw [inB, decide_eq_true e.1, decide_eq_true (show line ≤ r1 by omega)] at h2; cases h2)).symm)))   -- leaf 2
    · exact hQ (.tup [.nil, .bool false]) (Eq.trans (by first | rfl | (simp only [lb, lbI, rows_cons, rows_nil, unnilT, unnil, unnilTI, unnilI]; done) | (simp only [lb, lbI, rows_cons, rows_nil, unnilT, unnil, unnilTI, unnilI]; rfl)) (congrArg ((lb 3 1 cInt)) (show ([], false) = chLineA l line from by exact (chLine_st h1).symm))))   -- leaf 3

theorem SettledLines_ok (l : List (List (List UInt8)))  : OkA Try.prog 33 [.isl 1 (rows (cSl 1 cStr) l)] (· = (lb 3 1 cInt) (settA l)) :=
  OkA.unnil 3 1 (fn_intro envOk fieldsOk mixed Try.func33 rfl fun κ X Y L Q m hQ => by
    conv => cbv
    refine r_callB m.sX (AreStates_ok l) (fun h1 => ?_) (fun h1 => ?_) <;> conv => cbv
    · obtain ⟨⟨l1, l6⟩, sp⟩ := states_at h1
      refine r_index m.sX (by omega) (by omega) fun x1 hx1 => ?_
      conv => cbv
      have mx1 := get_mem hx1
      have w1 := (sp x1 mx1).2
      have w3 := pf_len (sp x1 mx1).1
      refine r_lenR m.sX fun n1 hn1 mn1 => ?_
      conv => cbv
      refine r_loopF (α := List Int × Int) m 35 [0, 16, 17] [⟨4, 33, 3, 1, 0⟩] (fun σ => [(0, .isl 1 (rows (cSl 1 cStr) l)), (4, .osl 33 0), (16, .int .i64 n1), (17, .int .i64 σ.2)]) (fun σ => [(33, 0, .row 3 1 (rows cInt σ.1))])
        (fun σ => (0 ≤ σ.2) ∧ (σ.2 ≤ n1) ∧ (σ.1 = setL2 l σ.2.toNat) ∧ ((σ.1.length : Int) ≤ σ.2)) (fun σ => (n1 - σ.2).toNat) ([], 0) ?_ ?_ ?_ ?_
      · cbv
      · (try dsimp only); (try simp only [rows_cons, rows_nil]); cbv
      · exact ⟨(by (try dsimp only); first | omega | (simp only [List.length_nil]; omega) | (simp only [List.length_cons, List.length_nil]; omega)), (by (try dsimp only); first | omega | (simp only [List.length_nil]; omega) | (simp only [List.length_cons, List.length_nil]; omega)), (by (try dsimp only) <;> (rfl)), (by (try dsimp only) <;> first | omega | rfl | (simp [*]; done))⟩
      rintro ⟨list, i1⟩ ⟨lo1, hi1, q, ll⟩ E hE F hF
      dsimp only at lo1 hi1 q ll
      conv => cbv
      refine r_lss m.sX (fun h2 => ?_) (fun h2 => ?_) <;> conv => cbv
      · refine r_callF (lb 3 1 cInt) m.sX (ChangesOfLine_ok l i1) fun v hchanges => ?_
        obtain ⟨changes, v1⟩ := v
        conv => cbv
        have ec : changes = chLn l i1.toNat l.length := by rw [chLineA, if_pos ⟨h1, by omega, by omega⟩] at hchanges; exact (Prod.mk.inj hchanges).1
        refine r_lenR m.sX fun n2 hn2 mn2 => ?_
        conv => cbv
        refine r_eql m.sX (fun h3 => ?_) (fun h3 => ?_) <;> conv => cbv
        · refine r_append1 (i1) m.sX rfl (by first | omega | (dsimp only; omega)) (by first | omega | (dsimp only; omega)) fun list_2 hlist_2 => ?_
          conv => cbv
          have llist_2 : (list_2.length : Int) = list.length + 1 := by rw [hlist_2]; first | done | (simp; done) | (simp; omega)
          refine r_addf m.sX (by omega) (by omega) fun r1 hr1 => ?_
          conv => cbv
          try have tr1 : Int.toNat r1 = Int.toNat i1 + 1 := by omega
          refine hE _ (list_2, r1) ?_ ?_ ⟨(by (try dsimp only); first | omega | (simp only [List.length_nil]; omega) | (simp only [List.length_cons, List.length_nil]; omega)), (by (try dsimp only); first | omega | (simp only [List.length_nil]; omega) | (simp only [List.length_cons, List.length_nil]; omega)), (by (try dsimp only) <;> (first | (rw [hlist_2, q, tr1, setL2_yes (by rw [← ec]; exact List.eq_nil_of_length_eq_zero (by omega)), show ((i1.toNat : Nat) : Int) = i1 by omega]; done) | (rw [q, tr1, setL2_no (by rw [← ec]; intro e; rw [e] at hn2; exact h3 hn2)]; done))), (by (try dsimp only) <;> (omega))⟩ (by first | omega | (dsimp only; omega))
          · cbv
          · cbv
        · refine r_addf m.sX (by omega) (by omega) fun r2 hr2 => ?_
          conv => cbv
          try have tr2 : Int.toNat r2 = Int.toNat i1 + 1 := by omega
          refine hE _ (list, r2) ?_ ?_ ⟨(by (try dsimp only); first | omega | (simp only [List.length_nil]; omega) | (simp only [List.length_cons, List.length_nil]; omega)), (by (try dsimp only); first | omega | (simp only [List.length_nil]; omega) | (simp only [List.length_cons, List.length_nil]; omega)), (by (try dsimp only) <;> (first | (rw [hlist, q, tr2, setL2_yes (by rw [← ec]; exact List.eq_nil_of_length_eq_zero (by omega)), show ((i1.toNat : Nat) : Int) = i1 by omega]; done) | (rw [q, tr2, setL2_no (by rw [← ec]; intro e; rw [e] at hn2; exact h3 hn2)]; done))), (by (try dsimp only) <;> (omega))⟩ (by first | omega | (dsimp only; omega))
          · cbv
          · cbv
      · have dz_i1 := drop_end (xs := x1) (i := Int.toNat i1) (by omega)
        have tz_i1 := take_end (xs := x1) (i := Int.toNat i1) (by omega)
        refine hF _ _ ?_
        conv => cbv
        exact hQ (.tup [.fr 3 1 (rows cInt list), .bool true]) (Eq.trans (by first | rfl | (simp only [lb, lbI, rows_cons, rows_nil, unnilT, unnil, unnilTI, unnilI]; done) | (simp only [lb, lbI, rows_cons, rows_nil, unnilT, unnil, unnilTI, unnilI]; rfl)) (congrArg ((lb 3 1 cInt)) (show (list, true) = settA l from by rw [settA, if_pos h1, q, show i1.toNat = (headLen l).toNat by omega])))   -- leaf 1
    · exact hQ (.tup [.fr 3 1 [], .bool false]) (Eq.trans (by first | rfl | (simp only [lb, lbI, rows_cons, rows_nil, unnilT, unnil, unnilTI, unnilI]; done) | (simp only [lb, lbI, rows_cons, rows_nil, unnilT, unnil, unnilTI, unnilI]; rfl)) (congrArg ((lb 3 1 cInt)) (show ([], false) = settA l from by exact (set_no h1).symm))))   -- leaf 2

theorem specSettledLines_ok (l : List (List (List UInt8)))  : OkA Try.prog 34 [.isl 1 (rows (cSl 1 cStr) l)] (· = (lb 3 1 cInt) (settA l)) :=
  OkA.unnil 3 1 (fn_intro envOk fieldsOk mixed Try.func34 rfl fun κ X Y L Q m hQ => by
    conv => cbv
    refine r_callB m.sX (rvGood_ok l) (fun h1 => ?_) (fun h1 => ?_) <;> conv => cbv
    · obtain ⟨⟨l1, l6⟩, sp⟩ := states_at h1
      refine r_index m.sX (by omega) (by omega) fun x1 hx1 => ?_
      conv => cbv
      have mx1 := get_mem hx1
      have w1 := (sp x1 mx1).2
      have w3 := pf_len (sp x1 mx1).1
      refine r_lenR m.sX fun n1 hn1 mn1 => ?_
      conv => cbv
      refine r_loopF (α := List Int × Int) m 45 [0, 15, 16, 17] [⟨4, 33, 3, 1, 0⟩] (fun σ => [(0, .isl 1 (rows (cSl 1 cStr) l)), (4, .osl 33 0), (15, .isl 1 (rows cStr x1)), (16, .int .i64 n1), (17, .int .i64 σ.2)]) (fun σ => [(33, 0, .row 3 1 (rows cInt σ.1))])
        (fun σ => (0 ≤ σ.2) ∧ (σ.2 ≤ n1) ∧ (σ.1 = setL2 l σ.2.toNat) ∧ ((σ.1.length : Int) ≤ σ.2)) (fun σ => (n1 - σ.2).toNat) ([], 0) ?_ ?_ ?_ ?_
      · cbv
      · (try dsimp only); (try simp only [rows_cons, rows_nil]); cbv
      · exact ⟨(by (try dsimp only); first | omega | (simp only [List.length_nil]; omega) | (simp only [List.length_cons, List.length_nil]; omega)), (by (try dsimp only); first | omega | (simp only [List.length_nil]; omega) | (simp only [List.length_cons, List.length_nil]; omega)), (by (try dsimp only) <;> (rfl)), (by (try dsimp only) <;> first | omega | rfl | (simp [*]; done))⟩
      rintro ⟨out, i1⟩ ⟨lo1, hi1, q, ll⟩ E hE F hF
      dsimp only at lo1 hi1 q ll
      conv => cbv
      refine r_lss m.sX (fun h2 => ?_) (fun h2 => ?_) <;> conv => cbv
      · refine r_index m.sX (by omega) (by omega) fun s_ hs_ => ?_
        conv => cbv
        have ms_ := get_mem hs_
        have ds_ := drop_cons hs_
        have ks_ := take_snoc hs_
        have js_ : (i1 + 1).toNat = Int.toNat i1 + 1 := by omega
        have si := settled_iff (l := l) (n := i1.toNat) hx1 hs_
        refine r_lenR m.sX fun n2 hn2 mn2 => ?_
        conv => cbv
        refine r_loopF (α := Bool × Int) m 45 [0, 5, 6, 7, 15, 16, 17, 22, 23, 24] [⟨4, 33, 3, 1, 0⟩] (fun σ => [(0, .isl 1 (rows (cSl 1 cStr) l)), (4, .osl 33 0), (5, .int .i64 i1), (6, .str s_), (7, .bool σ.1), (15, .isl 1 (rows cStr x1)), (16, .int .i64 n1), (17, .int .i64 i1), (22, .isl 1 (rows (cSl 1 cStr) l)), (23, .int .i64 n2), (24, .int .i64 σ.2)]) (fun σ => [(33, 0, .row 3 1 (rows cInt out))])
          (fun σ => (0 ≤ σ.2) ∧ (σ.2 ≤ n2) ∧ (σ.1 = (l.take σ.2.toNat).all fun z => decide (z[i1.toNat]? = some s_))) (fun σ => (n2 - σ.2).toNat) (true, 0) ?_ ?_ ?_ ?_
        · cbv
        · cbv
        · exact ⟨(by (try dsimp only); first | omega | (simp only [List.length_nil]; omega) | (simp only [List.length_cons, List.length_nil]; omega)), (by (try dsimp only); first | omega | (simp only [List.length_nil]; omega) | (simp only [List.length_cons, List.length_nil]; omega)), (by (try dsimp only) <;> (rfl))⟩
        rintro ⟨same, i2⟩ ⟨lo2, hi2, sm⟩ E2 hE2 F2 hF2
        dsimp only at lo2 hi2 sm
        conv => cbv
        refine r_lss m.sX (fun h3 => ?_) (fun h3 => ?_) <;> conv => cbv
        · refine r_index m.sX (by omega) (by omega) fun state hstate => ?_
          conv => cbv
          have mstate := get_mem hstate
          have dstate := drop_cons hstate
          have kstate := take_snoc hstate
          have jstate : (i2 + 1).toNat = Int.toNat i2 + 1 := by omega
          have w5 := (sp state mstate).2
          rcases Bool.eq_false_or_eq_true same with rfl | rfl <;> conv => cbv
          · refine r_index m.sX (by omega) (by omega) fun x2 hx2 => ?_
            conv => cbv
            have mx2 := get_mem hx2
            have dx2 := drop_cons hx2
            have kx2 := take_snoc hx2
            have jx2 : (i1 + 1).toNat = Int.toNat i1 + 1 := by omega
            refine r_seql m.sX (fun h4 => ?_) (fun h4 => ?_) <;> conv => cbv
            · refine r_addf m.sX (by omega) (by omega) fun r1 hr1 => ?_
              conv => cbv
              try have tr1 : Int.toNat r1 = Int.toNat i2 + 1 := by omega
              refine hE2 _ (true, r1) ?_ ?_ ⟨(by (try dsimp only); first | omega | (simp only [List.length_nil]; omega) | (simp only [List.length_cons, List.length_nil]; omega)), (by (try dsimp only); first | omega | (simp only [List.length_nil]; omega) | (simp only [List.length_cons, List.length_nil]; omega)), (by (try dsimp only) <;> (rw [tr1, kstate, List.all_append, ← sm]; first | (simp [hx2, h4]; done) | (simp; done)))⟩ (by first | omega | (dsimp only; omega))
              · cbv
              · cbv
            · refine r_addf m.sX (by omega) (by omega) fun r2 hr2 => ?_
              conv => cbv
              try have tr2 : Int.toNat r2 = Int.toNat i2 + 1 := by omega
              refine hE2 _ (false, r2) ?_ ?_ ⟨(by (try dsimp only); first | omega | (simp only [List.length_nil]; omega) | (simp only [List.length_cons, List.length_nil]; omega)), (by (try dsimp only); first | omega | (simp only [List.length_nil]; omega) | (simp only [List.length_cons, List.length_nil]; omega)), (by (try dsimp only) <;> (rw [tr2, kstate, List.all_append, ← sm]; first | (simp [hx2, h4]; done) | (simp; done)))⟩ (by first | omega | (dsimp only; omega))
              · cbv
              · cbv
          · refine r_addf m.sX (by omega) (by omega) fun r3 hr3 => ?_
            conv => cbv
            try have tr3 : Int.toNat r3 = Int.toNat i2 + 1 := by omega
            refine hE2 _ (false, r3) ?_ ?_ ⟨(by (try dsimp only); first | omega | (simp only [List.length_nil]; omega) | (simp only [List.length_cons, List.length_nil]; omega)), (by (try dsimp only); first | omega | (simp only [List.length_nil]; omega) | (simp only [List.length_cons, List.length_nil]; omega)), (by (try dsimp only) <;> (rw [tr3, kstate, List.all_append, ← sm]; first | (simp [hx2, h4]; done) | (simp; done)))⟩ (by first | omega | (dsimp only; omega))
            · cbv
            · cbv
        · have dz_i2 := drop_end (xs := l) (i := Int.toNat i2) (by omega)
          have tz_i2 := take_end (xs := l) (i := Int.toNat i2) (by omega)
          refine hF2 _ _ ?_
          conv => cbv
          rcases Bool.eq_false_or_eq_true same with rfl | rfl <;> conv => cbv
          · refine r_append1 (i1) m.sX rfl (by first | omega | (dsimp only; omega)) (by first | omega | (dsimp only; omega)) fun out_2 hout_2 => ?_
            conv => cbv
            have lout_2 : (out_2.length : Int) = out.length + 1 := by rw [hout_2]; first | done | (simp; done) | (simp; omega)
            refine r_addf m.sX (by omega) (by omega) fun r4 hr4 => ?_
            conv => cbv
            try have tr4 : Int.toNat r4 = Int.toNat i1 + 1 := by omega
            refine hE _ (out_2, r4) ?_ ?_ ⟨(by (try dsimp only); first | omega | (simp only [List.length_nil]; omega) | (simp only [List.length_cons, List.length_nil]; omega)), (by (try dsimp only); first | omega | (simp only [List.length_nil]; omega) | (simp only [List.length_cons, List.length_nil]; omega)), (by (try dsimp only) <;> (first | (rw [hout_2, q, tr4, setL2_yes (si.1 (by rw [tz_i2] at sm; exact sm.symm)), show ((i1.toNat : Nat) : Int) = i1 by omega]; done) | (rw [q, tr4, setL2_no (fun e => by rw [tz_i2] at sm; rw [si.2 e] at sm; cases sm)]; done))), (by (try dsimp only) <;> (omega))⟩ (by first | omega | (dsimp only; omega))
            · cbv
            · cbv
          · refine r_addf m.sX (by omega) (by omega) fun r5 hr5 => ?_
            conv => cbv
            try have tr5 : Int.toNat r5 = Int.toNat i1 + 1 := by omega
            refine hE _ (out, r5) ?_ ?_ ⟨(by (try dsimp only); first | omega | (simp only [List.length_nil]; omega) | (simp only [List.length_cons, List.length_nil]; omega)), (by (try dsimp only); first | omega | (simp only [List.length_nil]; omega) | (simp only [List.length_cons, List.length_nil]; omega)), (by (try dsimp only) <;> (first | (rw [hout, q, tr5, setL2_yes (si.1 (by rw [tz_i2] at sm; exact sm.symm)), show ((i1.toNat : Nat) : Int) = i1 by omega]; done) | (rw [q, tr5, setL2_no (fun e => by rw [tz_i2] at sm; rw [si.2 e] at sm; cases sm)]; done))), (by (try dsimp only) <;> (omega))⟩ (by first | omega | (dsimp only; omega))
            · cbv
            · cbv
      · have dz_i1 := drop_end (xs := x1) (i := Int.toNat i1) (by omega)
        have tz_i1 := take_end (xs := x1) (i := Int.toNat i1) (by omega)
        refine hF _ _ ?_
        conv => cbv
        exact hQ (.tup [.fr 3 1 (rows cInt out), .bool true]) (Eq.trans (by first | rfl | (simp only [lb, lbI, rows_cons, rows_nil, unnilT, unnil, unnilTI, unnilI]; done) | (simp only [lb, lbI, rows_cons, rows_nil, unnilT, unnil, unnilTI, unnilI]; rfl)) (congrArg ((lb 3 1 cInt)) (show (out, true) = settA l from by rw [settA, if_pos h1, q, show i1.toNat = (headLen l).toNat by omega])))   -- leaf 1
    · exact hQ (.tup [.nil, .bool false]) (Eq.trans (by first | rfl | (simp only [lb, lbI, rows_cons, rows_nil, unnilT, unnil, unnilTI, unnilI]; done) | (simp only [lb, lbI, rows_cons, rows_nil, unnilT, unnil, unnilTI, unnilI]; rfl)) (congrArg ((lb 3 1 cInt)) (show ([], false) = settA l from by exact (set_no h1).symm))))   -- leaf 2


end Go.Proofs.Ytngefbdedbbplaa.Ai
