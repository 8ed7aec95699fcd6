/- Contracts of the reference's functions on marks. -/
import Derived.Test.YtngefbdedbbplaaMark3
import Derived.Test.YtngefbdedbbplaaMarkEnd
import Derived.Test.YtngefbdedbbplaaThaw
namespace Go.Proofs.Ytngefbdedbbplaa.Ai
open Go Go.Proofs
set_option linter.unusedSimpArgs false
set_option maxRecDepth 10000
set_option maxHeartbeats 1000000
set_option linter.unusedVariables false
theorem pfGoodL_ok (a : Tx) : OkA Try.prog 47 [.isl 1 [[.str a]]] (· = .bool (proofB [a])) := by
  have h := pfGood_ok [a]
  simp only [rows_cons, rows_nil] at h
  exact h
theorem one_len {a : Tx} (h : lineB a = true) : ∀ s ∈ [a], s.length ≤ 1000000 := fun s hs => by
  rw [List.mem_singleton.1 hs]
  have := line_len h
  omega
theorem pfMarksL_ok (a : Tx) (marks : List Mark) (ha : lineB a = true) : OkA Try.prog 48 [.isl 1 [[.str a]], .isl 4 (rows cMark marks)] (· = .bool (marksB [a] marks)) := by
  have h := pfMarks_ok [a] marks (by simp) (one_len ha)
  simp only [rows_cons, rows_nil] at h
  exact h
theorem good_one {a : Tx} {b : Bool} (h : proofB [a] = b) : lineB a = b := by
  rw [← h, proofB, List.all_cons]
  cases lineB a <;> rfl
def liveN : List Mark → Int → List Int
  | [], _ => []
  | m :: r, k => if isLiveF (m :: r) = true then k :: liveN r (k + 1) else liveN r (k + 1)
theorem liveN_drop {M : List Mark} {i : Nat} {m : Mark} (h : M[i]? = some m) (k : Int) : liveN (M.drop i) k = if isLiveF (M.drop i) = true then k :: liveN (M.drop (i + 1)) (k + 1) else liveN (M.drop (i + 1)) (k + 1) := by
  have hi := (List.getElem?_eq_some_iff.1 h).1
  rw [List.drop_eq_getElem_cons hi, liveN]
theorem liveN_len : ∀ (M : List Mark) (k : Int), (liveN M k).length ≤ M.length
  | [], _ => Nat.le_refl _
  | m :: r, k => by
    have := liveN_len r (k + 1)
    rw [liveN]; split <;> simp <;> omega
theorem liveN_mem : ∀ {M : List Mark} {k x : Int}, x ∈ liveN M k → k ≤ x ∧ x < k + M.length
  | [], _, _, h => by cases h
  | m :: r, k, x, h => by
    rw [liveN] at h
    rw [List.length_cons]
    split at h
    · rcases List.mem_cons.1 h with rfl | h
      · omega
      · have := liveN_mem h; omega
    · have := liveN_mem h; omega
def nthI (M : List Mark) (i : Int) : Mark := nthM M i.toNat
theorem nthI_some {M : List Mark} {i : Int} {m : Mark} (h : M[i.toNat]? = some m) : nthI M i = m := nthM_some h
theorem liveN_map_go (M : List Mark) : ∀ (r : List Mark) (k : Nat), M.drop k = r → (liveN r k).map (nthI M) = liveL r
  | [], _, _ => rfl
  | m :: r, k, h => by
    have hm : M[k]? = some m := by
      have := congrArg (fun l => l[0]?) h
      simpa using this
    have hr : M.drop (k + 1) = r := by rw [← List.tail_drop, h]; rfl
    have ih := liveN_map_go M r (k + 1) hr
    rw [liveN, liveL]
    split
    · rw [List.map_cons, nthI_some (i := (k : Int)) (by simpa using hm)]
      exact congrArg _ ih
    · exact ih
theorem liveN_map (M : List Mark) : (liveN M 0).map (nthI M) = liveL M := liveN_map_go M M 0 rfl
theorem ins_take {o : List Mark} {k : Nat} {m x : Mark} (hx : o[k]? = some x) (hb : befM m x = true) : insF m (o.take (k + 1)) ++ o.drop (k + 1) = insF m (o.take k) ++ o.drop k := by
  have hi := (List.getElem?_eq_some_iff.1 hx).1
  rw [List.take_add_one, hx, Option.toList_some, ins_back hb, List.append_assoc, List.drop_eq_getElem_cons hi, (List.getElem?_eq_some_iff.1 hx).2]; rfl
theorem ins_at {o : List Mark} {k : Nat} {m x : Mark} (hx : o[k]? = some x) (hb : befM m x = false) : insF m (o.take (k + 1)) = o.take (k + 1) ++ [m] := by
  rw [List.take_add_one, hx, Option.toList_some, ins_stay hb]
theorem sort_snoc (l : List Mark) (m : Mark) : sortF (l ++ [m]) = insF m (sortF l) := by
  unfold sortF; rw [List.foldl_append]; rfl
theorem put_in {out zs1 zs2 zs3 zs4 out2 : List Mark} {k : Nat} {m : Mark} (h1 : zs1 = (out.take k).drop 0) (h2 : zs2 = zs1) (h3 : zs3 = zs2 ++ [m]) (h4 : zs4 = out.drop k) (h5 : out2 = zs3 ++ zs4) (hq : insF m out = insF m (out.take k) ++ out.drop k) (hi : insF m (out.take k) = out.take k ++ [m]) : out2 = insF m out := by
  rw [h5, h3, h2, h1, h4, hq, hi, List.drop_zero]
theorem cnt_nil (n : Nat) : cntF [] n = List.replicate n 0 := by
  refine List.ext_getElem? fun i => ?_
  by_cases hi : i < n
  · rw [cnt_at hi, List.getElem?_replicate, if_pos hi]; rfl
  · rw [List.getElem?_eq_none (by rw [cnt_len]; omega), List.getElem?_eq_none (by simp; omega)]
theorem cnt_bd {M : List Mark} {n : Nat} {z : Int} (h : z ∈ cntF M n) : 0 ≤ z ∧ z ≤ M.length := by
  unfold cntF at h
  obtain ⟨i, -, rfl⟩ := List.mem_map.1 h
  have := List.length_filter_le (fun m : Mark => decide (m.1 = (i : Int))) M
  omega
section
variable {κ : Ctx} {X Y : Req → (PV → Prop) → Prop} {L : Code → (Ex → St → Prop) → St → Prop} {Q : PV → Prop}
theorem specMarksBetween_part1 (m : Mach Try.prog G κ X Y L) (a : List UInt8) (b : List UInt8)  (hQ : (∀ r, unnilT 44 4 r = (lb 44 4 cMark) (betA a b) → Q r)) (E0 : St → Prop)
    (hE0 : ∀ (s' : St) (σ : Int), headOk s' [] = true → Ai.norm [0, 1, 6] [] s' = St.at 148 [(0, .str a), (1, .str b), (6, .int .i64 σ)] [] → ((lineB a = true ∧ lineB b = true) ∧ (firstF a b = σ.toNat) ∧ (((0 ≤ σ ∧ σ ≤ a.length) ∧ σ ≤ b.length) ∧ a.length ≤ 40 ∧ b.length ≤ 40)) → E0 s') :
    Ai.code X L G (front 4 (Try.f7.body.getD .skip)) (fun e s' => match e with | .normal => E0 s' | .exit i => EndsIn (post G Try.f7.results.toList Q) (.exit i) s' | .ret => EndsIn (post G Try.f7.results.toList Q) .ret s') (start 148 [.str a, .str b] []) := by
  conv => cbv
  refine .inl (r_callBO m.sX ((pfGoodL_ok a).ok flat_bool) (fun h1 => ?_) (fun h1 => ?_)) <;> conv => cbv
  · have la := good_one h1
    have qa := line_len la
    refine .inl (r_callBO m.sX ((pfGoodL_ok b).ok flat_bool) (fun h2 => ?_) (fun h2 => ?_)) <;> conv => cbv
    · have lb2 := good_one h2
      have qb := line_len lb2
      refine r_loopF (α := Int) m 148 [0, 1, 6] [] (fun σ => [(0, .str a), (1, .str b), (6, .int .i64 σ)]) (fun σ => [])
        (fun σ => (0 ≤ σ) ∧ (σ ≤ (a.length : Int)) ∧ (pre a b = σ.toNat + pre (a.drop σ.toNat) (b.drop σ.toNat)) ∧ (σ ≤ a.length ∧ σ ≤ b.length)) (fun σ => ((a.length : Int) - σ).toNat) 0 ?_ ?_ ?_ ?_
      · cbv
      · cbv
      · exact ⟨(by (try dsimp only); first | omega | (simp only [List.length_nil]; omega) | (simp only [List.length_cons, List.length_nil]; omega)), (by (try dsimp only); first | omega | (simp only [List.length_nil]; omega) | (simp only [List.length_cons, List.length_nil]; omega)), (by (try dsimp only) <;> (exact (Nat.zero_add _).symm)), (by (try dsimp only) <;> (omega))⟩
      rintro from_ ⟨lo1, hi1, q, fb⟩ E hE F hF
      conv => cbv
      refine r_draw m (by kernel_rfl) ?_
      conv => cbv
      refine r_slenS (u := a) m.sY (by omega) fun n1 hn1 => ?_   -- n1 = length of a
      conv => cbv
      refine r_lss m.sY (fun h3 => ?_) (fun h3 => ?_) <;> conv => cbv
      · refine r_slenS (u := b) m.sY (by omega) fun n2 hn2 => ?_   -- n2 = length of b
        conv => cbv
        refine r_lss m.sY (fun h4 => ?_) (fun h4 => ?_) <;> conv => cbv
        · refine r_sidx (u := a) (i := from_) m.sY (by omega) (by first | omega | (simp only [List.length_cons, List.length_nil]; omega) | (simp; omega)) fun x1 hx1 c1 hc1 bc1 => ?_   -- x1 = a[from_]
          have dx1 := drop_cons hx1
          have kx1 := take_snoc hx1
          have jx1 : (from_ + 1).toNat = Int.toNat from_ + 1 := by omega
          conv => cbv
          refine r_sidx (u := b) (i := from_) m.sY (by omega) (by first | omega | (simp only [List.length_cons, List.length_nil]; omega) | (simp; omega)) fun x2 hx2 c2 hc2 bc2 => ?_   -- x2 = b[from_]
          have dx2 := drop_cons hx2
          have kx2 := take_snoc hx2
          have jx2 : (from_ + 1).toNat = Int.toNat from_ + 1 := by omega
          conv => cbv
          refine r_eql m.sY (fun h5 => ?_) (fun h5 => ?_) <;> conv => cbv
          · have uq := c8_eq hc1 hc2 h5
            refine r_addf m.sX (by omega) (by omega) fun from__2 hfrom__2 => ?_
            conv => cbv
            try have tfrom__2 : Int.toNat from__2 = Int.toNat from_ + 1 := by omega
            refine hE _ from__2 ?_ ?_ ⟨(by (try dsimp only); first | omega | (simp only [List.length_nil]; omega) | (simp only [List.length_cons, List.length_nil]; omega)), (by (try dsimp only); first | omega | (simp only [List.length_nil]; omega) | (simp only [List.length_cons, List.length_nil]; omega)), (by (try dsimp only) <;> (rw [q, pre_go hx1 hx2 uq, tfrom__2]; omega)), (by (try dsimp only) <;> (omega))⟩ (by first | omega | (dsimp only; omega))
            · cbv
            · cbv
          · have un := c8_ne hc1 hc2 h5
            have fe : firstF a b = from_.toNat := by first | rw [firstF, q, pre_endA (by omega), Nat.add_zero] | rw [firstF, q, pre_endB (by omega), Nat.add_zero] | rw [firstF, q, pre_stop hx1 hx2 un, Nat.add_zero]
            refine hF _ _ ?_
            conv => cbv
            exact hE0 _ from_ (by cbv) (by cbv) ⟨(by (try dsimp only) <;> (exact ⟨la, lb2⟩)), (by (try dsimp only) <;> (first | assumption | omega | (simp [*]; done))), (by (try dsimp only) <;> (first | assumption | omega | (simp [*]; done)))⟩
        · have fe : firstF a b = from_.toNat := by first | rw [firstF, q, pre_endA (by omega), Nat.add_zero] | rw [firstF, q, pre_endB (by omega), Nat.add_zero] | rw [firstF, q, pre_stop hx1 hx2 un, Nat.add_zero]
          refine hF _ _ ?_
          conv => cbv
          exact hE0 _ from_ (by cbv) (by cbv) ⟨(by (try dsimp only) <;> (exact ⟨la, lb2⟩)), (by (try dsimp only) <;> (first | assumption | omega | (simp [*]; done))), (by (try dsimp only) <;> (first | assumption | omega | (simp [*]; done)))⟩
      · have fe : firstF a b = from_.toNat := by first | rw [firstF, q, pre_endA (by omega), Nat.add_zero] | rw [firstF, q, pre_endB (by omega), Nat.add_zero] | rw [firstF, q, pre_stop hx1 hx2 un, Nat.add_zero]
        refine hF _ _ ?_
        conv => cbv
        exact hE0 _ from_ (by cbv) (by cbv) ⟨(by (try dsimp only) <;> (exact ⟨la, lb2⟩)), (by (try dsimp only) <;> (first | assumption | omega | (simp [*]; done))), (by (try dsimp only) <;> (first | assumption | omega | (simp [*]; done)))⟩
    · exact hQ (.tup [.nil, .bool false]) (Eq.trans (by first | rfl | (simp only [lb, lbI, rows_cons, rows_nil, unnilT, unnil, unnilTI, unnilI]; done) | (simp only [lb, lbI, rows_cons, rows_nil, unnilT, unnil, unnilTI, unnilI]; rfl)) (congrArg ((lb 44 4 cMark)) (show ([], false) = betA a b from by rw [betA, if_neg (fun h => by rw [good_one h2] at h; cases h.2)])))   -- leaf 1
  · exact hQ (.tup [.nil, .bool false]) (Eq.trans (by first | rfl | (simp only [lb, lbI, rows_cons, rows_nil, unnilT, unnil, unnilTI, unnilI]; done) | (simp only [lb, lbI, rows_cons, rows_nil, unnilT, unnil, unnilTI, unnilI]; rfl)) (congrArg ((lb 44 4 cMark)) (show ([], false) = betA a b from by rw [betA, if_neg (fun h => by rw [good_one h1] at h; cases h.1)])))   -- leaf 2

theorem specMarksBetween_part2 (m : Mach Try.prog G κ X Y L) (a : List UInt8) (b : List UInt8)  (hQ : (∀ r, unnilT 44 4 r = (lb 44 4 cMark) (betA a b) → Q r)) (from_ : Int) (lab : lineB a = true ∧ lineB b = true) (fe : firstF a b = from_.toNat) (fb : ((0 ≤ from_ ∧ from_ ≤ a.length) ∧ from_ ≤ b.length) ∧ a.length ≤ 40 ∧ b.length ≤ 40) (E0 : St → Prop)
    (hE0 : ∀ (s' : St) (σ : Int × List UInt8 × List UInt8 × List Mark), headOk s' [⟨10, 81, 44, 4, 0⟩] = true → Ai.norm [0, 6, 8, 9] [⟨10, 81, 44, 4, 0⟩] s' = St.at 148 [(0, .str a), (6, .int .i64 σ.1), (8, .str σ.2.1), (9, .str σ.2.2.1), (10, .osl 81 0)] [(81, 0, .row 44 4 (rows cMark σ.2.2.2))] → ((lineB a = true ∧ lineB b = true) ∧ (firstF a b = σ.1.toNat) ∧ ((0 ≤ σ.1 ∧ σ.1 ≤ 40)) ∧ (σ.2.1 = midF a (firstF a b) (lastF a b)) ∧ (σ.2.2.1 = midF b (firstF a b) (lastF a b)) ∧ (σ.2.2.2 = []) ∧ (σ.2.1.length ≤ 40 ∧ σ.2.2.1.length ≤ 40)) → E0 s') :
    Ai.code X L G (front 4 (rest 4 (Try.f7.body.getD .skip))) (fun e s' => match e with | .normal => E0 s' | .exit i => EndsIn (post G Try.f7.results.toList Q) (.exit i) s' | .ret => EndsIn (post G Try.f7.results.toList Q) .ret s') (St.at 148 [(0, .str a), (1, .str b), (6, .int .i64 from_)] []) := by
  conv => cbv
  refine r_loopF (α := Int) m 148 [0, 1, 6, 7] [] (fun σ => [(0, .str a), (1, .str b), (6, .int .i64 from_), (7, .int .i64 σ)]) (fun σ => [])
    (fun σ => (pre (revD a from_.toNat) (revD b from_.toNat) = σ.toNat + pre ((revD a from_.toNat).drop σ.toNat) ((revD b from_.toNat).drop σ.toNat)) ∧ ((0 ≤ σ ∧ σ ≤ a.length - from_) ∧ σ ≤ b.length - from_)) (fun σ => ((a.length : Int) - σ).toNat) 0 ?_ ?_ ?_ ?_
  · cbv
  · cbv
  · exact ⟨(by (try dsimp only) <;> (exact (Nat.zero_add _).symm)), (by (try dsimp only) <;> (omega))⟩
  rintro end_ ⟨q2, lq⟩ E hE F hF
  conv => cbv
  refine r_draw m (by kernel_rfl) ?_
  conv => cbv
  refine r_slenS (u := a) m.sY (by omega) fun n1 hn1 => ?_   -- n1 = length of a
  conv => cbv
  refine r_subf m.sY (by omega) (by omega) fun r1 hr1 => ?_
  conv => cbv
  refine r_lss m.sY (fun h1 => ?_) (fun h1 => ?_) <;> conv => cbv
  · refine r_slenS (u := b) m.sY (by omega) fun n2 hn2 => ?_   -- n2 = length of b
    conv => cbv
    refine r_subf m.sY (by omega) (by omega) fun r2 hr2 => ?_
    conv => cbv
    refine r_lss m.sY (fun h2 => ?_) (fun h2 => ?_) <;> conv => cbv
    · refine r_slenS (u := a) m.sY (by omega) fun n3 hn3 => ?_   -- n3 = length of a
      conv => cbv
      refine r_subf m.sY (by omega) (by omega) fun r3 hr3 => ?_
      conv => cbv
      refine r_subf m.sY (by omega) (by omega) fun r4 hr4 => ?_
      conv => cbv
      refine r_sidx (u := a) (i := r4) m.sY (by omega) (by first | omega | (simp only [List.length_cons, List.length_nil]; omega) | (simp; omega)) fun x1 hx1 c1 hc1 bc1 => ?_   -- x1 = a[r4]
      have dx1 := drop_cons hx1
      have kx1 := take_snoc hx1
      have jx1 : (r4 + 1).toNat = Int.toNat r4 + 1 := by omega
      conv => cbv
      refine r_slenS (u := b) m.sY (by omega) fun n4 hn4 => ?_   -- n4 = length of b
      conv => cbv
      refine r_subf m.sY (by omega) (by omega) fun r5 hr5 => ?_
      conv => cbv
      refine r_subf m.sY (by omega) (by omega) fun r6 hr6 => ?_
      conv => cbv
      refine r_sidx (u := b) (i := r6) m.sY (by omega) (by first | omega | (simp only [List.length_cons, List.length_nil]; omega) | (simp; omega)) fun x2 hx2 c2 hc2 bc2 => ?_   -- x2 = b[r6]
      have dx2 := drop_cons hx2
      have kx2 := take_snoc hx2
      have jx2 : (r6 + 1).toNat = Int.toNat r6 + 1 := by omega
      conv => cbv
      refine r_eql m.sY (fun h3 => ?_) (fun h3 => ?_) <;> conv => cbv
      · have uq := c8_eq hc1 hc2 h3
        refine r_addf m.sX (by omega) (by omega) fun end__2 hend__2 => ?_
        conv => cbv
        refine hE _ end__2 ?_ ?_ ⟨(by (try dsimp only) <;> (rw [q2, pre_go (revD_get (k := end_.toNat) ‹a[Int.toNat _]? = some _› (by omega) (by omega)) (revD_get (k := end_.toNat) ‹b[Int.toNat _]? = some _› (by omega) (by omega)) uq, show Int.toNat end__2 = end_.toNat + 1 by omega]; omega)), (by (try dsimp only) <;> (omega))⟩ (by first | omega | (dsimp only; omega))
        · cbv
        · cbv
      · have un := c8_ne hc1 hc2 h3
        have le : lastF a b = end_.toNat := by rw [lastF, show pre a b = from_.toNat from fe, q2]; first | rw [pre_endA (by rw [revD_len]; omega), Nat.add_zero] | rw [pre_endB (by rw [revD_len]; omega), Nat.add_zero] | rw [pre_stop (revD_get (k := end_.toNat) ‹a[Int.toNat _]? = some _› (by omega) (by omega)) (revD_get (k := end_.toNat) ‹b[Int.toNat _]? = some _› (by omega) (by omega)) un, Nat.add_zero]
        refine hF _ _ ?_
        conv => cbv
        refine r_draw m (by kernel_rfl) ?_
        conv => cbv
        refine r_slenS (u := a) m.sY (by omega) fun n5 hn5 => ?_   -- n5 = length of a
        conv => cbv
        refine r_subf m.sY (by omega) (by omega) fun r7 hr7 => ?_
        conv => cbv
        refine r_sslice (u := a) (i := from_) (j := r7) m.sY (by omega) (by omega) (by first | omega | (simp only [List.length_cons, List.length_nil]; omega) | (simp; omega)) fun old hold => ?_   -- old = a[from_:r7]
        have eo : old = midF a (firstF a b) (lastF a b) := by rw [hold, midF, fe, le]; exact congrArg (fun z => List.drop _ (List.take z a)) (by omega)
        have lold : (old.length : Int) = r7 - from_ := by rw [hold]; first | done | (simp; done) | (simp; omega)
        conv => cbv
        refine r_slenS (u := b) m.sY (by omega) fun n6 hn6 => ?_   -- n6 = length of b
        conv => cbv
        refine r_subf m.sY (by omega) (by omega) fun r8 hr8 => ?_
        conv => cbv
        refine r_sslice (u := b) (i := from_) (j := r8) m.sY (by omega) (by omega) (by first | omega | (simp only [List.length_cons, List.length_nil]; omega) | (simp; omega)) fun now hnow => ?_   -- now = b[from_:r8]
        have en : now = midF b (firstF a b) (lastF a b) := by rw [hnow, midF, fe, le]; exact congrArg (fun z => List.drop _ (List.take z b)) (by omega)
        have lnow : (now.length : Int) = r8 - from_ := by rw [hnow]; first | done | (simp; done) | (simp; omega)
        conv => cbv
        exact hE0 _ (from_, old, now, []) (by cbv) (by (try dsimp only); (try simp only [rows_cons, rows_nil]); cbv) ⟨(by (try dsimp only) <;> (first | assumption | omega | (simp [*]; done))), (by (try dsimp only) <;> (first | assumption | omega | (simp [*]; done))), (by (try dsimp only) <;> (first | assumption | omega | (simp [*]; done))), (by (try dsimp only) <;> (first | assumption | omega | (simp [*]; done))), (by (try dsimp only) <;> (first | assumption | omega | (simp [*]; done))), (by (try dsimp only) <;> (first | assumption | omega | (simp [*]; done))), (by (try dsimp only) <;> (first | assumption | omega | (simp [*]; done)))⟩
    · have le : lastF a b = end_.toNat := by rw [lastF, show pre a b = from_.toNat from fe, q2]; first | rw [pre_endA (by rw [revD_len]; omega), Nat.add_zero] | rw [pre_endB (by rw [revD_len]; omega), Nat.add_zero] | rw [pre_stop (revD_get (k := end_.toNat) ‹a[Int.toNat _]? = some _› (by omega) (by omega)) (revD_get (k := end_.toNat) ‹b[Int.toNat _]? = some _› (by omega) (by omega)) un, Nat.add_zero]
      refine hF _ _ ?_
      conv => cbv
      refine r_draw m (by kernel_rfl) ?_
      conv => cbv
      refine r_slenS (u := a) m.sY (by omega) fun n7 hn7 => ?_   -- n7 = length of a
      conv => cbv
      refine r_subf m.sY (by omega) (by omega) fun r9 hr9 => ?_
      conv => cbv
      refine r_sslice (u := a) (i := from_) (j := r9) m.sY (by omega) (by omega) (by first | omega | (simp only [List.length_cons, List.length_nil]; omega) | (simp; omega)) fun old_2 hold_2 => ?_   -- old_2 = a[from_:r9]
      have eo : old_2 = midF a (firstF a b) (lastF a b) := by rw [hold_2, midF, fe, le]; exact congrArg (fun z => List.drop _ (List.take z a)) (by omega)
      have lold_2 : (old_2.length : Int) = r9 - from_ := by rw [hold_2]; first | done | (simp; done) | (simp; omega)
      conv => cbv
      refine r_slenS (u := b) m.sY (by omega) fun n8 hn8 => ?_   -- n8 = length of b
      conv => cbv
      refine r_subf m.sY (by omega) (by omega) fun r10 hr10 => ?_
      conv => cbv
      refine r_sslice (u := b) (i := from_) (j := r10) m.sY (by omega) (by omega) (by first | omega | (simp only [List.length_cons, List.length_nil]; omega) | (simp; omega)) fun now_2 hnow_2 => ?_   -- now_2 = b[from_:r10]
      have en : now_2 = midF b (firstF a b) (lastF a b) := by rw [hnow_2, midF, fe, le]; exact congrArg (fun z => List.drop _ (List.take z b)) (by omega)
      have lnow_2 : (now_2.length : Int) = r10 - from_ := by rw [hnow_2]; first | done | (simp; done) | (simp; omega)
      conv => cbv
      exact hE0 _ (from_, old_2, now_2, []) (by cbv) (by (try dsimp only); (try simp only [rows_cons, rows_nil]); cbv) ⟨(by (try dsimp only) <;> (first | assumption | omega | (simp [*]; done))), (by (try dsimp only) <;> (first | assumption | omega | (simp [*]; done))), (by (try dsimp only) <;> (first | assumption | omega | (simp [*]; done))), (by (try dsimp only) <;> (first | assumption | omega | (simp [*]; done))), (by (try dsimp only) <;> (first | assumption | omega | (simp [*]; done))), (by (try dsimp only) <;> (first | assumption | omega | (simp [*]; done))), (by (try dsimp only) <;> (first | assumption | omega | (simp [*]; done)))⟩
  · have le : lastF a b = end_.toNat := by rw [lastF, show pre a b = from_.toNat from fe, q2]; first | rw [pre_endA (by rw [revD_len]; omega), Nat.add_zero] | rw [pre_endB (by rw [revD_len]; omega), Nat.add_zero] | rw [pre_stop (revD_get (k := end_.toNat) ‹a[Int.toNat _]? = some _› (by omega) (by omega)) (revD_get (k := end_.toNat) ‹b[Int.toNat _]? = some _› (by omega) (by omega)) un, Nat.add_zero]
    refine hF _ _ ?_
    conv => cbv
    refine r_draw m (by kernel_rfl) ?_
    conv => cbv
    refine r_slenS (u := a) m.sY (by omega) fun n9 hn9 => ?_   -- n9 = length of a
    conv => cbv
    refine r_subf m.sY (by omega) (by omega) fun r11 hr11 => ?_
    conv => cbv
    refine r_sslice (u := a) (i := from_) (j := r11) m.sY (by omega) (by omega) (by first | omega | (simp only [List.length_cons, List.length_nil]; omega) | (simp; omega)) fun old_3 hold_3 => ?_   -- old_3 = a[from_:r11]
    have eo : old_3 = midF a (firstF a b) (lastF a b) := by rw [hold_3, midF, fe, le]; exact congrArg (fun z => List.drop _ (List.take z a)) (by omega)
    have lold_3 : (old_3.length : Int) = r11 - from_ := by rw [hold_3]; first | done | (simp; done) | (simp; omega)
    conv => cbv
    refine r_slenS (u := b) m.sY (by omega) fun n10 hn10 => ?_   -- n10 = length of b
    conv => cbv
    refine r_subf m.sY (by omega) (by omega) fun r12 hr12 => ?_
    conv => cbv
    refine r_sslice (u := b) (i := from_) (j := r12) m.sY (by omega) (by omega) (by first | omega | (simp only [List.length_cons, List.length_nil]; omega) | (simp; omega)) fun now_3 hnow_3 => ?_   -- now_3 = b[from_:r12]
    have en : now_3 = midF b (firstF a b) (lastF a b) := by rw [hnow_3, midF, fe, le]; exact congrArg (fun z => List.drop _ (List.take z b)) (by omega)
    have lnow_3 : (now_3.length : Int) = r12 - from_ := by rw [hnow_3]; first | done | (simp; done) | (simp; omega)
    conv => cbv
    exact hE0 _ (from_, old_3, now_3, []) (by cbv) (by (try dsimp only); (try simp only [rows_cons, rows_nil]); cbv) ⟨(by (try dsimp only) <;> (first | assumption | omega | (simp [*]; done))), (by (try dsimp only) <;> (first | assumption | omega | (simp [*]; done))), (by (try dsimp only) <;> (first | assumption | omega | (simp [*]; done))), (by (try dsimp only) <;> (first | assumption | omega | (simp [*]; done))), (by (try dsimp only) <;> (first | assumption | omega | (simp [*]; done))), (by (try dsimp only) <;> (first | assumption | omega | (simp [*]; done))), (by (try dsimp only) <;> (first | assumption | omega | (simp [*]; done)))⟩

theorem specMarksBetween_part3 (m : Mach Try.prog G κ X Y L) (a : List UInt8) (b : List UInt8)  (hQ : (∀ r, unnilT 44 4 r = (lb 44 4 cMark) (betA a b) → Q r)) (from_ : Int) (old : List UInt8) (now : List UInt8) (out : List Mark) (lab : lineB a = true ∧ lineB b = true) (fe : firstF a b = from_.toNat) (fb : (0 ≤ from_ ∧ from_ ≤ 40)) (eo : old = midF a (firstF a b) (lastF a b)) (en : now = midF b (firstF a b) (lastF a b)) (mn : out = []) (lo : old.length ≤ 40 ∧ now.length ≤ 40) :
    Ai.code X L G (rest 4 (rest 4 (Try.f7.body.getD .skip))) (EndsIn (post G Try.f7.results.toList Q)) (St.at 148 [(0, .str a), (6, .int .i64 from_), (8, .str old), (9, .str now), (10, .osl 81 0)] [(81, 0, .row 44 4 (rows cMark out))]) := by
  conv => cbv
  refine r_loopF (α := List Mark × Nat) m 148 [0, 6, 8, 9] [⟨10, 81, 44, 4, 0⟩, ⟨91, 729, 0, 0, 0⟩] (fun σ => [(0, .str a), (6, .int .i64 from_), (8, .str old), (9, .str now), (10, .osl 81 0), (91, .optr 729 0 0 0 0)]) (fun σ => [(81, 0, .row 44 4 (rows cMark σ.1)), (729, 0, .iter old σ.2)])
    (fun σ => (σ.2 ≤ old.length) ∧ (betF a b = σ.1 ++ diffF (from_ + ((σ.2 : Nat) : Int)) (old.drop σ.2) (now.drop σ.2)) ∧ ((σ.1.length : Int) ≤ (σ.2 : Int))) (fun σ => old.length - σ.2) (out, 0) ?_ ?_ ?_ ?_
  · cbv
  · cbv
  · exact ⟨(by (try dsimp only); first | omega | (simp only [List.length_nil]; omega) | (simp only [List.length_cons, List.length_nil]; omega)), (by (try dsimp only) <;> (rw [mn, List.nil_append, betF, ← eo, ← en, fe]; exact congrArg (fun z => diffF z old now) (by omega))), (by (try dsimp only) <;> (rw [mn]; simp))⟩
  rintro ⟨out_2, p1⟩ ⟨lp3, q3, lm⟩ E hE F hF
  dsimp only at lp3 q3 lm
  conv => cbv
  refine r_snext (u := old) (p := p1) m.sX (fun hp1 => ?_) (fun x1 hx1 => ⟨by exact low_mid lab.1 (eo ▸ hx1), fun i1 c1 hi1 hc1 => ?_⟩) <;> conv => cbv
  · have dz_p1 := drop_end (xs := old) (i := p1) (by omega)
    have tz_p1 := take_end (xs := old) (i := p1) (by omega)
    refine hF _ _ ?_
    conv => cbv
    refine r_slen (u := now) m.sX fun n1 hn1 mn1 => ?_   -- n1 = length of now
    conv => cbv
    refine r_slen (u := old) m.sX fun n2 hn2 mn2 => ?_   -- n2 = length of old
    conv => cbv
    refine r_gtr m.sX (fun h1 => ?_) (fun h1 => ?_) <;> conv => cbv
    · refine r_slen (u := old) m.sX fun n3 hn3 mn3 => ?_   -- n3 = length of old
      conv => cbv
      refine r_addf m.sX (by omega) (by omega) fun r1 hr1 => ?_
      conv => cbv
      refine r_slen (u := old) m.sX fun n4 hn4 mn4 => ?_   -- n4 = length of old
      conv => cbv
      refine r_sslice' (u := now) (i := n4) m.sX (by omega) (by first | omega | (simp only [List.length_cons, List.length_nil]; omega) | (simp; omega)) fun s1 hs1 => ?_   -- s1 = now[n4:]
      have ls1 : (s1.length : Int) = now.length - n4 := by rw [hs1]; first | done | (simp; done) | (simp; omega)
      conv => cbv
      refine r_append1 ((0, r1, 2, s1)) m.sX rfl (by first | omega | (dsimp only; omega)) (by first | omega | (dsimp only; omega)) fun out_3 hout_3 => ?_
      conv => cbv
      have lout_3 : (out_3.length : Int) = out_2.length + 1 := by rw [hout_3]; first | done | (simp; done) | (simp; omega)
      refine .inl (r_callBO m.sX ((pfMarksL_ok a out_3 lab.1).ok flat_bool) (fun h2 => ?_) (fun h2 => ?_)) <;> conv => cbv
      · exact hQ (.tup [.fr 44 4 (rows cMark out_3), .bool true]) (Eq.trans (by first | rfl | (simp only [lb, lbI, rows_cons, rows_nil, unnilT, unnil, unnilTI, unnilI]; done) | (simp only [lb, lbI, rows_cons, rows_nil, unnilT, unnil, unnilTI, unnilI]; rfl)) (congrArg ((lb 44 4 cMark)) (show (out_3, true) = betA a b from by have eb := q3.trans (step_ins hout_3 hs1 (by omega) (by omega) (by omega) (by omega)); rw [betA, if_pos lab, eb, if_pos h2])))   -- leaf 3
      · exact hQ (.tup [.nil, .bool false]) (Eq.trans (by first | rfl | (simp only [lb, lbI, rows_cons, rows_nil, unnilT, unnil, unnilTI, unnilI]; done) | (simp only [lb, lbI, rows_cons, rows_nil, unnilT, unnil, unnilTI, unnilI]; rfl)) (congrArg ((lb 44 4 cMark)) (show ([], false) = betA a b from by have eb := q3.trans (step_ins hout_3 hs1 (by omega) (by omega) (by omega) (by omega)); rw [betA, if_pos lab, eb, if_neg (by rw [h2]; exact Bool.false_ne_true)])))   -- leaf 4
    · refine .inl (r_callBO m.sX ((pfMarksL_ok a out_2 lab.1).ok flat_bool) (fun h3 => ?_) (fun h3 => ?_)) <;> conv => cbv
      · exact hQ (.tup [.fr 44 4 (rows cMark out_2), .bool true]) (Eq.trans (by first | rfl | (simp only [lb, lbI, rows_cons, rows_nil, unnilT, unnil, unnilTI, unnilI]; done) | (simp only [lb, lbI, rows_cons, rows_nil, unnilT, unnil, unnilTI, unnilI]; rfl)) (congrArg ((lb 44 4 cMark)) (show (out_2, true) = betA a b from by have eb := q3.trans (step_end (by omega) (by omega)); rw [betA, if_pos lab, eb, if_pos h3])))   -- leaf 5
      · exact hQ (.tup [.nil, .bool false]) (Eq.trans (by first | rfl | (simp only [lb, lbI, rows_cons, rows_nil, unnilT, unnil, unnilTI, unnilI]; done) | (simp only [lb, lbI, rows_cons, rows_nil, unnilT, unnil, unnilTI, unnilI]; rfl)) (congrArg ((lb 44 4 cMark)) (show ([], false) = betA a b from by have eb := q3.trans (step_end (by omega) (by omega)); rw [betA, if_pos lab, eb, if_neg (by rw [h3]; exact Bool.false_ne_true)])))   -- leaf 6
  · have ltx1 := (List.getElem?_eq_some_iff.1 hx1).1
    have ti1 : Int.toNat i1 = p1 := by omega
    have gx1 : old[Int.toNat i1]? = some x1 := by rw [ti1]; exact hx1
    have dx1 := drop_cons hx1
    have kx1 := take_snoc hx1
    have mx1 := get_mem hx1
    have bc1 : 0 ≤ c1 ∧ c1 ≤ 255 := by have := x1.toNat_lt; omega
    have hx1_g := gx1
    refine r_slen (u := now) m.sX fun n5 hn5 mn5 => ?_   -- n5 = length of now
    conv => cbv
    refine r_geq m.sX (fun h4 => ?_) (fun h4 => ?_) <;> conv => cbv
    · refine r_addf m.sX (by omega) (by omega) fun r2 hr2 => ?_
      conv => cbv
      refine r_append1 ((0, r2, 1, [])) m.sX rfl (by first | omega | (dsimp only; omega)) (by first | omega | (dsimp only; omega)) fun out_4 hout_4 => ?_
      conv => cbv
      have lout_4 : (out_4.length : Int) = out_2.length + 1 := by rw [hout_4]; first | done | (simp; done) | (simp; omega)
      refine hE _ (out_4, p1 + 1) ?_ ?_ ⟨(by (try dsimp only); first | omega | (simp only [List.length_nil]; omega) | (simp only [List.length_cons, List.length_nil]; omega)), (by (try dsimp only) <;> (first | exact q3.trans (step_del hout_4 ‹old[p1]? = some _› (by omega) (by omega)) | exact q3.trans (step_rep hout_4 (by assumption) ‹old[p1]? = some _› un (by rw [← ti1]; assumption) (by omega)) | exact q3.trans (step_same ‹old[p1]? = some _› uq (by rw [← ti1]; assumption)))), (by (try dsimp only) <;> (omega))⟩ (by first | omega | (dsimp only; omega))
      · cbv
      · cbv
    · refine r_draw m (by kernel_rfl) ?_
      conv => cbv
      refine r_sidx (u := old) (i := i1) m.sY (by omega) (by first | omega | (simp only [List.length_cons, List.length_nil]; omega) | (simp; omega)) fun x2 hx2 c2 hc2 bc2 => ?_   -- x2 = old[i1]
      obtain rfl := Option.some.inj (hx1_g.symm.trans hx2)
      obtain rfl := hc1.trans hc2.symm
      conv => cbv
      refine r_sidx (u := now) (i := i1) m.sY (by omega) (by first | omega | (simp only [List.length_cons, List.length_nil]; omega) | (simp; omega)) fun x3 hx3 c3 hc3 bc3 => ?_   -- x3 = now[i1]
      have dx3 := drop_cons hx3
      have kx3 := take_snoc hx3
      have jx3 : (i1 + 1).toNat = Int.toNat i1 + 1 := by omega
      conv => cbv
      refine r_neq m.sY (fun h5 => ?_) (fun h5 => ?_) <;> conv => cbv
      · have un := c8_ne hc1 hc3 h5
        refine r_addf m.sX (by omega) (by omega) fun r3 hr3 => ?_
        conv => cbv
        refine r_addf m.sX (by omega) (by omega) fun r4 hr4 => ?_
        conv => cbv
        refine r_sslice (u := now) (i := i1) (j := r4) m.sX (by omega) (by omega) (by first | omega | (simp only [List.length_cons, List.length_nil]; omega) | (simp; omega)) fun s2 hs2 => ?_   -- s2 = now[i1:r4]
        have ls2 : (s2.length : Int) = r4 - i1 := by rw [hs2]; first | done | (simp; done) | (simp; omega)
        try have ws2 := slice_one hx3 (by omega) (by omega) hs2
        conv => cbv
        refine r_append1 ((0, r3, 3, s2)) m.sX rfl (by first | omega | (dsimp only; omega)) (by first | omega | (dsimp only; omega)) fun out_5 hout_5 => ?_
        conv => cbv
        have lout_5 : (out_5.length : Int) = out_2.length + 1 := by rw [hout_5]; first | done | (simp; done) | (simp; omega)
        refine hE _ (out_5, p1 + 1) ?_ ?_ ⟨(by (try dsimp only); first | omega | (simp only [List.length_nil]; omega) | (simp only [List.length_cons, List.length_nil]; omega)), (by (try dsimp only) <;> (first | exact q3.trans (step_del hout_5 ‹old[p1]? = some _› (by omega) (by omega)) | exact q3.trans (step_rep hout_5 (by assumption) ‹old[p1]? = some _› un (by rw [← ti1]; assumption) (by omega)) | exact q3.trans (step_same ‹old[p1]? = some _› uq (by rw [← ti1]; assumption)))), (by (try dsimp only) <;> (omega))⟩ (by first | omega | (dsimp only; omega))
        · cbv
        · cbv
      · have uq := c8_eq hc1 hc3 h5
        refine hE _ (out_2, p1 + 1) ?_ ?_ ⟨(by (try dsimp only); first | omega | (simp only [List.length_nil]; omega) | (simp only [List.length_cons, List.length_nil]; omega)), (by (try dsimp only) <;> (first | exact q3.trans (step_del hout_2 ‹old[p1]? = some _› (by omega) (by omega)) | exact q3.trans (step_rep hout_2 (by assumption) ‹old[p1]? = some _› un (by rw [← ti1]; assumption) (by omega)) | exact q3.trans (step_same ‹old[p1]? = some _› uq (by rw [← ti1]; assumption)))), (by (try dsimp only) <;> (omega))⟩ (by first | omega | (dsimp only; omega))
        · cbv
        · cbv

end
theorem specMarksBetween_ok (a : List UInt8) (b : List UInt8)  : OkA Try.prog 7 [.str a, .str b] (· = (lb 44 4 cMark) (betA a b)) :=
  OkA.unnil 44 4 (fn_introW envOk fieldsOk mixed Try.func7 rfl (c := Try.f7.body.getD .skip) rfl fun κ X Y L Q m hQ =>
    W_cut m 4 148 [0, 1, 6] [] (fun σ : Int => [(0, .str a), (1, .str b), (6, .int .i64 σ)]) (fun σ => []) (fun σ => (lineB a = true ∧ lineB b = true) ∧ (firstF a b = σ.toNat) ∧ (((0 ≤ σ ∧ σ ≤ a.length) ∧ σ ≤ b.length) ∧ a.length ≤ 40 ∧ b.length ≤ 40)) (specMarksBetween_part1 m a b  hQ) fun from_ ⟨lab, fe, fb⟩ =>
    W_cut m 4 148 [0, 6, 8, 9] [⟨10, 81, 44, 4, 0⟩] (fun σ : Int × List UInt8 × List UInt8 × List Mark => [(0, .str a), (6, .int .i64 σ.1), (8, .str σ.2.1), (9, .str σ.2.2.1), (10, .osl 81 0)]) (fun σ => [(81, 0, .row 44 4 (rows cMark σ.2.2.2))]) (fun σ => (lineB a = true ∧ lineB b = true) ∧ (firstF a b = σ.1.toNat) ∧ ((0 ≤ σ.1 ∧ σ.1 ≤ 40)) ∧ (σ.2.1 = midF a (firstF a b) (lastF a b)) ∧ (σ.2.2.1 = midF b (firstF a b) (lastF a b)) ∧ (σ.2.2.2 = []) ∧ (σ.2.1.length ≤ 40 ∧ σ.2.2.1.length ≤ 40)) (specMarksBetween_part2 m a b  hQ from_ lab fe fb) fun ⟨from_, old, now, out⟩ ⟨lab, fe, fb, eo, en, mn, lo⟩ =>
    W_last m (specMarksBetween_part3 m a b  hQ from_ old now out lab fe fb eo en mn lo))

theorem pfLive_ok (marks : List Mark) (hm : marks.length ≤ 1000) : OkA Try.prog 54 [.isl 4 (rows cMark marks)] (· = .fr 3 1 (rows cInt (liveN marks 0))) :=
  OkA.unnil 3 1 (fn_intro envOk fieldsOk mixed Try.func54 rfl fun κ X Y L Q m hQ => by
    conv => cbv
    refine r_lenR m.sX fun n1 hn1 mn1 => ?_
    conv => cbv
    refine r_loopF (α := List Int × Int) m 53 [0, 9, 10, 11] [⟨3, 25, 3, 1, 0⟩] (fun σ => [(0, .isl 4 (rows cMark marks)), (3, .osl 25 0), (9, .isl 4 (rows cMark marks)), (10, .int .i64 n1), (11, .int .i64 σ.2)]) (fun σ => [(25, 0, .row 3 1 (rows cInt σ.1))])
      (fun σ => (0 ≤ σ.2) ∧ (σ.2 ≤ n1) ∧ (liveN marks 0 = σ.1 ++ liveN (marks.drop σ.2.toNat) σ.2) ∧ ((σ.1.length : Int) ≤ σ.2)) (fun σ => (n1 - σ.2).toNat) ([], 0) ?_ ?_ ?_ ?_
    · cbv
    · (try dsimp only); (try simp only [rows_cons, rows_nil]); cbv
    · exact ⟨(by (try dsimp only); first | omega | (simp only [List.length_nil]; omega) | (simp only [List.length_cons, List.length_nil]; omega)), (by (try dsimp only); first | omega | (simp only [List.length_nil]; omega) | (simp only [List.length_cons, List.length_nil]; omega)), (by (try dsimp only) <;> (rfl)), (by (try dsimp only) <;> first | omega | rfl | (simp [*]; done))⟩
    rintro ⟨out, i1⟩ ⟨lo1, hi1, q, ol⟩ E hE F hF
    dsimp only at lo1 hi1 q ol
    conv => cbv
    refine r_lss m.sX (fun h1 => ?_) (fun h1 => ?_) <;> conv => cbv
    · refine r_index m.sX (by omega) (by omega) fun v hm_A => ?_
      obtain ⟨m_A, m_B, m_C, m_D⟩ := v
      conv => cbv
      have hm_ := hm_A
      have mm_ := get_mem hm_
      have dm_ := drop_cons hm_
      have km_ := take_snoc hm_
      have jm_ : (i1 + 1).toNat = Int.toNat i1 + 1 := by omega
      refine r_neq m.sX (fun h2 => ?_) (fun h2 => ?_) <;> conv => cbv
      · refine r_addf m.sX (by omega) (by omega) fun r1 hr1 => ?_
        conv => cbv
        refine r_islice' (i := r1) m.sX (by omega) (by omega) fun zs1 hzs1 => ?_   -- zs1 = marks[r1:None]
        have lzs1 : (zs1.length : Int) = marks.length - r1 := by rw [hzs1]; first | done | (simp; done) | (simp; omega)
        have ez : zs1 = marks.drop (i1.toNat + 1) := by rw [hzs1, show r1.toNat = i1.toNat + 1 by omega]
        conv => cbv
        refine r_lenR m.sX fun n2 hn2 mn2 => ?_
        conv => cbv
        refine r_loopF (α := Bool × Int) m 53 [0, 4, 6, 9, 10, 11, 22, 23, 24] [⟨3, 25, 3, 1, 0⟩, ⟨5, 41, 0, 0, 0⟩] (fun σ => [(0, .isl 4 (rows cMark marks)), (3, .osl 25 0), (4, .int .i64 i1), (5, .optr 41 0 4 0 0), (6, .bool σ.1), (9, .isl 4 (rows cMark marks)), (10, .int .i64 n1), (11, .int .i64 i1), (22, .isl 4 (rows cMark zs1)), (23, .int .i64 n2), (24, .int .i64 σ.2)]) (fun σ => [(25, 0, .row 3 1 (rows cInt out)), (41, 0, .box [.int .i64 m_A, .int .i64 m_B, .int .i64 m_C, .str m_D])])
          (fun σ => (0 ≤ σ.2) ∧ (σ.2 ≤ n2) ∧ (σ.1 = !((zs1.take σ.2.toNat).any (stetB (m_A, m_B, m_C, m_D))))) (fun σ => (n2 - σ.2).toNat) (true, 0) ?_ ?_ ?_ ?_
        · cbv
        · cbv
        · exact ⟨(by (try dsimp only); first | omega | (simp only [List.length_nil]; omega) | (simp only [List.length_cons, List.length_nil]; omega)), (by (try dsimp only); first | omega | (simp only [List.length_nil]; omega) | (simp only [List.length_cons, List.length_nil]; omega)), (by (try dsimp only) <;> (rfl))⟩
        rintro ⟨live, i2⟩ ⟨lo2, hi2, lv⟩ E2 hE2 F2 hF2
        dsimp only at lo2 hi2 lv
        conv => cbv
        refine r_lss m.sX (fun h3 => ?_) (fun h3 => ?_) <;> conv => cbv
        · refine r_index m.sX (by omega) (by omega) fun v hxA => ?_
          obtain ⟨xA, xB, xC, xD⟩ := v
          conv => cbv
          have hx := hxA
          have mx := get_mem hx
          have dx := drop_cons hx
          have kx := take_snoc hx
          have jx : (i2 + 1).toNat = Int.toNat i2 + 1 := by omega
          refine r_eql m.sX (fun h4 => ?_) (fun h4 => ?_) <;> conv => cbv
          · refine r_eql m.sX (fun h5 => ?_) (fun h5 => ?_) <;> conv => cbv
            · refine r_eql m.sX (fun h6 => ?_) (fun h6 => ?_) <;> conv => cbv
              · refine r_addf m.sX (by omega) (by omega) fun r2 hr2 => ?_
                conv => cbv
                try have tr2 : Int.toNat r2 = Int.toNat i2 + 1 := by omega
                refine hE2 _ (false, r2) ?_ ?_ ⟨(by (try dsimp only); first | omega | (simp only [List.length_nil]; omega) | (simp only [List.length_cons, List.length_nil]; omega)), (by (try dsimp only); first | omega | (simp only [List.length_nil]; omega) | (simp only [List.length_cons, List.length_nil]; omega)), (by (try dsimp only) <;> (rw [tr2, kx, List.any_append]; first | (simp [stetB, h4, h5, h6]; done) | (rw [lv]; simp [stetB, h6]; done) | (rw [lv]; simp [stetB, h5]; done) | (rw [lv]; simp [stetB, h4]; done)))⟩ (by first | omega | (dsimp only; omega))
                · cbv
                · cbv
              · refine r_addf m.sX (by omega) (by omega) fun r3 hr3 => ?_
                conv => cbv
                try have tr3 : Int.toNat r3 = Int.toNat i2 + 1 := by omega
                refine hE2 _ (live, r3) ?_ ?_ ⟨(by (try dsimp only); first | omega | (simp only [List.length_nil]; omega) | (simp only [List.length_cons, List.length_nil]; omega)), (by (try dsimp only); first | omega | (simp only [List.length_nil]; omega) | (simp only [List.length_cons, List.length_nil]; omega)), (by (try dsimp only) <;> (rw [tr3, kx, List.any_append]; first | (simp [stetB, h4, h5, h6]; done) | (rw [lv]; simp [stetB, h6]; done) | (rw [lv]; simp [stetB, h5]; done) | (rw [lv]; simp [stetB, h4]; done)))⟩ (by first | omega | (dsimp only; omega))
                · cbv
                · cbv
            · refine r_addf m.sX (by omega) (by omega) fun r4 hr4 => ?_
              conv => cbv
              try have tr4 : Int.toNat r4 = Int.toNat i2 + 1 := by omega
              refine hE2 _ (live, r4) ?_ ?_ ⟨(by (try dsimp only); first | omega | (simp only [List.length_nil]; omega) | (simp only [List.length_cons, List.length_nil]; omega)), (by (try dsimp only); first | omega | (simp only [List.length_nil]; omega) | (simp only [List.length_cons, List.length_nil]; omega)), (by (try dsimp only) <;> (rw [tr4, kx, List.any_append]; first | (simp [stetB, h4, h5, h6]; done) | (rw [lv]; simp [stetB, h6]; done) | (rw [lv]; simp [stetB, h5]; done) | (rw [lv]; simp [stetB, h4]; done)))⟩ (by first | omega | (dsimp only; omega))
              · cbv
              · cbv
          · refine r_addf m.sX (by omega) (by omega) fun r5 hr5 => ?_
            conv => cbv
            try have tr5 : Int.toNat r5 = Int.toNat i2 + 1 := by omega
            refine hE2 _ (live, r5) ?_ ?_ ⟨(by (try dsimp only); first | omega | (simp only [List.length_nil]; omega) | (simp only [List.length_cons, List.length_nil]; omega)), (by (try dsimp only); first | omega | (simp only [List.length_nil]; omega) | (simp only [List.length_cons, List.length_nil]; omega)), (by (try dsimp only) <;> (rw [tr5, kx, List.any_append]; first | (simp [stetB, h4, h5, h6]; done) | (rw [lv]; simp [stetB, h6]; done) | (rw [lv]; simp [stetB, h5]; done) | (rw [lv]; simp [stetB, h4]; done)))⟩ (by first | omega | (dsimp only; omega))
            · cbv
            · cbv
        · have dz_i2 := drop_end (xs := zs1) (i := Int.toNat i2) (by omega)
          have tz_i2 := take_end (xs := zs1) (i := Int.toNat i2) (by omega)
          refine hF2 _ _ ?_
          conv => cbv
          rcases Bool.eq_false_or_eq_true live with rfl | rfl <;> conv => cbv
          · refine r_append1 (i1) m.sX rfl (by first | omega | (dsimp only; omega)) (by first | omega | (dsimp only; omega)) fun out_2 hout_2 => ?_
            conv => cbv
            have lout_2 : (out_2.length : Int) = out.length + 1 := by rw [hout_2]; first | done | (simp; done) | (simp; omega)
            refine r_addf m.sX (by omega) (by omega) fun r6 hr6 => ?_
            conv => cbv
            try have tr6 : Int.toNat r6 = Int.toNat i1 + 1 := by omega
            refine hE _ (out_2, r6) ?_ ?_ ⟨(by (try dsimp only); first | omega | (simp only [List.length_nil]; omega) | (simp only [List.length_cons, List.length_nil]; omega)), (by (try dsimp only); first | omega | (simp only [List.length_nil]; omega) | (simp only [List.length_cons, List.length_nil]; omega)), (by (try dsimp only) <;> (first | (rw [q, liveN_drop hm_, if_pos (by rw [isLive_at hm_, ← ez]; rw [tz_i2] at lv; rw [← lv]; simp [h2]), hout_2, List.append_assoc, tr6, show r6 = i1 + 1 by omega]; rfl) | (rw [q, liveN_drop hm_, if_neg (by rw [isLive_at hm_, ← ez]; rw [tz_i2] at lv; rw [← lv]; simp), tr6, show r6 = i1 + 1 by omega]; done) | (rw [q, liveN_drop hm_, if_neg (by rw [isLive_at hm_]; simp [h2]), tr6, show r6 = i1 + 1 by omega]; done))), (by (try dsimp only) <;> (omega))⟩ (by first | omega | (dsimp only; omega))
            · cbv
            · cbv
          · refine r_addf m.sX (by omega) (by omega) fun r7 hr7 => ?_
            conv => cbv
            try have tr7 : Int.toNat r7 = Int.toNat i1 + 1 := by omega
            refine hE _ (out, r7) ?_ ?_ ⟨(by (try dsimp only); first | omega | (simp only [List.length_nil]; omega) | (simp only [List.length_cons, List.length_nil]; omega)), (by (try dsimp only); first | omega | (simp only [List.length_nil]; omega) | (simp only [List.length_cons, List.length_nil]; omega)), (by (try dsimp only) <;> (first | (rw [q, liveN_drop hm_, if_pos (by rw [isLive_at hm_, ← ez]; rw [tz_i2] at lv; rw [← lv]; simp [h2]), hout, List.append_assoc, tr7, show r7 = i1 + 1 by omega]; rfl) | (rw [q, liveN_drop hm_, if_neg (by rw [isLive_at hm_, ← ez]; rw [tz_i2] at lv; rw [← lv]; simp), tr7, show r7 = i1 + 1 by omega]; done) | (rw [q, liveN_drop hm_, if_neg (by rw [isLive_at hm_]; simp [h2]), tr7, show r7 = i1 + 1 by omega]; done))), (by (try dsimp only) <;> (omega))⟩ (by first | omega | (dsimp only; omega))
            · cbv
            · cbv
      · refine r_addf m.sX (by omega) (by omega) fun r8 hr8 => ?_
        conv => cbv
        refine r_islice' (i := r8) m.sX (by omega) (by omega) fun zs2 hzs2 => ?_   -- zs2 = marks[r8:None]
        have lzs2 : (zs2.length : Int) = marks.length - r8 := by rw [hzs2]; first | done | (simp; done) | (simp; omega)
        conv => cbv
        refine r_lenR m.sX fun n3 hn3 mn3 => ?_
        conv => cbv
        refine r_loopF (α := Bool × Int) m 53 [0, 4, 6, 9, 10, 11, 22, 23, 24] [⟨3, 25, 3, 1, 0⟩, ⟨5, 41, 0, 0, 0⟩] (fun σ => [(0, .isl 4 (rows cMark marks)), (3, .osl 25 0), (4, .int .i64 i1), (5, .optr 41 0 4 0 0), (6, .bool σ.1), (9, .isl 4 (rows cMark marks)), (10, .int .i64 n1), (11, .int .i64 i1), (22, .isl 4 (rows cMark zs2)), (23, .int .i64 n3), (24, .int .i64 σ.2)]) (fun σ => [(25, 0, .row 3 1 (rows cInt out)), (41, 0, .box [.int .i64 m_A, .int .i64 m_B, .int .i64 m_C, .str m_D])])
          (fun σ => (0 ≤ σ.2) ∧ (σ.2 ≤ n3) ∧ (σ.1 = false)) (fun σ => (n3 - σ.2).toNat) (false, 0) ?_ ?_ ?_ ?_
        · cbv
        · cbv
        · exact ⟨(by (try dsimp only); first | omega | (simp only [List.length_nil]; omega) | (simp only [List.length_cons, List.length_nil]; omega)), (by (try dsimp only); first | omega | (simp only [List.length_nil]; omega) | (simp only [List.length_cons, List.length_nil]; omega)), (by (try dsimp only) <;> (rfl))⟩
        rintro ⟨live_2, i3⟩ ⟨lo3, hi3, lv⟩ E2 hE2 F2 hF2
        dsimp only at lo3 hi3 lv
        conv => cbv
        refine r_lss m.sX (fun h7 => ?_) (fun h7 => ?_) <;> conv => cbv
        · refine r_index m.sX (by omega) (by omega) fun v hx_2A => ?_
          obtain ⟨x_2A, x_2B, x_2C, x_2D⟩ := v
          conv => cbv
          have hx_2 := hx_2A
          have mx_2 := get_mem hx_2
          have dx_2 := drop_cons hx_2
          have kx_2 := take_snoc hx_2
          have jx_2 : (i3 + 1).toNat = Int.toNat i3 + 1 := by omega
          refine r_eql m.sX (fun h8 => ?_) (fun h8 => ?_) <;> conv => cbv
          · refine r_eql m.sX (fun h9 => ?_) (fun h9 => ?_) <;> conv => cbv
            · refine r_eql m.sX (fun h10 => ?_) (fun h10 => ?_) <;> conv => cbv
              · refine r_addf m.sX (by omega) (by omega) fun r9 hr9 => ?_
                conv => cbv
                try have tr9 : Int.toNat r9 = Int.toNat i3 + 1 := by omega
                refine hE2 _ (false, r9) ?_ ?_ ⟨(by (try dsimp only); first | omega | (simp only [List.length_nil]; omega) | (simp only [List.length_cons, List.length_nil]; omega)), (by (try dsimp only); first | omega | (simp only [List.length_nil]; omega) | (simp only [List.length_cons, List.length_nil]; omega)), (by (try dsimp only) <;> (first | exact lv | rfl))⟩ (by first | omega | (dsimp only; omega))
                · cbv
                · cbv
              · refine r_addf m.sX (by omega) (by omega) fun r10 hr10 => ?_
                conv => cbv
                try have tr10 : Int.toNat r10 = Int.toNat i3 + 1 := by omega
                refine hE2 _ (live_2, r10) ?_ ?_ ⟨(by (try dsimp only); first | omega | (simp only [List.length_nil]; omega) | (simp only [List.length_cons, List.length_nil]; omega)), (by (try dsimp only); first | omega | (simp only [List.length_nil]; omega) | (simp only [List.length_cons, List.length_nil]; omega)), (by (try dsimp only) <;> (first | exact lv | rfl))⟩ (by first | omega | (dsimp only; omega))
                · cbv
                · cbv
            · refine r_addf m.sX (by omega) (by omega) fun r11 hr11 => ?_
              conv => cbv
              try have tr11 : Int.toNat r11 = Int.toNat i3 + 1 := by omega
              refine hE2 _ (live_2, r11) ?_ ?_ ⟨(by (try dsimp only); first | omega | (simp only [List.length_nil]; omega) | (simp only [List.length_cons, List.length_nil]; omega)), (by (try dsimp only); first | omega | (simp only [List.length_nil]; omega) | (simp only [List.length_cons, List.length_nil]; omega)), (by (try dsimp only) <;> (first | exact lv | rfl))⟩ (by first | omega | (dsimp only; omega))
              · cbv
              · cbv
          · refine r_addf m.sX (by omega) (by omega) fun r12 hr12 => ?_
            conv => cbv
            try have tr12 : Int.toNat r12 = Int.toNat i3 + 1 := by omega
            refine hE2 _ (live_2, r12) ?_ ?_ ⟨(by (try dsimp only); first | omega | (simp only [List.length_nil]; omega) | (simp only [List.length_cons, List.length_nil]; omega)), (by (try dsimp only); first | omega | (simp only [List.length_nil]; omega) | (simp only [List.length_cons, List.length_nil]; omega)), (by (try dsimp only) <;> (first | exact lv | rfl))⟩ (by first | omega | (dsimp only; omega))
            · cbv
            · cbv
        · have dz_i3 := drop_end (xs := zs2) (i := Int.toNat i3) (by omega)
          have tz_i3 := take_end (xs := zs2) (i := Int.toNat i3) (by omega)
          refine hF2 _ _ ?_
          conv => cbv
          rcases Bool.eq_false_or_eq_true live_2 with rfl | rfl <;> conv => cbv
          · exfalso; cases lv
          · refine r_addf m.sX (by omega) (by omega) fun r13 hr13 => ?_
            conv => cbv
            try have tr13 : Int.toNat r13 = Int.toNat i1 + 1 := by omega
            refine hE _ (out, r13) ?_ ?_ ⟨(by (try dsimp only); first | omega | (simp only [List.length_nil]; omega) | (simp only [List.length_cons, List.length_nil]; omega)), (by (try dsimp only); first | omega | (simp only [List.length_nil]; omega) | (simp only [List.length_cons, List.length_nil]; omega)), (by (try dsimp only) <;> (first | (rw [q, liveN_drop hm_, if_pos (by rw [isLive_at hm_, ← ez]; rw [tz_i2] at lv; rw [← lv]; simp [h2]), hout, List.append_assoc, tr13, show r13 = i1 + 1 by omega]; rfl) | (rw [q, liveN_drop hm_, if_neg (by rw [isLive_at hm_, ← ez]; rw [tz_i2] at lv; rw [← lv]; simp), tr13, show r13 = i1 + 1 by omega]; done) | (rw [q, liveN_drop hm_, if_neg (by rw [isLive_at hm_]; simp [h2]), tr13, show r13 = i1 + 1 by omega]; done))), (by (try dsimp only) <;> (omega))⟩ (by first | omega | (dsimp only; omega))
            · cbv
            · cbv
    · have dz_i1 := drop_end (xs := marks) (i := Int.toNat i1) (by omega)
      have tz_i1 := take_end (xs := marks) (i := Int.toNat i1) (by omega)
      refine hF _ _ ?_
      conv => cbv
      exact hQ (.fr 3 1 (rows cInt out)) (Eq.trans (by first | rfl | (simp only [lb, lbI, rows_cons, rows_nil, unnilT, unnil, unnilTI, unnilI]; done) | (simp only [lb, lbI, rows_cons, rows_nil, unnilT, unnil, unnilTI, unnilI]; rfl)) (congrArg (fun l => PV.fr 3 1 (rows cInt l)) (show out = liveN marks 0 from by rw [q, dz_i1]; exact (List.append_nil _).symm))))   -- leaf 1

theorem pfBefore_ok (a : Mark) (b : Mark)  : OkA Try.prog 76 [.agg (cMark a), .agg (cMark b)] (· = .bool (befM a b)) := by
  obtain ⟨aA, aB, aC, aD⟩ := a
  obtain ⟨bA, bB, bC, bD⟩ := b
  try dsimp only at *
  exact fn_intro envOk fieldsOk mixed Try.func76 rfl fun κ X Y L Q m hQ => by
    conv => cbv
    refine r_neq m.sX (fun h1 => ?_) (fun h1 => ?_) <;> conv => cbv
    · refine r_lss m.sX (fun h2 => ?_) (fun h2 => ?_) <;> conv => cbv
      · exact hQ _ (congrArg PV.bool (by simp [befM, *]))   -- leaf 1
      · exact hQ _ (congrArg PV.bool (by simp [befM, *]))   -- leaf 2
    · refine r_neq m.sX (fun h3 => ?_) (fun h3 => ?_) <;> conv => cbv
      · refine r_lss m.sX (fun h4 => ?_) (fun h4 => ?_) <;> conv => cbv
        · exact hQ _ (congrArg PV.bool (by simp [befM, *]))   -- leaf 3
        · exact hQ _ (congrArg PV.bool (by simp [befM, *]))   -- leaf 4
      · refine r_lss m.sX (fun h5 => ?_) (fun h5 => ?_) <;> conv => cbv
        · exact hQ _ (congrArg PV.bool (by simp [befM, *]))   -- leaf 5
        · exact hQ _ (congrArg PV.bool (by simp [befM, *]))   -- leaf 6

theorem pfSorted_ok (marks : List Mark) (hm : marks.length ≤ 1000) : OkA Try.prog 53 [.isl 4 (rows cMark marks)] (· = .fr 44 4 (rows cMark (sortF (liveL marks)))) :=
  OkA.unnil 44 4 (fn_intro envOk fieldsOk mixed Try.func53 rfl fun κ X Y L Q m hQ => by
    conv => cbv
    refine r_callF (fun l => PV.fr _ _ (rows _ l)) m.sX (pfLive_ok marks (by first | rfl | assumption | omega | (simp only [List.length_append, List.length_cons, List.length_nil] at *; omega))) fun v1 hv1 => ?_
    conv => cbv
    have vl : v1.length ≤ marks.length := by rw [hv1]; exact liveN_len _ _
    refine r_lenR m.sX fun n1 hn1 mn1 => ?_
    conv => cbv
    refine r_loopF (α := List Mark × Int) m 49 [0, 9, 10] [⟨3, 25, 44, 4, 0⟩, ⟨8, 65, 3, 1, 0⟩] (fun σ => [(0, .isl 4 (rows cMark marks)), (3, .osl 25 0), (8, .osl 65 0), (9, .int .i64 n1), (10, .int .i64 σ.2)]) (fun σ => [(25, 0, .row 44 4 (rows cMark σ.1)), (65, 0, .row 3 1 (rows cInt v1))])
      (fun σ => (0 ≤ σ.2) ∧ (σ.2 ≤ n1) ∧ (σ.1 = sortF ((v1.take σ.2.toNat).map (nthI marks))) ∧ ((σ.1.length : Int) ≤ σ.2)) (fun σ => (n1 - σ.2).toNat) ([], 0) ?_ ?_ ?_ ?_
    · cbv
    · (try dsimp only); (try simp only [rows_cons, rows_nil]); cbv
    · exact ⟨(by (try dsimp only); first | omega | (simp only [List.length_nil]; omega) | (simp only [List.length_cons, List.length_nil]; omega)), (by (try dsimp only); first | omega | (simp only [List.length_nil]; omega) | (simp only [List.length_cons, List.length_nil]; omega)), (by (try dsimp only) <;> (rfl)), (by (try dsimp only) <;> first | omega | rfl | (simp [*]; done))⟩
    rintro ⟨out, i1⟩ ⟨lo1, hi1, q, ol⟩ E hE F hF
    dsimp only at lo1 hi1 q ol
    conv => cbv
    refine r_lss m.sX (fun h1 => ?_) (fun h1 => ?_) <;> conv => cbv
    · refine r_oindex m.sX (by omega) (by omega) ?_
      conv => cbv
      obtain ⟨i, hi⟩ := get_ex (xs := v1) (i := Int.toNat i1) (by omega)
      have mi := get_mem hi
      have di := drop_cons hi
      have ki := take_snoc hi
      have ji : (i1 + 1).toNat = Int.toNat i1 + 1 := by omega
      have vi := nth_some hi
      have ib := liveN_mem (M := marks) (k := 0) (by rw [← hv1]; exact mi)
      refine r_oload m.sX hi (Nat.le_of_ble_eq_true rfl) ?_
      conv => cbv
      refine r_lenR m.sX fun k hk mk => ?_
      conv => cbv
      refine r_loopF (α := Int) m 49 [0, 5, 6, 9, 10] [⟨3, 25, 44, 4, 0⟩, ⟨8, 65, 3, 1, 0⟩] (fun σ => [(0, .isl 4 (rows cMark marks)), (3, .osl 25 0), (5, .int .i64 i), (6, .int .i64 σ), (8, .osl 65 0), (9, .int .i64 n1), (10, .int .i64 i1)]) (fun σ => [(25, 0, .row 44 4 (rows cMark out)), (65, 0, .row 3 1 (rows cInt v1))])
        (fun σ => (0 ≤ σ ∧ σ ≤ out.length) ∧ (insF (nthI marks i) out = insF (nthI marks i) (out.take σ.toNat) ++ out.drop σ.toNat)) (fun σ => σ.toNat) k ?_ ?_ ?_ ?_
      · cbv
      · cbv
      · exact ⟨(by (try dsimp only) <;> (omega)), (by (try dsimp only) <;> (rw [show Int.toNat k = out.length by omega, List.take_length, List.drop_length, List.append_nil]))⟩
      rintro k_2 ⟨kb, q2⟩ E2 hE2 F2 hF2
      conv => cbv
      refine r_draw m (by kernel_rfl) ?_
      conv => cbv
      refine r_gtr m.sY (fun h2 => ?_) (fun h2 => ?_) <;> conv => cbv
      · refine r_index m.sY (by omega) (by omega) fun v hx1A => ?_
        obtain ⟨x1A, x1B, x1C, x1D⟩ := v
        conv => cbv
        have hx1 := hx1A
        have mx1 := get_mem hx1
        refine r_subf m.sY (by omega) (by omega) fun r1 hr1 => ?_
        conv => cbv
        refine r_oindex m.sY (by omega) (by omega) ?_
        conv => cbv
        obtain ⟨⟨x2A, x2B, x2C, x2D⟩, hx2⟩ := get_ex (xs := out) (i := Int.toNat r1) (by omega)
        have mx2 := get_mem hx2
        refine r_oload m.sY hx2 (Nat.le_of_ble_eq_true rfl) ?_
        conv => cbv
        refine r_callBS m.sY (pfBefore_ok (x1A, x1B, x1C, x1D) (x2A, x2B, x2C, x2D)) (fun h3 => ?_) (fun h3 => ?_) <;> conv => cbv
        · refine r_subf m.sX (by omega) (by omega) fun k_3 hk_3 => ?_
          conv => cbv
          refine hE2 _ k_3 ?_ ?_ ⟨(by (try dsimp only) <;> (omega)), (by (try dsimp only) <;> (exact q2.trans (by rw [show Int.toNat k_2 = Int.toNat k_3 + 1 by omega]; exact ins_take (by rw [show Int.toNat k_3 = Int.toNat r1 by omega]; exact hx2) (by rw [nthI_some hx1]; exact h3))))⟩ (by first | omega | (dsimp only; omega))
          · cbv
          · cbv
        · refine hF2 _ _ ?_
          conv => cbv
          refine r_drawT 3 m rfl rfl (by kernel_rfl) ?_
          conv => cbv
          refine r_islice (i := 0) (j := k_2) m.sY (by omega) (by omega) (by omega) fun zs1 hzs1 => ?_   -- zs1 = out[None:k_2]
          have lzs1 : (zs1.length : Int) = k_2 - 0 := by rw [hzs1]; first | done | (simp; done) | (simp; omega)
          conv => cbv
          refine r_append0R m.sY (by first | omega | (dsimp only; omega)) (by first | omega | (dsimp only; omega)) fun zs2 hzs2 => ?_
          conv => cbv
          have lzs2 : (zs2.length : Int) = zs1.length := by rw [hzs2]; first | done | (simp; done) | (simp; omega)
          refine r_index m.sY (by omega) (by omega) fun v hx3A => ?_
          obtain ⟨x3A, x3B, x3C, x3D⟩ := v
          conv => cbv
          have hx3 := hx3A
          have mx3 := get_mem hx3
          obtain ⟨rfl, rfl, rfl, rfl⟩ : x1A = x3A ∧ x1B = x3B ∧ x1C = x3C ∧ x1D = x3D := by have := Option.some.inj (hx1.symm.trans hx3); simpa using this
          refine r_append1 ((x1A, x1B, x1C, x1D)) m.sY rfl (by first | omega | (dsimp only; omega)) (by first | omega | (dsimp only; omega)) fun zs3 hzs3 => ?_
          conv => cbv
          have lzs3 : (zs3.length : Int) = zs2.length + 1 := by rw [hzs3]; first | done | (simp; done) | (simp; omega)
          refine r_islice' (i := k_2) m.sY (by omega) (by omega) fun zs4 hzs4 => ?_   -- zs4 = out[k_2:None]
          have lzs4 : (zs4.length : Int) = out.length - k_2 := by rw [hzs4]; first | done | (simp; done) | (simp; omega)
          conv => cbv
          refine r_append m.sY (by first | omega | (dsimp only; omega)) (by first | omega | (dsimp only; omega)) fun out_2 hout_2 => ?_
          conv => cbv
          have lout_2 : (out_2.length : Int) = zs3.length + zs4.length := by rw [hout_2]; first | done | (simp; done) | (simp; omega)
          refine r_addf m.sX (by omega) (by omega) fun r2 hr2 => ?_
          conv => cbv
          try have tr2 : Int.toNat r2 = Int.toNat i1 + 1 := by omega
          refine hE _ (out_2, r2) ?_ ?_ ⟨(by (try dsimp only); first | omega | (simp only [List.length_nil]; omega) | (simp only [List.length_cons, List.length_nil]; omega)), (by (try dsimp only); first | omega | (simp only [List.length_nil]; omega) | (simp only [List.length_cons, List.length_nil]; omega)), (by (try dsimp only) <;> (first | (rw [tr2, ki, List.map_append, List.map_cons, List.map_nil, sort_snoc, ← q, nthI_some hx1]; exact put_in hzs1 hzs2 hzs3 hzs4 hout_2 (by rw [← nthI_some hx1]; exact q2) (by rw [show Int.toNat k_2 = Int.toNat r1 + 1 by omega]; exact ins_at hx2 h3)) | (rw [tr2, ki, List.map_append, List.map_cons, List.map_nil, sort_snoc, ← q, nthI_some hx4]; exact put_in hzs5 hzs6 hzs7 hzs8 hout_2 (by rw [← nthI_some hx4]; exact q2) (by rw [show Int.toNat k_2 = 0 by omega]; rfl)))), (by (try dsimp only) <;> (omega))⟩ (by first | omega | (dsimp only; omega))
          · cbv
          · cbv
      · refine hF2 _ _ ?_
        conv => cbv
        refine r_drawT 3 m rfl rfl (by kernel_rfl) ?_
        conv => cbv
        refine r_islice (i := 0) (j := k_2) m.sY (by omega) (by omega) (by omega) fun zs5 hzs5 => ?_   -- zs5 = out[None:k_2]
        have lzs5 : (zs5.length : Int) = k_2 - 0 := by rw [hzs5]; first | done | (simp; done) | (simp; omega)
        conv => cbv
        refine r_append0R m.sY (by first | omega | (dsimp only; omega)) (by first | omega | (dsimp only; omega)) fun zs6 hzs6 => ?_
        conv => cbv
        have lzs6 : (zs6.length : Int) = zs5.length := by rw [hzs6]; first | done | (simp; done) | (simp; omega)
        refine r_index m.sY (by omega) (by omega) fun v hx4A => ?_
        obtain ⟨x4A, x4B, x4C, x4D⟩ := v
        conv => cbv
        have hx4 := hx4A
        have mx4 := get_mem hx4
        refine r_append1 ((x4A, x4B, x4C, x4D)) m.sY rfl (by first | omega | (dsimp only; omega)) (by first | omega | (dsimp only; omega)) fun zs7 hzs7 => ?_
        conv => cbv
        have lzs7 : (zs7.length : Int) = zs6.length + 1 := by rw [hzs7]; first | done | (simp; done) | (simp; omega)
        refine r_islice' (i := k_2) m.sY (by omega) (by omega) fun zs8 hzs8 => ?_   -- zs8 = out[k_2:None]
        have lzs8 : (zs8.length : Int) = out.length - k_2 := by rw [hzs8]; first | done | (simp; done) | (simp; omega)
        conv => cbv
        refine r_append m.sY (by first | omega | (dsimp only; omega)) (by first | omega | (dsimp only; omega)) fun out_3 hout_3 => ?_
        conv => cbv
        have lout_3 : (out_3.length : Int) = zs7.length + zs8.length := by rw [hout_3]; first | done | (simp; done) | (simp; omega)
        refine r_addf m.sX (by omega) (by omega) fun r3 hr3 => ?_
        conv => cbv
        try have tr3 : Int.toNat r3 = Int.toNat i1 + 1 := by omega
        refine hE _ (out_3, r3) ?_ ?_ ⟨(by (try dsimp only); first | omega | (simp only [List.length_nil]; omega) | (simp only [List.length_cons, List.length_nil]; omega)), (by (try dsimp only); first | omega | (simp only [List.length_nil]; omega) | (simp only [List.length_cons, List.length_nil]; omega)), (by (try dsimp only) <;> (first | (rw [tr3, ki, List.map_append, List.map_cons, List.map_nil, sort_snoc, ← q, nthI_some hx1]; exact put_in hzs1 hzs2 hzs3 hzs4 hout_3 (by rw [← nthI_some hx1]; exact q2) (by rw [show Int.toNat k_2 = Int.toNat r1 + 1 by omega]; exact ins_at hx2 h3)) | (rw [tr3, ki, List.map_append, List.map_cons, List.map_nil, sort_snoc, ← q, nthI_some hx4]; exact put_in hzs5 hzs6 hzs7 hzs8 hout_3 (by rw [← nthI_some hx4]; exact q2) (by rw [show Int.toNat k_2 = 0 by omega]; rfl)))), (by (try dsimp only) <;> (omega))⟩ (by first | omega | (dsimp only; omega))
        · cbv
        · cbv
    · have dz_i1 := drop_end (xs := v1) (i := Int.toNat i1) (by omega)
      have tz_i1 := take_end (xs := v1) (i := Int.toNat i1) (by omega)
      refine hF _ _ ?_
      conv => cbv
      exact hQ (.fr 44 4 (rows cMark out)) (Eq.trans (by first | rfl | (simp only [lb, lbI, rows_cons, rows_nil, unnilT, unnil, unnilTI, unnilI]; done) | (simp only [lb, lbI, rows_cons, rows_nil, unnilT, unnil, unnilTI, unnilI]; rfl)) (congrArg (fun l => PV.fr 44 4 (rows cMark l)) (show out = sortF (liveL marks) from by rw [q, tz_i1, hv1, liveN_map]))))   -- leaf 1

theorem specLiveMarks_ok (lines : List (List UInt8)) (marks : List Mark) (hk : marks.length ≤ 1000) (hl : lines.length ≤ 1000) (hw : ∀ s ∈ lines, s.length ≤ 1000000) : OkA Try.prog 12 [.isl 1 (rows cStr lines), .isl 4 (rows cMark marks)] (· = (lb 44 4 cMark) (liveA lines marks)) :=
  OkA.unnil 44 4 (fn_intro envOk fieldsOk mixed Try.func12 rfl fun κ X Y L Q m hQ => by
    conv => cbv
    refine r_callB m.sX (pfMarks_ok lines marks (by first | rfl | assumption | omega | (simp only [List.length_append, List.length_cons, List.length_nil] at *; omega)) (by first | rfl | assumption | omega | (simp only [List.length_append, List.length_cons, List.length_nil] at *; omega))) (fun h1 => ?_) (fun h1 => ?_) <;> conv => cbv
    · refine r_callF (fun l => PV.fr _ _ (rows _ l)) m.sX (pfSorted_ok marks (by first | rfl | assumption | omega | (simp only [List.length_append, List.length_cons, List.length_nil] at *; omega))) fun v1 hv1 => ?_
      conv => cbv
      exact hQ (.tup [.fr 44 4 (rows cMark v1), .bool true]) (Eq.trans (by first | rfl | (simp only [lb, lbI, rows_cons, rows_nil, unnilT, unnil, unnilTI, unnilI]; done) | (simp only [lb, lbI, rows_cons, rows_nil, unnilT, unnil, unnilTI, unnilI]; rfl)) (congrArg ((lb 44 4 cMark)) (show (v1, true) = liveA lines marks from by rw [liveA, if_pos h1, ← hv1])))   -- leaf 1
    · exact hQ (.tup [.nil, .bool false]) (Eq.trans (by first | rfl | (simp only [lb, lbI, rows_cons, rows_nil, unnilT, unnil, unnilTI, unnilI]; done) | (simp only [lb, lbI, rows_cons, rows_nil, unnilT, unnil, unnilTI, unnilI]; rfl)) (congrArg ((lb 44 4 cMark)) (show ([], false) = liveA lines marks from by rw [liveA, if_neg (by rw [h1]; exact Bool.false_ne_true)]))))   -- leaf 2

theorem specMarkedLines_ok (lines : List (List UInt8)) (marks : List Mark) (hk : marks.length ≤ 1000) (hl : lines.length ≤ 1000) (hw : ∀ s ∈ lines, s.length ≤ 1000000) : OkA Try.prog 14 [.isl 1 (rows cStr lines), .isl 4 (rows cMark marks)] (· = (lb 3 1 cInt) (cntA lines marks)) :=
  OkA.unnil 3 1 (fn_intro envOk fieldsOk mixed Try.func14 rfl fun κ X Y L Q m hQ => by
    conv => cbv
    refine r_callB m.sX (pfMarks_ok lines marks (by first | rfl | assumption | omega | (simp only [List.length_append, List.length_cons, List.length_nil] at *; omega)) (by first | rfl | assumption | omega | (simp only [List.length_append, List.length_cons, List.length_nil] at *; omega))) (fun h1 => ?_) (fun h1 => ?_) <;> conv => cbv
    · refine r_lenR m.sX fun n1 hn1 mn1 => ?_
      conv => cbv
      refine r_make cInt 0 m.sX rfl (by omega) (by omega) (by dsimp only; omega) (by omega) fun out hout => ?_   -- out = replicate n1
      have lout : (out.length : Int) = n1 := by rw [hout]; first | done | (simp; done) | (simp; omega)
      conv => cbv
      refine r_callF (fun l => PV.fr _ _ (rows _ l)) m.sX (pfLive_ok marks (by first | rfl | assumption | omega | (simp only [List.length_append, List.length_cons, List.length_nil] at *; omega))) fun v1 hv1 => ?_
      conv => cbv
      have vl : v1.length ≤ marks.length := by rw [hv1]; exact liveN_len _ _
      refine r_lenR m.sX fun n2 hn2 mn2 => ?_
      conv => cbv
      refine r_loopF (α := List Int × Int) m 35 [1, 18, 19] [⟨6, 49, 3, 1, 0⟩, ⟨17, 137, 3, 1, 0⟩] (fun σ => [(1, .isl 4 (rows cMark marks)), (6, .osl 49 0), (17, .osl 137 0), (18, .int .i64 n2), (19, .int .i64 σ.2)]) (fun σ => [(49, 0, .row 3 1 (rows cInt σ.1)), (137, 0, .row 3 1 (rows cInt v1))])
        (fun σ => (0 ≤ σ.2) ∧ (σ.2 ≤ n2) ∧ (σ.1 = cntF ((v1.take σ.2.toNat).map (nthI marks)) lines.length) ∧ ((σ.1.length : Int) = lines.length)) (fun σ => (n2 - σ.2).toNat) (out, 0) ?_ ?_ ?_ ?_
      · cbv
      · cbv
      · exact ⟨(by (try dsimp only); first | omega | (simp only [List.length_nil]; omega) | (simp only [List.length_cons, List.length_nil]; omega)), (by (try dsimp only); first | omega | (simp only [List.length_nil]; omega) | (simp only [List.length_cons, List.length_nil]; omega)), (by (try dsimp only) <;> (rw [hout, show Int.toNat n1 = lines.length by omega]; exact (cnt_nil _).symm)), (by (try dsimp only) <;> (omega))⟩
      rintro ⟨out_2, i1⟩ ⟨lo1, hi1, q, ol⟩ E hE F hF
      dsimp only at lo1 hi1 q ol
      conv => cbv
      refine r_lss m.sX (fun h2 => ?_) (fun h2 => ?_) <;> conv => cbv
      · refine r_oindex m.sX (by omega) (by omega) ?_
        conv => cbv
        obtain ⟨i, hi⟩ := get_ex (xs := v1) (i := Int.toNat i1) (by omega)
        have mi := get_mem hi
        have di := drop_cons hi
        have ki := take_snoc hi
        have ji : (i1 + 1).toNat = Int.toNat i1 + 1 := by omega
        have vi := nth_some hi
        have ib := liveN_mem (M := marks) (k := 0) (by rw [← hv1]; exact mi)
        refine r_oload m.sX hi (Nat.le_of_ble_eq_true rfl) ?_
        conv => cbv
        refine r_index m.sX (by omega) (by omega) fun v hx1A => ?_
        obtain ⟨x1A, x1B, x1C, x1D⟩ := v
        conv => cbv
        have hx1 := hx1A
        have mx1 := get_mem hx1
        have xa := (marks_at h1 _ mx1).1
        try dsimp only at xa
        try dsimp only at xa
        refine r_oindex m.sX (by omega) (by omega) ?_
        conv => cbv
        obtain ⟨x2, hx2⟩ := get_ex (xs := out_2) (i := Int.toNat x1A) (by omega)
        have mx2 := get_mem hx2
        have vx2 := nth_some hx2
        have xb := cnt_bd (by rw [← q]; exact mx2)
        try dsimp only at xb
        have xl : ((v1.take i1.toNat).map (nthI marks)).length ≤ v1.length := by rw [List.length_map, List.length_take]; omega
        refine r_oload m.sX hx2 (Nat.le_of_ble_eq_true rfl) ?_
        conv => cbv
        refine r_addf m.sX (by omega) (by omega) fun r1 hr1 => ?_
        conv => cbv
        refine r_oindex m.sX (by omega) (by omega) ?_
        conv => cbv
        obtain ⟨y1, hy1⟩ := get_ex (xs := out_2) (i := Int.toNat x1A) (by omega)
        refine r_ostore (l := Int.toNat x1A) r1 m.sX hy1 (Nat.le_of_ble_eq_true rfl) rfl fun out_3 hout_3 => ?_   -- out_3 = out_2.set x1A r1
        have lout_3 : (out_3.length : Int) = out_2.length := by rw [hout_3]; first | done | (simp; done) | (simp; omega)
        conv => cbv
        refine r_addf m.sX (by omega) (by omega) fun r2 hr2 => ?_
        conv => cbv
        try have tr2 : Int.toNat r2 = Int.toNat i1 + 1 := by omega
        refine hE _ (out_3, r2) ?_ ?_ ⟨(by (try dsimp only); first | omega | (simp only [List.length_nil]; omega) | (simp only [List.length_cons, List.length_nil]; omega)), (by (try dsimp only); first | omega | (simp only [List.length_nil]; omega) | (simp only [List.length_cons, List.length_nil]; omega)), (by (try dsimp only) <;> (rw [tr2, ki, List.map_append, List.map_cons, List.map_nil, nthI_some hx1, cnt_snoc (m := (x1A, x1B, x1C, x1D)) xa.1 (v := x2) (by rw [← q]; exact hx2), ← q, hout_3, hr1])), (by (try dsimp only) <;> (omega))⟩ (by first | omega | (dsimp only; omega))
        · cbv
        · cbv
      · have dz_i1 := drop_end (xs := v1) (i := Int.toNat i1) (by omega)
        have tz_i1 := take_end (xs := v1) (i := Int.toNat i1) (by omega)
        refine hF _ _ ?_
        conv => cbv
        exact hQ (.tup [.fr 3 1 (rows cInt out_2), .bool true]) (Eq.trans (by first | rfl | (simp only [lb, lbI, rows_cons, rows_nil, unnilT, unnil, unnilTI, unnilI]; done) | (simp only [lb, lbI, rows_cons, rows_nil, unnilT, unnil, unnilTI, unnilI]; rfl)) (congrArg ((lb 3 1 cInt)) (show (out_2, true) = cntA lines marks from by rw [cntA, if_pos h1, q, tz_i1, hv1, liveN_map])))   -- leaf 1
    · exact hQ (.tup [.nil, .bool false]) (Eq.trans (by first | rfl | (simp only [lb, lbI, rows_cons, rows_nil, unnilT, unnil, unnilTI, unnilI]; done) | (simp only [lb, lbI, rows_cons, rows_nil, unnilT, unnil, unnilTI, unnilI]; rfl)) (congrArg ((lb 3 1 cInt)) (show ([], false) = cntA lines marks from by rw [cntA, if_neg (by rw [h1]; exact Bool.false_ne_true)]))))   -- leaf 2

end Go.Proofs.Ytngefbdedbbplaa.Ai
