/- Contracts: the marks between two lines. -/
import Derived.Test.YtngefbdedbbplaaMark
import Derived.Test.YtngefbdedbbplaaAiCut
namespace Go.Proofs.Ytngefbdedbbplaa.Ai
open Go Go.Proofs
set_option linter.unusedSimpArgs false
set_option maxRecDepth 10000
set_option maxHeartbeats 4000000
set_option linter.unusedVariables false
theorem c8_eq {x y : UInt8} {c d : Int} (h1 : c = x.toNat) (h2 : d = y.toNat) (h : c = d) : x = y := UInt8.toNat_inj.1 (by omega)
theorem c8_ne {x y : UInt8} {c d : Int} (h1 : c = x.toNat) (h2 : d = y.toNat) (h : c ≠ d) : x ≠ y := fun e => h (by rw [h1, h2, e])
theorem pre_go {a b : List UInt8} {i : Nat} {x y : UInt8} (ha : a[i]? = some x) (hb : b[i]? = some y) (h : x = y) : pre (a.drop i) (b.drop i) = pre (a.drop (i + 1)) (b.drop (i + 1)) + 1 := by subst h; exact pre_step ha hb
theorem f_next (f : Int) (p : Nat) : f + p + 1 = f + ((p + 1 : Nat) : Int) := by omega
theorem step_del {f r : Int} {p : Nat} {M M' : List Mark} {o n : List UInt8} {x : UInt8} (hM : M' = M ++ [(0, r, 1, [])]) (hx : o[p]? = some x) (hn : n.length ≤ p) (hr : r = f + p) : M ++ diffF (f + p) (o.drop p) (n.drop p) = M' ++ diffF (f + ((p + 1 : Nat) : Int)) (o.drop (p + 1)) (n.drop (p + 1)) := by
  rw [diff_del hx hn, hM, hr, List.append_assoc, f_next]; rfl
theorem step_rep {f r : Int} {p : Nat} {M M' : List Mark} {o n s : List UInt8} {x y : UInt8} (hM : M' = M ++ [(0, r, 3, s)]) (hs : s = [y]) (hx : o[p]? = some x) (hne : x ≠ y) (hy : n[p]? = some y) (hr : r = f + p) : M ++ diffF (f + p) (o.drop p) (n.drop p) = M' ++ diffF (f + ((p + 1 : Nat) : Int)) (o.drop (p + 1)) (n.drop (p + 1)) := by
  rw [diff_rep hx hy hne, hM, hr, hs, List.append_assoc, f_next]; rfl
theorem step_same {f : Int} {p : Nat} {M : List Mark} {o n : List UInt8} {x y : UInt8} (hx : o[p]? = some x) (he : x = y) (hy : n[p]? = some y) : M ++ diffF (f + p) (o.drop p) (n.drop p) = M ++ diffF (f + ((p + 1 : Nat) : Int)) (o.drop (p + 1)) (n.drop (p + 1)) := by
  subst he
  rw [diff_same hx hy, f_next]
theorem step_ins {f r : Int} {p j : Nat} {M M' : List Mark} {o n s : List UInt8} (hM : M' = M ++ [(0, r, 2, s)]) (hs : s = n.drop j) (hj : j = p) (ho : o.length ≤ p) (hn : p < n.length) (hr : r = f + p) : M ++ diffF (f + p) (o.drop p) (n.drop p) = M' := by
  rw [diff_end ho, if_pos hn, hM, hr, hs, hj]
theorem step_end {f : Int} {p : Nat} {M : List Mark} {o n : List UInt8} (ho : o.length ≤ p) (hn : n.length ≤ p) : M ++ diffF (f + p) (o.drop p) (n.drop p) = M := by
  rw [diff_end ho, if_neg (by omega), List.append_nil]
theorem line_len {a : Tx} (h : lineB a = true) : a.length ≤ 40 := by
  unfold lineB at h
  rw [Bool.and_eq_true] at h
  have := inB_spec h.2
  omega
theorem low_mid {a : Tx} {f e p : Nat} {x : UInt8} (h : lineB a = true) (hx : (midF a f e)[p]? = some x) : x.toNat < 128 := by
  unfold lineB at h
  rw [Bool.and_eq_true] at h
  have hm : x ∈ a := by
    have := List.mem_of_getElem? hx
    unfold midF at this
    exact List.mem_of_mem_take (List.mem_of_mem_drop this)
  obtain ⟨i, hi⟩ := List.mem_iff_getElem?.1 hm
  exact plain_low h.1 hi
section
variable {κ : Ctx} {X Y : Req → (PV → Prop) → Prop} {L : Code → (Ex → St → Prop) → St → Prop} {Q : PV → Prop}
theorem between_part1 (m : Mach Try.prog G κ X Y L) (a : List UInt8) (b : List UInt8) (la : lineB a = true) (lb : lineB b = true) (hQ : (∀ r, unnilT 44 4 r = .fr 44 4 (rows cMark (betF a b)) → Q r)) (E0 : St → Prop)
    (hE0 : ∀ (s' : St) (σ : Int), headOk s' [] = true → Ai.norm [0, 1, 5] [] s' = St.at 135 [(0, .str a), (1, .str b), (5, .int .i64 σ)] [] → ((firstF a b = σ.toNat) ∧ ((0 ≤ σ ∧ σ ≤ a.length) ∧ σ ≤ b.length)) → E0 s') :
    Ai.code X L G (front 3 (Try.f46.body.getD .skip)) (fun e s' => match e with | .normal => E0 s' | .exit i => EndsIn (post G Try.f46.results.toList Q) (.exit i) s' | .ret => EndsIn (post G Try.f46.results.toList Q) .ret s') (start 135 [.str a, .str b] []) := by
  conv => cbv
  have qa := line_len la
  have qb := line_len lb
  refine r_loopF (α := Int) m 135 [0, 1, 5] [] (fun σ => [(0, .str a), (1, .str b), (5, .int .i64 σ)]) (fun σ => [])
    (fun σ => (0 ≤ σ) ∧ (σ ≤ (a.length : Int)) ∧ (pre a b = σ.toNat + pre (a.drop σ.toNat) (b.drop σ.toNat)) ∧ (σ ≤ a.length ∧ σ ≤ b.length)) (fun σ => ((a.length : Int) - σ).toNat) 0 ?_ ?_ ?_ ?_
  · cbv
  · cbv
  · exact ⟨(by (try dsimp only); first | omega | (simp only [List.length_nil]; omega) | (simp only [List.length_cons, List.length_nil]; omega)), (by (try dsimp only); first | omega | (simp only [List.length_nil]; omega) | (simp only [List.length_cons, List.length_nil]; omega)), (by (try dsimp only) <;> (exact (Nat.zero_add _).symm)), (by (try dsimp only) <;> (omega))⟩
  rintro first ⟨lo1, hi1, q, fb⟩ E hE F hF
  conv => cbv
  refine r_draw m (by kernel_rfl) ?_
  conv => cbv
  refine r_slenS (u := a) m.sY (by omega) fun n1 hn1 => ?_   -- n1 = length of a
  conv => cbv
  refine r_lss m.sY (fun h1 => ?_) (fun h1 => ?_) <;> conv => cbv
  · refine r_slenS (u := b) m.sY (by omega) fun n2 hn2 => ?_   -- n2 = length of b
    conv => cbv
    refine r_lss m.sY (fun h2 => ?_) (fun h2 => ?_) <;> conv => cbv
    · refine r_sidx (u := a) (i := first) m.sY (by omega) (by first | omega | (simp only [List.length_cons, List.length_nil]; omega) | (simp; omega)) fun x1 hx1 c1 hc1 bc1 => ?_   -- x1 = a[first]
      have dx1 := drop_cons hx1
      have kx1 := take_snoc hx1
      have jx1 : (first + 1).toNat = Int.toNat first + 1 := by omega
      conv => cbv
      refine r_sidx (u := b) (i := first) m.sY (by omega) (by first | omega | (simp only [List.length_cons, List.length_nil]; omega) | (simp; omega)) fun x2 hx2 c2 hc2 bc2 => ?_   -- x2 = b[first]
      have dx2 := drop_cons hx2
      have kx2 := take_snoc hx2
      have jx2 : (first + 1).toNat = Int.toNat first + 1 := by omega
      conv => cbv
      refine r_eql m.sY (fun h3 => ?_) (fun h3 => ?_) <;> conv => cbv
      · have uq := c8_eq hc1 hc2 h3
        refine r_addf m.sX (by omega) (by omega) fun first_2 hfirst_2 => ?_
        conv => cbv
        try have tfirst_2 : Int.toNat first_2 = Int.toNat first + 1 := by omega
        refine hE _ first_2 ?_ ?_ ⟨(by (try dsimp only); first | omega | (simp only [List.length_nil]; omega) | (simp only [List.length_cons, List.length_nil]; omega)), (by (try dsimp only); first | omega | (simp only [List.length_nil]; omega) | (simp only [List.length_cons, List.length_nil]; omega)), (by (try dsimp only) <;> (rw [q, pre_go hx1 hx2 uq, tfirst_2]; omega)), (by (try dsimp only) <;> (omega))⟩ (by first | omega | (dsimp only; omega))
        · cbv
        · cbv
      · have un := c8_ne hc1 hc2 h3
        have fe : firstF a b = first.toNat := by first | rw [firstF, q, pre_endA (by omega), Nat.add_zero] | rw [firstF, q, pre_endB (by omega), Nat.add_zero] | rw [firstF, q, pre_stop hx1 hx2 un, Nat.add_zero]
        refine hF _ _ ?_
        conv => cbv
        exact hE0 _ first (by cbv) (by cbv) ⟨(by (try dsimp only) <;> (first | assumption | omega | (simp [*]; done))), (by (try dsimp only) <;> (first | assumption | omega | (simp [*]; done)))⟩
    · have fe : firstF a b = first.toNat := by first | rw [firstF, q, pre_endA (by omega), Nat.add_zero] | rw [firstF, q, pre_endB (by omega), Nat.add_zero] | rw [firstF, q, pre_stop hx1 hx2 un, Nat.add_zero]
      refine hF _ _ ?_
      conv => cbv
      exact hE0 _ first (by cbv) (by cbv) ⟨(by (try dsimp only) <;> (first | assumption | omega | (simp [*]; done))), (by (try dsimp only) <;> (first | assumption | omega | (simp [*]; done)))⟩
  · have fe : firstF a b = first.toNat := by first | rw [firstF, q, pre_endA (by omega), Nat.add_zero] | rw [firstF, q, pre_endB (by omega), Nat.add_zero] | rw [firstF, q, pre_stop hx1 hx2 un, Nat.add_zero]
    refine hF _ _ ?_
    conv => cbv
    exact hE0 _ first (by cbv) (by cbv) ⟨(by (try dsimp only) <;> (first | assumption | omega | (simp [*]; done))), (by (try dsimp only) <;> (first | assumption | omega | (simp [*]; done)))⟩

theorem between_part2 (m : Mach Try.prog G κ X Y L) (a : List UInt8) (b : List UInt8) (la : lineB a = true) (lb : lineB b = true) (hQ : (∀ r, unnilT 44 4 r = .fr 44 4 (rows cMark (betF a b)) → Q r)) (first : Int) (fe : firstF a b = first.toNat) (fb : (0 ≤ first ∧ first ≤ a.length) ∧ first ≤ b.length) (E0 : St → Prop)
    (hE0 : ∀ (s' : St) (σ : Int × List Mark × List UInt8 × List UInt8), headOk s' [⟨7, 57, 44, 4, 0⟩] = true → Ai.norm [5, 8, 9] [⟨7, 57, 44, 4, 0⟩] s' = St.at 135 [(5, .int .i64 σ.1), (7, .osl 57 0), (8, .str σ.2.2.1), (9, .str σ.2.2.2)] [(57, 0, .row 44 4 (rows cMark σ.2.1))] → ((firstF a b = σ.1.toNat) ∧ ((0 ≤ σ.1 ∧ σ.1 ≤ a.length) ∧ σ.1 ≤ b.length) ∧ (σ.2.2.1 = midF a (firstF a b) (lastF a b)) ∧ (σ.2.2.2 = midF b (firstF a b) (lastF a b)) ∧ (σ.2.1 = []) ∧ (σ.2.2.1.length ≤ 40 ∧ σ.2.2.2.length ≤ 40)) → E0 s') :
    Ai.code X L G (front 4 (rest 3 (Try.f46.body.getD .skip))) (fun e s' => match e with | .normal => E0 s' | .exit i => EndsIn (post G Try.f46.results.toList Q) (.exit i) s' | .ret => EndsIn (post G Try.f46.results.toList Q) .ret s') (St.at 135 [(0, .str a), (1, .str b), (5, .int .i64 first)] []) := by
  conv => cbv
  have qa := line_len la
  have qb := line_len lb
  refine r_loopF (α := Int) m 135 [0, 1, 5, 6] [] (fun σ => [(0, .str a), (1, .str b), (5, .int .i64 first), (6, .int .i64 σ)]) (fun σ => [])
    (fun σ => (pre (revD a first.toNat) (revD b first.toNat) = σ.toNat + pre ((revD a first.toNat).drop σ.toNat) ((revD b first.toNat).drop σ.toNat)) ∧ ((0 ≤ σ ∧ σ ≤ a.length - first) ∧ σ ≤ b.length - first)) (fun σ => ((a.length : Int) - σ).toNat) 0 ?_ ?_ ?_ ?_
  · cbv
  · cbv
  · exact ⟨(by (try dsimp only) <;> (exact (Nat.zero_add _).symm)), (by (try dsimp only) <;> (omega))⟩
  rintro last ⟨q2, lq⟩ E hE F hF
  conv => cbv
  refine r_draw m (by kernel_rfl) ?_
  conv => cbv
  refine r_slenS (u := a) m.sY (by omega) fun n1 hn1 => ?_   -- n1 = length of a
  conv => cbv
  refine r_subf m.sY (by omega) (by omega) fun r1 hr1 => ?_
  conv => cbv
  refine r_lss m.sY (fun h1 => ?_) (fun h1 => ?_) <;> conv => cbv
  · refine r_slenS (u := b) m.sY (by omega) fun n2 hn2 => ?_   -- n2 = length of b
    conv => cbv
    refine r_subf m.sY (by omega) (by omega) fun r2 hr2 => ?_
    conv => cbv
    refine r_lss m.sY (fun h2 => ?_) (fun h2 => ?_) <;> conv => cbv
    · refine r_slenS (u := a) m.sY (by omega) fun n3 hn3 => ?_   -- n3 = length of a
      conv => cbv
      refine r_subf m.sY (by omega) (by omega) fun r3 hr3 => ?_
      conv => cbv
      refine r_subf m.sY (by omega) (by omega) fun r4 hr4 => ?_
      conv => cbv
      refine r_sidx (u := a) (i := r4) m.sY (by omega) (by first | omega | (simp only [List.length_cons, List.length_nil]; omega) | (simp; omega)) fun x1 hx1 c1 hc1 bc1 => ?_   -- x1 = a[r4]
      have dx1 := drop_cons hx1
      have kx1 := take_snoc hx1
      have jx1 : (r4 + 1).toNat = Int.toNat r4 + 1 := by omega
      conv => cbv
      refine r_slenS (u := b) m.sY (by omega) fun n4 hn4 => ?_   -- n4 = length of b
      conv => cbv
      refine r_subf m.sY (by omega) (by omega) fun r5 hr5 => ?_
      conv => cbv
      refine r_subf m.sY (by omega) (by omega) fun r6 hr6 => ?_
      conv => cbv
      refine r_sidx (u := b) (i := r6) m.sY (by omega) (by first | omega | (simp only [List.length_cons, List.length_nil]; omega) | (simp; omega)) fun x2 hx2 c2 hc2 bc2 => ?_   -- x2 = b[r6]
      have dx2 := drop_cons hx2
      have kx2 := take_snoc hx2
      have jx2 : (r6 + 1).toNat = Int.toNat r6 + 1 := by omega
      conv => cbv
      refine r_eql m.sY (fun h3 => ?_) (fun h3 => ?_) <;> conv => cbv
      · have uq := c8_eq hc1 hc2 h3
        refine r_addf m.sX (by omega) (by omega) fun last_2 hlast_2 => ?_
        conv => cbv
        refine hE _ last_2 ?_ ?_ ⟨(by (try dsimp only) <;> (rw [q2, pre_go (revD_get (k := last.toNat) ‹a[Int.toNat _]? = some _› (by omega) (by omega)) (revD_get (k := last.toNat) ‹b[Int.toNat _]? = some _› (by omega) (by omega)) uq, show Int.toNat last_2 = last.toNat + 1 by omega]; omega)), (by (try dsimp only) <;> (omega))⟩ (by first | omega | (dsimp only; omega))
        · cbv
        · cbv
      · have un := c8_ne hc1 hc2 h3
        have le : lastF a b = last.toNat := by rw [lastF, show pre a b = first.toNat from fe, q2]; first | rw [pre_endA (by rw [revD_len]; omega), Nat.add_zero] | rw [pre_endB (by rw [revD_len]; omega), Nat.add_zero] | rw [pre_stop (revD_get (k := last.toNat) ‹a[Int.toNat _]? = some _› (by omega) (by omega)) (revD_get (k := last.toNat) ‹b[Int.toNat _]? = some _› (by omega) (by omega)) un, Nat.add_zero]
        refine hF _ _ ?_
        conv => cbv
        refine r_draw m (by kernel_rfl) ?_
        conv => cbv
        refine r_slenS (u := a) m.sY (by omega) fun n5 hn5 => ?_   -- n5 = length of a
        conv => cbv
        refine r_subf m.sY (by omega) (by omega) fun r7 hr7 => ?_
        conv => cbv
        refine r_sslice (u := a) (i := first) (j := r7) m.sY (by omega) (by omega) (by first | omega | (simp only [List.length_cons, List.length_nil]; omega) | (simp; omega)) fun old hold => ?_   -- old = a[first:r7]
        have eo : old = midF a (firstF a b) (lastF a b) := by rw [hold, midF, fe, le]; exact congrArg (fun z => List.drop _ (List.take z a)) (by omega)
        have lold : (old.length : Int) = r7 - first := by rw [hold]; first | done | (simp; done) | (simp; omega)
        conv => cbv
        refine r_slenS (u := b) m.sY (by omega) fun n6 hn6 => ?_   -- n6 = length of b
        conv => cbv
        refine r_subf m.sY (by omega) (by omega) fun r8 hr8 => ?_
        conv => cbv
        refine r_sslice (u := b) (i := first) (j := r8) m.sY (by omega) (by omega) (by first | omega | (simp only [List.length_cons, List.length_nil]; omega) | (simp; omega)) fun new hnew => ?_   -- new = b[first:r8]
        have en : new = midF b (firstF a b) (lastF a b) := by rw [hnew, midF, fe, le]; exact congrArg (fun z => List.drop _ (List.take z b)) (by omega)
        have lnew : (new.length : Int) = r8 - first := by rw [hnew]; first | done | (simp; done) | (simp; omega)
        conv => cbv
        exact hE0 _ (first, [], old, new) (by cbv) (by (try dsimp only); (try simp only [rows_cons, rows_nil]); cbv) ⟨(by (try dsimp only) <;> (first | assumption | omega | (simp [*]; done))), (by (try dsimp only) <;> (first | assumption | omega | (simp [*]; done))), (by (try dsimp only) <;> (first | assumption | omega | (simp [*]; done))), (by (try dsimp only) <;> (first | assumption | omega | (simp [*]; done))), (by (try dsimp only) <;> (first | assumption | omega | (simp [*]; done))), (by (try dsimp only) <;> (first | assumption | omega | (simp [*]; done)))⟩
    · have le : lastF a b = last.toNat := by rw [lastF, show pre a b = first.toNat from fe, q2]; first | rw [pre_endA (by rw [revD_len]; omega), Nat.add_zero] | rw [pre_endB (by rw [revD_len]; omega), Nat.add_zero] | rw [pre_stop (revD_get (k := last.toNat) ‹a[Int.toNat _]? = some _› (by omega) (by omega)) (revD_get (k := last.toNat) ‹b[Int.toNat _]? = some _› (by omega) (by omega)) un, Nat.add_zero]
      refine hF _ _ ?_
      conv => cbv
      refine r_draw m (by kernel_rfl) ?_
      conv => cbv
      refine r_slenS (u := a) m.sY (by omega) fun n7 hn7 => ?_   -- n7 = length of a
      conv => cbv
      refine r_subf m.sY (by omega) (by omega) fun r9 hr9 => ?_
      conv => cbv
      refine r_sslice (u := a) (i := first) (j := r9) m.sY (by omega) (by omega) (by first | omega | (simp only [List.length_cons, List.length_nil]; omega) | (simp; omega)) fun old_2 hold_2 => ?_   -- old_2 = a[first:r9]
      have eo : old_2 = midF a (firstF a b) (lastF a b) := by rw [hold_2, midF, fe, le]; exact congrArg (fun z => List.drop _ (List.take z a)) (by omega)
      have lold_2 : (old_2.length : Int) = r9 - first := by rw [hold_2]; first | done | (simp; done) | (simp; omega)
      conv => cbv
      refine r_slenS (u := b) m.sY (by omega) fun n8 hn8 => ?_   -- n8 = length of b
      conv => cbv
      refine r_subf m.sY (by omega) (by omega) fun r10 hr10 => ?_
      conv => cbv
      refine r_sslice (u := b) (i := first) (j := r10) m.sY (by omega) (by omega) (by first | omega | (simp only [List.length_cons, List.length_nil]; omega) | (simp; omega)) fun new_2 hnew_2 => ?_   -- new_2 = b[first:r10]
      have en : new_2 = midF b (firstF a b) (lastF a b) := by rw [hnew_2, midF, fe, le]; exact congrArg (fun z => List.drop _ (List.take z b)) (by omega)
      have lnew_2 : (new_2.length : Int) = r10 - first := by rw [hnew_2]; first | done | (simp; done) | (simp; omega)
      conv => cbv
      exact hE0 _ (first, [], old_2, new_2) (by cbv) (by (try dsimp only); (try simp only [rows_cons, rows_nil]); cbv) ⟨(by (try dsimp only) <;> (first | assumption | omega | (simp [*]; done))), (by (try dsimp only) <;> (first | assumption | omega | (simp [*]; done))), (by (try dsimp only) <;> (first | assumption | omega | (simp [*]; done))), (by (try dsimp only) <;> (first | assumption | omega | (simp [*]; done))), (by (try dsimp only) <;> (first | assumption | omega | (simp [*]; done))), (by (try dsimp only) <;> (first | assumption | omega | (simp [*]; done)))⟩
  · have le : lastF a b = last.toNat := by rw [lastF, show pre a b = first.toNat from fe, q2]; first | rw [pre_endA (by rw [revD_len]; omega), Nat.add_zero] | rw [pre_endB (by rw [revD_len]; omega), Nat.add_zero] | rw [pre_stop (revD_get (k := last.toNat) ‹a[Int.toNat _]? = some _› (by omega) (by omega)) (revD_get (k := last.toNat) ‹b[Int.toNat _]? = some _› (by omega) (by omega)) un, Nat.add_zero]
    refine hF _ _ ?_
    conv => cbv
    refine r_draw m (by kernel_rfl) ?_
    conv => cbv
    refine r_slenS (u := a) m.sY (by omega) fun n9 hn9 => ?_   -- n9 = length of a
    conv => cbv
    refine r_subf m.sY (by omega) (by omega) fun r11 hr11 => ?_
    conv => cbv
    refine r_sslice (u := a) (i := first) (j := r11) m.sY (by omega) (by omega) (by first | omega | (simp only [List.length_cons, List.length_nil]; omega) | (simp; omega)) fun old_3 hold_3 => ?_   -- old_3 = a[first:r11]
    have eo : old_3 = midF a (firstF a b) (lastF a b) := by rw [hold_3, midF, fe, le]; exact congrArg (fun z => List.drop _ (List.take z a)) (by omega)
    have lold_3 : (old_3.length : Int) = r11 - first := by rw [hold_3]; first | done | (simp; done) | (simp; omega)
    conv => cbv
    refine r_slenS (u := b) m.sY (by omega) fun n10 hn10 => ?_   -- n10 = length of b
    conv => cbv
    refine r_subf m.sY (by omega) (by omega) fun r12 hr12 => ?_
    conv => cbv
    refine r_sslice (u := b) (i := first) (j := r12) m.sY (by omega) (by omega) (by first | omega | (simp only [List.length_cons, List.length_nil]; omega) | (simp; omega)) fun new_3 hnew_3 => ?_   -- new_3 = b[first:r12]
    have en : new_3 = midF b (firstF a b) (lastF a b) := by rw [hnew_3, midF, fe, le]; exact congrArg (fun z => List.drop _ (List.take z b)) (by omega)
    have lnew_3 : (new_3.length : Int) = r12 - first := by rw [hnew_3]; first | done | (simp; done) | (simp; omega)
    conv => cbv
    exact hE0 _ (first, [], old_3, new_3) (by cbv) (by (try dsimp only); (try simp only [rows_cons, rows_nil]); cbv) ⟨(by (try dsimp only) <;> (first | assumption | omega | (simp [*]; done))), (by (try dsimp only) <;> (first | assumption | omega | (simp [*]; done))), (by (try dsimp only) <;> (first | assumption | omega | (simp [*]; done))), (by (try dsimp only) <;> (first | assumption | omega | (simp [*]; done))), (by (try dsimp only) <;> (first | assumption | omega | (simp [*]; done))), (by (try dsimp only) <;> (first | assumption | omega | (simp [*]; done)))⟩

theorem between_part3 (m : Mach Try.prog G κ X Y L) (a : List UInt8) (b : List UInt8) (la : lineB a = true) (lb : lineB b = true) (hQ : (∀ r, unnilT 44 4 r = .fr 44 4 (rows cMark (betF a b)) → Q r)) (first : Int) (marks : List Mark) (old : List UInt8) (new : List UInt8) (fe : firstF a b = first.toNat) (fb : (0 ≤ first ∧ first ≤ a.length) ∧ first ≤ b.length) (eo : old = midF a (firstF a b) (lastF a b)) (en : new = midF b (firstF a b) (lastF a b)) (mn : marks = []) (lo : old.length ≤ 40 ∧ new.length ≤ 40) :
    Ai.code X L G (rest 4 (rest 3 (Try.f46.body.getD .skip))) (EndsIn (post G Try.f46.results.toList Q)) (St.at 135 [(5, .int .i64 first), (7, .osl 57 0), (8, .str old), (9, .str new)] [(57, 0, .row 44 4 (rows cMark marks))]) := by
  conv => cbv
  have qa := line_len la
  have qb := line_len lb
  refine r_loopF (α := List Mark × Nat) m 135 [5, 8, 9] [⟨7, 57, 44, 4, 0⟩, ⟨81, 649, 0, 0, 0⟩] (fun σ => [(5, .int .i64 first), (7, .osl 57 0), (8, .str old), (9, .str new), (81, .optr 649 0 0 0 0)]) (fun σ => [(57, 0, .row 44 4 (rows cMark σ.1)), (649, 0, .iter old σ.2)])
    (fun σ => (σ.2 ≤ old.length) ∧ (betF a b = σ.1 ++ diffF (first + ((σ.2 : Nat) : Int)) (old.drop σ.2) (new.drop σ.2)) ∧ ((σ.1.length : Int) ≤ (σ.2 : Int))) (fun σ => old.length - σ.2) (marks, 0) ?_ ?_ ?_ ?_
  · cbv
  · cbv
  · exact ⟨(by (try dsimp only); first | omega | (simp only [List.length_nil]; omega) | (simp only [List.length_cons, List.length_nil]; omega)), (by (try dsimp only) <;> (rw [mn, List.nil_append, betF, ← eo, ← en, fe]; exact congrArg (fun z => diffF z old new) (by omega))), (by (try dsimp only) <;> (rw [mn]; simp))⟩
  rintro ⟨marks_2, p1⟩ ⟨lp3, q3, lm⟩ E hE F hF
  dsimp only at lp3 q3 lm
  conv => cbv
  refine r_snext (u := old) (p := p1) m.sX (fun hp1 => ?_) (fun x1 hx1 => ⟨by exact low_mid la (eo ▸ hx1), fun i1 c1 hi1 hc1 => ?_⟩) <;> conv => cbv
  · have dz_p1 := drop_end (xs := old) (i := p1) (by omega)
    have tz_p1 := take_end (xs := old) (i := p1) (by omega)
    refine hF _ _ ?_
    conv => cbv
    refine r_slen (u := new) m.sX fun n1 hn1 mn1 => ?_   -- n1 = length of new
    conv => cbv
    refine r_slen (u := old) m.sX fun n2 hn2 mn2 => ?_   -- n2 = length of old
    conv => cbv
    refine r_gtr m.sX (fun h1 => ?_) (fun h1 => ?_) <;> conv => cbv
    · refine r_slen (u := old) m.sX fun n3 hn3 mn3 => ?_   -- n3 = length of old
      conv => cbv
      refine r_addf m.sX (by omega) (by omega) fun r1 hr1 => ?_
      conv => cbv
      refine r_slen (u := old) m.sX fun n4 hn4 mn4 => ?_   -- n4 = length of old
      conv => cbv
      refine r_sslice' (u := new) (i := n4) m.sX (by omega) (by first | omega | (simp only [List.length_cons, List.length_nil]; omega) | (simp; omega)) fun s1 hs1 => ?_   -- s1 = new[n4:]
      have ls1 : (s1.length : Int) = new.length - n4 := by rw [hs1]; first | done | (simp; done) | (simp; omega)
      conv => cbv
      refine r_append1 ((0, r1, 2, s1)) m.sX rfl (by first | omega | (dsimp only; omega)) (by first | omega | (dsimp only; omega)) fun marks_3 hmarks_3 => ?_
      conv => cbv
      have lmarks_3 : (marks_3.length : Int) = marks_2.length + 1 := by rw [hmarks_3]; first | done | (simp; done) | (simp; omega)
      exact hQ (.fr 44 4 (rows cMark marks_3)) (Eq.trans (by first | rfl | (simp only [lb, lbI, rows_cons, rows_nil, unnilT, unnil, unnilTI, unnilI]; done) | (simp only [lb, lbI, rows_cons, rows_nil, unnilT, unnil, unnilTI, unnilI]; rfl)) (congrArg (fun l => PV.fr 44 4 (rows cMark l)) (show marks_3 = betF a b from by first | exact (q3.trans (step_ins (by assumption) (by assumption) (by omega) (by omega) (by omega) (by omega))).symm | exact (q3.trans (step_end (by omega) (by omega))).symm)))   -- leaf 1
    · exact hQ (.fr 44 4 (rows cMark marks_2)) (Eq.trans (by first | rfl | (simp only [lb, lbI, rows_cons, rows_nil, unnilT, unnil, unnilTI, unnilI]; done) | (simp only [lb, lbI, rows_cons, rows_nil, unnilT, unnil, unnilTI, unnilI]; rfl)) (congrArg (fun l => PV.fr 44 4 (rows cMark l)) (show marks_2 = betF a b from by first | exact (q3.trans (step_ins (by assumption) (by assumption) (by omega) (by omega) (by omega) (by omega))).symm | exact (q3.trans (step_end (by omega) (by omega))).symm)))   -- leaf 2
  · have ltx1 := (List.getElem?_eq_some_iff.1 hx1).1
    have ti1 : Int.toNat i1 = p1 := by omega
    have gx1 : old[Int.toNat i1]? = some x1 := by rw [ti1]; exact hx1
    have dx1 := drop_cons hx1
    have kx1 := take_snoc hx1
    have mx1 := get_mem hx1
    have bc1 : 0 ≤ c1 ∧ c1 ≤ 255 := by have := x1.toNat_lt; omega
    have hx1_g := gx1
    refine r_slen (u := new) m.sX fun n5 hn5 mn5 => ?_   -- n5 = length of new
    conv => cbv
    refine r_geq m.sX (fun h2 => ?_) (fun h2 => ?_) <;> conv => cbv
    · refine r_addf m.sX (by omega) (by omega) fun r2 hr2 => ?_
      conv => cbv
      refine r_append1 ((0, r2, 1, [])) m.sX rfl (by first | omega | (dsimp only; omega)) (by first | omega | (dsimp only; omega)) fun marks_4 hmarks_4 => ?_
      conv => cbv
      have lmarks_4 : (marks_4.length : Int) = marks_2.length + 1 := by rw [hmarks_4]; first | done | (simp; done) | (simp; omega)
      refine hE _ (marks_4, p1 + 1) ?_ ?_ ⟨(by (try dsimp only); first | omega | (simp only [List.length_nil]; omega) | (simp only [List.length_cons, List.length_nil]; omega)), (by (try dsimp only) <;> (first | exact q3.trans (step_del hmarks_4 ‹old[p1]? = some _› (by omega) (by omega)) | exact q3.trans (step_rep hmarks_4 (by assumption) ‹old[p1]? = some _› un (by rw [← ti1]; assumption) (by omega)) | exact q3.trans (step_same ‹old[p1]? = some _› uq (by rw [← ti1]; assumption)))), (by (try dsimp only) <;> (omega))⟩ (by first | omega | (dsimp only; omega))
      · cbv
      · cbv
    · refine r_draw m (by kernel_rfl) ?_
      conv => cbv
      refine r_sidx (u := old) (i := i1) m.sY (by omega) (by first | omega | (simp only [List.length_cons, List.length_nil]; omega) | (simp; omega)) fun x2 hx2 c2 hc2 bc2 => ?_   -- x2 = old[i1]
      obtain rfl := Option.some.inj (hx1_g.symm.trans hx2)
      obtain rfl := hc1.trans hc2.symm
      conv => cbv
      refine r_sidx (u := new) (i := i1) m.sY (by omega) (by first | omega | (simp only [List.length_cons, List.length_nil]; omega) | (simp; omega)) fun x3 hx3 c3 hc3 bc3 => ?_   -- x3 = new[i1]
      have dx3 := drop_cons hx3
      have kx3 := take_snoc hx3
      have jx3 : (i1 + 1).toNat = Int.toNat i1 + 1 := by omega
      conv => cbv
      refine r_neq m.sY (fun h3 => ?_) (fun h3 => ?_) <;> conv => cbv
      · have un := c8_ne hc1 hc3 h3
        refine r_addf m.sX (by omega) (by omega) fun r3 hr3 => ?_
        conv => cbv
        refine r_addf m.sX (by omega) (by omega) fun r4 hr4 => ?_
        conv => cbv
        refine r_sslice (u := new) (i := i1) (j := r4) m.sX (by omega) (by omega) (by first | omega | (simp only [List.length_cons, List.length_nil]; omega) | (simp; omega)) fun s2 hs2 => ?_   -- s2 = new[i1:r4]
        have ls2 : (s2.length : Int) = r4 - i1 := by rw [hs2]; first | done | (simp; done) | (simp; omega)
        try have ws2 := slice_one hx3 (by omega) (by omega) hs2
        conv => cbv
        refine r_append1 ((0, r3, 3, s2)) m.sX rfl (by first | omega | (dsimp only; omega)) (by first | omega | (dsimp only; omega)) fun marks_5 hmarks_5 => ?_
        conv => cbv
        have lmarks_5 : (marks_5.length : Int) = marks_2.length + 1 := by rw [hmarks_5]; first | done | (simp; done) | (simp; omega)
        refine hE _ (marks_5, p1 + 1) ?_ ?_ ⟨(by (try dsimp only); first | omega | (simp only [List.length_nil]; omega) | (simp only [List.length_cons, List.length_nil]; omega)), (by (try dsimp only) <;> (first | exact q3.trans (step_del hmarks_5 ‹old[p1]? = some _› (by omega) (by omega)) | exact q3.trans (step_rep hmarks_5 (by assumption) ‹old[p1]? = some _› un (by rw [← ti1]; assumption) (by omega)) | exact q3.trans (step_same ‹old[p1]? = some _› uq (by rw [← ti1]; assumption)))), (by (try dsimp only) <;> (omega))⟩ (by first | omega | (dsimp only; omega))
        · cbv
        · cbv
      · have uq := c8_eq hc1 hc3 h3
        refine hE _ (marks_2, p1 + 1) ?_ ?_ ⟨(by (try dsimp only); first | omega | (simp only [List.length_nil]; omega) | (simp only [List.length_cons, List.length_nil]; omega)), (by (try dsimp only) <;> (first | exact q3.trans (step_del hmarks_2 ‹old[p1]? = some _› (by omega) (by omega)) | exact q3.trans (step_rep hmarks_2 (by assumption) ‹old[p1]? = some _› un (by rw [← ti1]; assumption) (by omega)) | exact q3.trans (step_same ‹old[p1]? = some _› uq (by rw [← ti1]; assumption)))), (by (try dsimp only) <;> (omega))⟩ (by first | omega | (dsimp only; omega))
        · cbv
        · cbv

end
theorem between_ok (a : List UInt8) (b : List UInt8) (la : lineB a = true) (lb : lineB b = true) : OkA Try.prog 46 [.str a, .str b] (· = .fr 44 4 (rows cMark (betF a b))) :=
  OkA.unnil 44 4 (fn_introW envOk fieldsOk mixed Try.func46 rfl (c := Try.f46.body.getD .skip) rfl fun κ X Y L Q m hQ =>
    W_cut m 3 135 [0, 1, 5] [] (fun σ : Int => [(0, .str a), (1, .str b), (5, .int .i64 σ)]) (fun σ => []) (fun σ => (firstF a b = σ.toNat) ∧ ((0 ≤ σ ∧ σ ≤ a.length) ∧ σ ≤ b.length)) (between_part1 m a b la lb hQ) fun first ⟨fe, fb⟩ =>
    W_cut m 4 135 [5, 8, 9] [⟨7, 57, 44, 4, 0⟩] (fun σ : Int × List Mark × List UInt8 × List UInt8 => [(5, .int .i64 σ.1), (7, .osl 57 0), (8, .str σ.2.2.1), (9, .str σ.2.2.2)]) (fun σ => [(57, 0, .row 44 4 (rows cMark σ.2.1))]) (fun σ => (firstF a b = σ.1.toNat) ∧ ((0 ≤ σ.1 ∧ σ.1 ≤ a.length) ∧ σ.1 ≤ b.length) ∧ (σ.2.2.1 = midF a (firstF a b) (lastF a b)) ∧ (σ.2.2.2 = midF b (firstF a b) (lastF a b)) ∧ (σ.2.1 = []) ∧ (σ.2.2.1.length ≤ 40 ∧ σ.2.2.2.length ≤ 40)) (between_part2 m a b la lb hQ first fe fb) fun ⟨first, marks, old, new⟩ ⟨fe, fb, eo, en, mn, lo⟩ =>
    W_last m (between_part3 m a b la lb hQ first marks old new fe fb eo en mn lo))

end Go.Proofs.Ytngefbdedbbplaa.Ai
