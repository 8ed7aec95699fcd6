/- Contracts of the functions on marks: rows joined, heights left. -/
import Derived.Test.YtalookmhhkojeaaEvenT
import Derived.Test.YtalookmhhkojeaaCommon
namespace Go.Proofs.Ytalookmhhkojeaa.Ai
open Go Go.Proofs
set_option linter.unusedSimpArgs false
set_option maxRecDepth 10000
set_option maxHeartbeats 4000000
set_option linter.unusedVariables false
/-- Rows of one length, with entries that are not too great. -/
def Wide (B : Int) (l : List (List Int)) : Prop := l.length ≤ 24 ∧ ∃ W : Nat, W ≤ 6 ∧ ∀ r ∈ l, r.length = W ∧ ∀ z ∈ r, 0 ≤ z ∧ z ≤ B
theorem wide_of {l : List (List Int)} (h : parB l = true) : Wide 200 l := by
  obtain ⟨p1, p2⟩ := parB_spec h
  refine ⟨p2, ?_⟩
  cases l with
  | nil => exact ⟨0, by omega, fun r hr => (by cases hr)⟩
  | cons a t =>
    have ha := p1 a (by simp)
    exact ⟨a.length, ha.2.2.1, fun r hr => ⟨by have := (p1 r hr).1; omega, (p1 r hr).2.2.2⟩⟩
theorem wide_join {B : Int} {l : List (List Int)} {m : Nat} (h : Wide B l) (hm : m + 1 < l.length) : Wide (2 * B) (joinF l m) := by
  obtain ⟨hl, W, hW, hr⟩ := h
  refine ⟨by rw [join_length hm]; omega, W, hW, fun r hr2 => ?_⟩
  have a1 := hr _ (List.getElem_mem (show m < l.length by omega))
  have a2 := hr _ (List.getElem_mem hm)
  have e1 : rowAt l m = l[m] := rowAt_some (List.getElem?_eq_getElem (by omega))
  have e2 : rowAt l (m + 1) = l[m + 1] := rowAt_some (List.getElem?_eq_getElem hm)
  unfold joinF at hr2
  rcases List.mem_append.1 hr2 with hm2 | hm2
  · have := hr r (List.mem_of_mem_take hm2)
    exact ⟨this.1, fun z hz => by have := this.2 z hz; omega⟩
  · rcases List.mem_cons.1 hm2 with rfl | hm2
    · rw [e1, e2]
      refine ⟨by unfold addR; rw [List.length_zipWith]; omega, fun z hz => ?_⟩
      obtain ⟨x, hx, y, hy, rfl⟩ := mem_addR hz
      have := a1.2 x hx; have := a2.2 y hy
      omega
    · have := hr r (List.mem_of_mem_drop hm2)
      exact ⟨this.1, fun z hz => by have := this.2 z hz; omega⟩
theorem wide_mono {A B : Int} {l : List (List Int)} (h : Wide A l) (hab : A ≤ B) : Wide B l := by
  obtain ⟨hl, W, hW, hr⟩ := h
  exact ⟨hl, W, hW, fun r h => ⟨(hr r h).1, fun z hz => by have := (hr r h).2 z hz; omega⟩⟩
theorem marks_drop {n : Nat} {ms : List Int} (h : MarksOk n ms) (k : Nat) : MarksOk n (ms.drop k) := ⟨h.1.sublist (List.drop_sublist _ _), fun m hm => h.2 m (List.mem_of_mem_drop hm)⟩
theorem wide_left {l : List (List Int)} (h : Wide 200 l) : ∀ (ms : List Int), MarksOk l.length ms → ms.length ≤ 4 → Wide (200 * 2 ^ ms.length) (leftL l ms) ∧ ∀ m r, ms = m :: r → m.toNat + 1 < (leftL l r).length
  | [], _, _ => ⟨by show Wide (200 * 2 ^ 0) l; simpa using h, fun m r e => (by cases e)⟩
  | m :: r, ho, hl => by
    have hr := marks_drop ho 1
    have ih := (wide_left h r hr (by simp at hl; omega)).1
    have b := (left_le (m :: r) l ho).2
    have a := (left_le r l hr).2
    have hm := ho.2 m (by simp)
    have key : m.toNat + 1 < (leftL l r).length := by
      have room : ∀ (r : List Int) (m : Int), (m :: r).Pairwise (· < ·) → (∀ x ∈ m :: r, x + 1 < l.length) → m + 1 + r.length < l.length := by
        intro r
        induction r with
        | nil => intro m _ hx; have := hx m (by simp); simp; omega
        | cons b s ih =>
          intro m hp hx
          have hp' := List.pairwise_cons.1 hp
          have := hp'.1 b (by simp)
          have := ih b hp'.2 (fun x h => hx x (by simp at h ⊢; exact .inr h))
          simp at this ⊢; omega
      have := room r m ho.1 (fun x hx => (ho.2 x hx).2)
      rw [a]; omega
    refine ⟨?_, fun m' r' e => by cases e; exact key⟩
    have := wide_join ih key
    rw [List.length_cons, Int.pow_succ, ← Int.mul_assoc, Int.mul_comm _ 2]
    exact this
theorem wide_rows {B : Int} {l : List (List Int)} (h : Wide B l) (hB : B ≤ 100000) {i j : Nat} {x y : List Int} (hx : l[i]? = some x) (hy : l[j]? = some y) : x.length = y.length ∧ x.length ≤ 1000 ∧ (∀ z ∈ x, 0 ≤ z ∧ z ≤ 100000) ∧ ∀ z ∈ y, 0 ≤ z ∧ z ≤ 100000 := by
  obtain ⟨hl, W, hW, hr⟩ := h
  have a1 := hr x (List.mem_of_getElem? hx)
  have a2 := hr y (List.mem_of_getElem? hy)
  exact ⟨by omega, by omega, fun z hz => by have := a1.2 z hz; omega, fun z hz => by have := a2.2 z hz; omega⟩
theorem hasNumber_ok (l : List Int) (n : Int)  : OkA Try.prog 104 [.isl 1 (rows cInt l), .int .i64 n] (· = .bool (decide (n ∈ l))) :=
  fn_intro envOk fieldsOk mixed Try.func104 rfl fun κ X Y L Q m hQ => by
    conv => cbv
    refine r_lenR m.sX fun n1 hn1 mn1 => ?_
    conv => cbv
    refine r_loopF (α := Int) m 17 [1, 7, 8, 9] [] (fun σ => [(1, .int .i64 n), (7, .isl 1 (rows cInt l)), (8, .int .i64 n1), (9, .int .i64 σ)]) (fun σ => [])
      (fun σ => (0 ≤ σ) ∧ (σ ≤ n1) ∧ (decide (n ∈ l) = decide (n ∈ l.drop σ.toNat))) (fun σ => (n1 - σ).toNat) 0 ?_ ?_ ?_ ?_
    · cbv
    · cbv
    · exact ⟨(by (try dsimp only); first | omega | (simp only [List.length_nil]; omega) | (simp only [List.length_cons, List.length_nil]; omega)), (by (try dsimp only); first | omega | (simp only [List.length_nil]; omega) | (simp only [List.length_cons, List.length_nil]; omega)), (by (try dsimp only) <;> first | omega | rfl | (simp [*]; done))⟩
    rintro i1 ⟨lo1, hi1, q⟩ E hE F hF
    conv => cbv
    refine r_lss m.sX (fun h1 => ?_) (fun h1 => ?_) <;> conv => cbv
    · refine r_index m.sX (by omega) (by omega) fun x hx => ?_
      conv => cbv
      have mx := get_mem hx
      have dx := drop_cons hx
      have kx := take_snoc hx
      have jx : (i1 + 1).toNat = Int.toNat i1 + 1 := by omega
      have vx := nth_some hx
      refine r_eql m.sX (fun h2 => ?_) (fun h2 => ?_) <;> conv => cbv
      · refine hF _ _ ?_
        conv => cbv
        exact hQ _ (congrArg PV.bool (by rw [q]; simp [*]))   -- leaf 1
      · refine r_addf m.sX (by omega) (by omega) fun r1 hr1 => ?_
        conv => cbv
        try have tr1 : Int.toNat r1 = Int.toNat i1 + 1 := by omega
        refine hE _ r1 ?_ ?_ ⟨(by (try dsimp only); first | omega | (simp only [List.length_nil]; omega) | (simp only [List.length_cons, List.length_nil]; omega)), (by (try dsimp only); first | omega | (simp only [List.length_nil]; omega) | (simp only [List.length_cons, List.length_nil]; omega)), (by (try dsimp only) <;> (rw [q, dx, tr1]; simp [Ne.symm h2]))⟩ (by first | omega | (dsimp only; omega))
        · cbv
        · cbv
    · have dz_i1 := drop_end (xs := l) (i := Int.toNat i1) (by omega)
      have tz_i1 := take_end (xs := l) (i := Int.toNat i1) (by omega)
      refine hF _ _ ?_
      conv => cbv
      exact hQ _ (congrArg PV.bool (by rw [q]; simp [*]))   -- leaf 2

theorem plJoin_ok (l : List (List Int)) (i : Int) (hp : Wide 1600 l) (hi : 0 ≤ i ∧ i + 1 < l.length) : OkA Try.prog 128 [.isl 1 (rows (cSl 1 cInt) l), .int .i64 i] (· = .isl 1 (rows (cSl 1 cInt) (joinF l i.toNat))) :=
  OkA.iceI 1 (fn_intro envOk fieldsOk mixed Try.func128 rfl fun κ X Y L Q m hQ => by
    have hl4 := hp.1
    conv => cbv
    refine r_index m.sX (by omega) (by omega) fun x1 hx1 => ?_
    conv => cbv
    have mx1 := get_mem hx1
    obtain ⟨y, hy⟩ := get_ex (xs := l) (i := i.toNat + 1) (by omega)
    obtain ⟨j1, j2, j3, j4⟩ := wide_rows hp (by omega) hx1 hy
    refine r_lenR m.sX fun n1 hn1 mn1 => ?_
    conv => cbv
    refine r_loopF (α := List Int × Int) m 47 [0, 1, 12, 13, 14] [⟨5, 41, 3, 1, 0⟩] (fun σ => [(0, .isl 1 (rows (cSl 1 cInt) l)), (1, .int .i64 i), (5, .osl 41 0), (12, .isl 1 (rows cInt x1)), (13, .int .i64 n1), (14, .int .i64 σ.2)]) (fun σ => [(41, 0, .row 3 1 (rows cInt σ.1))])
      (fun σ => (0 ≤ σ.2) ∧ (σ.2 ≤ n1) ∧ (σ.1 = addR (x1.take σ.2.toNat) (y.take σ.2.toNat)) ∧ ((σ.1.length : Int) ≤ σ.2)) (fun σ => (n1 - σ.2).toNat) ([], 0) ?_ ?_ ?_ ?_
    · cbv
    · (try dsimp only); (try simp only [rows_cons, rows_nil]); cbv
    · exact ⟨(by (try dsimp only); first | omega | (simp only [List.length_nil]; omega) | (simp only [List.length_cons, List.length_nil]; omega)), (by (try dsimp only); first | omega | (simp only [List.length_nil]; omega) | (simp only [List.length_cons, List.length_nil]; omega)), (by (try dsimp only) <;> (rfl)), (by (try dsimp only) <;> first | omega | rfl | (simp [*]; done))⟩
    rintro ⟨both, i1⟩ ⟨lo1, hi1, q, ll⟩ E hE F hF
    dsimp only at lo1 hi1 q ll
    conv => cbv
    refine r_lss m.sX (fun h1 => ?_) (fun h1 => ?_) <;> conv => cbv
    · refine r_index m.sX (by omega) (by omega) fun n hn => ?_
      conv => cbv
      have mn := get_mem hn
      have dn := drop_cons hn
      have kn := take_snoc hn
      have jn : (i1 + 1).toNat = Int.toNat i1 + 1 := by omega
      have vn := nth_some hn
      have bn := j3 n mn
      refine r_addf m.sX (by omega) (by omega) fun r1 hr1 => ?_
      conv => cbv
      refine r_index m.sX (by omega) (by omega) fun x2 hx2 => ?_
      conv => cbv
      have mx2 := get_mem hx2
      have ey : x2 = y := (by rw [show Int.toNat r1 = i.toNat + 1 by omega] at hx2; exact Option.some.inj (hx2.symm.trans hy))
      have ly : x2.length = y.length := (by rw [ey])
      refine r_index m.sX (by omega) (by omega) fun x3 hx3 => ?_
      conv => cbv
      have mx3 := get_mem hx3
      have dx3 := drop_cons hx3
      have kx3 := take_snoc hx3
      have jx3 : (i1 + 1).toNat = Int.toNat i1 + 1 := by omega
      have vx3 := nth_some hx3
      have b3 := j4 x3 (by rw [← ey]; exact mx3)
      refine r_addf m.sX (by omega) (by omega) fun r2 hr2 => ?_
      conv => cbv
      refine r_append1 (r2) m.sX rfl (by first | omega | (dsimp only; omega)) (by first | omega | (dsimp only; omega)) fun both_2 hboth_2 => ?_
      conv => cbv
      have lboth_2 : (both_2.length : Int) = both.length + 1 := by rw [hboth_2]; first | done | (simp; done) | (simp; omega)
      refine r_addf m.sX (by omega) (by omega) fun r3 hr3 => ?_
      conv => cbv
      try have tr3 : Int.toNat r3 = Int.toNat i1 + 1 := by omega
      refine hE _ (both_2, r3) ?_ ?_ ⟨(by (try dsimp only); first | omega | (simp only [List.length_nil]; omega) | (simp only [List.length_cons, List.length_nil]; omega)), (by (try dsimp only); first | omega | (simp only [List.length_nil]; omega) | (simp only [List.length_cons, List.length_nil]; omega)), (by (try dsimp only) <;> (rw [hboth_2, q, tr3, addR_step hn (show y[i1.toNat]? = some x3 by rw [← ey]; exact hx3), hr2])), (by (try dsimp only) <;> first | omega | rfl | (simp [*]; done) | (rw [ll]; simp [*]; done))⟩ (by first | omega | (dsimp only; omega))
      · cbv
      · cbv
    · have dz_i1 := drop_end (xs := x1) (i := Int.toNat i1) (by omega)
      have tz_i1 := take_end (xs := x1) (i := Int.toNat i1) (by omega)
      refine hF _ _ ?_
      conv => cbv
      refine r_islice (i := 0) (j := i) m.sX (by omega) (by omega) (by omega) fun zs1 hzs1 => ?_   -- zs1 = l[None:i]
      have lzs1 : (zs1.length : Int) = i - 0 := by rw [hzs1]; first | done | (simp; done) | (simp; omega)
      have e1 : zs1 = l.take i.toNat := (by rw [hzs1]; simp)
      conv => cbv
      refine r_append0R m.sX (by first | omega | (dsimp only; omega)) (by first | omega | (dsimp only; omega)) fun out hout => ?_
      conv => cbv
      have lout : (out.length : Int) = zs1.length := by rw [hout]; first | done | (simp; done) | (simp; omega)
      refine r_drawT 5 m rfl rfl (by kernel_rfl) ?_
      conv => cbv
      refine r_append1 (both) m.sY rfl (by first | omega | (dsimp only; omega)) (by first | omega | (dsimp only; omega)) fun zs2 hzs2 => ?_
      conv => cbv
      have lzs2 : (zs2.length : Int) = out.length + 1 := by rw [hzs2]; first | done | (simp; done) | (simp; omega)
      refine r_addf m.sY (by omega) (by omega) fun r4 hr4 => ?_
      conv => cbv
      refine r_islice' (i := r4) m.sY (by omega) (by omega) fun zs3 hzs3 => ?_   -- zs3 = l[r4:None]
      have lzs3 : (zs3.length : Int) = l.length - r4 := by rw [hzs3]; first | done | (simp; done) | (simp; omega)
      have e3 : zs3 = l.drop (i.toNat + 2) := (by rw [hzs3, show r4.toNat = i.toNat + 2 by omega])
      conv => cbv
      refine r_append m.sY (by first | omega | (dsimp only; omega)) (by first | omega | (dsimp only; omega)) fun zs4 hzs4 => ?_
      conv => cbv
      have lzs4 : (zs4.length : Int) = zs2.length + zs3.length := by rw [hzs4]; first | done | (simp; done) | (simp; omega)
      exact hQ (.fr 27 1 (rows (cSl 1 cInt) zs4)) (Eq.trans (by first | rfl | (simp only [lb, lbI, rows_cons, rows_nil, unnilT, unnil, unnilTI, unnilI]; done) | (simp only [lb, lbI, rows_cons, rows_nil, unnilT, unnil, unnilTI, unnilI]; rfl)) (congrArg (fun l => PV.isl 1 (rows (cSl 1 cInt) l)) (show zs4 = joinF l i.toNat from by rw [joinF_at hx1 hy, hzs4, hzs2, hout, e1, e3, q, tz_i1, show y.take i1.toNat = y from List.take_of_length_le (by omega), List.append_assoc]; rfl))))   -- leaf 1

theorem joinedI_ok (a : List Int) (b : List Int) (hl : a.length = b.length) (hm : a.length ≤ 1000) (ha : ∀ z ∈ a, 0 ≤ z ∧ z ≤ 100000) (hb : ∀ z ∈ b, 0 ≤ z ∧ z ≤ 100000) : OkA Try.prog 105 [.isl 1 (rows cInt a), .isl 1 (rows cInt b)] (· = .isl 1 (rows cInt (addR a b))) :=
  OkA.iceI 1 ((joined_ok a b hl hm ha hb).mono fun r h => by rw [h]; rfl)
theorem left_drop {l : List (List Int)} {ms : List Int} {k : Nat} {x : Int} (hx : ms[k]? = some x) : leftL l (ms.drop k) = joinF (leftL l (ms.drop (k + 1))) x.toNat := by
  rw [drop_cons hx]; rfl
theorem left_all {l : List (List Int)} {ms : List Int} (h : MarksOk l.length ms) (hp : parB l = true) (h4 : ms.length ≤ 4) (k : Nat) : Wide 3200 (leftL l (ms.drop k)) ∧ (0 < k → k ≤ ms.length → Wide 1600 (leftL l (ms.drop k))) ∧ ∀ x, ms[k]? = some x → 0 ≤ x ∧ x.toNat + 1 < (leftL l (ms.drop (k + 1))).length := by
  have hw := wide_of hp
  have a := wide_left hw (ms.drop k) (marks_drop h k) (by rw [List.length_drop]; omega)
  have ht : ∀ j : Nat, (ms.drop k).length ≤ j → (200 : Int) * 2 ^ (ms.drop k).length ≤ 200 * 2 ^ j := fun j hj => by
    have : (2 : Nat) ^ (ms.drop k).length ≤ 2 ^ j := Nat.pow_le_pow_right (by omega) hj
    have : (2 : Int) ^ (ms.drop k).length ≤ 2 ^ j := by exact_mod_cast this
    omega
  refine ⟨wide_mono a.1 ?_, fun h0 h1 => wide_mono a.1 ?_, fun x hx => ⟨(h.2 x (List.mem_of_getElem? hx)).1, a.2 x _ (drop_cons hx)⟩⟩
  · have := ht 4 (by rw [List.length_drop]; omega); omega
  · have := ht 3 (by rw [List.length_drop]; omega); omega
theorem wide_total {l : List (List Int)} (h : Wide 3200 l) : (∀ r ∈ l, ∀ z ∈ r, z ≤ 4000) ∧ l.length ≤ 1000 := by
  obtain ⟨hl, W, hW, hr⟩ := h
  exact ⟨fun r hm z hz => by have := (hr r hm).2 z hz; omega, by omega⟩
theorem plLeft_ok (l : List (List Int)) (marks : List Int) (hp : parB l = true) (hm : MarksOk l.length marks) (h4 : marks.length ≤ 4) : OkA Try.prog 106 [.isl 1 (rows (cSl 1 cInt) l), .isl 1 (rows cInt marks)] (· = .int .i64 (leftF l marks)) :=
  fn_intro envOk fieldsOk mixed Try.func106 rfl fun κ X Y L Q m hQ => by
    have la := left_all hm hp h4
    conv => cbv
    refine r_lenR m.sX fun n1 hn1 mn1 => ?_
    conv => cbv
    refine r_subf m.sX (by omega) (by omega) fun n hn => ?_
    conv => cbv
    refine r_loopF (α := List (List Int) × Int) m 21 [0, 1, 5] [] (fun σ => [(0, .isl 1 (rows (cSl 1 cInt) σ.1)), (1, .isl 1 (rows cInt marks)), (5, .int .i64 σ.2)]) (fun σ => [])
      (fun σ => (-1 ≤ σ.2 ∧ σ.2 + 1 ≤ marks.length) ∧ (σ.1 = leftL l (marks.drop (σ.2 + 1).toNat))) (fun σ => (σ.2 + 1).toNat) (l, n) ?_ ?_ ?_ ?_
    · cbv
    · cbv
    · exact ⟨(by (try dsimp only) <;> first | omega | rfl | (simp [*]; done)), (by (try dsimp only) <;> (rw [List.drop_eq_nil_of_le (by omega)]; rfl))⟩
    rintro ⟨l_2, n_2⟩ ⟨nb, lq⟩ E hE F hF
    dsimp only at nb lq
    conv => cbv
    refine r_geq m.sX (fun h1 => ?_) (fun h1 => ?_) <;> conv => cbv
    · refine r_index m.sX (by omega) (by omega) fun x1 hx1 => ?_
      conv => cbv
      have mx1 := get_mem hx1
      have vx1 := nth_some hx1
      have en : (n_2 + 1).toNat = n_2.toNat + 1 := (by omega)
      rw [en] at lq
      have w1 := (la (n_2.toNat + 1)).2.1 (by omega) (by omega)
      rw [← lq] at w1
      have w2 := (la n_2.toNat).2.2 x1 hx1
      rw [← lq] at w2
      refine r_callF (fun l => PV.isl _ (rows _ l)) m.sX (plJoin_ok l_2 x1 (by first | rfl | assumption | omega | (simp only [List.length_append, List.length_cons, List.length_nil] at *; omega)) (by first | rfl | assumption | omega | (simp only [List.length_append, List.length_cons, List.length_nil] at *; omega))) fun l_3 hl_3 => ?_
      conv => cbv
      refine r_subf m.sX (by omega) (by omega) fun n_3 hn_3 => ?_
      conv => cbv
      refine hE _ (l_3, n_3) ?_ ?_ ⟨(by (try dsimp only) <;> first | omega | rfl | (simp [*]; done) | (rw [nb]; simp [*]; done)), (by (try dsimp only) <;> (rw [hl_3, lq, show (n_3 + 1).toNat = n_2.toNat by omega, left_drop hx1]))⟩ (by first | omega | (dsimp only; omega))
      · cbv
      · cbv
    · have e0 : l_2 = leftL l marks := (by rw [lq, show (n_2 + 1).toNat = 0 by omega, List.drop_zero])
      have wt := wide_total (la 0).1
      rw [List.drop_zero, ← e0] at wt
      obtain ⟨wt1, wt2⟩ := wt
      refine hF _ _ ?_
      conv => cbv
      refine r_callF (PV.int .i64) m.sX (plTotal_ok l_2 (by first | rfl | assumption | omega | (simp only [List.length_append, List.length_cons, List.length_nil] at *; omega)) (by first | rfl | assumption | omega | (simp only [List.length_append, List.length_cons, List.length_nil] at *; omega))) fun r1 hr1 => ?_
      conv => cbv
      exact hQ (.int .i64 r1) (Eq.trans (by first | rfl | (simp only [lb, lbI, rows_cons, rows_nil, unnilT, unnil, unnilTI, unnilI]; done) | (simp only [lb, lbI, rows_cons, rows_nil, unnilT, unnil, unnilTI, unnilI]; rfl)) (congrArg (PV.int .i64) (show r1 = leftF l marks from by rw [hr1, e0]; rfl)))   -- leaf 1

def hwT (ms : List Int) (l : List (List Int)) (i : Nat) : Int := match l.drop i with
  | [] => 0
  | r :: t => hwF ms i r t
theorem hwT_some {ms : List Int} {l : List (List Int)} {i : Nat} {x : List Int} (h : l[i]? = some x) : hwT ms l i = hwF ms i x (l.drop (i + 1)) := by
  unfold hwT; rw [drop_cons h]
theorem hwT_end {ms : List Int} {l : List (List Int)} {i : Nat} (h : l.length ≤ i) : hwT ms l i = 0 := by
  unfold hwT; rw [List.drop_eq_nil_of_le h]
theorem hwF_no {ms : List Int} {l : List (List Int)} {i : Nat} {row : List Int} (h : (i : Int) ∉ ms) : hwF ms i row (l.drop (i + 1)) = hiF row + hwT ms l (i + 1) := by
  unfold hwT
  cases l.drop (i + 1) with
  | nil => simp [hwF]
  | cons r t => rw [hw_cons, if_neg h]
theorem hwF_yes {ms : List Int} {l : List (List Int)} {i : Nat} {row x : List Int} (h : (i : Int) ∈ ms) (hx : l[i + 1]? = some x) : hwF ms i row (l.drop (i + 1)) = hwF ms (i + 1) (addR row x) (l.drop (i + 1 + 1)) := by
  rw [drop_cons hx, hw_cons, if_pos h]
/-- The part so far of a row. -/
def PartR (l : List (List Int)) (i : Int) (row : List Int) : Prop := (row.length : Int) = headP l ∧ ∀ z ∈ row, 0 ≤ z ∧ z ≤ 200 * (i + 1)
theorem partR_one {l : List (List Int)} (hp : parB l = true) {i : Int} (h0 : 0 ≤ i) {k : Nat} {x : List Int} (hx : l[k]? = some x) : PartR l i x := by
  have := (parB_spec hp).1 x (List.mem_of_getElem? hx)
  exact ⟨this.1, fun z hz => by have := this.2.2.2 z hz; omega⟩
theorem partR_add {l : List (List Int)} (hp : parB l = true) {i : Int} {row : List Int} (hr : PartR l i row) {k : Nat} {x : List Int} (hx : l[k]? = some x) : PartR l (i + 1) (addR row x) := by
  have p := (parB_spec hp).1 x (List.mem_of_getElem? hx)
  refine ⟨by have := hr.1; unfold addR; rw [List.length_zipWith]; omega, fun z hz => ?_⟩
  obtain ⟨a, ha, b, hb, rfl⟩ := mem_addR hz
  have := hr.2 a ha; have := p.2.2.2 b hb
  omega
theorem partR_hi {l : List (List Int)} {i : Int} {row : List Int} (h0 : 0 ≤ i) (hi : i < 24) (hr : PartR l i row) : 0 ≤ hiF row ∧ hiF row ≤ 5000 := ⟨(hiF_ge row).1, hiF_le (by omega) fun z hz => by have := hr.2 z hz; omega⟩
theorem heightWithout_ok (l : List (List Int)) (marks : List Int) (hp : parB l = true) (hm : ∀ m ∈ marks, 0 ≤ m ∧ m + 1 < l.length) : OkA Try.prog 64 [.isl 1 (rows (cSl 1 cInt) l), .isl 1 (rows cInt marks)] (· = .int .i64 (hwL l marks)) :=
  fn_intro envOk fieldsOk mixed Try.func64 rfl fun κ X Y L Q m hQ => by
    have hl4 := (parB_spec hp).2
    conv => cbv
    refine r_loopF (α := Int × Int) m 34 [0, 1, 5, 6] [] (fun σ => [(0, .isl 1 (rows (cSl 1 cInt) l)), (1, .isl 1 (rows cInt marks)), (5, .int .i64 σ.1), (6, .int .i64 σ.2)]) (fun σ => [])
      (fun σ => (0 ≤ σ.2 ∧ σ.2 ≤ l.length) ∧ (0 ≤ σ.1 ∧ σ.1 ≤ 5000 * σ.2) ∧ (σ.1 + hwT marks l σ.2.toNat = hwL l marks)) (fun σ => (l.length - σ.2).toNat) (0, 0) ?_ ?_ ?_ ?_
    · cbv
    · cbv
    · exact ⟨(by (try dsimp only) <;> first | omega | rfl | (simp [*]; done)), (by (try dsimp only) <;> first | omega | rfl | (simp [*]; done)), (by (try dsimp only) <;> (cases l <;> simp [hwT, hwL]))⟩
    rintro ⟨total, i⟩ ⟨ib, tb, tq⟩ E hE F hF
    dsimp only at ib tb tq
    conv => cbv
    refine r_lenR m.sX fun n1 hn1 mn1 => ?_
    conv => cbv
    refine r_lss m.sX (fun h1 => ?_) (fun h1 => ?_) <;> conv => cbv
    · refine r_index m.sX (by omega) (by omega) fun row hrow => ?_
      conv => cbv
      have mrow := get_mem hrow
      refine r_loopF (α := Int × List Int) m 34 [0, 1, 5, 6, 7] [] (fun σ => [(0, .isl 1 (rows (cSl 1 cInt) l)), (1, .isl 1 (rows cInt marks)), (5, .int .i64 total), (6, .int .i64 σ.1), (7, .isl 1 (rows cInt σ.2))]) (fun σ => [])
        (fun σ => (i ≤ σ.1 ∧ σ.1 < l.length) ∧ (PartR l σ.1 σ.2) ∧ (total + hwF marks σ.1.toNat σ.2 (l.drop (σ.1.toNat + 1)) = hwL l marks)) (fun σ => (l.length - σ.1).toNat) (i, row) ?_ ?_ ?_ ?_
      · cbv
      · cbv
      · exact ⟨(by (try dsimp only) <;> first | omega | rfl | (simp [*]; done)), (by (try dsimp only) <;> (exact partR_one hp ib.1 hrow)), (by (try dsimp only) <;> (rw [← hwT_some hrow]; exact tq))⟩
      rintro ⟨i_2, row_2⟩ ⟨jb, jr, rq⟩ E2 hE2 F2 hF2
      dsimp only at jb jr rq
      conv => cbv
      refine r_callB m.sX (hasNumber_ok marks i_2) (fun h2 => ?_) (fun h2 => ?_) <;> conv => cbv
      · have im : i_2 ∈ marks := (by simpa using h2)
        have hm2 := hm i_2 im
        refine r_addf m.sX (by omega) (by omega) fun i_3 hi_3 => ?_
        conv => cbv
        refine r_index m.sX (by omega) (by omega) fun x1 hx1 => ?_
        conv => cbv
        have mx1 := get_mem hx1
        have ex : l[i_2.toNat + 1]? = some x1 := (by rw [show i_2.toNat + 1 = i_3.toNat by omega]; exact hx1)
        have pa := partR_add hp jr ex
        have px := (parB_spec hp).1 x1 mx1
        have jr1 := jr.1
        have hjl : row_2.length = x1.length := (by omega)
        have hjm : row_2.length ≤ 1000 := (by omega)
        have hja : ∀ z ∈ row_2, 0 ≤ z ∧ z ≤ 100000 := fun z hz => (by have := jr.2 z hz; omega)
        have hjb : ∀ z ∈ x1, 0 ≤ z ∧ z ≤ 100000 := fun z hz => (by have := px.2.2.2 z hz; omega)
        refine r_callF (fun l => PV.isl _ (rows _ l)) m.sX (joinedI_ok row_2 x1 hjl hjm hja hjb) fun row_3 hrow_3 => ?_
        conv => cbv
        refine hE2 _ (i_3, row_3) ?_ ?_ ⟨(by (try dsimp only) <;> first | omega | rfl | (simp [*]; done) | (rw [jb]; simp [*]; done)), (by (try dsimp only) <;> (rw [hrow_3, hi_3]; exact pa)), (by (try dsimp only) <;> (rw [hrow_3, ← rq, hwF_yes (show ((i_2.toNat : Nat) : Int) ∈ marks by rw [show ((i_2.toNat : Nat) : Int) = i_2 by omega]; exact im) ex, show i_3.toNat = i_2.toNat + 1 by omega]))⟩ (by first | omega | (dsimp only; omega))
        · cbv
        · cbv
      · have im : ((i_2.toNat : Nat) : Int) ∉ marks := (by rw [show ((i_2.toNat : Nat) : Int) = i_2 by omega]; simpa using h2)
        have hrr := partR_hi (by omega) (by omega) jr
        refine hF2 _ _ ?_
        conv => cbv
        refine r_callF (PV.int .i64) m.sX (greatest_ok row_2) fun r1 hr1 => ?_
        conv => cbv
        refine r_addf m.sX (by omega) (by omega) fun total_2 htotal_2 => ?_
        conv => cbv
        refine r_addf m.sX (by omega) (by omega) fun i_4 hi_4 => ?_
        conv => cbv
        refine hE _ (total_2, i_4) ?_ ?_ ⟨(by (try dsimp only) <;> first | omega | rfl | (simp [*]; done) | (rw [ib]; simp [*]; done)), (by (try dsimp only) <;> first | omega | rfl | (simp [*]; done) | (rw [tb]; simp [*]; done)), (by (try dsimp only) <;> (rw [htotal_2, hr1, show i_4.toNat = i_2.toNat + 1 by omega, Int.add_assoc, ← hwF_no im]; exact rq))⟩ (by first | omega | (dsimp only; omega))
        · cbv
        · cbv
    · refine hF _ _ ?_
      conv => cbv
      exact hQ (.int .i64 total) (Eq.trans (by first | rfl | (simp only [lb, lbI, rows_cons, rows_nil, unnilT, unnil, unnilTI, unnilI]; done) | (simp only [lb, lbI, rows_cons, rows_nil, unnilT, unnil, unnilTI, unnilI]; rfl)) (congrArg (PV.int .i64) (show total = hwL l marks from by rw [← tq, hwT_end (by omega), Int.add_zero])))   -- leaf 1

end Go.Proofs.Ytalookmhhkojeaa.Ai
