/- Contracts behind the exact laws on what can be learnt within some months, and on who may do a job. -/
import Derived.Test.YtkdaikliahnenabNext
import Derived.Test.YtkdaikliahnenabRare
namespace Go.Proofs.Ytkdaikliahnenab.Ai
open Go Go.Proofs
set_option maxRecDepth 10000
set_option maxHeartbeats 4000000
set_option linter.unusedVariables false

def monthsAt (l : List Craft) (i : Int) : Int := match l[i.toNat]? with
  | some c => c.2
  | none => 0
theorem monthsAt_some {l : List Craft} {i : Int} {c : Craft} (h : l[i.toNat]? = some c) : monthsAt l i = c.2 := by rw [monthsAt, h]
def better (l : List Craft) (b i : Int) : Int := if b < 0 ∨ monthsAt l i < monthsAt l b then i else b
def bestF (l : List Craft) : List Int → Int → Int
  | [], b => b
  | i :: r, b => bestF l r (better l b i)
theorem bestF_in {l : List Craft} : ∀ {zs : List Int} {b : Int}, (∀ z ∈ zs, 0 ≤ z ∧ z < l.length) → -1 ≤ b ∧ b < l.length → -1 ≤ bestF l zs b ∧ bestF l zs b < l.length
  | [], b, _, hb => hb
  | i :: r, b, h, hb => by
    show -1 ≤ bestF l r (better l b i) ∧ bestF l r (better l b i) < l.length
    refine bestF_in (zs := r) (b := better l b i) (fun z hz => h z (by simp [hz])) ?_
    unfold better
    have := h i (by simp)
    split <;> omega
theorem goodFrom_in : ∀ {i : Int} {cs : List Craft}, goodFrom i cs = true → ∀ c ∈ cs, 1 ≤ c.2 ∧ c.2 ≤ 60
  | _, [], _, c, hc => by cases hc
  | i, (a, b) :: r, h, c, hc => by
    simp only [goodFrom, Bool.and_eq_true] at h
    rcases List.mem_cons.1 hc with rfl | hc
    · exact inB_spec h.1.2
    · exact goodFrom_in h.2 c hc
theorem months_in {l : List Craft} {set : List Int} {k : Nat} {c : Craft} (h : asked l set = true) (hc : l[k]? = some c) : 1 ≤ c.2 ∧ c.2 ≤ 60 := by
  simp only [asked, good, Bool.and_eq_true] at h
  exact goodFrom_in h.1.1 c (List.mem_of_getElem? hc)
theorem nextF_in {l : List Craft} {set : List Int} : ∀ z ∈ nextF l set, 0 ≤ z ∧ z < l.length := by
  intro z hz
  obtain ⟨hz, _⟩ := List.mem_filter.1 hz
  obtain ⟨j, hj, rfl⟩ := List.mem_map.1 hz
  have := List.mem_range.1 hj
  omega
theorem nextF_congr {l : List Craft} {a b : List Int} (h : ∀ i, has a i = has b i) : nextF l a = nextF l b := by
  unfold nextF nextT
  refine List.filter_congr fun i _ => ?_
  rw [h i]
  congr 1
  unfold ready
  split
  · unfold hasAll
    congr 1
    funext n
    exact h n
  · rfl
def learnG (l : List Craft) : Nat → List Int → Int → List Int
  | 0, _, _ => []
  | f + 1, now, mo => if bestF l (nextF l now) (-1) < 0 ∨ monthsAt l (bestF l (nextF l now) (-1)) > mo then [] else bestF l (nextF l now) (-1) :: learnG l f (now ++ [bestF l (nextF l now) (-1)]) (mo - monthsAt l (bestF l (nextF l now) (-1)))
theorem learnG_succ (l : List Craft) (f : Nat) (now : List Int) (mo : Int) : learnG l (f + 1) now mo = if bestF l (nextF l now) (-1) < 0 ∨ monthsAt l (bestF l (nextF l now) (-1)) > mo then [] else bestF l (nextF l now) (-1) :: learnG l f (now ++ [bestF l (nextF l now) (-1)]) (mo - monthsAt l (bestF l (nextF l now) (-1))) := rfl
theorem has_app (a : List Int) (b i : Int) : has (a ++ [b]) i = (has a i || decide (b = i)) := by simp [has, List.any_append]
theorem learnG_congr {l : List Craft} : ∀ (f : Nat) {a b : List Int} {mo : Int}, (∀ i, has a i = has b i) → learnG l f a mo = learnG l f b mo
  | 0, _, _, _, _ => rfl
  | f + 1, a, b, mo, h => by
    rw [learnG, learnG, nextF_congr h]
    split
    · rfl
    · refine congrArg (List.cons _) (learnG_congr f fun i => ?_)
      rw [has_app, has_app, h i]
def learnAns (l : List Craft) (set : List Int) (mo : Int) : List Int × Bool := if asked l set && inB mo 0 600 then (learnG l 601 set mo, true) else ([], false)
theorem learnAns_pos {l : List Craft} {set : List Int} {mo : Int} (h1 : asked l set = true) (h2 : inB mo 0 600 = true) : learnAns l set mo = (learnG l 601 set mo, true) := by rw [learnAns, h1, h2]; rfl
theorem learnG_len {l : List Craft} : ∀ (f : Nat) (a : List Int) (mo : Int), (learnG l f a mo).length ≤ f
  | 0, _, _ => Nat.le_refl _
  | f + 1, a, mo => by
    rw [learnG]
    split
    · simp
    · have := learnG_len (l := l) f (a ++ [bestF l (nextF l a) (-1)]) (mo - monthsAt l (bestF l (nextF l a) (-1)))
      simp only [List.length_cons]; omega
theorem learnAns_len (l : List Craft) (set : List Int) (mo : Int) : (learnAns l set mo).1.length ≤ 601 := by
  unfold learnAns
  split
  · exact learnG_len _ _ _
  · simp
/-- A number put into a list of rising numbers. -/
def putF (l : List Int) (n : Int) : List Int := if (l.dropWhile fun x => decide (x < n)).head? = some n then l else l.takeWhile (fun x => decide (x < n)) ++ n :: l.dropWhile fun x => decide (x < n)
theorem has_put (l : List Int) (n i : Int) : has (putF l n) i = (has l i || decide (n = i)) := by
  unfold putF
  split
  · rename_i h
    have hm : n ∈ l := by
      have := List.takeWhile_append_dropWhile (p := fun x => decide (x < n)) (l := l)
      rw [← this]
      exact List.mem_append_right _ (List.mem_of_mem_head? h)
    by_cases e : n = i
    · subst e
      have : has l n = true := by simp only [has, List.any_eq_true, decide_eq_true_eq]; exact ⟨n, hm, rfl⟩
      simp [this]
    · simp [e]
  · have := List.takeWhile_append_dropWhile (p := fun x => decide (x < n)) (l := l)
    have e : has l i = has (l.takeWhile (fun x => decide (x < n)) ++ l.dropWhile fun x => decide (x < n)) i := by rw [this]
    rw [e]
    simp only [has, List.any_append, List.any_cons]
    cases (List.any (List.takeWhile (fun x => decide (x < n)) l) fun x => decide (x = i)) <;> cases (List.any (List.dropWhile (fun x => decide (x < n)) l) fun x => decide (x = i)) <;> simp
theorem put_at {l : List Int} {n : Int} : ∀ {k : Nat}, (∀ z ∈ l.take k, z < n) → (∀ x, l[k]? = some x → n ≤ x) → l.takeWhile (fun x => decide (x < n)) = l.take k ∧ l.dropWhile (fun x => decide (x < n)) = l.drop k := by
  induction l with
  | nil => intro k _ _; simp
  | cons a r ih =>
    intro k h1 h2
    cases k with
    | zero =>
      have := h2 a rfl
      simp only [List.take_zero, List.drop_zero]
      rw [List.takeWhile_cons, List.dropWhile_cons, decide_eq_false (by omega)]
      exact ⟨rfl, rfl⟩
    | succ k =>
      have ha : a < n := h1 a (by simp)
      obtain ⟨e1, e2⟩ := ih (k := k) (fun z hz => h1 z (by simp [hz])) fun x hx => h2 x (by simpa using hx)
      simp only [List.take_succ_cons, List.drop_succ_cons]
      rw [List.takeWhile_cons, List.dropWhile_cons, decide_eq_true ha, if_pos rfl, if_pos rfl, e1, e2]
      exact ⟨rfl, rfl⟩
theorem put_same {l : List Int} {n : Int} {k : Nat} (h1 : ∀ z ∈ l.take k, z < n) (h2 : l[k]? = some n) : putF l n = l := by
  obtain ⟨_, e⟩ := put_at h1 fun x hx => by rw [h2] at hx; obtain rfl := Option.some.inj hx; omega
  unfold putF
  rw [e, if_pos (by rw [List.head?_drop]; exact h2)]
theorem put_new {l : List Int} {n : Int} {k : Nat} (h1 : ∀ z ∈ l.take k, z < n) (h2 : ∀ x, l[k]? = some x → n < x) : putF l n = l.take k ++ n :: l.drop k := by
  obtain ⟨e1, e2⟩ := put_at h1 fun x hx => by have := h2 x hx; omega
  unfold putF
  rw [e1, e2, if_neg]
  rw [List.head?_drop]
  intro h
  have := h2 n h
  omega
theorem put_len (l : List Int) (n : Int) : (putF l n).length ≤ l.length + 1 := by
  unfold putF
  split
  · omega
  · have := congrArg List.length (List.takeWhile_append_dropWhile (p := fun x => decide (x < n)) (l := l))
    simp only [List.length_append, List.length_cons] at this ⊢
    omega
def whoAns (l : List Craft) (ps : List (List Int)) (c : Int) : List Int × Bool := if goodP l ps && inB c 0 (l.length - 1) then (whoF ps c, true) else ([], false)
theorem whoAns_len (l : List Craft) (ps : List (List Int)) (c : Int) : (whoAns l ps c).1.length ≤ 6 := by
  unfold whoAns
  split
  · rename_i h
    simp only [Bool.and_eq_true] at h
    exact Nat.le_trans (whoFrom_length c 0 ps) (goodP_le h.1)
  · simp
theorem l1OwnI_ok (l : List Int) (hl : l.length ≤ 1099511627776) : OkA Try.prog 128 [.isl 1 (rows cInt l)] (· = .isl 1 (rows cInt l)) := (l1Own_ok l hl).ice
theorem put_none {l : List Int} {n : Int} {k : Nat} (h1 : ∀ z ∈ l.take k, z < n) (h : l.length ≤ k) : putF l n = l.take k ++ n :: l.drop k := put_new h1 fun x hx => by rw [List.getElem?_eq_none h] at hx; cases hx
theorem put_some {l : List Int} {n : Int} {k : Nat} {x : Int} (h1 : ∀ z ∈ l.take k, z < n) (h : l[k]? = some x) (hx : n < x) : putF l n = l.take k ++ n :: l.drop k := put_new h1 fun y hy => by rw [h] at hy; obtain rfl := Option.some.inj hy; exact hx
theorem l1Put_ok (l : List Int) (n : Int) (hl : l.length ≤ 100000000) : OkA Try.prog 105 [.isl 1 (rows cInt l), .int .i64 n] (· = .isl 1 (rows cInt (putF l n))) :=
  OkA.iceI 1 (fn_intro envOk fieldsOk mixed Try.func105 rfl fun κ X Y L Q m hQ => by
    conv => cbv
    refine r_loopF (α := Int) m 48 [0, 1, 5] [] (fun σ => [(0, .isl 1 (rows cInt l)), (1, .int .i64 n), (5, .int .i64 σ)]) (fun σ => [])
      (fun σ => (0 ≤ σ ∧ σ ≤ l.length) ∧ (∀ z ∈ l.take σ.toNat, z < n)) (fun σ => (l.length - σ).toNat) 0 ?_ ?_ ?_ ?_
    · cbv
    · cbv
    · exact ⟨(by (try dsimp only) <;> (omega)), (by (try dsimp only) <;> (intro z hz; simp at hz))⟩
    rintro k ⟨kb, q⟩ E hE F hF
    conv => cbv
    refine r_lenR m.sX fun n1 hn1 mn1 => ?_
    conv => cbv
    refine r_lss m.sX (fun h1 => ?_) (fun h1 => ?_) <;> conv => cbv
    · refine r_index m.sX (by omega) (by omega) fun x1 hx1 => ?_
      conv => cbv
      have mx1 := get_mem hx1
      have vx1 := nth_some hx1
      refine r_lss m.sX (fun h2 => ?_) (fun h2 => ?_) <;> conv => cbv
      · refine r_addf m.sX (by omega) (by omega) fun k_2 hk_2 => ?_
        conv => cbv
        refine hE _ k_2 ?_ ?_ ⟨(by (try dsimp only) <;> (omega)), (by (try dsimp only) <;> (intro z hz; rw [show k_2.toNat = k.toNat + 1 by omega, List.take_add_one, hx1] at hz; simp only [Option.toList_some, List.mem_append, List.mem_singleton] at hz; rcases hz with hz | hz; (exact q z hz); omega))⟩ (by first | omega | (dsimp only; omega))
        · cbv
        · cbv
      · refine hF _ _ ?_
        conv => cbv
        refine r_lenR m.sX fun n2 hn2 mn2 => ?_
        conv => cbv
        refine r_lss m.sX (fun h3 => ?_) (fun h3 => ?_) <;> conv => cbv
        · refine r_index m.sX (by omega) (by omega) fun x2 hx2 => ?_
          conv => cbv
          have mx2 := get_mem hx2
          have vx2 := nth_some hx2
          obtain rfl : x1 = x2 := Option.some.inj (hx1.symm.trans hx2)
          refine r_eql m.sX (fun h4 => ?_) (fun h4 => ?_) <;> conv => cbv
          · exact hQ (.isl 1 (rows cInt l)) (Eq.trans (by first | rfl | (simp only [lb, lbI, rows_cons, rows_nil, unnilT, unnil, unnilTI, unnilI]; done) | (simp only [lb, lbI, rows_cons, rows_nil, unnilT, unnil, unnilTI, unnilI]; rfl)) (congrArg (fun l => PV.isl 1 (rows cInt l)) (show l = putF l n from by first | exact (put_same q (by rw [hx1, h4])).symm | exact (put_same q (by rw [hx3, h6])).symm | (rw [put_some q hx1 (by omega)]; subst_vars; simp; done) | (rw [put_some q hx3 (by omega)]; subst_vars; simp; done) | (rw [put_none q (by omega)]; subst_vars; simp; done))))   -- leaf 1
          · refine r_islice (i := 0) (j := k) m.sX (by omega) (by omega) (by omega) fun zs1 hzs1 => ?_   -- zs1 = l[None:k]
            have lzs1 : (zs1.length : Int) = k - 0 := by rw [hzs1]; first | done | (simp; done) | (simp; omega)
            conv => cbv
            refine r_append0R m.sX (by first | omega | (dsimp only; omega)) (by first | omega | (dsimp only; omega)) fun out hout => ?_
            conv => cbv
            have lout : (out.length : Int) = zs1.length := by rw [hout]; first | done | (simp; done) | (simp; omega)
            refine r_append1 (n) m.sX rfl (by first | omega | (dsimp only; omega)) (by first | omega | (dsimp only; omega)) fun out_2 hout_2 => ?_
            conv => cbv
            have lout_2 : (out_2.length : Int) = out.length + 1 := by rw [hout_2]; first | done | (simp; done) | (simp; omega)
            refine r_islice' (i := k) m.sX (by omega) (by omega) fun zs2 hzs2 => ?_   -- zs2 = l[k:None]
            have lzs2 : (zs2.length : Int) = l.length - k := by rw [hzs2]; first | done | (simp; done) | (simp; omega)
            conv => cbv
            refine r_append m.sX (by first | omega | (dsimp only; omega)) (by first | omega | (dsimp only; omega)) fun zs3 hzs3 => ?_
            conv => cbv
            have lzs3 : (zs3.length : Int) = out_2.length + zs2.length := by rw [hzs3]; first | done | (simp; done) | (simp; omega)
            exact hQ (.fr 3 1 (rows cInt zs3)) (Eq.trans (by first | rfl | (simp only [lb, lbI, rows_cons, rows_nil, unnilT, unnil, unnilTI, unnilI]; done) | (simp only [lb, lbI, rows_cons, rows_nil, unnilT, unnil, unnilTI, unnilI]; rfl)) (congrArg (fun l => PV.isl 1 (rows cInt l)) (show zs3 = putF l n from by first | exact (put_same q (by rw [hx1, h4])).symm | exact (put_same q (by rw [hx3, h6])).symm | (rw [put_some q hx1 (by omega)]; subst_vars; simp; done) | (rw [put_some q hx3 (by omega)]; subst_vars; simp; done) | (rw [put_none q (by omega)]; subst_vars; simp; done))))   -- leaf 2
        · refine r_islice (i := 0) (j := k) m.sX (by omega) (by omega) (by omega) fun zs4 hzs4 => ?_   -- zs4 = l[None:k]
          have lzs4 : (zs4.length : Int) = k - 0 := by rw [hzs4]; first | done | (simp; done) | (simp; omega)
          conv => cbv
          refine r_append0R m.sX (by first | omega | (dsimp only; omega)) (by first | omega | (dsimp only; omega)) fun out_3 hout_3 => ?_
          conv => cbv
          have lout_3 : (out_3.length : Int) = zs4.length := by rw [hout_3]; first | done | (simp; done) | (simp; omega)
          refine r_append1 (n) m.sX rfl (by first | omega | (dsimp only; omega)) (by first | omega | (dsimp only; omega)) fun out_4 hout_4 => ?_
          conv => cbv
          have lout_4 : (out_4.length : Int) = out_3.length + 1 := by rw [hout_4]; first | done | (simp; done) | (simp; omega)
          refine r_islice' (i := k) m.sX (by omega) (by omega) fun zs5 hzs5 => ?_   -- zs5 = l[k:None]
          have lzs5 : (zs5.length : Int) = l.length - k := by rw [hzs5]; first | done | (simp; done) | (simp; omega)
          conv => cbv
          refine r_append m.sX (by first | omega | (dsimp only; omega)) (by first | omega | (dsimp only; omega)) fun zs6 hzs6 => ?_
          conv => cbv
          have lzs6 : (zs6.length : Int) = out_4.length + zs5.length := by rw [hzs6]; first | done | (simp; done) | (simp; omega)
          exact hQ (.fr 3 1 (rows cInt zs6)) (Eq.trans (by first | rfl | (simp only [lb, lbI, rows_cons, rows_nil, unnilT, unnil, unnilTI, unnilI]; done) | (simp only [lb, lbI, rows_cons, rows_nil, unnilT, unnil, unnilTI, unnilI]; rfl)) (congrArg (fun l => PV.isl 1 (rows cInt l)) (show zs6 = putF l n from by first | exact (put_same q (by rw [hx1, h4])).symm | exact (put_same q (by rw [hx3, h6])).symm | (rw [put_some q hx1 (by omega)]; subst_vars; simp; done) | (rw [put_some q hx3 (by omega)]; subst_vars; simp; done) | (rw [put_none q (by omega)]; subst_vars; simp; done))))   -- leaf 3
    · refine hF _ _ ?_
      conv => cbv
      refine r_lenR m.sX fun n3 hn3 mn3 => ?_
      conv => cbv
      refine r_lss m.sX (fun h5 => ?_) (fun h5 => ?_) <;> conv => cbv
      · refine r_index m.sX (by omega) (by omega) fun x3 hx3 => ?_
        conv => cbv
        have mx3 := get_mem hx3
        have vx3 := nth_some hx3
        refine r_eql m.sX (fun h6 => ?_) (fun h6 => ?_) <;> conv => cbv
        · exact hQ (.isl 1 (rows cInt l)) (Eq.trans (by first | rfl | (simp only [lb, lbI, rows_cons, rows_nil, unnilT, unnil, unnilTI, unnilI]; done) | (simp only [lb, lbI, rows_cons, rows_nil, unnilT, unnil, unnilTI, unnilI]; rfl)) (congrArg (fun l => PV.isl 1 (rows cInt l)) (show l = putF l n from by first | exact (put_same q (by rw [hx1, h4])).symm | exact (put_same q (by rw [hx3, h6])).symm | (rw [put_some q hx1 (by omega)]; subst_vars; simp; done) | (rw [put_some q hx3 (by omega)]; subst_vars; simp; done) | (rw [put_none q (by omega)]; subst_vars; simp; done))))   -- leaf 4
        · refine r_islice (i := 0) (j := k) m.sX (by omega) (by omega) (by omega) fun zs7 hzs7 => ?_   -- zs7 = l[None:k]
          have lzs7 : (zs7.length : Int) = k - 0 := by rw [hzs7]; first | done | (simp; done) | (simp; omega)
          conv => cbv
          refine r_append0R m.sX (by first | omega | (dsimp only; omega)) (by first | omega | (dsimp only; omega)) fun out_5 hout_5 => ?_
          conv => cbv
          have lout_5 : (out_5.length : Int) = zs7.length := by rw [hout_5]; first | done | (simp; done) | (simp; omega)
          refine r_append1 (n) m.sX rfl (by first | omega | (dsimp only; omega)) (by first | omega | (dsimp only; omega)) fun out_6 hout_6 => ?_
          conv => cbv
          have lout_6 : (out_6.length : Int) = out_5.length + 1 := by rw [hout_6]; first | done | (simp; done) | (simp; omega)
          refine r_islice' (i := k) m.sX (by omega) (by omega) fun zs8 hzs8 => ?_   -- zs8 = l[k:None]
          have lzs8 : (zs8.length : Int) = l.length - k := by rw [hzs8]; first | done | (simp; done) | (simp; omega)
          conv => cbv
          refine r_append m.sX (by first | omega | (dsimp only; omega)) (by first | omega | (dsimp only; omega)) fun zs9 hzs9 => ?_
          conv => cbv
          have lzs9 : (zs9.length : Int) = out_6.length + zs8.length := by rw [hzs9]; first | done | (simp; done) | (simp; omega)
          exact hQ (.fr 3 1 (rows cInt zs9)) (Eq.trans (by first | rfl | (simp only [lb, lbI, rows_cons, rows_nil, unnilT, unnil, unnilTI, unnilI]; done) | (simp only [lb, lbI, rows_cons, rows_nil, unnilT, unnil, unnilTI, unnilI]; rfl)) (congrArg (fun l => PV.isl 1 (rows cInt l)) (show zs9 = putF l n from by first | exact (put_same q (by rw [hx1, h4])).symm | exact (put_same q (by rw [hx3, h6])).symm | (rw [put_some q hx1 (by omega)]; subst_vars; simp; done) | (rw [put_some q hx3 (by omega)]; subst_vars; simp; done) | (rw [put_none q (by omega)]; subst_vars; simp; done))))   -- leaf 5
      · refine r_islice (i := 0) (j := k) m.sX (by omega) (by omega) (by omega) fun zs10 hzs10 => ?_   -- zs10 = l[None:k]
        have lzs10 : (zs10.length : Int) = k - 0 := by rw [hzs10]; first | done | (simp; done) | (simp; omega)
        conv => cbv
        refine r_append0R m.sX (by first | omega | (dsimp only; omega)) (by first | omega | (dsimp only; omega)) fun out_7 hout_7 => ?_
        conv => cbv
        have lout_7 : (out_7.length : Int) = zs10.length := by rw [hout_7]; first | done | (simp; done) | (simp; omega)
        refine r_append1 (n) m.sX rfl (by first | omega | (dsimp only; omega)) (by first | omega | (dsimp only; omega)) fun out_8 hout_8 => ?_
        conv => cbv
        have lout_8 : (out_8.length : Int) = out_7.length + 1 := by rw [hout_8]; first | done | (simp; done) | (simp; omega)
        refine r_islice' (i := k) m.sX (by omega) (by omega) fun zs11 hzs11 => ?_   -- zs11 = l[k:None]
        have lzs11 : (zs11.length : Int) = l.length - k := by rw [hzs11]; first | done | (simp; done) | (simp; omega)
        conv => cbv
        refine r_append m.sX (by first | omega | (dsimp only; omega)) (by first | omega | (dsimp only; omega)) fun zs12 hzs12 => ?_
        conv => cbv
        have lzs12 : (zs12.length : Int) = out_8.length + zs11.length := by rw [hzs12]; first | done | (simp; done) | (simp; omega)
        exact hQ (.fr 3 1 (rows cInt zs12)) (Eq.trans (by first | rfl | (simp only [lb, lbI, rows_cons, rows_nil, unnilT, unnil, unnilTI, unnilI]; done) | (simp only [lb, lbI, rows_cons, rows_nil, unnilT, unnil, unnilTI, unnilI]; rfl)) (congrArg (fun l => PV.isl 1 (rows cInt l)) (show zs12 = putF l n from by first | exact (put_same q (by rw [hx1, h4])).symm | exact (put_same q (by rw [hx3, h6])).symm | (rw [put_some q hx1 (by omega)]; subst_vars; simp; done) | (rw [put_some q hx3 (by omega)]; subst_vars; simp; done) | (rw [put_none q (by omega)]; subst_vars; simp; done)))))   -- leaf 6

theorem isCraft_ok (l : List Craft) (i : Int)  : OkA Try.prog 120 [.isl 2 (rows cCraft l), .int .i64 i] (· = .bool (inB i 0 (l.length - 1))) :=
  fn_intro envOk fieldsOk mixed Try.func120 rfl fun κ X Y L Q m hQ => by
    conv => cbv
    refine r_lenR m.sX fun n1 hn1 mn1 => ?_
    conv => cbv
    refine r_subf m.sX (by omega) (by omega) fun r1 hr1 => ?_
    conv => cbv
    refine r_callB m.sX (within_ok i 0 r1) (fun h1 => ?_) (fun h1 => ?_) <;> conv => cbv
    · exact hQ _ (congrArg PV.bool (by first | rfl | omega | (simp [*]; done) | (subst_vars; simp [*]; done)))   -- leaf 1
    · exact hQ _ (congrArg PV.bool (by first | rfl | omega | (simp [*]; done) | (subst_vars; simp [*]; done)))   -- leaf 2

theorem specWhoMay_ok (l : List Craft) (people : List (List Int)) (craft : Int)  : OkA Try.prog 55 [.isl 2 (rows cCraft l), .isl 1 (rows (cSl 1 cInt) people), .int .i64 craft] (· = (lb 3 1 cInt) (whoAns l people craft)) :=
  OkA.unnil 3 1 (fn_intro envOk fieldsOk mixed Try.func55 rfl fun κ X Y L Q m hQ => by
    conv => cbv
    refine r_callB m.sX (apPeople_ok l people) (fun h1 => ?_) (fun h1 => ?_) <;> conv => cbv
    · have pl := goodP_le h1
      refine r_lenR m.sX fun n1 hn1 mn1 => ?_
      conv => cbv
      refine r_subf m.sX (by omega) (by omega) fun r1 hr1 => ?_
      conv => cbv
      refine r_callB m.sX (l1In_ok craft 0 r1) (fun h2 => ?_) (fun h2 => ?_) <;> conv => cbv
      · refine r_callF (fun l => PV.fr _ _ (rows _ l)) m.sX (apWho_ok people craft (by omega)) fun v1 hv1 => ?_
        conv => cbv
        exact hQ (.tup [.fr 3 1 (rows cInt v1), .bool true]) (Eq.trans (by first | rfl | (simp only [lb, lbI, rows_cons, rows_nil, unnilT, unnil, unnilTI, unnilI]; done) | (simp only [lb, lbI, rows_cons, rows_nil, unnilT, unnil, unnilTI, unnilI]; rfl)) (congrArg ((lb 3 1 cInt)) (show (v1, true) = whoAns l people craft from by first | (rw [whoAns, h1, show (l.length : Int) - 1 = r1 by omega, h2, hv1]; rfl) | (rw [whoAns, h1, show (l.length : Int) - 1 = r1 by omega, h2]; rfl) | (rw [whoAns, h1]; rfl))))   -- leaf 1
      · exact hQ (.tup [.nil, .bool false]) (Eq.trans (by first | rfl | (simp only [lb, lbI, rows_cons, rows_nil, unnilT, unnil, unnilTI, unnilI]; done) | (simp only [lb, lbI, rows_cons, rows_nil, unnilT, unnil, unnilTI, unnilI]; rfl)) (congrArg ((lb 3 1 cInt)) (show ([], false) = whoAns l people craft from by first | (rw [whoAns, h1, show (l.length : Int) - 1 = r1 by omega, h2, hv1]; rfl) | (rw [whoAns, h1, show (l.length : Int) - 1 = r1 by omega, h2]; rfl) | (rw [whoAns, h1]; rfl))))   -- leaf 2
    · exact hQ (.tup [.nil, .bool false]) (Eq.trans (by first | rfl | (simp only [lb, lbI, rows_cons, rows_nil, unnilT, unnil, unnilTI, unnilI]; done) | (simp only [lb, lbI, rows_cons, rows_nil, unnilT, unnil, unnilTI, unnilI]; rfl)) (congrArg ((lb 3 1 cInt)) (show ([], false) = whoAns l people craft from by first | (rw [whoAns, h1, show (l.length : Int) - 1 = r1 by omega, h2, hv1]; rfl) | (rw [whoAns, h1, show (l.length : Int) - 1 = r1 by omega, h2]; rfl) | (rw [whoAns, h1]; rfl)))))   -- leaf 3

theorem WhoMay_ok (l : List Craft) (people : List (List Int)) (craft : Int)  : OkA Try.prog 54 [.isl 2 (rows cCraft l), .isl 1 (rows (cSl 1 cInt) people), .int .i64 craft] (· = (lb 3 1 cInt) (whoAns l people craft)) :=
  OkA.unnil 3 1 (fn_intro envOk fieldsOk mixed Try.func54 rfl fun κ X Y L Q m hQ => by
    conv => cbv
    refine r_callB m.sX (arePeople_ok l people) (fun h1 => ?_) (fun h1 => ?_) <;> conv => cbv
    · have pl := goodP_le h1
      refine r_callB m.sX (isCraft_ok l craft) (fun h2 => ?_) (fun h2 => ?_) <;> conv => cbv
      · refine r_callF (fun l => PV.fr _ _ (rows _ l)) m.sX (whoMay_ok people craft (by omega)) fun v1 hv1 => ?_
        conv => cbv
        exact hQ (.tup [.fr 3 1 (rows cInt v1), .bool true]) (Eq.trans (by first | rfl | (simp only [lb, lbI, rows_cons, rows_nil, unnilT, unnil, unnilTI, unnilI]; done) | (simp only [lb, lbI, rows_cons, rows_nil, unnilT, unnil, unnilTI, unnilI]; rfl)) (congrArg ((lb 3 1 cInt)) (show (v1, true) = whoAns l people craft from by first | (rw [whoAns, h1, h2, hv1]; rfl) | (rw [whoAns, h1, h2]; rfl) | (rw [whoAns, h1]; rfl))))   -- leaf 1
      · exact hQ (.tup [.fr 3 1 [], .bool false]) (Eq.trans (by first | rfl | (simp only [lb, lbI, rows_cons, rows_nil, unnilT, unnil, unnilTI, unnilI]; done) | (simp only [lb, lbI, rows_cons, rows_nil, unnilT, unnil, unnilTI, unnilI]; rfl)) (congrArg ((lb 3 1 cInt)) (show ([], false) = whoAns l people craft from by first | (rw [whoAns, h1, h2, hv1]; rfl) | (rw [whoAns, h1, h2]; rfl) | (rw [whoAns, h1]; rfl))))   -- leaf 2
    · exact hQ (.tup [.fr 3 1 [], .bool false]) (Eq.trans (by first | rfl | (simp only [lb, lbI, rows_cons, rows_nil, unnilT, unnil, unnilTI, unnilI]; done) | (simp only [lb, lbI, rows_cons, rows_nil, unnilT, unnil, unnilTI, unnilI]; rfl)) (congrArg ((lb 3 1 cInt)) (show ([], false) = whoAns l people craft from by first | (rw [whoAns, h1, h2, hv1]; rfl) | (rw [whoAns, h1, h2]; rfl) | (rw [whoAns, h1]; rfl)))))   -- leaf 3

end Go.Proofs.Ytkdaikliahnenab.Ai
