/- Numbers that are put into a list of rising ones. -/
import Derived.Test.YtjmjepdlclehoaaCommon
import Derived.Test.YtjmjepdlclehoaaAiIceM
import Derived.Test.YtjmjepdlclehoaaLeastLaw
import Derived.Test.YtjmjepdlclehoaaSort0
import Derived.Test.YtjmjepdlclehoaaCast3
namespace Go.Proofs.Ytjmjepdlclehoaa.Ai
open Go Go.Proofs
set_option linter.unusedSimpArgs false
set_option maxRecDepth 10000
set_option maxHeartbeats 4000000
set_option linter.unusedVariables false
/-- A number put into a list of rising numbers. -/
def putF (l : List Int) (n : Int) : List Int := if (l.dropWhile fun x => decide (x < n)).head? = some n then l else l.takeWhile (fun x => decide (x < n)) ++ n :: l.dropWhile fun x => decide (x < n)
theorem put_at {l : List Int} {n : Int} : ∀ {k : Nat}, (∀ z ∈ l.take k, z < n) → (∀ x, l[k]? = some x → n ≤ x) → l.takeWhile (fun x => decide (x < n)) = l.take k ∧ l.dropWhile (fun x => decide (x < n)) = l.drop k := by
  induction l with
  | nil => intro k _ _; simp
  | cons a r ih =>
    intro k h1 h2
    cases k with
    | zero =>
      have := h2 a rfl
      simp only [List.take_zero, List.drop_zero]
      rw [List.takeWhile_cons, List.dropWhile_cons, decide_eq_false (by omega)]
      exact ⟨rfl, rfl⟩
    | succ k =>
      have ha : a < n := h1 a (by simp)
      obtain ⟨e1, e2⟩ := ih (k := k) (fun z hz => h1 z (by simp [hz])) fun x hx => h2 x (by simpa using hx)
      simp only [List.take_succ_cons, List.drop_succ_cons]
      rw [List.takeWhile_cons, List.dropWhile_cons, decide_eq_true ha, if_pos rfl, if_pos rfl, e1, e2]
      exact ⟨rfl, rfl⟩
theorem put_same {l : List Int} {n : Int} {k : Nat} (h1 : ∀ z ∈ l.take k, z < n) (h2 : l[k]? = some n) : putF l n = l := by
  obtain ⟨_, e⟩ := put_at h1 fun x hx => by rw [h2] at hx; obtain rfl := Option.some.inj hx; omega
  unfold putF
  rw [e, if_pos (by rw [List.head?_drop]; exact h2)]
theorem put_new {l : List Int} {n : Int} {k : Nat} (h1 : ∀ z ∈ l.take k, z < n) (h2 : ∀ x, l[k]? = some x → n < x) : putF l n = l.take k ++ n :: l.drop k := by
  obtain ⟨e1, e2⟩ := put_at h1 fun x hx => by have := h2 x hx; omega
  unfold putF
  rw [e1, e2, if_neg]
  rw [List.head?_drop]
  intro h
  have := h2 n h
  omega
theorem put_len (l : List Int) (n : Int) : (putF l n).length ≤ l.length + 1 := by
  unfold putF
  split
  · omega
  · have := congrArg List.length (List.takeWhile_append_dropWhile (p := fun x => decide (x < n)) (l := l))
    simp only [List.length_append, List.length_cons] at this ⊢
    omega
theorem put_sorted {l : List Int} {n : Int} (h : l.Pairwise (fun x y => x < y)) : (putF l n).Pairwise (fun x y => x < y) := by
  have e := List.takeWhile_append_dropWhile (p := fun x => decide (x < n)) (l := l)
  unfold putF
  split
  · exact h
  · rename_i hh
    have h' : (l.takeWhile (fun x => decide (x < n)) ++ l.dropWhile fun x => decide (x < n)).Pairwise (fun x y => x < y) := by rw [e]; exact h
    obtain ⟨h1, h2, h3⟩ := List.pairwise_append.1 h'
    have ht : ∀ a ∈ l.takeWhile (fun x => decide (x < n)), a < n := fun a ha => by
      have := List.all_takeWhile (p := fun x => decide (x < n)) (l := l)
      have := List.all_eq_true.1 this a ha
      simpa using this
    have hd : ∀ b ∈ l.dropWhile (fun x => decide (x < n)), n < b := by
      cases hq : l.dropWhile (fun x => decide (x < n)) with
      | nil => intro b hb; cases hb
      | cons y r =>
        rw [hq] at h2 hh
        have hy : ¬ (y < n) := by
          have := List.head?_dropWhile_not (p := fun x => decide (x < n)) l
          rw [hq] at this
          simpa using this
        have hne : y ≠ n := fun e => hh (by simp [e])
        intro b hb
        rcases List.mem_cons.1 hb with rfl | hb
        · omega
        · have := (List.pairwise_cons.1 h2).1 b hb
          omega
    refine List.pairwise_append.2 ⟨h1, List.pairwise_cons.2 ⟨hd, h2⟩, fun a ha b hb => ?_⟩
    rcases List.mem_cons.1 hb with rfl | hb
    · exact ht a ha
    · exact h3 a ha b hb

def putMs (ks : List Int) (n : Int) : List Int := if n ∈ ks then ks else ks ++ [n]
theorem put_perm {l : List Int} {n : Int} (h : n ∉ l) : (putF l n).Perm (l ++ [n]) := by
  unfold putF
  split
  · rename_i hh
    have := List.takeWhile_append_dropWhile (p := fun x => decide (x < n)) (l := l)
    exact absurd (this ▸ List.mem_append_right _ (List.mem_of_mem_head? hh)) h
  · have e := List.takeWhile_append_dropWhile (p := fun x => decide (x < n)) (l := l)
    refine List.perm_middle.trans ?_
    rw [e]
    exact (List.perm_append_comm (l₁ := [n]) (l₂ := l))
theorem put_none {l : List Int} {n : Int} {k : Nat} (h1 : ∀ z ∈ l.take k, z < n) (h : l.length ≤ k) : putF l n = l.take k ++ n :: l.drop k := put_new h1 fun x hx => by rw [List.getElem?_eq_none h] at hx; cases hx
theorem put_some {l : List Int} {n : Int} {k : Nat} {x : Int} (h1 : ∀ z ∈ l.take k, z < n) (h : l[k]? = some x) (hx : n < x) : putF l n = l.take k ++ n :: l.drop k := put_new h1 fun y hy => by rw [h] at hy; obtain rfl := Option.some.inj hy; exact hx
theorem l1Put_ok (l : List Int) (n : Int) (hl : l.length ≤ 100000000) : OkA Try.prog 106 [.isl 1 (rows cInt l), .int .i64 n] (· = .isl 1 (rows cInt (putF l n))) :=
  OkA.iceI 1 (fn_intro envOk fieldsOk mixed Try.func106 rfl fun κ X Y L Q m hQ => by
    conv => cbv
    refine r_loopF (α := Int) m 48 [0, 1, 5] [] (fun σ => [(0, .isl 1 (rows cInt l)), (1, .int .i64 n), (5, .int .i64 σ)]) (fun σ => [])
      (fun σ => (0 ≤ σ ∧ σ ≤ l.length) ∧ (∀ z ∈ l.take σ.toNat, z < n)) (fun σ => (l.length - σ).toNat) 0 ?_ ?_ ?_ ?_
    · cbv
    · cbv
    · exact ⟨(by (try dsimp only) <;> (omega)), (by (try dsimp only) <;> (intro z hz; simp at hz))⟩
    rintro k ⟨kb, q⟩ E hE F hF
    conv => cbv
    refine r_lenR m.sX fun n1 hn1 mn1 => ?_
    conv => cbv
    refine r_lss m.sX (fun h1 => ?_) (fun h1 => ?_) <;> conv => cbv
    · refine r_index m.sX (by omega) (by omega) fun x1 hx1 => ?_
      conv => cbv
      have mx1 := get_mem hx1
      have vx1 := nth_some hx1
      refine r_lss m.sX (fun h2 => ?_) (fun h2 => ?_) <;> conv => cbv
      · refine r_addf m.sX (by omega) (by omega) fun k_2 hk_2 => ?_
        conv => cbv
        refine hE _ k_2 ?_ ?_ ⟨(by (try dsimp only) <;> (omega)), (by (try dsimp only) <;> (intro z hz; rw [show k_2.toNat = k.toNat + 1 by omega, List.take_add_one, hx1] at hz; simp only [Option.toList_some, List.mem_append, List.mem_singleton] at hz; rcases hz with hz | hz; (exact q z hz); omega))⟩ (by first | omega | (dsimp only; omega))
        · cbv
        · cbv
      · refine hF _ _ ?_
        conv => cbv
        refine r_lenR m.sX fun n2 hn2 mn2 => ?_
        conv => cbv
        refine r_lss m.sX (fun h3 => ?_) (fun h3 => ?_) <;> conv => cbv
        · refine r_index m.sX (by omega) (by omega) fun x2 hx2 => ?_
          conv => cbv
          have mx2 := get_mem hx2
          have vx2 := nth_some hx2
          obtain rfl : x1 = x2 := Option.some.inj (hx1.symm.trans hx2)
          refine r_eql m.sX (fun h4 => ?_) (fun h4 => ?_) <;> conv => cbv
          · exact hQ (.isl 1 (rows cInt l)) (Eq.trans (by first | rfl | (simp only [lb, lbI, rows_cons, rows_nil, unnilT, unnil, unnilTI, unnilI]; done) | (simp only [lb, lbI, rows_cons, rows_nil, unnilT, unnil, unnilTI, unnilI]; rfl)) (congrArg (fun l => PV.isl 1 (rows cInt l)) (show l = putF l n from by first | exact (put_same q (by rw [hx1, h4])).symm | exact (put_same q (by rw [hx3, h6])).symm | (rw [put_some q hx1 (by omega)]; subst_vars; simp; done) | (rw [put_some q hx3 (by omega)]; subst_vars; simp; done) | (rw [put_none q (by omega)]; subst_vars; simp; done))))   -- leaf 1
          · refine r_islice (i := 0) (j := k) m.sX (by omega) (by omega) (by omega) fun zs1 hzs1 => ?_   -- zs1 = l[None:k]
            have lzs1 : (zs1.length : Int) = k - 0 := by rw [hzs1]; first | done | (simp; done) | (simp; omega)
            conv => cbv
            refine r_append0R m.sX (by first | omega | (dsimp only; omega)) (by first | omega | (dsimp only; omega)) fun out hout => ?_
            conv => cbv
            have lout : (out.length : Int) = zs1.length := by rw [hout]; first | done | (simp; done) | (simp; omega)
            refine r_append1 (n) m.sX rfl (by first | omega | (dsimp only; omega)) (by first | omega | (dsimp only; omega)) fun out_2 hout_2 => ?_
            conv => cbv
            have lout_2 : (out_2.length : Int) = out.length + 1 := by rw [hout_2]; first | done | (simp; done) | (simp; omega)
            refine r_islice' (i := k) m.sX (by omega) (by omega) fun zs2 hzs2 => ?_   -- zs2 = l[k:None]
            have lzs2 : (zs2.length : Int) = l.length - k := by rw [hzs2]; first | done | (simp; done) | (simp; omega)
            conv => cbv
            refine r_append m.sX (by first | omega | (dsimp only; omega)) (by first | omega | (dsimp only; omega)) fun zs3 hzs3 => ?_
            conv => cbv
            have lzs3 : (zs3.length : Int) = out_2.length + zs2.length := by rw [hzs3]; first | done | (simp; done) | (simp; omega)
            exact hQ (.fr 3 1 (rows cInt zs3)) (Eq.trans (by first | rfl | (simp only [lb, lbI, rows_cons, rows_nil, unnilT, unnil, unnilTI, unnilI]; done) | (simp only [lb, lbI, rows_cons, rows_nil, unnilT, unnil, unnilTI, unnilI]; rfl)) (congrArg (fun l => PV.isl 1 (rows cInt l)) (show zs3 = putF l n from by first | exact (put_same q (by rw [hx1, h4])).symm | exact (put_same q (by rw [hx3, h6])).symm | (rw [put_some q hx1 (by omega)]; subst_vars; simp; done) | (rw [put_some q hx3 (by omega)]; subst_vars; simp; done) | (rw [put_none q (by omega)]; subst_vars; simp; done))))   -- leaf 2
        · refine r_islice (i := 0) (j := k) m.sX (by omega) (by omega) (by omega) fun zs4 hzs4 => ?_   -- zs4 = l[None:k]
          have lzs4 : (zs4.length : Int) = k - 0 := by rw [hzs4]; first | done | (simp; done) | (simp; omega)
          conv => cbv
          refine r_append0R m.sX (by first | omega | (dsimp only; omega)) (by first | omega | (dsimp only; omega)) fun out_3 hout_3 => ?_
          conv => cbv
          have lout_3 : (out_3.length : Int) = zs4.length := by rw [hout_3]; first | done | (simp; done) | (simp; omega)
          refine r_append1 (n) m.sX rfl (by first | omega | (dsimp only; omega)) (by first | omega | (dsimp only; omega)) fun out_4 hout_4 => ?_
          conv => cbv
          have lout_4 : (out_4.length : Int) = out_3.length + 1 := by rw [hout_4]; first | done | (simp; done) | (simp; omega)
          refine r_islice' (i := k) m.sX (by omega) (by omega) fun zs5 hzs5 => ?_   -- zs5 = l[k:None]
          have lzs5 : (zs5.length : Int) = l.length - k := by rw [hzs5]; first | done | (simp; done) | (simp; omega)
          conv => cbv
          refine r_append m.sX (by first | omega | (dsimp only; omega)) (by first | omega | (dsimp only; omega)) fun zs6 hzs6 => ?_
          conv => cbv
          have lzs6 : (zs6.length : Int) = out_4.length + zs5.length := by rw [hzs6]; first | done | (simp; done) | (simp; omega)
          exact hQ (.fr 3 1 (rows cInt zs6)) (Eq.trans (by first | rfl | (simp only [lb, lbI, rows_cons, rows_nil, unnilT, unnil, unnilTI, unnilI]; done) | (simp only [lb, lbI, rows_cons, rows_nil, unnilT, unnil, unnilTI, unnilI]; rfl)) (congrArg (fun l => PV.isl 1 (rows cInt l)) (show zs6 = putF l n from by first | exact (put_same q (by rw [hx1, h4])).symm | exact (put_same q (by rw [hx3, h6])).symm | (rw [put_some q hx1 (by omega)]; subst_vars; simp; done) | (rw [put_some q hx3 (by omega)]; subst_vars; simp; done) | (rw [put_none q (by omega)]; subst_vars; simp; done))))   -- leaf 3
    · refine hF _ _ ?_
      conv => cbv
      refine r_lenR m.sX fun n3 hn3 mn3 => ?_
      conv => cbv
      refine r_lss m.sX (fun h5 => ?_) (fun h5 => ?_) <;> conv => cbv
      · refine r_index m.sX (by omega) (by omega) fun x3 hx3 => ?_
        conv => cbv
        have mx3 := get_mem hx3
        have vx3 := nth_some hx3
        refine r_eql m.sX (fun h6 => ?_) (fun h6 => ?_) <;> conv => cbv
        · exact hQ (.isl 1 (rows cInt l)) (Eq.trans (by first | rfl | (simp only [lb, lbI, rows_cons, rows_nil, unnilT, unnil, unnilTI, unnilI]; done) | (simp only [lb, lbI, rows_cons, rows_nil, unnilT, unnil, unnilTI, unnilI]; rfl)) (congrArg (fun l => PV.isl 1 (rows cInt l)) (show l = putF l n from by first | exact (put_same q (by rw [hx1, h4])).symm | exact (put_same q (by rw [hx3, h6])).symm | (rw [put_some q hx1 (by omega)]; subst_vars; simp; done) | (rw [put_some q hx3 (by omega)]; subst_vars; simp; done) | (rw [put_none q (by omega)]; subst_vars; simp; done))))   -- leaf 4
        · refine r_islice (i := 0) (j := k) m.sX (by omega) (by omega) (by omega) fun zs7 hzs7 => ?_   -- zs7 = l[None:k]
          have lzs7 : (zs7.length : Int) = k - 0 := by rw [hzs7]; first | done | (simp; done) | (simp; omega)
          conv => cbv
          refine r_append0R m.sX (by first | omega | (dsimp only; omega)) (by first | omega | (dsimp only; omega)) fun out_5 hout_5 => ?_
          conv => cbv
          have lout_5 : (out_5.length : Int) = zs7.length := by rw [hout_5]; first | done | (simp; done) | (simp; omega)
          refine r_append1 (n) m.sX rfl (by first | omega | (dsimp only; omega)) (by first | omega | (dsimp only; omega)) fun out_6 hout_6 => ?_
          conv => cbv
          have lout_6 : (out_6.length : Int) = out_5.length + 1 := by rw [hout_6]; first | done | (simp; done) | (simp; omega)
          refine r_islice' (i := k) m.sX (by omega) (by omega) fun zs8 hzs8 => ?_   -- zs8 = l[k:None]
          have lzs8 : (zs8.length : Int) = l.length - k := by rw [hzs8]; first | done | (simp; done) | (simp; omega)
          conv => cbv
          refine r_append m.sX (by first | omega | (dsimp only; omega)) (by first | omega | (dsimp only; omega)) fun zs9 hzs9 => ?_
          conv => cbv
          have lzs9 : (zs9.length : Int) = out_6.length + zs8.length := by rw [hzs9]; first | done | (simp; done) | (simp; omega)
          exact hQ (.fr 3 1 (rows cInt zs9)) (Eq.trans (by first | rfl | (simp only [lb, lbI, rows_cons, rows_nil, unnilT, unnil, unnilTI, unnilI]; done) | (simp only [lb, lbI, rows_cons, rows_nil, unnilT, unnil, unnilTI, unnilI]; rfl)) (congrArg (fun l => PV.isl 1 (rows cInt l)) (show zs9 = putF l n from by first | exact (put_same q (by rw [hx1, h4])).symm | exact (put_same q (by rw [hx3, h6])).symm | (rw [put_some q hx1 (by omega)]; subst_vars; simp; done) | (rw [put_some q hx3 (by omega)]; subst_vars; simp; done) | (rw [put_none q (by omega)]; subst_vars; simp; done))))   -- leaf 5
      · refine r_islice (i := 0) (j := k) m.sX (by omega) (by omega) (by omega) fun zs10 hzs10 => ?_   -- zs10 = l[None:k]
        have lzs10 : (zs10.length : Int) = k - 0 := by rw [hzs10]; first | done | (simp; done) | (simp; omega)
        conv => cbv
        refine r_append0R m.sX (by first | omega | (dsimp only; omega)) (by first | omega | (dsimp only; omega)) fun out_7 hout_7 => ?_
        conv => cbv
        have lout_7 : (out_7.length : Int) = zs10.length := by rw [hout_7]; first | done | (simp; done) | (simp; omega)
        refine r_append1 (n) m.sX rfl (by first | omega | (dsimp only; omega)) (by first | omega | (dsimp only; omega)) fun out_8 hout_8 => ?_
        conv => cbv
        have lout_8 : (out_8.length : Int) = out_7.length + 1 := by rw [hout_8]; first | done | (simp; done) | (simp; omega)
        refine r_islice' (i := k) m.sX (by omega) (by omega) fun zs11 hzs11 => ?_   -- zs11 = l[k:None]
        have lzs11 : (zs11.length : Int) = l.length - k := by rw [hzs11]; first | done | (simp; done) | (simp; omega)
        conv => cbv
        refine r_append m.sX (by first | omega | (dsimp only; omega)) (by first | omega | (dsimp only; omega)) fun zs12 hzs12 => ?_
        conv => cbv
        have lzs12 : (zs12.length : Int) = out_8.length + zs11.length := by rw [hzs12]; first | done | (simp; done) | (simp; omega)
        exact hQ (.fr 3 1 (rows cInt zs12)) (Eq.trans (by first | rfl | (simp only [lb, lbI, rows_cons, rows_nil, unnilT, unnil, unnilTI, unnilI]; done) | (simp only [lb, lbI, rows_cons, rows_nil, unnilT, unnil, unnilTI, unnilI]; rfl)) (congrArg (fun l => PV.isl 1 (rows cInt l)) (show zs12 = putF l n from by first | exact (put_same q (by rw [hx1, h4])).symm | exact (put_same q (by rw [hx3, h6])).symm | (rw [put_some q hx1 (by omega)]; subst_vars; simp; done) | (rw [put_some q hx3 (by omega)]; subst_vars; simp; done) | (rw [put_none q (by omega)]; subst_vars; simp; done)))))   -- leaf 6

theorem l1PutNew_ok (l : List Int) (n : Int) (hl : l.length ≤ 100000000) (hn : n ∉ l) : OkA Try.prog 106 [.isl 1 (rows cInt l), .int .i64 n] (· = .fr 3 1 (rows cInt (putF l n))) :=
  OkA.unnil 3 1 (fn_intro envOk fieldsOk mixed Try.func106 rfl fun κ X Y L Q m hQ => by
    conv => cbv
    refine r_loopF (α := Int) m 48 [0, 1, 5] [] (fun σ => [(0, .isl 1 (rows cInt l)), (1, .int .i64 n), (5, .int .i64 σ)]) (fun σ => [])
      (fun σ => (0 ≤ σ ∧ σ ≤ l.length) ∧ (∀ z ∈ l.take σ.toNat, z < n)) (fun σ => (l.length - σ).toNat) 0 ?_ ?_ ?_ ?_
    · cbv
    · cbv
    · exact ⟨(by (try dsimp only) <;> (omega)), (by (try dsimp only) <;> (intro z hz; simp at hz))⟩
    rintro k ⟨kb, q⟩ E hE F hF
    conv => cbv
    refine r_lenR m.sX fun n1 hn1 mn1 => ?_
    conv => cbv
    refine r_lss m.sX (fun h1 => ?_) (fun h1 => ?_) <;> conv => cbv
    · refine r_index m.sX (by omega) (by omega) fun x1 hx1 => ?_
      conv => cbv
      have mx1 := get_mem hx1
      have vx1 := nth_some hx1
      refine r_lss m.sX (fun h2 => ?_) (fun h2 => ?_) <;> conv => cbv
      · refine r_addf m.sX (by omega) (by omega) fun k_2 hk_2 => ?_
        conv => cbv
        refine hE _ k_2 ?_ ?_ ⟨(by (try dsimp only) <;> (omega)), (by (try dsimp only) <;> (intro z hz; rw [show k_2.toNat = k.toNat + 1 by omega, List.take_add_one, hx1] at hz; simp only [Option.toList_some, List.mem_append, List.mem_singleton] at hz; rcases hz with hz | hz; (exact q z hz); omega))⟩ (by first | omega | (dsimp only; omega))
        · cbv
        · cbv
      · refine hF _ _ ?_
        conv => cbv
        refine r_lenR m.sX fun n2 hn2 mn2 => ?_
        conv => cbv
        refine r_lss m.sX (fun h3 => ?_) (fun h3 => ?_) <;> conv => cbv
        · refine r_index m.sX (by omega) (by omega) fun x2 hx2 => ?_
          conv => cbv
          have mx2 := get_mem hx2
          have vx2 := nth_some hx2
          obtain rfl : x1 = x2 := Option.some.inj (hx1.symm.trans hx2)
          refine r_eql m.sX (fun h4 => ?_) (fun h4 => ?_) <;> conv => cbv
          · exfalso; exact hn (h4 ▸ mx1)   -- leaf 1
          · refine r_islice (i := 0) (j := k) m.sX (by omega) (by omega) (by omega) fun zs1 hzs1 => ?_   -- zs1 = l[None:k]
            have lzs1 : (zs1.length : Int) = k - 0 := by rw [hzs1]; first | done | (simp; done) | (simp; omega)
            conv => cbv
            refine r_append0R m.sX (by first | omega | (dsimp only; omega)) (by first | omega | (dsimp only; omega)) fun out hout => ?_
            conv => cbv
            have lout : (out.length : Int) = zs1.length := by rw [hout]; first | done | (simp; done) | (simp; omega)
            refine r_append1 (n) m.sX rfl (by first | omega | (dsimp only; omega)) (by first | omega | (dsimp only; omega)) fun out_2 hout_2 => ?_
            conv => cbv
            have lout_2 : (out_2.length : Int) = out.length + 1 := by rw [hout_2]; first | done | (simp; done) | (simp; omega)
            refine r_islice' (i := k) m.sX (by omega) (by omega) fun zs2 hzs2 => ?_   -- zs2 = l[k:None]
            have lzs2 : (zs2.length : Int) = l.length - k := by rw [hzs2]; first | done | (simp; done) | (simp; omega)
            conv => cbv
            refine r_append m.sX (by first | omega | (dsimp only; omega)) (by first | omega | (dsimp only; omega)) fun zs3 hzs3 => ?_
            conv => cbv
            have lzs3 : (zs3.length : Int) = out_2.length + zs2.length := by rw [hzs3]; first | done | (simp; done) | (simp; omega)
            exact hQ (.fr 3 1 (rows cInt zs3)) (Eq.trans (by first | rfl | (simp only [lb, lbI, rows_cons, rows_nil, unnilT, unnil, unnilTI, unnilI]; done) | (simp only [lb, lbI, rows_cons, rows_nil, unnilT, unnil, unnilTI, unnilI]; rfl)) (congrArg (fun l => PV.fr 3 1 (rows cInt l)) (show zs3 = putF l n from by first | (rw [put_some q hx1 (by omega)]; subst_vars; simp; done) | (rw [put_some q hx3 (by omega)]; subst_vars; simp; done) | (rw [put_none q (by omega)]; subst_vars; simp; done))))   -- leaf 2
        · refine r_islice (i := 0) (j := k) m.sX (by omega) (by omega) (by omega) fun zs4 hzs4 => ?_   -- zs4 = l[None:k]
          have lzs4 : (zs4.length : Int) = k - 0 := by rw [hzs4]; first | done | (simp; done) | (simp; omega)
          conv => cbv
          refine r_append0R m.sX (by first | omega | (dsimp only; omega)) (by first | omega | (dsimp only; omega)) fun out_3 hout_3 => ?_
          conv => cbv
          have lout_3 : (out_3.length : Int) = zs4.length := by rw [hout_3]; first | done | (simp; done) | (simp; omega)
          refine r_append1 (n) m.sX rfl (by first | omega | (dsimp only; omega)) (by first | omega | (dsimp only; omega)) fun out_4 hout_4 => ?_
          conv => cbv
          have lout_4 : (out_4.length : Int) = out_3.length + 1 := by rw [hout_4]; first | done | (simp; done) | (simp; omega)
          refine r_islice' (i := k) m.sX (by omega) (by omega) fun zs5 hzs5 => ?_   -- zs5 = l[k:None]
          have lzs5 : (zs5.length : Int) = l.length - k := by rw [hzs5]; first | done | (simp; done) | (simp; omega)
          conv => cbv
          refine r_append m.sX (by first | omega | (dsimp only; omega)) (by first | omega | (dsimp only; omega)) fun zs6 hzs6 => ?_
          conv => cbv
          have lzs6 : (zs6.length : Int) = out_4.length + zs5.length := by rw [hzs6]; first | done | (simp; done) | (simp; omega)
          exact hQ (.fr 3 1 (rows cInt zs6)) (Eq.trans (by first | rfl | (simp only [lb, lbI, rows_cons, rows_nil, unnilT, unnil, unnilTI, unnilI]; done) | (simp only [lb, lbI, rows_cons, rows_nil, unnilT, unnil, unnilTI, unnilI]; rfl)) (congrArg (fun l => PV.fr 3 1 (rows cInt l)) (show zs6 = putF l n from by first | (rw [put_some q hx1 (by omega)]; subst_vars; simp; done) | (rw [put_some q hx3 (by omega)]; subst_vars; simp; done) | (rw [put_none q (by omega)]; subst_vars; simp; done))))   -- leaf 3
    · refine hF _ _ ?_
      conv => cbv
      refine r_lenR m.sX fun n3 hn3 mn3 => ?_
      conv => cbv
      refine r_lss m.sX (fun h5 => ?_) (fun h5 => ?_) <;> conv => cbv
      · refine r_index m.sX (by omega) (by omega) fun x3 hx3 => ?_
        conv => cbv
        have mx3 := get_mem hx3
        have vx3 := nth_some hx3
        refine r_eql m.sX (fun h6 => ?_) (fun h6 => ?_) <;> conv => cbv
        · exfalso; omega   -- leaf 4
        · refine r_islice (i := 0) (j := k) m.sX (by omega) (by omega) (by omega) fun zs7 hzs7 => ?_   -- zs7 = l[None:k]
          have lzs7 : (zs7.length : Int) = k - 0 := by rw [hzs7]; first | done | (simp; done) | (simp; omega)
          conv => cbv
          refine r_append0R m.sX (by first | omega | (dsimp only; omega)) (by first | omega | (dsimp only; omega)) fun out_5 hout_5 => ?_
          conv => cbv
          have lout_5 : (out_5.length : Int) = zs7.length := by rw [hout_5]; first | done | (simp; done) | (simp; omega)
          refine r_append1 (n) m.sX rfl (by first | omega | (dsimp only; omega)) (by first | omega | (dsimp only; omega)) fun out_6 hout_6 => ?_
          conv => cbv
          have lout_6 : (out_6.length : Int) = out_5.length + 1 := by rw [hout_6]; first | done | (simp; done) | (simp; omega)
          refine r_islice' (i := k) m.sX (by omega) (by omega) fun zs8 hzs8 => ?_   -- zs8 = l[k:None]
          have lzs8 : (zs8.length : Int) = l.length - k := by rw [hzs8]; first | done | (simp; done) | (simp; omega)
          conv => cbv
          refine r_append m.sX (by first | omega | (dsimp only; omega)) (by first | omega | (dsimp only; omega)) fun zs9 hzs9 => ?_
          conv => cbv
          have lzs9 : (zs9.length : Int) = out_6.length + zs8.length := by rw [hzs9]; first | done | (simp; done) | (simp; omega)
          exact hQ (.fr 3 1 (rows cInt zs9)) (Eq.trans (by first | rfl | (simp only [lb, lbI, rows_cons, rows_nil, unnilT, unnil, unnilTI, unnilI]; done) | (simp only [lb, lbI, rows_cons, rows_nil, unnilT, unnil, unnilTI, unnilI]; rfl)) (congrArg (fun l => PV.fr 3 1 (rows cInt l)) (show zs9 = putF l n from by first | (rw [put_some q hx1 (by omega)]; subst_vars; simp; done) | (rw [put_some q hx3 (by omega)]; subst_vars; simp; done) | (rw [put_none q (by omega)]; subst_vars; simp; done))))   -- leaf 5
      · refine r_islice (i := 0) (j := k) m.sX (by omega) (by omega) (by omega) fun zs10 hzs10 => ?_   -- zs10 = l[None:k]
        have lzs10 : (zs10.length : Int) = k - 0 := by rw [hzs10]; first | done | (simp; done) | (simp; omega)
        conv => cbv
        refine r_append0R m.sX (by first | omega | (dsimp only; omega)) (by first | omega | (dsimp only; omega)) fun out_7 hout_7 => ?_
        conv => cbv
        have lout_7 : (out_7.length : Int) = zs10.length := by rw [hout_7]; first | done | (simp; done) | (simp; omega)
        refine r_append1 (n) m.sX rfl (by first | omega | (dsimp only; omega)) (by first | omega | (dsimp only; omega)) fun out_8 hout_8 => ?_
        conv => cbv
        have lout_8 : (out_8.length : Int) = out_7.length + 1 := by rw [hout_8]; first | done | (simp; done) | (simp; omega)
        refine r_islice' (i := k) m.sX (by omega) (by omega) fun zs11 hzs11 => ?_   -- zs11 = l[k:None]
        have lzs11 : (zs11.length : Int) = l.length - k := by rw [hzs11]; first | done | (simp; done) | (simp; omega)
        conv => cbv
        refine r_append m.sX (by first | omega | (dsimp only; omega)) (by first | omega | (dsimp only; omega)) fun zs12 hzs12 => ?_
        conv => cbv
        have lzs12 : (zs12.length : Int) = out_8.length + zs11.length := by rw [hzs12]; first | done | (simp; done) | (simp; omega)
        exact hQ (.fr 3 1 (rows cInt zs12)) (Eq.trans (by first | rfl | (simp only [lb, lbI, rows_cons, rows_nil, unnilT, unnil, unnilTI, unnilI]; done) | (simp only [lb, lbI, rows_cons, rows_nil, unnilT, unnil, unnilTI, unnilI]; rfl)) (congrArg (fun l => PV.fr 3 1 (rows cInt l)) (show zs12 = putF l n from by first | (rw [put_some q hx1 (by omega)]; subst_vars; simp; done) | (rw [put_some q hx3 (by omega)]; subst_vars; simp; done) | (rw [put_none q (by omega)]; subst_vars; simp; done)))))   -- leaf 6


/- Contracts of the functions on orders of a press: runs, late jobs, delays. -/
def workB (p : Press) (ink : Int) (l : List PressJob) : Bool := okPress p && inB ink 0 4 && okJobs l
def pAskB (p : Press) (ink : Int) (l : List PressJob) (o : List Int) : Bool := workB p ink l && decide (o.length = l.length) && fineB l.length o
theorem workB_spec {p : Press} {ink : Int} {l : List PressJob} (h : workB p ink l = true) : okPress p = true ∧ (0 ≤ ink ∧ ink ≤ 4) ∧ okJobs l = true := by
  simp only [workB, Bool.and_eq_true] at h
  exact ⟨h.1.1, inB_spec h.1.2, h.2⟩
theorem pAskB_spec {p : Press} {ink : Int} {l : List PressJob} {o : List Int} (h : pAskB p ink l o = true) : workB p ink l = true ∧ o.length = l.length ∧ fineB l.length o = true := by
  simp only [pAskB, Bool.and_eq_true, decide_eq_true_eq] at h
  exact ⟨h.1.1, h.1.2, h.2⟩
theorem mins_bound {p : Press} {x : PressJob} (hp : okPress p = true) (hx : okJob x = true) : 0 ≤ minsF p x ∧ minsF p x ≤ 3000000 := by
  have s1 := okPress_spec hp
  have s2 := okJob_spec hx
  have nb := need_bound s1.2.2.2.1.1 s1.2.2.2.1.2 s2.2.1.1
  have rf := runF_spec (h := p.1) (n := needF p.2.2.1 x.2.1) (by omega) (by omega)
  unfold minsF
  omega
theorem endAt_some {p : Press} {l : List PressJob} {k t i : Int} {x : PressJob} (h : l[i.toNat]? = some x) : endAt p l k t i = t + (washF p.2.2.2 k x.1 + minsF p x) := by rw [endAt, jobAt_some h]
theorem okJobs_len7 {l : List PressJob} (h : okJobs l = true) : l.length ≤ 7 := by have := okJobs_len h; omega
theorem isPressWork_ok (p : Press) (ink : Int) (l : List PressJob)  : OkA Try.prog 109 [.agg (cPress p), .int .i64 ink, .isl 3 (rows cPressJob l)] (· = .bool (workB p ink l)) := by
  obtain ⟨pA, pB, pC, pD⟩ := p
  try dsimp only at *
  exact fn_intro envOk fieldsOk mixed Try.func109 rfl fun κ X Y L Q m hQ => by
    conv => cbv
    refine r_callB m.sX (IsPress_ok (pA, pB, pC, pD)) (fun h1 => ?_) (fun h1 => ?_) <;> conv => cbv
    · refine r_callB m.sX (isInkNumber_ok ink) (fun h2 => ?_) (fun h2 => ?_) <;> conv => cbv
      · refine r_callB m.sX (ArePressJobs_ok l) (fun h3 => ?_) (fun h3 => ?_) <;> conv => cbv
        · exact hQ _ (congrArg PV.bool (by simp [workB, *]))   -- leaf 1
        · exact hQ _ (congrArg PV.bool (by simp [workB, *]))   -- leaf 2
      · exact hQ _ (congrArg PV.bool (by simp [workB, *]))   -- leaf 3
    · exact hQ _ (congrArg PV.bool (by simp [workB, *]))   -- leaf 4

theorem prBoth_ok (p : Press) (ink : Int) (l : List PressJob)  : OkA Try.prog 112 [.agg (cPress p), .int .i64 ink, .isl 3 (rows cPressJob l)] (· = .bool (workB p ink l)) := by
  obtain ⟨pA, pB, pC, pD⟩ := p
  try dsimp only at *
  exact fn_intro envOk fieldsOk mixed Try.func112 rfl fun κ X Y L Q m hQ => by
    conv => cbv
    refine r_callB m.sX (prGood_ok (pA, pB, pC, pD)) (fun h1 => ?_) (fun h1 => ?_) <;> conv => cbv
    · refine r_callB m.sX (prInk_ok ink) (fun h2 => ?_) (fun h2 => ?_) <;> conv => cbv
      · refine r_callB m.sX (prJobs_ok l) (fun h3 => ?_) (fun h3 => ?_) <;> conv => cbv
        · exact hQ _ (congrArg PV.bool (by simp [workB, *]))   -- leaf 1
        · exact hQ _ (congrArg PV.bool (by simp [workB, *]))   -- leaf 2
      · exact hQ _ (congrArg PV.bool (by simp [workB, *]))   -- leaf 3
    · exact hQ _ (congrArg PV.bool (by simp [workB, *]))   -- leaf 4

theorem isPressOrder_ok (p : Press) (ink : Int) (l : List PressJob) (order : List Int)  : OkA Try.prog 100 [.agg (cPress p), .int .i64 ink, .isl 3 (rows cPressJob l), .isl 1 (rows cInt order)] (· = .bool (pAskB p ink l order)) := by
  obtain ⟨pA, pB, pC, pD⟩ := p
  try dsimp only at *
  exact fn_intro envOk fieldsOk mixed Try.func100 rfl fun κ X Y L Q m hQ => by
    conv => cbv
    refine r_callB m.sX (isPressWork_ok (pA, pB, pC, pD) ink l) (fun h1 => ?_) (fun h1 => ?_) <;> conv => cbv
    · obtain ⟨w1, w2, w3⟩ := workB_spec h1
      have ll := okJobs_len w3
      try dsimp only at ll
      refine r_lenR m.sX fun n1 hn1 mn1 => ?_
      conv => cbv
      refine r_lenR m.sX fun n2 hn2 mn2 => ?_
      conv => cbv
      refine r_eql m.sX (fun h2 => ?_) (fun h2 => ?_) <;> conv => cbv
      · refine r_lenR m.sX fun n3 hn3 mn3 => ?_
        conv => cbv
        refine r_callB m.sX (isDifferent_ok order n3 (by first | rfl | assumption | omega | (simp only [List.length_append, List.length_cons, List.length_nil] at *; omega))) (fun h3 => ?_) (fun h3 => ?_) <;> conv => cbv
        · exact hQ _ (congrArg PV.bool (by rw [pAskB, h1, decide_eq_true (show order.length = l.length by omega), ← hn3, h3]; rfl))   -- leaf 1
        · exact hQ _ (congrArg PV.bool (by rw [pAskB, h1, decide_eq_true (show order.length = l.length by omega), ← hn3, h3]; rfl))   -- leaf 2
      · exact hQ _ (congrArg PV.bool (by rw [pAskB, decide_eq_false (show ¬ order.length = l.length by omega), Bool.and_false, Bool.false_and]))   -- leaf 3
    · exact hQ _ (congrArg PV.bool (by rw [pAskB, h1]; rfl))   -- leaf 4

theorem prAsked_ok (p : Press) (ink : Int) (l : List PressJob) (order : List Int)  : OkA Try.prog 102 [.agg (cPress p), .int .i64 ink, .isl 3 (rows cPressJob l), .isl 1 (rows cInt order)] (· = .bool (pAskB p ink l order)) := by
  obtain ⟨pA, pB, pC, pD⟩ := p
  try dsimp only at *
  exact fn_intro envOk fieldsOk mixed Try.func102 rfl fun κ X Y L Q m hQ => by
    conv => cbv
    refine r_callB m.sX (prBoth_ok (pA, pB, pC, pD) ink l) (fun h1 => ?_) (fun h1 => ?_) <;> conv => cbv
    · obtain ⟨w1, w2, w3⟩ := workB_spec h1
      refine r_lenR m.sX fun n1 hn1 mn1 => ?_
      conv => cbv
      refine r_lenR m.sX fun n2 hn2 mn2 => ?_
      conv => cbv
      refine r_neq m.sX (fun h2 => ?_) (fun h2 => ?_) <;> conv => cbv
      · exact hQ _ (congrArg PV.bool (by rw [pAskB, decide_eq_false (show ¬ order.length = l.length by omega), Bool.and_false, Bool.false_and]))   -- leaf 1
      · refine r_lenR m.sX fun n3 hn3 mn3 => ?_
        conv => cbv
        refine r_subf m.sX (by omega) (by omega) fun r1 hr1 => ?_
        conv => cbv
        refine r_callB m.sX (l1All_ok order 0 r1) (fun h3 => ?_) (fun h3 => ?_) <;> conv => cbv
        · have e3 : allB order 0 ((l.length : Int) - 1) = true := by rw [← hn3, ← hr1]; exact h3
          refine r_lenR m.sX fun n4 hn4 mn4 => ?_
          conv => cbv
          refine r_loopF (α := Int) m 44 [3, 31, 32, 33] [] (fun σ => [(3, .isl 1 (rows cInt order)), (31, .isl 1 (rows cInt order)), (32, .int .i64 n4), (33, .int .i64 σ)]) (fun σ => [])
            (fun σ => (0 ≤ σ) ∧ (σ ≤ n4) ∧ ((order.take σ.toNat).Nodup)) (fun σ => (n4 - σ).toNat) 0 ?_ ?_ ?_ ?_
          · cbv
          · cbv
          · exact ⟨(by (try dsimp only); first | omega | (simp only [List.length_nil]; omega) | (simp only [List.length_cons, List.length_nil]; omega)), (by (try dsimp only); first | omega | (simp only [List.length_nil]; omega) | (simp only [List.length_cons, List.length_nil]; omega)), (by (try dsimp only) <;> (simp))⟩
          rintro i1 ⟨lo1, hi1, q⟩ E hE F hF
          conv => cbv
          refine r_lss m.sX (fun h4 => ?_) (fun h4 => ?_) <;> conv => cbv
          · refine r_index m.sX (by omega) (by omega) fun i hi => ?_
            conv => cbv
            have mi := get_mem hi
            have di := drop_cons hi
            have ki := take_snoc hi
            have ji : (i1 + 1).toNat = Int.toNat i1 + 1 := by omega
            have vi := nth_some hi
            refine r_islice (i := 0) (j := i1) m.sX (by omega) (by omega) (by omega) fun zs1 hzs1 => ?_   -- zs1 = order[None:i1]
            have lzs1 : (zs1.length : Int) = i1 - 0 := by rw [hzs1]; first | done | (simp; done) | (simp; omega)
            have zq : zs1 = order.take i1.toNat := by rw [hzs1]; simp
            conv => cbv
            refine r_callB m.sX (l1Has_ok zs1 i) (fun h5 => ?_) (fun h5 => ?_) <;> conv => cbv
            · refine hF _ _ ?_
              conv => cbv
              exact hQ _ (congrArg PV.bool (by rw [pAskB, fineB, decide_eq_false (nodup_bad hi (by rw [← zq]; exact of_decide_eq_true h5))]; simp))   -- leaf 2
            · refine r_addf m.sX (by omega) (by omega) fun r2 hr2 => ?_
              conv => cbv
              try have tr2 : Int.toNat r2 = Int.toNat i1 + 1 := by omega
              refine hE _ r2 ?_ ?_ ⟨(by (try dsimp only); first | omega | (simp only [List.length_nil]; omega) | (simp only [List.length_cons, List.length_nil]; omega)), (by (try dsimp only); first | omega | (simp only [List.length_nil]; omega) | (simp only [List.length_cons, List.length_nil]; omega)), (by (try dsimp only) <;> (rw [tr2]; exact nodup_next hi q (by rw [← zq]; exact of_decide_eq_false h5)))⟩ (by first | omega | (dsimp only; omega))
              · cbv
              · cbv
          · have dz_i1 := drop_end (xs := order) (i := Int.toNat i1) (by omega)
            have tz_i1 := take_end (xs := order) (i := Int.toNat i1) (by omega)
            refine hF _ _ ?_
            conv => cbv
            exact hQ _ (congrArg PV.bool (by rw [tz_i1] at q; rw [pAskB, fineB, decide_eq_true q, h1, e3, decide_eq_true (show order.length = l.length by omega)]; rfl))   -- leaf 3
        · have e3 : allB order 0 ((l.length : Int) - 1) = false := by rw [← hn3, ← hr1]; exact h3
          exact hQ _ (congrArg PV.bool (by rw [pAskB, fineB, e3]; simp))   -- leaf 4
    · exact hQ _ (congrArg PV.bool (by rw [pAskB, h1]; rfl))   -- leaf 5

theorem run_ok (p : Press) (ink : Int) (l : List PressJob) (order : List Int) (hwk : workB p ink l = true) (ho : fineB l.length order = true) : OkA Try.prog 101 [.agg (cPress p), .int .i64 ink, .isl 3 (rows cPressJob l), .isl 1 (rows cInt order)] (· = (li 3 1 cInt) ((endsP p l ink 0 order, washP p l ink order))) := by
  obtain ⟨pA, pB, pC, pD⟩ := p
  try dsimp only at *
  exact OkA.unnil 3 1 (fn_intro envOk fieldsOk mixed Try.func101 rfl fun κ X Y L Q m hQ => by
    obtain ⟨w1, w2, w3⟩ := workB_spec hwk
    have ol := diff_len _ _ (fineB_diff.1 ho)
    try dsimp only at ol
    have ll := okJobs_len7 w3
    try dsimp only at ll
    have pw := (okPress_spec w1).1
    try dsimp only at pw
    conv => cbv
    refine r_lenR m.sX fun n1 hn1 mn1 => ?_
    conv => cbv
    refine r_loopF (α := Int × List Int × Int × Int × Int) m 56 [1, 2, 11, 12, 17, 18, 19] [⟨4, 33, 0, 0, 0⟩, ⟨10, 81, 3, 1, 0⟩] (fun σ => [(1, .int .i64 σ.1), (2, .isl 3 (rows cPressJob l)), (4, .optr 33 0 4 0 0), (10, .osl 81 0), (11, .int .i64 σ.2.2.1), (12, .int .i64 σ.2.2.2.1), (17, .isl 1 (rows cInt order)), (18, .int .i64 n1), (19, .int .i64 σ.2.2.2.2)]) (fun σ => [(33, 0, .box [.int .i64 pA, .int .i64 pB, .int .i64 pC, .isl 1 (rows cInt pD)]), (81, 0, .row 3 1 (rows cInt σ.2.1))])
      (fun σ => (0 ≤ σ.2.2.2.2) ∧ (σ.2.2.2.2 ≤ n1) ∧ (0 ≤ σ.1 ∧ σ.1 ≤ 4) ∧ (0 ≤ σ.2.2.1 ∧ σ.2.2.1 ≤ 4000000 * σ.2.2.2.2) ∧ (0 ≤ σ.2.2.2.1 ∧ σ.2.2.2.1 ≤ 300 * σ.2.2.2.2) ∧ ((σ.2.1.length : Int) = σ.2.2.2.2) ∧ (endsP (pA, pB, pC, pD) l ink 0 order = σ.2.1 ++ endsP (pA, pB, pC, pD) l σ.1 σ.2.2.1 (order.drop σ.2.2.2.2.toNat)) ∧ (washP (pA, pB, pC, pD) l ink order = σ.2.2.2.1 + washP (pA, pB, pC, pD) l σ.1 (order.drop σ.2.2.2.2.toNat))) (fun σ => (n1 - σ.2.2.2.2).toNat) (ink, [], 0, 0, 0) ?_ ?_ ?_ ?_
    · cbv
    · (try dsimp only); (try simp only [rows_cons, rows_nil]); cbv
    · exact ⟨(by (try dsimp only); first | omega | (simp only [List.length_nil]; omega) | (simp only [List.length_cons, List.length_nil]; omega)), (by (try dsimp only); first | omega | (simp only [List.length_nil]; omega) | (simp only [List.length_cons, List.length_nil]; omega)), (by (try dsimp only) <;> first | omega | rfl | (simp [*]; done)), (by (try dsimp only) <;> first | omega | rfl | (simp [*]; done)), (by (try dsimp only) <;> first | omega | rfl | (simp [*]; done)), (by (try dsimp only) <;> first | omega | rfl | (simp [*]; done)), (by (try dsimp only) <;> first | omega | rfl | (simp [*]; done)), (by (try dsimp only) <;> (simp))⟩
    rintro ⟨ink_2, list, minute, washing, i1⟩ ⟨lo1, hi1, kb, nb, wb, ln, q, c⟩ E hE F hF
    dsimp only at lo1 hi1 kb nb wb ln q c
    conv => cbv
    refine r_lss m.sX (fun h1 => ?_) (fun h1 => ?_) <;> conv => cbv
    · refine r_index m.sX (by omega) (by omega) fun i hi => ?_
      conv => cbv
      have mi := get_mem hi
      have di := drop_cons hi
      have ki := take_snoc hi
      have ji : (i1 + 1).toNat = Int.toNat i1 + 1 := by omega
      have vi := nth_some hi
      have bi := (fineB_iff.1 ho).2 i mi
      try dsimp only at bi
      refine r_draw m (by kernel_rfl) ?_
      conv => cbv
      refine r_index m.sY (by omega) (by omega) fun v hx1A => ?_
      obtain ⟨x1A, x1B, x1C⟩ := v
      conv => cbv
      have hx1 := hx1A
      have mx1 := get_mem hx1
      have xk := okJobs_mem w3 _ mx1
      try dsimp only at xk
      have xs := okJob_spec xk
      try dsimp only at xs
      have xm := mins_bound w1 xk
      try dsimp only at xm
      have xw := washF_pos pw ink_2 x1A
      try dsimp only at xw
      rw [di, endsP, endAt_some hx1, jobAt_some hx1] at q
      rw [di, washP, jobAt_some hx1] at c
      try dsimp only at q c xs xm xw
      refine r_callFS (PV.int .i64) m.sY (wash_ok (pA, pB, pC, pD) ink_2 x1A (by first | rfl | assumption | omega | (simp only [List.length_append, List.length_cons, List.length_nil] at *; omega)) (by first | rfl | assumption | omega | (simp only [List.length_append, List.length_cons, List.length_nil] at *; omega))) trivial fun w hw => ?_
      conv => cbv
      try dsimp only at hw
      refine r_index m.sX (by omega) (by omega) fun v hx2A => ?_
      obtain ⟨x2A, x2B, x2C⟩ := v
      conv => cbv
      have hx2 := hx2A
      have mx2 := get_mem hx2
      obtain ⟨rfl, rfl, rfl⟩ : x1A = x2A ∧ x1B = x2B ∧ x1C = x2C := by have := Option.some.inj (hx1.symm.trans hx2); simpa using this
      refine r_addf m.sX (by omega) (by omega) fun washing_2 hwashing_2 => ?_
      conv => cbv
      refine r_draw m (by kernel_rfl) ?_
      conv => cbv
      refine r_index m.sY (by omega) (by omega) fun v hx3A => ?_
      obtain ⟨x3A, x3B, x3C⟩ := v
      conv => cbv
      have hx3 := hx3A
      have mx3 := get_mem hx3
      obtain ⟨rfl, rfl, rfl⟩ : x1A = x3A ∧ x1B = x3B ∧ x1C = x3C := by have := Option.some.inj (hx1.symm.trans hx3); simpa using this
      refine r_callFS (PV.int .i64) m.sY (minutes_ok (pA, pB, pC, pD) (x1A, x1B, x1C) (by first | rfl | assumption | omega | (simp only [List.length_append, List.length_cons, List.length_nil] at *; omega)) (by first | rfl | assumption | omega | (simp only [List.length_append, List.length_cons, List.length_nil] at *; omega))) trivial fun r1 hr1 => ?_
      conv => cbv
      try dsimp only at hr1
      refine r_addf m.sY (by omega) (by omega) fun r2 hr2 => ?_
      conv => cbv
      refine r_addf m.sY (by omega) (by omega) fun minute_2 hminute_2 => ?_
      conv => cbv
      refine r_append1 (minute_2) m.sX rfl (by first | omega | (dsimp only; omega)) (by first | omega | (dsimp only; omega)) fun list_2 hlist_2 => ?_
      conv => cbv
      have llist_2 : (list_2.length : Int) = list.length + 1 := by rw [hlist_2]; first | done | (simp; done) | (simp; omega)
      refine r_addf m.sX (by omega) (by omega) fun r3 hr3 => ?_
      conv => cbv
      try have tr3 : Int.toNat r3 = Int.toNat i1 + 1 := by omega
      refine hE _ (x1A, list_2, minute_2, washing_2, r3) ?_ ?_ ⟨(by (try dsimp only); first | omega | (simp only [List.length_nil]; omega) | (simp only [List.length_cons, List.length_nil]; omega)), (by (try dsimp only); first | omega | (simp only [List.length_nil]; omega) | (simp only [List.length_cons, List.length_nil]; omega)), (by (try dsimp only) <;> first | omega | rfl | (simp [*]; done) | (rw [kb]; simp [*]; done)), (by (try dsimp only) <;> first | omega | rfl | (simp [*]; done) | (rw [nb]; simp [*]; done)), (by (try dsimp only) <;> first | omega | rfl | (simp [*]; done) | (rw [wb]; simp [*]; done)), (by (try dsimp only) <;> first | omega | rfl | (simp [*]; done) | (rw [ln]; simp [*]; done)), (by (try dsimp only) <;> (rw [q, hlist_2, tr3, hminute_2, hr2, hw, hr1]; simp only [List.append_assoc, List.cons_append, List.nil_append])), (by (try dsimp only) <;> (rw [c, hwashing_2, tr3, hw]; omega))⟩ (by first | omega | (dsimp only; omega))
      · cbv
      · cbv
    · have dz_i1 := drop_end (xs := order) (i := Int.toNat i1) (by omega)
      have tz_i1 := take_end (xs := order) (i := Int.toNat i1) (by omega)
      refine hF _ _ ?_
      conv => cbv
      exact hQ (.tup [.fr 3 1 (rows cInt list), .int .i64 washing]) (Eq.trans (by first | rfl | (simp only [lb, lbI, rows_cons, rows_nil, unnilT, unnil, unnilTI, unnilI]; done) | (simp only [lb, lbI, rows_cons, rows_nil, unnilT, unnil, unnilTI, unnilI]; rfl)) (congrArg ((li 3 1 cInt)) (show (list, washing) = (endsP (pA, pB, pC, pD) l ink 0 order, washP (pA, pB, pC, pD) l ink order) from by rw [q, c, dz_i1]; simp [endsP, washP]))))   -- leaf 1

theorem prTimes_ok (p : Press) (l : List PressJob) (hp : okPress p = true) (hl : okJobs l = true) : OkA Try.prog 104 [.agg (cPress p), .isl 3 (rows cPressJob l)] (· = .fr 3 1 (rows cInt (l.map (minsF p)))) := by
  obtain ⟨pA, pB, pC, pD⟩ := p
  try dsimp only at *
  exact OkA.unnil 3 1 (fn_intro envOk fieldsOk mixed Try.func104 rfl fun κ X Y L Q m hQ => by
    have ll := okJobs_len7 hl
    try dsimp only at ll
    conv => cbv
    refine r_lenR m.sX fun n1 hn1 mn1 => ?_
    conv => cbv
    refine r_loopF (α := List Int × Int) m 22 [8, 9, 10] [⟨2, 17, 0, 0, 0⟩, ⟨5, 41, 3, 1, 0⟩] (fun σ => [(2, .optr 17 0 4 0 0), (5, .osl 41 0), (8, .isl 3 (rows cPressJob l)), (9, .int .i64 n1), (10, .int .i64 σ.2)]) (fun σ => [(17, 0, .box [.int .i64 pA, .int .i64 pB, .int .i64 pC, .isl 1 (rows cInt pD)]), (41, 0, .row 3 1 (rows cInt σ.1))])
      (fun σ => (0 ≤ σ.2) ∧ (σ.2 ≤ n1) ∧ (σ.1 = (l.take σ.2.toNat).map (minsF (pA, pB, pC, pD))) ∧ ((σ.1.length : Int) = σ.2)) (fun σ => (n1 - σ.2).toNat) ([], 0) ?_ ?_ ?_ ?_
    · cbv
    · (try dsimp only); (try simp only [rows_cons, rows_nil]); cbv
    · exact ⟨(by (try dsimp only); first | omega | (simp only [List.length_nil]; omega) | (simp only [List.length_cons, List.length_nil]; omega)), (by (try dsimp only); first | omega | (simp only [List.length_nil]; omega) | (simp only [List.length_cons, List.length_nil]; omega)), (by (try dsimp only) <;> first | omega | rfl | (simp [*]; done)), (by (try dsimp only) <;> first | omega | rfl | (simp [*]; done))⟩
    rintro ⟨out, i1⟩ ⟨lo1, hi1, q, ln⟩ E hE F hF
    dsimp only at lo1 hi1 q ln
    conv => cbv
    refine r_lss m.sX (fun h1 => ?_) (fun h1 => ?_) <;> conv => cbv
    · refine r_index m.sX (by omega) (by omega) fun v hxA => ?_
      obtain ⟨xA, xB, xC⟩ := v
      conv => cbv
      have hx := hxA
      have mx := get_mem hx
      have dx := drop_cons hx
      have kx := take_snoc hx
      have jx : (i1 + 1).toNat = Int.toNat i1 + 1 := by omega
      have xk := okJobs_mem hl _ mx
      try dsimp only at xk
      refine r_callF (PV.int .i64) m.sX (prMinutes_ok (pA, pB, pC, pD) (xA, xB, xC) (by first | rfl | assumption | omega | (simp only [List.length_append, List.length_cons, List.length_nil] at *; omega)) (by first | rfl | assumption | omega | (simp only [List.length_append, List.length_cons, List.length_nil] at *; omega))) fun r1 hr1 => ?_
      conv => cbv
      try dsimp only at hr1
      refine r_append1 (r1) m.sX rfl (by first | omega | (dsimp only; omega)) (by first | omega | (dsimp only; omega)) fun out_2 hout_2 => ?_
      conv => cbv
      have lout_2 : (out_2.length : Int) = out.length + 1 := by rw [hout_2]; first | done | (simp; done) | (simp; omega)
      refine r_addf m.sX (by omega) (by omega) fun r2 hr2 => ?_
      conv => cbv
      try have tr2 : Int.toNat r2 = Int.toNat i1 + 1 := by omega
      refine hE _ (out_2, r2) ?_ ?_ ⟨(by (try dsimp only); first | omega | (simp only [List.length_nil]; omega) | (simp only [List.length_cons, List.length_nil]; omega)), (by (try dsimp only); first | omega | (simp only [List.length_nil]; omega) | (simp only [List.length_cons, List.length_nil]; omega)), (by (try dsimp only) <;> (rw [hout_2, q, tr2, kx, List.map_append, hr1]; rfl)), (by (try dsimp only) <;> first | omega | rfl | (simp [*]; done) | (rw [ln]; simp [*]; done))⟩ (by first | omega | (dsimp only; omega))
      · cbv
      · cbv
    · have dz_i1 := drop_end (xs := l) (i := Int.toNat i1) (by omega)
      have tz_i1 := take_end (xs := l) (i := Int.toNat i1) (by omega)
      refine hF _ _ ?_
      conv => cbv
      exact hQ (.fr 3 1 (rows cInt out)) (Eq.trans (by first | rfl | (simp only [lb, lbI, rows_cons, rows_nil, unnilT, unnil, unnilTI, unnilI]; done) | (simp only [lb, lbI, rows_cons, rows_nil, unnilT, unnil, unnilTI, unnilI]; rfl)) (congrArg (fun l => PV.fr 3 1 (rows cInt l)) (show out = l.map (minsF (pA, pB, pC, pD)) from by rw [q, tz_i1]))))   -- leaf 1

theorem prEnds_ok (p : Press) (ink : Int) (l : List PressJob) (times : List Int) (order : List Int) (hwk : workB p ink l = true) (ho : fineB l.length order = true) (ht : times = l.map (minsF p)) : OkA Try.prog 103 [.agg (cPress p), .int .i64 ink, .isl 3 (rows cPressJob l), .isl 1 (rows cInt times), .isl 1 (rows cInt order)] (· = (li 3 1 cInt) ((endsP p l ink 0 order, washP p l ink order))) := by
  obtain ⟨pA, pB, pC, pD⟩ := p
  try dsimp only at *
  exact OkA.unnil 3 1 (fn_intro envOk fieldsOk mixed Try.func103 rfl fun κ X Y L Q m hQ => by
    obtain ⟨w1, w2, w3⟩ := workB_spec hwk
    have ol := diff_len _ _ (fineB_diff.1 ho)
    try dsimp only at ol
    have ll := okJobs_len7 w3
    try dsimp only at ll
    have pw := (okPress_spec w1).1
    try dsimp only at pw
    have tl : times.length = l.length := by rw [ht, List.length_map]
    conv => cbv
    refine r_lenR m.sX fun n1 hn1 mn1 => ?_
    conv => cbv
    refine r_loopF (α := Int × List Int × Int × Int × Int) m 55 [1, 2, 3, 13, 14, 18, 19, 20] [⟨5, 41, 0, 0, 0⟩, ⟨12, 97, 3, 1, 0⟩] (fun σ => [(1, .int .i64 σ.1), (2, .isl 3 (rows cPressJob l)), (3, .isl 1 (rows cInt times)), (5, .optr 41 0 4 0 0), (12, .osl 97 0), (13, .int .i64 σ.2.2.1), (14, .int .i64 σ.2.2.2.1), (18, .isl 1 (rows cInt order)), (19, .int .i64 n1), (20, .int .i64 σ.2.2.2.2)]) (fun σ => [(41, 0, .box [.int .i64 pA, .int .i64 pB, .int .i64 pC, .isl 1 (rows cInt pD)]), (97, 0, .row 3 1 (rows cInt σ.2.1))])
      (fun σ => (0 ≤ σ.2.2.2.2) ∧ (σ.2.2.2.2 ≤ n1) ∧ (0 ≤ σ.1 ∧ σ.1 ≤ 4) ∧ (0 ≤ σ.2.2.1 ∧ σ.2.2.1 ≤ 4000000 * σ.2.2.2.2) ∧ (0 ≤ σ.2.2.2.1 ∧ σ.2.2.2.1 ≤ 300 * σ.2.2.2.2) ∧ ((σ.2.1.length : Int) = σ.2.2.2.2) ∧ (endsP (pA, pB, pC, pD) l ink 0 order = σ.2.1 ++ endsP (pA, pB, pC, pD) l σ.1 σ.2.2.1 (order.drop σ.2.2.2.2.toNat)) ∧ (washP (pA, pB, pC, pD) l ink order = σ.2.2.2.1 + washP (pA, pB, pC, pD) l σ.1 (order.drop σ.2.2.2.2.toNat))) (fun σ => (n1 - σ.2.2.2.2).toNat) (ink, [], 0, 0, 0) ?_ ?_ ?_ ?_
    · cbv
    · (try dsimp only); (try simp only [rows_cons, rows_nil]); cbv
    · exact ⟨(by (try dsimp only); first | omega | (simp only [List.length_nil]; omega) | (simp only [List.length_cons, List.length_nil]; omega)), (by (try dsimp only); first | omega | (simp only [List.length_nil]; omega) | (simp only [List.length_cons, List.length_nil]; omega)), (by (try dsimp only) <;> first | omega | rfl | (simp [*]; done)), (by (try dsimp only) <;> first | omega | rfl | (simp [*]; done)), (by (try dsimp only) <;> first | omega | rfl | (simp [*]; done)), (by (try dsimp only) <;> first | omega | rfl | (simp [*]; done)), (by (try dsimp only) <;> first | omega | rfl | (simp [*]; done)), (by (try dsimp only) <;> (simp))⟩
    rintro ⟨ink_2, out, time, washing, i1⟩ ⟨lo1, hi1, kb, nb, wb, ln, q, c⟩ E hE F hF
    dsimp only at lo1 hi1 kb nb wb ln q c
    conv => cbv
    refine r_lss m.sX (fun h1 => ?_) (fun h1 => ?_) <;> conv => cbv
    · refine r_index m.sX (by omega) (by omega) fun i hi => ?_
      conv => cbv
      have mi := get_mem hi
      have di := drop_cons hi
      have ki := take_snoc hi
      have ji : (i1 + 1).toNat = Int.toNat i1 + 1 := by omega
      have vi := nth_some hi
      have bi := (fineB_iff.1 ho).2 i mi
      try dsimp only at bi
      refine r_draw m (by kernel_rfl) ?_
      conv => cbv
      refine r_index m.sY (by omega) (by omega) fun v hx1A => ?_
      obtain ⟨x1A, x1B, x1C⟩ := v
      conv => cbv
      have hx1 := hx1A
      have mx1 := get_mem hx1
      have xk := okJobs_mem w3 _ mx1
      try dsimp only at xk
      have xs := okJob_spec xk
      try dsimp only at xs
      have xm := mins_bound w1 xk
      try dsimp only at xm
      have xw := washF_pos pw ink_2 x1A
      try dsimp only at xw
      rw [di, endsP, endAt_some hx1, jobAt_some hx1] at q
      rw [di, washP, jobAt_some hx1] at c
      try dsimp only at q c xs xm xw
      refine r_callFS (PV.int .i64) m.sY (prWash_ok (pA, pB, pC, pD) ink_2 x1A (by first | rfl | assumption | omega | (simp only [List.length_append, List.length_cons, List.length_nil] at *; omega)) (by first | rfl | assumption | omega | (simp only [List.length_append, List.length_cons, List.length_nil] at *; omega))) trivial fun wash hwash => ?_
      conv => cbv
      try dsimp only at hwash
      refine r_addf m.sX (by omega) (by omega) fun washing_2 hwashing_2 => ?_
      conv => cbv
      refine r_index m.sX (by omega) (by omega) fun x2 hx2 => ?_
      conv => cbv
      have mx2 := get_mem hx2
      have vx2 := nth_some hx2
      have e2 : x2 = minsF (pA, pB, pC, pD) (x1A, x1B, x1C) := by rw [ht, List.getElem?_map, hx1] at hx2; exact (Option.some.inj hx2).symm
      refine r_addf m.sX (by omega) (by omega) fun r1 hr1 => ?_
      conv => cbv
      refine r_addf m.sX (by omega) (by omega) fun time_2 htime_2 => ?_
      conv => cbv
      refine r_index m.sX (by omega) (by omega) fun v hx3A => ?_
      obtain ⟨x3A, x3B, x3C⟩ := v
      conv => cbv
      have hx3 := hx3A
      have mx3 := get_mem hx3
      obtain ⟨rfl, rfl, rfl⟩ : x1A = x3A ∧ x1B = x3B ∧ x1C = x3C := by have := Option.some.inj (hx1.symm.trans hx3); simpa using this
      refine r_append1 (time_2) m.sX rfl (by first | omega | (dsimp only; omega)) (by first | omega | (dsimp only; omega)) fun out_2 hout_2 => ?_
      conv => cbv
      have lout_2 : (out_2.length : Int) = out.length + 1 := by rw [hout_2]; first | done | (simp; done) | (simp; omega)
      refine r_addf m.sX (by omega) (by omega) fun r2 hr2 => ?_
      conv => cbv
      try have tr2 : Int.toNat r2 = Int.toNat i1 + 1 := by omega
      refine hE _ (x1A, out_2, time_2, washing_2, r2) ?_ ?_ ⟨(by (try dsimp only); first | omega | (simp only [List.length_nil]; omega) | (simp only [List.length_cons, List.length_nil]; omega)), (by (try dsimp only); first | omega | (simp only [List.length_nil]; omega) | (simp only [List.length_cons, List.length_nil]; omega)), (by (try dsimp only) <;> first | omega | rfl | (simp [*]; done) | (rw [kb]; simp [*]; done)), (by (try dsimp only) <;> first | omega | rfl | (simp [*]; done) | (rw [nb]; simp [*]; done)), (by (try dsimp only) <;> first | omega | rfl | (simp [*]; done) | (rw [wb]; simp [*]; done)), (by (try dsimp only) <;> first | omega | rfl | (simp [*]; done) | (rw [ln]; simp [*]; done)), (by (try dsimp only) <;> (rw [q, hout_2, tr2, htime_2, hr1, e2, hwash]; simp only [List.append_assoc, List.cons_append, List.nil_append])), (by (try dsimp only) <;> (rw [c, hwashing_2, tr2, hwash]; omega))⟩ (by first | omega | (dsimp only; omega))
      · cbv
      · cbv
    · have dz_i1 := drop_end (xs := order) (i := Int.toNat i1) (by omega)
      have tz_i1 := take_end (xs := order) (i := Int.toNat i1) (by omega)
      refine hF _ _ ?_
      conv => cbv
      exact hQ (.tup [.fr 3 1 (rows cInt out), .int .i64 washing]) (Eq.trans (by first | rfl | (simp only [lb, lbI, rows_cons, rows_nil, unnilT, unnil, unnilTI, unnilI]; done) | (simp only [lb, lbI, rows_cons, rows_nil, unnilT, unnil, unnilTI, unnilI]; rfl)) (congrArg ((li 3 1 cInt)) (show (out, washing) = (endsP (pA, pB, pC, pD) l ink 0 order, washP (pA, pB, pC, pD) l ink order) from by rw [q, c, dz_i1]; simp [endsP, washP]))))   -- leaf 1

theorem lateD_snoc (l : List PressJob) (z : List (Int × Int)) (y : Int × Int) : lateD l (z ++ [y]) = max (lateD l z) (y.1 - (jobAt l y.2).2.2) := by
  unfold lateD; rw [List.foldl_append]; rfl
theorem endsP_bound {p : Press} {l : List PressJob} (hp : okPress p = true) (hl : okJobs l = true) : ∀ (o : List Int) (k t : Int), (∀ x ∈ o, 0 ≤ x ∧ x < l.length) → ∀ e ∈ endsP p l k t o, t ≤ e ∧ e ≤ t + 4000000 * o.length
  | [], _, _, _, e, he => by cases he
  | i :: r, k, t, ho, e, he => by
    have hi := ho i (by simp)
    obtain ⟨x, hx⟩ : ∃ x, l[i.toNat]? = some x := ⟨_, List.getElem?_eq_getElem (by omega)⟩
    have h1 := mins_bound hp (okJobs_mem hl x (List.mem_of_getElem? hx))
    have h2 := washF_pos (okPress_spec hp).1 k x.1
    have h3 : t ≤ endAt p l k t i ∧ endAt p l k t i ≤ t + 4000000 := by rw [endAt_some hx]; omega
    rw [endsP] at he
    simp only [List.length_cons]
    rcases List.mem_cons.1 he with rfl | he
    · omega
    · have h4 := endsP_bound hp hl r _ _ (fun x hx => ho x (by simp [hx])) e he
      omega
noncomputable def latez (l : List PressJob) (z : List (Int × Int)) : List Int := (z.filter fun x => decide ((jobAt l x.2).2.2 < x.1)).map (·.2)
theorem latez_snoc (l : List PressJob) (z : List (Int × Int)) (y : Int × Int) : latez l (z ++ [y]) = if (jobAt l y.2).2.2 < y.1 then latez l z ++ [y.2] else latez l z := by
  unfold latez
  rw [List.filter_append, List.map_append]
  by_cases h : (jobAt l y.2).2.2 < y.1 <;> simp [h]
theorem latez_all (p : Press) (l : List PressJob) (k : Int) (o : List Int) : latez l ((endsP p l k 0 o).zip o) = lateP p l k o := rfl
theorem latez_in {l : List PressJob} {e o : List Int} {k : Nat} {i : Int} (hn : o.Nodup) (hi : o[k]? = some i) : i ∉ latez l ((e.zip o).take k) := by
  intro h
  obtain ⟨x, hx, rfl⟩ := List.mem_map.1 h
  have h1 := (List.mem_filter.1 hx).1
  obtain ⟨j, hj⟩ := List.getElem?_of_mem h1
  rw [List.getElem?_take] at hj
  have h2 : x.2 ∈ o.take k := by
    split at hj
    · rename_i hlt
      rw [List.getElem?_zip_eq_some] at hj
      exact List.mem_of_getElem? (i := j) (by rw [List.getElem?_take, if_pos hlt]; exact hj.2)
    · cases hj
  have h3 := hn.sublist (List.take_sublist (k + 1) o)
  rw [List.take_add_one, hi, List.nodup_append] at h3
  exact h3.2.2 x.2 h2 x.2 (by simp) rfl
theorem delay_ok (p : Press) (ink : Int) (l : List PressJob) (order : List Int) (hwk : workB p ink l = true) (ho : fineB l.length order = true) : OkA Try.prog 107 [.agg (cPress p), .int .i64 ink, .isl 3 (rows cPressJob l), .isl 1 (rows cInt order)] (· = .int .i64 (delayP p l ink order)) := by
  obtain ⟨pA, pB, pC, pD⟩ := p
  try dsimp only at *
  exact fn_intro envOk fieldsOk mixed Try.func107 rfl fun κ X Y L Q m hQ => by
    obtain ⟨w1, w2, w3⟩ := workB_spec hwk
    have ol := diff_len _ _ (fineB_diff.1 ho)
    try dsimp only at ol
    have ll := okJobs_len7 w3
    try dsimp only at ll
    conv => cbv
    refine r_callF (li 3 1 cInt) m.sX (run_ok (pA, pB, pC, pD) ink l order (by first | rfl | assumption | omega | (simp only [List.length_append, List.length_cons, List.length_nil] at *; omega)) (by first | rfl | assumption | omega | (simp only [List.length_append, List.length_cons, List.length_nil] at *; omega))) fun v hlist => ?_
    obtain ⟨list, v1⟩ := v
    conv => cbv
    try dsimp only at hlist
    have el := (Prod.mk.inj hlist).1
    try dsimp only at el
    have le : list.length = order.length := by rw [el, endsP_length]
    refine r_lenR m.sX fun n1 hn1 mn1 => ?_
    conv => cbv
    refine r_loopF (α := Int × Int) m 43 [2, 9, 22, 23, 24] [⟨10, 81, 3, 1, 0⟩] (fun σ => [(2, .isl 3 (rows cPressJob l)), (9, .int .i64 σ.1), (10, .osl 81 0), (22, .isl 1 (rows cInt order)), (23, .int .i64 n1), (24, .int .i64 σ.2)]) (fun σ => [(81, 0, .row 3 1 (rows cInt list))])
      (fun σ => (0 ≤ σ.2) ∧ (σ.2 ≤ n1) ∧ (0 ≤ σ.1 ∧ σ.1 ≤ 100000000) ∧ (σ.1 = lateD l ((list.zip order).take σ.2.toNat))) (fun σ => (n1 - σ.2).toNat) (0, 0) ?_ ?_ ?_ ?_
    · cbv
    · cbv
    · exact ⟨(by (try dsimp only); first | omega | (simp only [List.length_nil]; omega) | (simp only [List.length_cons, List.length_nil]; omega)), (by (try dsimp only); first | omega | (simp only [List.length_nil]; omega) | (simp only [List.length_cons, List.length_nil]; omega)), (by (try dsimp only) <;> first | omega | rfl | (simp [*]; done)), (by (try dsimp only) <;> (rfl))⟩
    rintro ⟨most, i1⟩ ⟨lo1, hi1, mb, q⟩ E hE F hF
    dsimp only at lo1 hi1 mb q
    conv => cbv
    refine r_lss m.sX (fun h1 => ?_) (fun h1 => ?_) <;> conv => cbv
    · refine r_index m.sX (by omega) (by omega) fun i hi => ?_
      conv => cbv
      have mi := get_mem hi
      have di := drop_cons hi
      have ki := take_snoc hi
      have ji : (i1 + 1).toNat = Int.toNat i1 + 1 := by omega
      have vi := nth_some hi
      have bi := (fineB_iff.1 ho).2 i mi
      try dsimp only at bi
      refine r_draw m (by kernel_rfl) ?_
      conv => cbv
      refine r_oindex m.sY (by omega) (by omega) ?_
      conv => cbv
      obtain ⟨x1, hx1⟩ := get_ex (xs := list) (i := Int.toNat i1) (by omega)
      have mx1 := get_mem hx1
      have dx1 := drop_cons hx1
      have kx1 := take_snoc hx1
      have jx1 : (i1 + 1).toNat = Int.toNat i1 + 1 := by omega
      have vx1 := nth_some hx1
      have xb := endsP_bound w1 w3 order ink 0 (fineB_iff.1 ho).2 x1 (by rw [← el]; exact get_mem hx1)
      try dsimp only at xb
      refine r_oload m.sY hx1 (Nat.le_of_ble_eq_true rfl) ?_
      conv => cbv
      refine r_index m.sY (by omega) (by omega) fun v hx2A => ?_
      obtain ⟨x2A, x2B, x2C⟩ := v
      conv => cbv
      have hx2 := hx2A
      have mx2 := get_mem hx2
      have xs := okJob_spec (okJobs_mem w3 _ mx2)
      try dsimp only at xs
      try dsimp only at xs
      have zq : (list.zip order)[i1.toNat]? = some (x1, i) := by rw [List.getElem?_zip_eq_some]; exact ⟨hx1, hi⟩
      refine r_subf m.sY (by omega) (by omega) fun r1 hr1 => ?_
      conv => cbv
      refine r_max m.sY fun most_2 hmost_2 => ?_
      conv => cbv
      refine r_addf m.sX (by omega) (by omega) fun r2 hr2 => ?_
      conv => cbv
      try have tr2 : Int.toNat r2 = Int.toNat i1 + 1 := by omega
      refine hE _ (most_2, r2) ?_ ?_ ⟨(by (try dsimp only); first | omega | (simp only [List.length_nil]; omega) | (simp only [List.length_cons, List.length_nil]; omega)), (by (try dsimp only); first | omega | (simp only [List.length_nil]; omega) | (simp only [List.length_cons, List.length_nil]; omega)), (by (try dsimp only) <;> first | omega | rfl | (simp [*]; done) | (rw [mb]; simp [*]; done)), (by (try dsimp only) <;> (rw [tr2, take_snoc zq, lateD_snoc, ← q]; dsimp only; rw [jobAt_some hx2]; dsimp only; omega))⟩ (by first | omega | (dsimp only; omega))
      · cbv
      · cbv
    · have dz_i1 := drop_end (xs := order) (i := Int.toNat i1) (by omega)
      have tz_i1 := take_end (xs := order) (i := Int.toNat i1) (by omega)
      refine hF _ _ ?_
      conv => cbv
      exact hQ (.int .i64 most) (Eq.trans (by first | rfl | (simp only [lb, lbI, rows_cons, rows_nil, unnilT, unnil, unnilTI, unnilI]; done) | (simp only [lb, lbI, rows_cons, rows_nil, unnilT, unnil, unnilTI, unnilI]; rfl)) (congrArg (PV.int .i64) (show most = delayP (pA, pB, pC, pD) l ink order from by rw [q, List.take_of_length_le (by rw [List.length_zip]; omega), el]; rfl)))   -- leaf 1

theorem prDelay_ok (p : Press) (ink : Int) (l : List PressJob) (times : List Int) (order : List Int) (hwk : workB p ink l = true) (ho : fineB l.length order = true) (ht : times = l.map (minsF p)) : OkA Try.prog 108 [.agg (cPress p), .int .i64 ink, .isl 3 (rows cPressJob l), .isl 1 (rows cInt times), .isl 1 (rows cInt order)] (· = .int .i64 (delayP p l ink order)) := by
  obtain ⟨pA, pB, pC, pD⟩ := p
  try dsimp only at *
  exact fn_intro envOk fieldsOk mixed Try.func108 rfl fun κ X Y L Q m hQ => by
    obtain ⟨w1, w2, w3⟩ := workB_spec hwk
    have ol := diff_len _ _ (fineB_diff.1 ho)
    try dsimp only at ol
    have ll := okJobs_len7 w3
    try dsimp only at ll
    conv => cbv
    refine r_callF (li 3 1 cInt) m.sX (prEnds_ok (pA, pB, pC, pD) ink l times order (by first | rfl | assumption | omega | (simp only [List.length_append, List.length_cons, List.length_nil] at *; omega)) (by first | rfl | assumption | omega | (simp only [List.length_append, List.length_cons, List.length_nil] at *; omega)) (by first | rfl | assumption | omega | (simp only [List.length_append, List.length_cons, List.length_nil] at *; omega))) fun v hends => ?_
    obtain ⟨ends, v1⟩ := v
    conv => cbv
    try dsimp only at hends
    have el := (Prod.mk.inj hends).1
    try dsimp only at el
    have le : ends.length = order.length := by rw [el, endsP_length]
    refine r_lenR m.sX fun n1 hn1 mn1 => ?_
    conv => cbv
    refine r_loopF (α := Int × Int) m 46 [2, 11, 25, 26, 27] [⟨12, 97, 3, 1, 0⟩] (fun σ => [(2, .isl 3 (rows cPressJob l)), (11, .int .i64 σ.1), (12, .osl 97 0), (25, .isl 1 (rows cInt order)), (26, .int .i64 n1), (27, .int .i64 σ.2)]) (fun σ => [(97, 0, .row 3 1 (rows cInt ends))])
      (fun σ => (0 ≤ σ.2) ∧ (σ.2 ≤ n1) ∧ (0 ≤ σ.1 ∧ σ.1 ≤ 100000000) ∧ (σ.1 = lateD l ((ends.zip order).take σ.2.toNat))) (fun σ => (n1 - σ.2).toNat) (0, 0) ?_ ?_ ?_ ?_
    · cbv
    · cbv
    · exact ⟨(by (try dsimp only); first | omega | (simp only [List.length_nil]; omega) | (simp only [List.length_cons, List.length_nil]; omega)), (by (try dsimp only); first | omega | (simp only [List.length_nil]; omega) | (simp only [List.length_cons, List.length_nil]; omega)), (by (try dsimp only) <;> first | omega | rfl | (simp [*]; done)), (by (try dsimp only) <;> (rfl))⟩
    rintro ⟨most, i1⟩ ⟨lo1, hi1, mb, q⟩ E hE F hF
    dsimp only at lo1 hi1 mb q
    conv => cbv
    refine r_lss m.sX (fun h1 => ?_) (fun h1 => ?_) <;> conv => cbv
    · refine r_index m.sX (by omega) (by omega) fun i hi => ?_
      conv => cbv
      have mi := get_mem hi
      have di := drop_cons hi
      have ki := take_snoc hi
      have ji : (i1 + 1).toNat = Int.toNat i1 + 1 := by omega
      have vi := nth_some hi
      have bi := (fineB_iff.1 ho).2 i mi
      try dsimp only at bi
      refine r_draw m (by kernel_rfl) ?_
      conv => cbv
      refine r_oindex m.sY (by omega) (by omega) ?_
      conv => cbv
      obtain ⟨x1, hx1⟩ := get_ex (xs := ends) (i := Int.toNat i1) (by omega)
      have mx1 := get_mem hx1
      have dx1 := drop_cons hx1
      have kx1 := take_snoc hx1
      have jx1 : (i1 + 1).toNat = Int.toNat i1 + 1 := by omega
      have vx1 := nth_some hx1
      have xb := endsP_bound w1 w3 order ink 0 (fineB_iff.1 ho).2 x1 (by rw [← el]; exact get_mem hx1)
      try dsimp only at xb
      refine r_oload m.sY hx1 (Nat.le_of_ble_eq_true rfl) ?_
      conv => cbv
      refine r_index m.sY (by omega) (by omega) fun v hx2A => ?_
      obtain ⟨x2A, x2B, x2C⟩ := v
      conv => cbv
      have hx2 := hx2A
      have mx2 := get_mem hx2
      have xs := okJob_spec (okJobs_mem w3 _ mx2)
      try dsimp only at xs
      try dsimp only at xs
      have zq : (ends.zip order)[i1.toNat]? = some (x1, i) := by rw [List.getElem?_zip_eq_some]; exact ⟨hx1, hi⟩
      refine r_subf m.sY (by omega) (by omega) fun r1 hr1 => ?_
      conv => cbv
      refine r_callFS (PV.int .i64) m.sY (l1Most_ok most r1) trivial fun most_2 hmost_2 => ?_
      conv => cbv
      try dsimp only at hmost_2
      refine r_addf m.sX (by omega) (by omega) fun r2 hr2 => ?_
      conv => cbv
      try have tr2 : Int.toNat r2 = Int.toNat i1 + 1 := by omega
      refine hE _ (most_2, r2) ?_ ?_ ⟨(by (try dsimp only); first | omega | (simp only [List.length_nil]; omega) | (simp only [List.length_cons, List.length_nil]; omega)), (by (try dsimp only); first | omega | (simp only [List.length_nil]; omega) | (simp only [List.length_cons, List.length_nil]; omega)), (by (try dsimp only) <;> first | omega | rfl | (simp [*]; done) | (rw [mb]; simp [*]; done)), (by (try dsimp only) <;> (rw [tr2, take_snoc zq, lateD_snoc, ← q]; dsimp only; rw [jobAt_some hx2]; dsimp only; omega))⟩ (by first | omega | (dsimp only; omega))
      · cbv
      · cbv
    · have dz_i1 := drop_end (xs := order) (i := Int.toNat i1) (by omega)
      have tz_i1 := take_end (xs := order) (i := Int.toNat i1) (by omega)
      refine hF _ _ ?_
      conv => cbv
      exact hQ (.int .i64 most) (Eq.trans (by first | rfl | (simp only [lb, lbI, rows_cons, rows_nil, unnilT, unnil, unnilTI, unnilI]; done) | (simp only [lb, lbI, rows_cons, rows_nil, unnilT, unnil, unnilTI, unnilI]; rfl)) (congrArg (PV.int .i64) (show most = delayP (pA, pB, pC, pD) l ink order from by rw [q, List.take_of_length_le (by rw [List.length_zip]; omega), el]; rfl)))   -- leaf 1

theorem prCost_ok (p : Press) (ink : Int) (l : List PressJob) (times : List Int) (order : List Int) (delay : Bool) (hwk : workB p ink l = true) (ho : fineB l.length order = true) (ht : times = l.map (minsF p)) : OkA Try.prog 151 [.agg (cPress p), .int .i64 ink, .isl 3 (rows cPressJob l), .isl 1 (rows cInt times), .isl 1 (rows cInt order), .bool delay] (· = .int .i64 (if delay then delayP p l ink order else washP p l ink order)) := by
  obtain ⟨pA, pB, pC, pD⟩ := p
  try dsimp only at *
  exact fn_intro envOk fieldsOk mixed Try.func151 rfl fun κ X Y L Q m hQ => by
    conv => cbv
    rcases Bool.eq_false_or_eq_true delay with rfl | rfl <;> conv => cbv
    · refine r_callF (PV.int .i64) m.sX (prDelay_ok (pA, pB, pC, pD) ink l times order (by first | rfl | assumption | omega | (simp only [List.length_append, List.length_cons, List.length_nil] at *; omega)) (by first | rfl | assumption | omega | (simp only [List.length_append, List.length_cons, List.length_nil] at *; omega)) (by first | rfl | assumption | omega | (simp only [List.length_append, List.length_cons, List.length_nil] at *; omega))) fun r1 hr1 => ?_
      conv => cbv
      try dsimp only at hr1
      exact hQ (.int .i64 r1) (Eq.trans (by first | rfl | (simp only [lb, lbI, rows_cons, rows_nil, unnilT, unnil, unnilTI, unnilI]; done) | (simp only [lb, lbI, rows_cons, rows_nil, unnilT, unnil, unnilTI, unnilI]; rfl)) (congrArg (PV.int .i64) (show r1 = if true then delayP (pA, pB, pC, pD) l ink order else washP (pA, pB, pC, pD) l ink order from by rw [hr1]; rfl)))   -- leaf 1
    · refine r_callF (li 3 1 cInt) m.sX (prEnds_ok (pA, pB, pC, pD) ink l times order (by first | rfl | assumption | omega | (simp only [List.length_append, List.length_cons, List.length_nil] at *; omega)) (by first | rfl | assumption | omega | (simp only [List.length_append, List.length_cons, List.length_nil] at *; omega)) (by first | rfl | assumption | omega | (simp only [List.length_append, List.length_cons, List.length_nil] at *; omega))) fun v hv1 => ?_
      obtain ⟨v1, washing⟩ := v
      conv => cbv
      try dsimp only at hv1
      have el := (Prod.mk.inj hv1).2
      try dsimp only at el
      exact hQ (.int .i64 washing) (Eq.trans (by first | rfl | (simp only [lb, lbI, rows_cons, rows_nil, unnilT, unnil, unnilTI, unnilI]; done) | (simp only [lb, lbI, rows_cons, rows_nil, unnilT, unnil, unnilTI, unnilI]; rfl)) (congrArg (PV.int .i64) (show washing = if false then delayP (pA, pB, pC, pD) l ink order else washP (pA, pB, pC, pD) l ink order from by rw [el]; rfl)))   -- leaf 2

noncomputable def endsPA (p : Press) (ink : Int) (l : List PressJob) (o : List Int) : List Int × Bool := if pAskB p ink l o then (endsP p l ink 0 o, true) else ([], false)
def washPA (p : Press) (ink : Int) (l : List PressJob) (o : List Int) : Int × Bool := if pAskB p ink l o then (washP p l ink o, true) else (0, false)
noncomputable def latePA (p : Press) (ink : Int) (l : List PressJob) (o : List Int) : List Int × Bool := if pAskB p ink l o then (sortI (lateP p l ink o), true) else ([], false)
noncomputable def delayPA (p : Press) (ink : Int) (l : List PressJob) (o : List Int) : Int × Bool := if pAskB p ink l o then (delayP p l ink o, true) else (0, false)
theorem PressEnds_ok (p : Press) (ink : Int) (l : List PressJob) (order : List Int)  : OkA Try.prog 35 [.agg (cPress p), .int .i64 ink, .isl 3 (rows cPressJob l), .isl 1 (rows cInt order)] (· = (lb 3 1 cInt) (endsPA p ink l order)) := by
  obtain ⟨pA, pB, pC, pD⟩ := p
  try dsimp only at *
  exact OkA.unnil 3 1 (fn_intro envOk fieldsOk mixed Try.func35 rfl fun κ X Y L Q m hQ => by
    conv => cbv
    refine r_callB m.sX (isPressOrder_ok (pA, pB, pC, pD) ink l order) (fun h1 => ?_) (fun h1 => ?_) <;> conv => cbv
    · obtain ⟨a1, a2, a3⟩ := pAskB_spec h1
      refine r_callF (li 3 1 cInt) m.sX (run_ok (pA, pB, pC, pD) ink l order (by first | rfl | assumption | omega | (simp only [List.length_append, List.length_cons, List.length_nil] at *; omega)) (by first | rfl | assumption | omega | (simp only [List.length_append, List.length_cons, List.length_nil] at *; omega))) fun v hlist => ?_
      obtain ⟨list, v1⟩ := v
      conv => cbv
      try dsimp only at hlist
      have el := (Prod.mk.inj hlist).1
      try dsimp only at el
      exact hQ (.tup [.fr 3 1 (rows cInt list), .bool true]) (Eq.trans (by first | rfl | (simp only [lb, lbI, rows_cons, rows_nil, unnilT, unnil, unnilTI, unnilI]; done) | (simp only [lb, lbI, rows_cons, rows_nil, unnilT, unnil, unnilTI, unnilI]; rfl)) (congrArg ((lb 3 1 cInt)) (show (list, true) = endsPA (pA, pB, pC, pD) ink l order from by simp [endsPA, *])))   -- leaf 1
    · exact hQ (.tup [.fr 3 1 [], .bool false]) (Eq.trans (by first | rfl | (simp only [lb, lbI, rows_cons, rows_nil, unnilT, unnil, unnilTI, unnilI]; done) | (simp only [lb, lbI, rows_cons, rows_nil, unnilT, unnil, unnilTI, unnilI]; rfl)) (congrArg ((lb 3 1 cInt)) (show ([], false) = endsPA (pA, pB, pC, pD) ink l order from by simp [endsPA, *]))))   -- leaf 2

theorem specPressEnds_ok (p : Press) (ink : Int) (l : List PressJob) (order : List Int)  : OkA Try.prog 36 [.agg (cPress p), .int .i64 ink, .isl 3 (rows cPressJob l), .isl 1 (rows cInt order)] (· = (lb 3 1 cInt) (endsPA p ink l order)) := by
  obtain ⟨pA, pB, pC, pD⟩ := p
  try dsimp only at *
  exact OkA.unnil 3 1 (fn_intro envOk fieldsOk mixed Try.func36 rfl fun κ X Y L Q m hQ => by
    conv => cbv
    refine r_callB m.sX (prAsked_ok (pA, pB, pC, pD) ink l order) (fun h1 => ?_) (fun h1 => ?_) <;> conv => cbv
    · obtain ⟨a1, a2, a3⟩ := pAskB_spec h1
      obtain ⟨w1, w2, w3⟩ := workB_spec a1
      refine r_draw m (by kernel_rfl) ?_
      conv => cbv
      refine r_callFS (fun l => PV.isl _ (rows _ l)) m.sY ((prTimes_ok (pA, pB, pC, pD) l (by first | rfl | assumption | omega | (simp only [List.length_append, List.length_cons, List.length_nil] at *; omega)) (by first | rfl | assumption | omega | (simp only [List.length_append, List.length_cons, List.length_nil] at *; omega))).ice) trivial fun v1 hv1 => ?_
      conv => cbv
      try dsimp only at hv1
      refine r_callFS (li 3 1 cInt) m.sY (prEnds_ok (pA, pB, pC, pD) ink l v1 order (by first | rfl | assumption | omega | (simp only [List.length_append, List.length_cons, List.length_nil] at *; omega)) (by first | rfl | assumption | omega | (simp only [List.length_append, List.length_cons, List.length_nil] at *; omega)) (by first | rfl | assumption | omega | (simp only [List.length_append, List.length_cons, List.length_nil] at *; omega))) (by first | trivial | exact noFr_tup2 trivial trivial | exact noFr_tup3 trivial trivial trivial) fun v hends => ?_
      obtain ⟨ends, v2⟩ := v
      conv => cbv
      try dsimp only at hends
      have el := (Prod.mk.inj hends).1
      try dsimp only at el
      exact hQ (.tup [.fr 3 1 (rows cInt ends), .bool true]) (Eq.trans (by first | rfl | (simp only [lb, lbI, rows_cons, rows_nil, unnilT, unnil, unnilTI, unnilI]; done) | (simp only [lb, lbI, rows_cons, rows_nil, unnilT, unnil, unnilTI, unnilI]; rfl)) (congrArg ((lb 3 1 cInt)) (show (ends, true) = endsPA (pA, pB, pC, pD) ink l order from by simp [endsPA, *])))   -- leaf 1
    · exact hQ (.tup [.nil, .bool false]) (Eq.trans (by first | rfl | (simp only [lb, lbI, rows_cons, rows_nil, unnilT, unnil, unnilTI, unnilI]; done) | (simp only [lb, lbI, rows_cons, rows_nil, unnilT, unnil, unnilTI, unnilI]; rfl)) (congrArg ((lb 3 1 cInt)) (show ([], false) = endsPA (pA, pB, pC, pD) ink l order from by simp [endsPA, *]))))   -- leaf 2

theorem WashingIn_ok (p : Press) (ink : Int) (l : List PressJob) (order : List Int)  : OkA Try.prog 37 [.agg (cPress p), .int .i64 ink, .isl 3 (rows cPressJob l), .isl 1 (rows cInt order)] (· = ib (washPA p ink l order)) := by
  obtain ⟨pA, pB, pC, pD⟩ := p
  try dsimp only at *
  exact fn_intro envOk fieldsOk mixed Try.func37 rfl fun κ X Y L Q m hQ => by
    conv => cbv
    refine r_callB m.sX (isPressOrder_ok (pA, pB, pC, pD) ink l order) (fun h1 => ?_) (fun h1 => ?_) <;> conv => cbv
    · obtain ⟨a1, a2, a3⟩ := pAskB_spec h1
      refine r_callF (li 3 1 cInt) m.sX (run_ok (pA, pB, pC, pD) ink l order (by first | rfl | assumption | omega | (simp only [List.length_append, List.length_cons, List.length_nil] at *; omega)) (by first | rfl | assumption | omega | (simp only [List.length_append, List.length_cons, List.length_nil] at *; omega))) fun v hv1 => ?_
      obtain ⟨v1, washing⟩ := v
      conv => cbv
      try dsimp only at hv1
      have el := (Prod.mk.inj hv1).2
      try dsimp only at el
      exact hQ (.tup [.int .i64 washing, .bool true]) (Eq.trans (by first | rfl | (simp only [lb, lbI, rows_cons, rows_nil, unnilT, unnil, unnilTI, unnilI]; done) | (simp only [lb, lbI, rows_cons, rows_nil, unnilT, unnil, unnilTI, unnilI]; rfl)) (congrArg (ib) (show (washing, true) = washPA (pA, pB, pC, pD) ink l order from by simp [washPA, *])))   -- leaf 1
    · exact hQ (.tup [.int .i64 0, .bool false]) (Eq.trans (by first | rfl | (simp only [lb, lbI, rows_cons, rows_nil, unnilT, unnil, unnilTI, unnilI]; done) | (simp only [lb, lbI, rows_cons, rows_nil, unnilT, unnil, unnilTI, unnilI]; rfl)) (congrArg (ib) (show (0, false) = washPA (pA, pB, pC, pD) ink l order from by simp [washPA, *])))   -- leaf 2

theorem specWashingIn_ok (p : Press) (ink : Int) (l : List PressJob) (order : List Int)  : OkA Try.prog 38 [.agg (cPress p), .int .i64 ink, .isl 3 (rows cPressJob l), .isl 1 (rows cInt order)] (· = ib (washPA p ink l order)) := by
  obtain ⟨pA, pB, pC, pD⟩ := p
  try dsimp only at *
  exact fn_intro envOk fieldsOk mixed Try.func38 rfl fun κ X Y L Q m hQ => by
    conv => cbv
    refine r_callB m.sX (prAsked_ok (pA, pB, pC, pD) ink l order) (fun h1 => ?_) (fun h1 => ?_) <;> conv => cbv
    · obtain ⟨a1, a2, a3⟩ := pAskB_spec h1
      obtain ⟨w1, w2, w3⟩ := workB_spec a1
      refine r_draw m (by kernel_rfl) ?_
      conv => cbv
      refine r_callFS (fun l => PV.isl _ (rows _ l)) m.sY ((prTimes_ok (pA, pB, pC, pD) l (by first | rfl | assumption | omega | (simp only [List.length_append, List.length_cons, List.length_nil] at *; omega)) (by first | rfl | assumption | omega | (simp only [List.length_append, List.length_cons, List.length_nil] at *; omega))).ice) trivial fun v1 hv1 => ?_
      conv => cbv
      try dsimp only at hv1
      refine r_callFS (li 3 1 cInt) m.sY (prEnds_ok (pA, pB, pC, pD) ink l v1 order (by first | rfl | assumption | omega | (simp only [List.length_append, List.length_cons, List.length_nil] at *; omega)) (by first | rfl | assumption | omega | (simp only [List.length_append, List.length_cons, List.length_nil] at *; omega)) (by first | rfl | assumption | omega | (simp only [List.length_append, List.length_cons, List.length_nil] at *; omega))) (by first | trivial | exact noFr_tup2 trivial trivial | exact noFr_tup3 trivial trivial trivial) fun v hv2 => ?_
      obtain ⟨v2, washing⟩ := v
      conv => cbv
      try dsimp only at hv2
      have el := (Prod.mk.inj hv2).2
      try dsimp only at el
      exact hQ (.tup [.int .i64 washing, .bool true]) (Eq.trans (by first | rfl | (simp only [lb, lbI, rows_cons, rows_nil, unnilT, unnil, unnilTI, unnilI]; done) | (simp only [lb, lbI, rows_cons, rows_nil, unnilT, unnil, unnilTI, unnilI]; rfl)) (congrArg (ib) (show (washing, true) = washPA (pA, pB, pC, pD) ink l order from by simp [washPA, *])))   -- leaf 1
    · exact hQ (.tup [.int .i64 0, .bool false]) (Eq.trans (by first | rfl | (simp only [lb, lbI, rows_cons, rows_nil, unnilT, unnil, unnilTI, unnilI]; done) | (simp only [lb, lbI, rows_cons, rows_nil, unnilT, unnil, unnilTI, unnilI]; rfl)) (congrArg (ib) (show (0, false) = washPA (pA, pB, pC, pD) ink l order from by simp [washPA, *])))   -- leaf 2

theorem GreatestDelay_ok (p : Press) (ink : Int) (l : List PressJob) (order : List Int)  : OkA Try.prog 41 [.agg (cPress p), .int .i64 ink, .isl 3 (rows cPressJob l), .isl 1 (rows cInt order)] (· = ib (delayPA p ink l order)) := by
  obtain ⟨pA, pB, pC, pD⟩ := p
  try dsimp only at *
  exact fn_intro envOk fieldsOk mixed Try.func41 rfl fun κ X Y L Q m hQ => by
    conv => cbv
    refine r_callB m.sX (isPressOrder_ok (pA, pB, pC, pD) ink l order) (fun h1 => ?_) (fun h1 => ?_) <;> conv => cbv
    · obtain ⟨a1, a2, a3⟩ := pAskB_spec h1
      refine r_callF (PV.int .i64) m.sX (delay_ok (pA, pB, pC, pD) ink l order (by first | rfl | assumption | omega | (simp only [List.length_append, List.length_cons, List.length_nil] at *; omega)) (by first | rfl | assumption | omega | (simp only [List.length_append, List.length_cons, List.length_nil] at *; omega))) fun r1 hr1 => ?_
      conv => cbv
      try dsimp only at hr1
      exact hQ (.tup [.int .i64 r1, .bool true]) (Eq.trans (by first | rfl | (simp only [lb, lbI, rows_cons, rows_nil, unnilT, unnil, unnilTI, unnilI]; done) | (simp only [lb, lbI, rows_cons, rows_nil, unnilT, unnil, unnilTI, unnilI]; rfl)) (congrArg (ib) (show (r1, true) = delayPA (pA, pB, pC, pD) ink l order from by simp [delayPA, *])))   -- leaf 1
    · exact hQ (.tup [.int .i64 0, .bool false]) (Eq.trans (by first | rfl | (simp only [lb, lbI, rows_cons, rows_nil, unnilT, unnil, unnilTI, unnilI]; done) | (simp only [lb, lbI, rows_cons, rows_nil, unnilT, unnil, unnilTI, unnilI]; rfl)) (congrArg (ib) (show (0, false) = delayPA (pA, pB, pC, pD) ink l order from by simp [delayPA, *])))   -- leaf 2

theorem specGreatestDelay_ok (p : Press) (ink : Int) (l : List PressJob) (order : List Int)  : OkA Try.prog 42 [.agg (cPress p), .int .i64 ink, .isl 3 (rows cPressJob l), .isl 1 (rows cInt order)] (· = ib (delayPA p ink l order)) := by
  obtain ⟨pA, pB, pC, pD⟩ := p
  try dsimp only at *
  exact fn_intro envOk fieldsOk mixed Try.func42 rfl fun κ X Y L Q m hQ => by
    conv => cbv
    refine r_callB m.sX (prAsked_ok (pA, pB, pC, pD) ink l order) (fun h1 => ?_) (fun h1 => ?_) <;> conv => cbv
    · obtain ⟨a1, a2, a3⟩ := pAskB_spec h1
      obtain ⟨w1, w2, w3⟩ := workB_spec a1
      refine r_draw m (by kernel_rfl) ?_
      conv => cbv
      refine r_callFS (fun l => PV.isl _ (rows _ l)) m.sY ((prTimes_ok (pA, pB, pC, pD) l (by first | rfl | assumption | omega | (simp only [List.length_append, List.length_cons, List.length_nil] at *; omega)) (by first | rfl | assumption | omega | (simp only [List.length_append, List.length_cons, List.length_nil] at *; omega))).ice) trivial fun v1 hv1 => ?_
      conv => cbv
      try dsimp only at hv1
      refine r_callFS (PV.int .i64) m.sY (prDelay_ok (pA, pB, pC, pD) ink l v1 order (by first | rfl | assumption | omega | (simp only [List.length_append, List.length_cons, List.length_nil] at *; omega)) (by first | rfl | assumption | omega | (simp only [List.length_append, List.length_cons, List.length_nil] at *; omega)) (by first | rfl | assumption | omega | (simp only [List.length_append, List.length_cons, List.length_nil] at *; omega))) trivial fun r1 hr1 => ?_
      conv => cbv
      try dsimp only at hr1
      exact hQ (.tup [.int .i64 r1, .bool true]) (Eq.trans (by first | rfl | (simp only [lb, lbI, rows_cons, rows_nil, unnilT, unnil, unnilTI, unnilI]; done) | (simp only [lb, lbI, rows_cons, rows_nil, unnilT, unnil, unnilTI, unnilI]; rfl)) (congrArg (ib) (show (r1, true) = delayPA (pA, pB, pC, pD) ink l order from by simp [delayPA, *])))   -- leaf 1
    · exact hQ (.tup [.int .i64 0, .bool false]) (Eq.trans (by first | rfl | (simp only [lb, lbI, rows_cons, rows_nil, unnilT, unnil, unnilTI, unnilI]; done) | (simp only [lb, lbI, rows_cons, rows_nil, unnilT, unnil, unnilTI, unnilI]; rfl)) (congrArg (ib) (show (0, false) = delayPA (pA, pB, pC, pD) ink l order from by simp [delayPA, *])))   -- leaf 2

theorem LateJobs_ok (p : Press) (ink : Int) (l : List PressJob) (order : List Int)  : OkA Try.prog 39 [.agg (cPress p), .int .i64 ink, .isl 3 (rows cPressJob l), .isl 1 (rows cInt order)] (· = (lb 3 1 cInt) (latePA p ink l order)) := by
  obtain ⟨pA, pB, pC, pD⟩ := p
  try dsimp only at *
  exact OkA.unnil 3 1 (fn_intro envOk fieldsOk mixed Try.func39 rfl fun κ X Y L Q m hQ => by
    conv => cbv
    refine r_callB m.sX (isPressOrder_ok (pA, pB, pC, pD) ink l order) (fun h1 => ?_) (fun h1 => ?_) <;> conv => cbv
    · obtain ⟨a1, a2, a3⟩ := pAskB_spec h1
      obtain ⟨w1, w2, w3⟩ := workB_spec a1
      have ll := okJobs_len7 w3
      try dsimp only at ll
      refine r_callF (li 3 1 cInt) m.sX (run_ok (pA, pB, pC, pD) ink l order (by first | rfl | assumption | omega | (simp only [List.length_append, List.length_cons, List.length_nil] at *; omega)) (by first | rfl | assumption | omega | (simp only [List.length_append, List.length_cons, List.length_nil] at *; omega))) fun v hlist => ?_
      obtain ⟨list, v1⟩ := v
      conv => cbv
      try dsimp only at hlist
      have el := (Prod.mk.inj hlist).1
      try dsimp only at el
      have le : list.length = order.length := by rw [el, endsP_length]
      refine r_lenR m.sX fun n1 hn1 mn1 => ?_
      conv => cbv
      refine r_loopF (α := List Int × Int) m 55 [2, 31, 32, 33] [⟨10, 81, 3, 1, 0⟩, ⟨11, 89, 3, 1, 0⟩] (fun σ => [(2, .isl 3 (rows cPressJob l)), (10, .osl 81 0), (11, .osl 89 0), (31, .isl 1 (rows cInt order)), (32, .int .i64 n1), (33, .int .i64 σ.2)]) (fun σ => [(81, 0, .row 3 1 (rows cInt σ.1)), (89, 0, .row 3 1 (rows cInt list))])
        (fun σ => (0 ≤ σ.2) ∧ (σ.2 ≤ n1) ∧ (σ.1 = latez l ((list.zip order).take σ.2.toNat)) ∧ ((σ.1.length : Int) ≤ σ.2)) (fun σ => (n1 - σ.2).toNat) ([], 0) ?_ ?_ ?_ ?_
      · cbv
      · (try dsimp only); (try simp only [rows_cons, rows_nil]); cbv
      · exact ⟨(by (try dsimp only); first | omega | (simp only [List.length_nil]; omega) | (simp only [List.length_cons, List.length_nil]; omega)), (by (try dsimp only); first | omega | (simp only [List.length_nil]; omega) | (simp only [List.length_cons, List.length_nil]; omega)), (by (try dsimp only) <;> (rfl)), (by (try dsimp only) <;> first | omega | rfl | (simp [*]; done))⟩
      rintro ⟨late, i1⟩ ⟨lo1, hi1, q, ln⟩ E hE F hF
      dsimp only at lo1 hi1 q ln
      conv => cbv
      refine r_lss m.sX (fun h2 => ?_) (fun h2 => ?_) <;> conv => cbv
      · refine r_index m.sX (by omega) (by omega) fun i hi => ?_
        conv => cbv
        have mi := get_mem hi
        have di := drop_cons hi
        have ki := take_snoc hi
        have ji : (i1 + 1).toNat = Int.toNat i1 + 1 := by omega
        have vi := nth_some hi
        have bi := (fineB_iff.1 a3).2 i mi
        try dsimp only at bi
        refine r_draw m (by kernel_rfl) ?_
        conv => cbv
        refine r_oindex m.sY (by omega) (by omega) ?_
        conv => cbv
        obtain ⟨x1, hx1⟩ := get_ex (xs := list) (i := Int.toNat i1) (by omega)
        have mx1 := get_mem hx1
        have dx1 := drop_cons hx1
        have kx1 := take_snoc hx1
        have jx1 : (i1 + 1).toNat = Int.toNat i1 + 1 := by omega
        have vx1 := nth_some hx1
        refine r_oload m.sY hx1 (Nat.le_of_ble_eq_true rfl) ?_
        conv => cbv
        refine r_index m.sY (by omega) (by omega) fun v hx2A => ?_
        obtain ⟨x2A, x2B, x2C⟩ := v
        conv => cbv
        have hx2 := hx2A
        have mx2 := get_mem hx2
        have zq : (list.zip order)[i1.toNat]? = some (x1, i) := by rw [List.getElem?_zip_eq_some]; exact ⟨hx1, hi⟩
        refine r_gtr m.sY (fun h3 => ?_) (fun h3 => ?_) <;> conv => cbv
        · refine r_append1 (i) m.sX rfl (by first | omega | (dsimp only; omega)) (by first | omega | (dsimp only; omega)) fun late_2 hlate_2 => ?_
          conv => cbv
          have llate_2 : (late_2.length : Int) = late.length + 1 := by rw [hlate_2]; first | done | (simp; done) | (simp; omega)
          refine r_addf m.sX (by omega) (by omega) fun r1 hr1 => ?_
          conv => cbv
          try have tr1 : Int.toNat r1 = Int.toNat i1 + 1 := by omega
          refine hE _ (late_2, r1) ?_ ?_ ⟨(by (try dsimp only); first | omega | (simp only [List.length_nil]; omega) | (simp only [List.length_cons, List.length_nil]; omega)), (by (try dsimp only); first | omega | (simp only [List.length_nil]; omega) | (simp only [List.length_cons, List.length_nil]; omega)), (by (try dsimp only) <;> (first | (rw [tr1, take_snoc zq, latez_snoc, ← q]; dsimp only; rw [jobAt_some hx2, if_pos (by dsimp only; omega), hlate_2]; done) | (rw [tr1, take_snoc zq, latez_snoc, ← q]; dsimp only; rw [jobAt_some hx2, if_neg (by dsimp only; omega)]; done))), (by (try dsimp only) <;> first | omega | rfl | (simp [*]; done) | (rw [ln]; simp [*]; done))⟩ (by first | omega | (dsimp only; omega))
          · cbv
          · cbv
        · refine r_addf m.sX (by omega) (by omega) fun r2 hr2 => ?_
          conv => cbv
          try have tr2 : Int.toNat r2 = Int.toNat i1 + 1 := by omega
          refine hE _ (late, r2) ?_ ?_ ⟨(by (try dsimp only); first | omega | (simp only [List.length_nil]; omega) | (simp only [List.length_cons, List.length_nil]; omega)), (by (try dsimp only); first | omega | (simp only [List.length_nil]; omega) | (simp only [List.length_cons, List.length_nil]; omega)), (by (try dsimp only) <;> (first | (rw [tr2, take_snoc zq, latez_snoc, ← q]; dsimp only; rw [jobAt_some hx2, if_pos (by dsimp only; omega), hlate_2]; done) | (rw [tr2, take_snoc zq, latez_snoc, ← q]; dsimp only; rw [jobAt_some hx2, if_neg (by dsimp only; omega)]; done))), (by (try dsimp only) <;> first | omega | rfl | (simp [*]; done) | (rw [ln]; simp [*]; done))⟩ (by first | omega | (dsimp only; omega))
          · cbv
          · cbv
      · have dz_i1 := drop_end (xs := order) (i := Int.toNat i1) (by omega)
        have tz_i1 := take_end (xs := order) (i := Int.toNat i1) (by omega)
        refine hF _ _ ?_
        conv => cbv
        refine .inl (r_callFO (fun l => PV.fr _ _ (rows _ l)) m.sX ((sorted0_ok late (by omega)).ok (flat_fr flat_cInt)) fun v2 hv2 => ?_)
        conv => cbv
        try dsimp only at hv2
        exact hQ (.tup [.fr 3 1 (rows cInt v2), .bool true]) (Eq.trans (by first | rfl | (simp only [lb, lbI, rows_cons, rows_nil, unnilT, unnil, unnilTI, unnilI]; done) | (simp only [lb, lbI, rows_cons, rows_nil, unnilT, unnil, unnilTI, unnilI]; rfl)) (congrArg ((lb 3 1 cInt)) (show (v2, true) = latePA (pA, pB, pC, pD) ink l order from by rw [hv2, q, List.take_of_length_le (by rw [List.length_zip]; omega), el, latez_all, latePA, if_pos h1])))   -- leaf 1
    · exact hQ (.tup [.fr 3 1 [], .bool false]) (Eq.trans (by first | rfl | (simp only [lb, lbI, rows_cons, rows_nil, unnilT, unnil, unnilTI, unnilI]; done) | (simp only [lb, lbI, rows_cons, rows_nil, unnilT, unnil, unnilTI, unnilI]; rfl)) (congrArg ((lb 3 1 cInt)) (show ([], false) = latePA (pA, pB, pC, pD) ink l order from by rw [latePA, h1]; rfl))))   -- leaf 2

theorem specLateJobs_ok (p : Press) (ink : Int) (l : List PressJob) (order : List Int)  : OkA Try.prog 40 [.agg (cPress p), .int .i64 ink, .isl 3 (rows cPressJob l), .isl 1 (rows cInt order)] (· = (lb 3 1 cInt) (latePA p ink l order)) := by
  obtain ⟨pA, pB, pC, pD⟩ := p
  try dsimp only at *
  exact OkA.unnil 3 1 (fn_intro envOk fieldsOk mixed Try.func40 rfl fun κ X Y L Q m hQ => by
    conv => cbv
    refine r_callB m.sX (prAsked_ok (pA, pB, pC, pD) ink l order) (fun h1 => ?_) (fun h1 => ?_) <;> conv => cbv
    · obtain ⟨a1, a2, a3⟩ := pAskB_spec h1
      obtain ⟨w1, w2, w3⟩ := workB_spec a1
      have ll := okJobs_len7 w3
      try dsimp only at ll
      refine r_draw m (by kernel_rfl) ?_
      conv => cbv
      refine r_callFS (fun l => PV.isl _ (rows _ l)) m.sY ((prTimes_ok (pA, pB, pC, pD) l (by first | rfl | assumption | omega | (simp only [List.length_append, List.length_cons, List.length_nil] at *; omega)) (by first | rfl | assumption | omega | (simp only [List.length_append, List.length_cons, List.length_nil] at *; omega))).ice) trivial fun v1 hv1 => ?_
      conv => cbv
      try dsimp only at hv1
      refine r_callFS (li 3 1 cInt) m.sY (prEnds_ok (pA, pB, pC, pD) ink l v1 order (by first | rfl | assumption | omega | (simp only [List.length_append, List.length_cons, List.length_nil] at *; omega)) (by first | rfl | assumption | omega | (simp only [List.length_append, List.length_cons, List.length_nil] at *; omega)) (by first | rfl | assumption | omega | (simp only [List.length_append, List.length_cons, List.length_nil] at *; omega))) (by first | trivial | exact noFr_tup2 trivial trivial | exact noFr_tup3 trivial trivial trivial) fun v hends => ?_
      obtain ⟨ends, v2⟩ := v
      conv => cbv
      try dsimp only at hends
      have el := (Prod.mk.inj hends).1
      try dsimp only at el
      have le : ends.length = order.length := by rw [el, endsP_length]
      refine r_lenR m.sX fun n1 hn1 mn1 => ?_
      conv => cbv
      refine r_loopF (α := List Int × Int) m 54 [2, 32, 33, 34] [⟨10, 81, 3, 1, 0⟩, ⟨11, 89, 3, 1, 0⟩] (fun σ => [(2, .isl 3 (rows cPressJob l)), (10, .osl 81 0), (11, .osl 89 0), (32, .isl 1 (rows cInt order)), (33, .int .i64 n1), (34, .int .i64 σ.2)]) (fun σ => [(81, 0, .row 3 1 (rows cInt σ.1)), (89, 0, .row 3 1 (rows cInt ends))])
        (fun σ => (0 ≤ σ.2) ∧ (σ.2 ≤ n1) ∧ (σ.1.Pairwise (fun x y => x < y)) ∧ (σ.1.Perm (latez l ((ends.zip order).take σ.2.toNat))) ∧ ((σ.1.length : Int) ≤ σ.2)) (fun σ => (n1 - σ.2).toNat) ([], 0) ?_ ?_ ?_ ?_
      · cbv
      · (try dsimp only); (try simp only [rows_cons, rows_nil]); cbv
      · exact ⟨(by (try dsimp only); first | omega | (simp only [List.length_nil]; omega) | (simp only [List.length_cons, List.length_nil]; omega)), (by (try dsimp only); first | omega | (simp only [List.length_nil]; omega) | (simp only [List.length_cons, List.length_nil]; omega)), (by (try dsimp only) <;> (exact .nil)), (by (try dsimp only) <;> (exact List.Perm.refl _)), (by (try dsimp only) <;> first | omega | rfl | (simp [*]; done))⟩
      rintro ⟨out, i1⟩ ⟨lo1, hi1, q, q2, ln⟩ E hE F hF
      dsimp only at lo1 hi1 q q2 ln
      conv => cbv
      refine r_lss m.sX (fun h2 => ?_) (fun h2 => ?_) <;> conv => cbv
      · refine r_index m.sX (by omega) (by omega) fun i hi => ?_
        conv => cbv
        have mi := get_mem hi
        have di := drop_cons hi
        have ki := take_snoc hi
        have ji : (i1 + 1).toNat = Int.toNat i1 + 1 := by omega
        have vi := nth_some hi
        have bi := (fineB_iff.1 a3).2 i mi
        try dsimp only at bi
        refine r_draw m (by kernel_rfl) ?_
        conv => cbv
        refine r_oindex m.sY (by omega) (by omega) ?_
        conv => cbv
        obtain ⟨x1, hx1⟩ := get_ex (xs := ends) (i := Int.toNat i1) (by omega)
        have mx1 := get_mem hx1
        have dx1 := drop_cons hx1
        have kx1 := take_snoc hx1
        have jx1 : (i1 + 1).toNat = Int.toNat i1 + 1 := by omega
        have vx1 := nth_some hx1
        refine r_oload m.sY hx1 (Nat.le_of_ble_eq_true rfl) ?_
        conv => cbv
        refine r_index m.sY (by omega) (by omega) fun v hx2A => ?_
        obtain ⟨x2A, x2B, x2C⟩ := v
        conv => cbv
        have hx2 := hx2A
        have mx2 := get_mem hx2
        have zq : (ends.zip order)[i1.toNat]? = some (x1, i) := by rw [List.getElem?_zip_eq_some]; exact ⟨hx1, hi⟩
        refine r_gtr m.sY (fun h3 => ?_) (fun h3 => ?_) <;> conv => cbv
        · have hnew : i ∉ out := fun hm => latez_in (fineB_iff.1 a3).1 hi (q2.mem_iff.1 hm)
          refine .inl (r_callFO (fun l => PV.fr _ _ (rows _ l)) m.sX ((l1PutNew_ok out i (by omega) hnew).ok (flat_fr flat_cInt)) fun out_2 hout_2 => ?_)
          conv => cbv
          try dsimp only at hout_2
          have pl := put_len out i
          try dsimp only at pl
          rw [← hout_2] at pl
          refine r_addf m.sX (by omega) (by omega) fun r1 hr1 => ?_
          conv => cbv
          try have tr1 : Int.toNat r1 = Int.toNat i1 + 1 := by omega
          refine hE _ (out_2, r1) ?_ ?_ ⟨(by (try dsimp only); first | omega | (simp only [List.length_nil]; omega) | (simp only [List.length_cons, List.length_nil]; omega)), (by (try dsimp only); first | omega | (simp only [List.length_nil]; omega) | (simp only [List.length_cons, List.length_nil]; omega)), (by (try dsimp only) <;> (first | (rw [hout_2]; exact put_sorted q) | exact q)), (by (try dsimp only) <;> (first | (rw [tr1, take_snoc zq, latez_snoc]; dsimp only; rw [jobAt_some hx2, if_pos (by dsimp only; omega), hout_2]; exact (put_perm hnew).trans (q2.append_right [i])) | (rw [tr1, take_snoc zq, latez_snoc]; dsimp only; rw [jobAt_some hx2, if_neg (by dsimp only; omega)]; exact q2))), (by (try dsimp only) <;> first | omega | rfl | (simp [*]; done) | (rw [ln]; simp [*]; done))⟩ (by first | omega | (dsimp only; omega))
          · cbv
          · cbv
        · refine r_addf m.sX (by omega) (by omega) fun r2 hr2 => ?_
          conv => cbv
          try have tr2 : Int.toNat r2 = Int.toNat i1 + 1 := by omega
          refine hE _ (out, r2) ?_ ?_ ⟨(by (try dsimp only); first | omega | (simp only [List.length_nil]; omega) | (simp only [List.length_cons, List.length_nil]; omega)), (by (try dsimp only); first | omega | (simp only [List.length_nil]; omega) | (simp only [List.length_cons, List.length_nil]; omega)), (by (try dsimp only) <;> (first | (rw [hout_2]; exact put_sorted q) | exact q)), (by (try dsimp only) <;> (first | (rw [tr2, take_snoc zq, latez_snoc]; dsimp only; rw [jobAt_some hx2, if_pos (by dsimp only; omega), hout_2]; exact (put_perm hnew).trans (q2.append_right [i])) | (rw [tr2, take_snoc zq, latez_snoc]; dsimp only; rw [jobAt_some hx2, if_neg (by dsimp only; omega)]; exact q2))), (by (try dsimp only) <;> first | omega | rfl | (simp [*]; done) | (rw [ln]; simp [*]; done))⟩ (by first | omega | (dsimp only; omega))
          · cbv
          · cbv
      · have dz_i1 := drop_end (xs := order) (i := Int.toNat i1) (by omega)
        have tz_i1 := take_end (xs := order) (i := Int.toNat i1) (by omega)
        refine hF _ _ ?_
        conv => cbv
        exact hQ (.tup [.fr 3 1 (rows cInt out), .bool true]) (Eq.trans (by first | rfl | (simp only [lb, lbI, rows_cons, rows_nil, unnilT, unnil, unnilTI, unnilI]; done) | (simp only [lb, lbI, rows_cons, rows_nil, unnilT, unnil, unnilTI, unnilI]; rfl)) (congrArg ((lb 3 1 cInt)) (show (out, true) = latePA (pA, pB, pC, pD) ink l order from by rw [List.take_of_length_le (by rw [List.length_zip]; omega), el, latez_all] at q2; rw [latePA, if_pos h1, sortI_eq q2 (q.imp fun h => by omega)])))   -- leaf 1
    · exact hQ (.tup [.nil, .bool false]) (Eq.trans (by first | rfl | (simp only [lb, lbI, rows_cons, rows_nil, unnilT, unnil, unnilTI, unnilI]; done) | (simp only [lb, lbI, rows_cons, rows_nil, unnilT, unnil, unnilTI, unnilI]; rfl)) (congrArg ((lb 3 1 cInt)) (show ([], false) = latePA (pA, pB, pC, pD) ink l order from by rw [latePA, h1]; rfl))))   -- leaf 2


end Go.Proofs.Ytjmjepdlclehoaa.Ai
