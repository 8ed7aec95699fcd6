/- Numbers that are put into a list of rising ones. -/
import Derived.Test.YtiaodmfipeoegaaCommon
import Derived.Test.YtiaodmfipeoegaaAiIceM
import Derived.Test.YtiaodmfipeoegaaFurnEnd
import Derived.Test.YtiaodmfipeoegaaFurnDraw
import Derived.Test.YtiaodmfipeoegaaGridOf
import Derived.Maps.RangeWalk
import Derived.Maps.OwnSet
import Derived.WalkKit
import Derived.Deep.RegionHeld3
namespace Go.Proofs.Ytiaodmfipeoegaa.Ai
open Go Go.Proofs Go.RowKit Go.Maps
set_option linter.unusedSimpArgs false
set_option maxRecDepth 10000
set_option maxHeartbeats 4000000
set_option linter.unusedVariables false
/-- A number put into a list of rising numbers. -/
def putF (l : List Int) (n : Int) : List Int := if (l.dropWhile fun x => decide (x < n)).head? = some n then l else l.takeWhile (fun x => decide (x < n)) ++ n :: l.dropWhile fun x => decide (x < n)
theorem put_at {l : List Int} {n : Int} : ∀ {k : Nat}, (∀ z ∈ l.take k, z < n) → (∀ x, l[k]? = some x → n ≤ x) → l.takeWhile (fun x => decide (x < n)) = l.take k ∧ l.dropWhile (fun x => decide (x < n)) = l.drop k := by
  induction l with
  | nil => intro k _ _; simp
  | cons a r ih =>
    intro k h1 h2
    cases k with
    | zero =>
      have := h2 a rfl
      simp only [List.take_zero, List.drop_zero]
      rw [List.takeWhile_cons, List.dropWhile_cons, decide_eq_false (by omega)]
      exact ⟨rfl, rfl⟩
    | succ k =>
      have ha : a < n := h1 a (by simp)
      obtain ⟨e1, e2⟩ := ih (k := k) (fun z hz => h1 z (by simp [hz])) fun x hx => h2 x (by simpa using hx)
      simp only [List.take_succ_cons, List.drop_succ_cons]
      rw [List.takeWhile_cons, List.dropWhile_cons, decide_eq_true ha, if_pos rfl, if_pos rfl, e1, e2]
      exact ⟨rfl, rfl⟩
theorem put_same {l : List Int} {n : Int} {k : Nat} (h1 : ∀ z ∈ l.take k, z < n) (h2 : l[k]? = some n) : putF l n = l := by
  obtain ⟨_, e⟩ := put_at h1 fun x hx => by rw [h2] at hx; obtain rfl := Option.some.inj hx; omega
  unfold putF
  rw [e, if_pos (by rw [List.head?_drop]; exact h2)]
theorem put_new {l : List Int} {n : Int} {k : Nat} (h1 : ∀ z ∈ l.take k, z < n) (h2 : ∀ x, l[k]? = some x → n < x) : putF l n = l.take k ++ n :: l.drop k := by
  obtain ⟨e1, e2⟩ := put_at h1 fun x hx => by have := h2 x hx; omega
  unfold putF
  rw [e1, e2, if_neg]
  rw [List.head?_drop]
  intro h
  have := h2 n h
  omega
theorem put_len (l : List Int) (n : Int) : (putF l n).length ≤ l.length + 1 := by
  unfold putF
  split
  · omega
  · have := congrArg List.length (List.takeWhile_append_dropWhile (p := fun x => decide (x < n)) (l := l))
    simp only [List.length_append, List.length_cons] at this ⊢
    omega
theorem put_sorted {l : List Int} {n : Int} (h : l.Pairwise (fun x y => x < y)) : (putF l n).Pairwise (fun x y => x < y) := by
  have e := List.takeWhile_append_dropWhile (p := fun x => decide (x < n)) (l := l)
  unfold putF
  split
  · exact h
  · rename_i hh
    have h' : (l.takeWhile (fun x => decide (x < n)) ++ l.dropWhile fun x => decide (x < n)).Pairwise (fun x y => x < y) := by rw [e]; exact h
    obtain ⟨h1, h2, h3⟩ := List.pairwise_append.1 h'
    have ht : ∀ a ∈ l.takeWhile (fun x => decide (x < n)), a < n := fun a ha => by
      have := List.all_takeWhile (p := fun x => decide (x < n)) (l := l)
      have := List.all_eq_true.1 this a ha
      simpa using this
    have hd : ∀ b ∈ l.dropWhile (fun x => decide (x < n)), n < b := by
      cases hq : l.dropWhile (fun x => decide (x < n)) with
      | nil => intro b hb; cases hb
      | cons y r =>
        rw [hq] at h2 hh
        have hy : ¬ (y < n) := by
          have := List.head?_dropWhile_not (p := fun x => decide (x < n)) l
          rw [hq] at this
          simpa using this
        have hne : y ≠ n := fun e => hh (by simp [e])
        intro b hb
        rcases List.mem_cons.1 hb with rfl | hb
        · omega
        · have := (List.pairwise_cons.1 h2).1 b hb
          omega
    refine List.pairwise_append.2 ⟨h1, List.pairwise_cons.2 ⟨hd, h2⟩, fun a ha b hb => ?_⟩
    rcases List.mem_cons.1 hb with rfl | hb
    · exact ht a ha
    · exact h3 a ha b hb
def putMs (ks : List Int) (n : Int) : List Int := if n ∈ ks then ks else ks ++ [n]
theorem put_perm {l : List Int} {n : Int} (h : n ∉ l) : (putF l n).Perm (l ++ [n]) := by
  unfold putF
  split
  · rename_i hh
    have := List.takeWhile_append_dropWhile (p := fun x => decide (x < n)) (l := l)
    exact absurd (this ▸ List.mem_append_right _ (List.mem_of_mem_head? hh)) h
  · have e := List.takeWhile_append_dropWhile (p := fun x => decide (x < n)) (l := l)
    refine List.perm_middle.trans ?_
    rw [e]
    exact (List.perm_append_comm (l₁ := [n]) (l₂ := l))
theorem put_none {l : List Int} {n : Int} {k : Nat} (h1 : ∀ z ∈ l.take k, z < n) (h : l.length ≤ k) : putF l n = l.take k ++ n :: l.drop k := put_new h1 fun x hx => by rw [List.getElem?_eq_none h] at hx; cases hx
theorem put_some {l : List Int} {n : Int} {k : Nat} {x : Int} (h1 : ∀ z ∈ l.take k, z < n) (h : l[k]? = some x) (hx : n < x) : putF l n = l.take k ++ n :: l.drop k := put_new h1 fun y hy => by rw [h] at hy; obtain rfl := Option.some.inj hy; exact hx
theorem l1Put_ok (l : List Int) (n : Int) (hl : l.length ≤ 100000000) : OkA Try.prog 90 [.isl 1 (rows cInt l), .int .i64 n] (· = .isl 1 (rows cInt (putF l n))) :=
  OkA.iceI 1 (fn_intro envOk fieldsOk mixed Try.func90 rfl fun κ X Y L Q m hQ => by
    conv => cbv
    refine r_loopF (α := Int) m 48 [0, 1, 5] [] (fun σ => [(0, .isl 1 (rows cInt l)), (1, .int .i64 n), (5, .int .i64 σ)]) (fun σ => [])
      (fun σ => (0 ≤ σ ∧ σ ≤ l.length) ∧ (∀ z ∈ l.take σ.toNat, z < n)) (fun σ => (l.length - σ).toNat) 0 ?_ ?_ ?_ ?_
    · cbv
    · cbv
    · exact ⟨(by (try dsimp only) <;> (omega)), (by (try dsimp only) <;> (intro z hz; simp at hz))⟩
    rintro k ⟨kb, q⟩ E hE F hF
    conv => cbv
    refine r_lenR m.sX fun n1 hn1 mn1 => ?_
    conv => cbv
    refine r_lss m.sX (fun h1 => ?_) (fun h1 => ?_) <;> conv => cbv
    · refine r_index m.sX (by omega) (by omega) fun x1 hx1 => ?_
      conv => cbv
      have mx1 := get_mem hx1
      have vx1 := nth_some hx1
      refine r_lss m.sX (fun h2 => ?_) (fun h2 => ?_) <;> conv => cbv
      · refine r_addf m.sX (by omega) (by omega) fun k_2 hk_2 => ?_
        conv => cbv
        refine hE _ k_2 ?_ ?_ ⟨(by (try dsimp only) <;> (omega)), (by (try dsimp only) <;> (intro z hz; rw [show k_2.toNat = k.toNat + 1 by omega, List.take_add_one, hx1] at hz; simp only [Option.toList_some, List.mem_append, List.mem_singleton] at hz; rcases hz with hz | hz; (exact q z hz); omega))⟩ (by first | omega | (dsimp only; omega))
        · cbv
        · cbv
      · refine hF _ _ ?_
        conv => cbv
        refine r_lenR m.sX fun n2 hn2 mn2 => ?_
        conv => cbv
        refine r_lss m.sX (fun h3 => ?_) (fun h3 => ?_) <;> conv => cbv
        · refine r_index m.sX (by omega) (by omega) fun x2 hx2 => ?_
          conv => cbv
          have mx2 := get_mem hx2
          have vx2 := nth_some hx2
          obtain rfl : x1 = x2 := Option.some.inj (hx1.symm.trans hx2)
          refine r_eql m.sX (fun h4 => ?_) (fun h4 => ?_) <;> conv => cbv
          · exact hQ (.isl 1 (rows cInt l)) (Eq.trans (by first | rfl | (simp only [lb, lbI, rows_cons, rows_nil, unnilT, unnil, unnilTI, unnilI]; done) | (simp only [lb, lbI, rows_cons, rows_nil, unnilT, unnil, unnilTI, unnilI]; rfl)) (congrArg (fun l => PV.isl 1 (rows cInt l)) (show l = putF l n from by first | exact (put_same q (by rw [hx1, h4])).symm | exact (put_same q (by rw [hx3, h6])).symm | (rw [put_some q hx1 (by omega)]; subst_vars; simp; done) | (rw [put_some q hx3 (by omega)]; subst_vars; simp; done) | (rw [put_none q (by omega)]; subst_vars; simp; done))))   -- leaf 1
          · refine r_islice (i := 0) (j := k) m.sX (by omega) (by omega) (by omega) fun zs1 hzs1 => ?_   -- zs1 = l[None:k]
            have lzs1 : (zs1.length : Int) = k - 0 := by rw [hzs1]; first | done | (simp; done) | (simp; omega)
            conv => cbv
            refine r_append0R m.sX (by first | omega | (dsimp only; omega)) (by first | omega | (dsimp only; omega)) fun out hout => ?_
            conv => cbv
            have lout : (out.length : Int) = zs1.length := by rw [hout]; first | done | (simp; done) | (simp; omega)
            refine r_append1 (n) m.sX rfl (by first | omega | (dsimp only; omega)) (by first | omega | (dsimp only; omega)) fun out_2 hout_2 => ?_
            conv => cbv
            have lout_2 : (out_2.length : Int) = out.length + 1 := by rw [hout_2]; first | done | (simp; done) | (simp; omega)
            refine r_islice' (i := k) m.sX (by omega) (by omega) fun zs2 hzs2 => ?_   -- zs2 = l[k:None]
            have lzs2 : (zs2.length : Int) = l.length - k := by rw [hzs2]; first | done | (simp; done) | (simp; omega)
            conv => cbv
            refine r_append m.sX (by first | omega | (dsimp only; omega)) (by first | omega | (dsimp only; omega)) fun zs3 hzs3 => ?_
            conv => cbv
            have lzs3 : (zs3.length : Int) = out_2.length + zs2.length := by rw [hzs3]; first | done | (simp; done) | (simp; omega)
            exact hQ (.fr 3 1 (rows cInt zs3)) (Eq.trans (by first | rfl | (simp only [lb, lbI, rows_cons, rows_nil, unnilT, unnil, unnilTI, unnilI]; done) | (simp only [lb, lbI, rows_cons, rows_nil, unnilT, unnil, unnilTI, unnilI]; rfl)) (congrArg (fun l => PV.isl 1 (rows cInt l)) (show zs3 = putF l n from by first | exact (put_same q (by rw [hx1, h4])).symm | exact (put_same q (by rw [hx3, h6])).symm | (rw [put_some q hx1 (by omega)]; subst_vars; simp; done) | (rw [put_some q hx3 (by omega)]; subst_vars; simp; done) | (rw [put_none q (by omega)]; subst_vars; simp; done))))   -- leaf 2
        · refine r_islice (i := 0) (j := k) m.sX (by omega) (by omega) (by omega) fun zs4 hzs4 => ?_   -- zs4 = l[None:k]
          have lzs4 : (zs4.length : Int) = k - 0 := by rw [hzs4]; first | done | (simp; done) | (simp; omega)
          conv => cbv
          refine r_append0R m.sX (by first | omega | (dsimp only; omega)) (by first | omega | (dsimp only; omega)) fun out_3 hout_3 => ?_
          conv => cbv
          have lout_3 : (out_3.length : Int) = zs4.length := by rw [hout_3]; first | done | (simp; done) | (simp; omega)
          refine r_append1 (n) m.sX rfl (by first | omega | (dsimp only; omega)) (by first | omega | (dsimp only; omega)) fun out_4 hout_4 => ?_
          conv => cbv
          have lout_4 : (out_4.length : Int) = out_3.length + 1 := by rw [hout_4]; first | done | (simp; done) | (simp; omega)
          refine r_islice' (i := k) m.sX (by omega) (by omega) fun zs5 hzs5 => ?_   -- zs5 = l[k:None]
          have lzs5 : (zs5.length : Int) = l.length - k := by rw [hzs5]; first | done | (simp; done) | (simp; omega)
          conv => cbv
          refine r_append m.sX (by first | omega | (dsimp only; omega)) (by first | omega | (dsimp only; omega)) fun zs6 hzs6 => ?_
          conv => cbv
          have lzs6 : (zs6.length : Int) = out_4.length + zs5.length := by rw [hzs6]; first | done | (simp; done) | (simp; omega)
          exact hQ (.fr 3 1 (rows cInt zs6)) (Eq.trans (by first | rfl | (simp only [lb, lbI, rows_cons, rows_nil, unnilT, unnil, unnilTI, unnilI]; done) | (simp only [lb, lbI, rows_cons, rows_nil, unnilT, unnil, unnilTI, unnilI]; rfl)) (congrArg (fun l => PV.isl 1 (rows cInt l)) (show zs6 = putF l n from by first | exact (put_same q (by rw [hx1, h4])).symm | exact (put_same q (by rw [hx3, h6])).symm | (rw [put_some q hx1 (by omega)]; subst_vars; simp; done) | (rw [put_some q hx3 (by omega)]; subst_vars; simp; done) | (rw [put_none q (by omega)]; subst_vars; simp; done))))   -- leaf 3
    · refine hF _ _ ?_
      conv => cbv
      refine r_lenR m.sX fun n3 hn3 mn3 => ?_
      conv => cbv
      refine r_lss m.sX (fun h5 => ?_) (fun h5 => ?_) <;> conv => cbv
      · refine r_index m.sX (by omega) (by omega) fun x3 hx3 => ?_
        conv => cbv
        have mx3 := get_mem hx3
        have vx3 := nth_some hx3
        refine r_eql m.sX (fun h6 => ?_) (fun h6 => ?_) <;> conv => cbv
        · exact hQ (.isl 1 (rows cInt l)) (Eq.trans (by first | rfl | (simp only [lb, lbI, rows_cons, rows_nil, unnilT, unnil, unnilTI, unnilI]; done) | (simp only [lb, lbI, rows_cons, rows_nil, unnilT, unnil, unnilTI, unnilI]; rfl)) (congrArg (fun l => PV.isl 1 (rows cInt l)) (show l = putF l n from by first | exact (put_same q (by rw [hx1, h4])).symm | exact (put_same q (by rw [hx3, h6])).symm | (rw [put_some q hx1 (by omega)]; subst_vars; simp; done) | (rw [put_some q hx3 (by omega)]; subst_vars; simp; done) | (rw [put_none q (by omega)]; subst_vars; simp; done))))   -- leaf 4
        · refine r_islice (i := 0) (j := k) m.sX (by omega) (by omega) (by omega) fun zs7 hzs7 => ?_   -- zs7 = l[None:k]
          have lzs7 : (zs7.length : Int) = k - 0 := by rw [hzs7]; first | done | (simp; done) | (simp; omega)
          conv => cbv
          refine r_append0R m.sX (by first | omega | (dsimp only; omega)) (by first | omega | (dsimp only; omega)) fun out_5 hout_5 => ?_
          conv => cbv
          have lout_5 : (out_5.length : Int) = zs7.length := by rw [hout_5]; first | done | (simp; done) | (simp; omega)
          refine r_append1 (n) m.sX rfl (by first | omega | (dsimp only; omega)) (by first | omega | (dsimp only; omega)) fun out_6 hout_6 => ?_
          conv => cbv
          have lout_6 : (out_6.length : Int) = out_5.length + 1 := by rw [hout_6]; first | done | (simp; done) | (simp; omega)
          refine r_islice' (i := k) m.sX (by omega) (by omega) fun zs8 hzs8 => ?_   -- zs8 = l[k:None]
          have lzs8 : (zs8.length : Int) = l.length - k := by rw [hzs8]; first | done | (simp; done) | (simp; omega)
          conv => cbv
          refine r_append m.sX (by first | omega | (dsimp only; omega)) (by first | omega | (dsimp only; omega)) fun zs9 hzs9 => ?_
          conv => cbv
          have lzs9 : (zs9.length : Int) = out_6.length + zs8.length := by rw [hzs9]; first | done | (simp; done) | (simp; omega)
          exact hQ (.fr 3 1 (rows cInt zs9)) (Eq.trans (by first | rfl | (simp only [lb, lbI, rows_cons, rows_nil, unnilT, unnil, unnilTI, unnilI]; done) | (simp only [lb, lbI, rows_cons, rows_nil, unnilT, unnil, unnilTI, unnilI]; rfl)) (congrArg (fun l => PV.isl 1 (rows cInt l)) (show zs9 = putF l n from by first | exact (put_same q (by rw [hx1, h4])).symm | exact (put_same q (by rw [hx3, h6])).symm | (rw [put_some q hx1 (by omega)]; subst_vars; simp; done) | (rw [put_some q hx3 (by omega)]; subst_vars; simp; done) | (rw [put_none q (by omega)]; subst_vars; simp; done))))   -- leaf 5
      · refine r_islice (i := 0) (j := k) m.sX (by omega) (by omega) (by omega) fun zs10 hzs10 => ?_   -- zs10 = l[None:k]
        have lzs10 : (zs10.length : Int) = k - 0 := by rw [hzs10]; first | done | (simp; done) | (simp; omega)
        conv => cbv
        refine r_append0R m.sX (by first | omega | (dsimp only; omega)) (by first | omega | (dsimp only; omega)) fun out_7 hout_7 => ?_
        conv => cbv
        have lout_7 : (out_7.length : Int) = zs10.length := by rw [hout_7]; first | done | (simp; done) | (simp; omega)
        refine r_append1 (n) m.sX rfl (by first | omega | (dsimp only; omega)) (by first | omega | (dsimp only; omega)) fun out_8 hout_8 => ?_
        conv => cbv
        have lout_8 : (out_8.length : Int) = out_7.length + 1 := by rw [hout_8]; first | done | (simp; done) | (simp; omega)
        refine r_islice' (i := k) m.sX (by omega) (by omega) fun zs11 hzs11 => ?_   -- zs11 = l[k:None]
        have lzs11 : (zs11.length : Int) = l.length - k := by rw [hzs11]; first | done | (simp; done) | (simp; omega)
        conv => cbv
        refine r_append m.sX (by first | omega | (dsimp only; omega)) (by first | omega | (dsimp only; omega)) fun zs12 hzs12 => ?_
        conv => cbv
        have lzs12 : (zs12.length : Int) = out_8.length + zs11.length := by rw [hzs12]; first | done | (simp; done) | (simp; omega)
        exact hQ (.fr 3 1 (rows cInt zs12)) (Eq.trans (by first | rfl | (simp only [lb, lbI, rows_cons, rows_nil, unnilT, unnil, unnilTI, unnilI]; done) | (simp only [lb, lbI, rows_cons, rows_nil, unnilT, unnil, unnilTI, unnilI]; rfl)) (congrArg (fun l => PV.isl 1 (rows cInt l)) (show zs12 = putF l n from by first | exact (put_same q (by rw [hx1, h4])).symm | exact (put_same q (by rw [hx3, h6])).symm | (rw [put_some q hx1 (by omega)]; subst_vars; simp; done) | (rw [put_some q hx3 (by omega)]; subst_vars; simp; done) | (rw [put_none q (by omega)]; subst_vars; simp; done)))))   -- leaf 6

theorem l1PutNew_ok (l : List Int) (n : Int) (hl : l.length ≤ 100000000) (hn : n ∉ l) : OkA Try.prog 90 [.isl 1 (rows cInt l), .int .i64 n] (· = .fr 3 1 (rows cInt (putF l n))) :=
  OkA.unnil 3 1 (fn_intro envOk fieldsOk mixed Try.func90 rfl fun κ X Y L Q m hQ => by
    conv => cbv
    refine r_loopF (α := Int) m 48 [0, 1, 5] [] (fun σ => [(0, .isl 1 (rows cInt l)), (1, .int .i64 n), (5, .int .i64 σ)]) (fun σ => [])
      (fun σ => (0 ≤ σ ∧ σ ≤ l.length) ∧ (∀ z ∈ l.take σ.toNat, z < n)) (fun σ => (l.length - σ).toNat) 0 ?_ ?_ ?_ ?_
    · cbv
    · cbv
    · exact ⟨(by (try dsimp only) <;> (omega)), (by (try dsimp only) <;> (intro z hz; simp at hz))⟩
    rintro k ⟨kb, q⟩ E hE F hF
    conv => cbv
    refine r_lenR m.sX fun n1 hn1 mn1 => ?_
    conv => cbv
    refine r_lss m.sX (fun h1 => ?_) (fun h1 => ?_) <;> conv => cbv
    · refine r_index m.sX (by omega) (by omega) fun x1 hx1 => ?_
      conv => cbv
      have mx1 := get_mem hx1
      have vx1 := nth_some hx1
      refine r_lss m.sX (fun h2 => ?_) (fun h2 => ?_) <;> conv => cbv
      · refine r_addf m.sX (by omega) (by omega) fun k_2 hk_2 => ?_
        conv => cbv
        refine hE _ k_2 ?_ ?_ ⟨(by (try dsimp only) <;> (omega)), (by (try dsimp only) <;> (intro z hz; rw [show k_2.toNat = k.toNat + 1 by omega, List.take_add_one, hx1] at hz; simp only [Option.toList_some, List.mem_append, List.mem_singleton] at hz; rcases hz with hz | hz; (exact q z hz); omega))⟩ (by first | omega | (dsimp only; omega))
        · cbv
        · cbv
      · refine hF _ _ ?_
        conv => cbv
        refine r_lenR m.sX fun n2 hn2 mn2 => ?_
        conv => cbv
        refine r_lss m.sX (fun h3 => ?_) (fun h3 => ?_) <;> conv => cbv
        · refine r_index m.sX (by omega) (by omega) fun x2 hx2 => ?_
          conv => cbv
          have mx2 := get_mem hx2
          have vx2 := nth_some hx2
          obtain rfl : x1 = x2 := Option.some.inj (hx1.symm.trans hx2)
          refine r_eql m.sX (fun h4 => ?_) (fun h4 => ?_) <;> conv => cbv
          · exfalso; exact hn (h4 ▸ mx1)   -- leaf 1
          · refine r_islice (i := 0) (j := k) m.sX (by omega) (by omega) (by omega) fun zs1 hzs1 => ?_   -- zs1 = l[None:k]
            have lzs1 : (zs1.length : Int) = k - 0 := by rw [hzs1]; first | done | (simp; done) | (simp; omega)
            conv => cbv
            refine r_append0R m.sX (by first | omega | (dsimp only; omega)) (by first | omega | (dsimp only; omega)) fun out hout => ?_
            conv => cbv
            have lout : (out.length : Int) = zs1.length := by rw [hout]; first | done | (simp; done) | (simp; omega)
            refine r_append1 (n) m.sX rfl (by first | omega | (dsimp only; omega)) (by first | omega | (dsimp only; omega)) fun out_2 hout_2 => ?_
            conv => cbv
            have lout_2 : (out_2.length : Int) = out.length + 1 := by rw [hout_2]; first | done | (simp; done) | (simp; omega)
            refine r_islice' (i := k) m.sX (by omega) (by omega) fun zs2 hzs2 => ?_   -- zs2 = l[k:None]
            have lzs2 : (zs2.length : Int) = l.length - k := by rw [hzs2]; first | done | (simp; done) | (simp; omega)
            conv => cbv
            refine r_append m.sX (by first | omega | (dsimp only; omega)) (by first | omega | (dsimp only; omega)) fun zs3 hzs3 => ?_
            conv => cbv
            have lzs3 : (zs3.length : Int) = out_2.length + zs2.length := by rw [hzs3]; first | done | (simp; done) | (simp; omega)
            exact hQ (.fr 3 1 (rows cInt zs3)) (Eq.trans (by first | rfl | (simp only [lb, lbI, rows_cons, rows_nil, unnilT, unnil, unnilTI, unnilI]; done) | (simp only [lb, lbI, rows_cons, rows_nil, unnilT, unnil, unnilTI, unnilI]; rfl)) (congrArg (fun l => PV.fr 3 1 (rows cInt l)) (show zs3 = putF l n from by first | (rw [put_some q hx1 (by omega)]; subst_vars; simp; done) | (rw [put_some q hx3 (by omega)]; subst_vars; simp; done) | (rw [put_none q (by omega)]; subst_vars; simp; done))))   -- leaf 2
        · refine r_islice (i := 0) (j := k) m.sX (by omega) (by omega) (by omega) fun zs4 hzs4 => ?_   -- zs4 = l[None:k]
          have lzs4 : (zs4.length : Int) = k - 0 := by rw [hzs4]; first | done | (simp; done) | (simp; omega)
          conv => cbv
          refine r_append0R m.sX (by first | omega | (dsimp only; omega)) (by first | omega | (dsimp only; omega)) fun out_3 hout_3 => ?_
          conv => cbv
          have lout_3 : (out_3.length : Int) = zs4.length := by rw [hout_3]; first | done | (simp; done) | (simp; omega)
          refine r_append1 (n) m.sX rfl (by first | omega | (dsimp only; omega)) (by first | omega | (dsimp only; omega)) fun out_4 hout_4 => ?_
          conv => cbv
          have lout_4 : (out_4.length : Int) = out_3.length + 1 := by rw [hout_4]; first | done | (simp; done) | (simp; omega)
          refine r_islice' (i := k) m.sX (by omega) (by omega) fun zs5 hzs5 => ?_   -- zs5 = l[k:None]
          have lzs5 : (zs5.length : Int) = l.length - k := by rw [hzs5]; first | done | (simp; done) | (simp; omega)
          conv => cbv
          refine r_append m.sX (by first | omega | (dsimp only; omega)) (by first | omega | (dsimp only; omega)) fun zs6 hzs6 => ?_
          conv => cbv
          have lzs6 : (zs6.length : Int) = out_4.length + zs5.length := by rw [hzs6]; first | done | (simp; done) | (simp; omega)
          exact hQ (.fr 3 1 (rows cInt zs6)) (Eq.trans (by first | rfl | (simp only [lb, lbI, rows_cons, rows_nil, unnilT, unnil, unnilTI, unnilI]; done) | (simp only [lb, lbI, rows_cons, rows_nil, unnilT, unnil, unnilTI, unnilI]; rfl)) (congrArg (fun l => PV.fr 3 1 (rows cInt l)) (show zs6 = putF l n from by first | (rw [put_some q hx1 (by omega)]; subst_vars; simp; done) | (rw [put_some q hx3 (by omega)]; subst_vars; simp; done) | (rw [put_none q (by omega)]; subst_vars; simp; done))))   -- leaf 3
    · refine hF _ _ ?_
      conv => cbv
      refine r_lenR m.sX fun n3 hn3 mn3 => ?_
      conv => cbv
      refine r_lss m.sX (fun h5 => ?_) (fun h5 => ?_) <;> conv => cbv
      · refine r_index m.sX (by omega) (by omega) fun x3 hx3 => ?_
        conv => cbv
        have mx3 := get_mem hx3
        have vx3 := nth_some hx3
        refine r_eql m.sX (fun h6 => ?_) (fun h6 => ?_) <;> conv => cbv
        · exfalso; omega   -- leaf 4
        · refine r_islice (i := 0) (j := k) m.sX (by omega) (by omega) (by omega) fun zs7 hzs7 => ?_   -- zs7 = l[None:k]
          have lzs7 : (zs7.length : Int) = k - 0 := by rw [hzs7]; first | done | (simp; done) | (simp; omega)
          conv => cbv
          refine r_append0R m.sX (by first | omega | (dsimp only; omega)) (by first | omega | (dsimp only; omega)) fun out_5 hout_5 => ?_
          conv => cbv
          have lout_5 : (out_5.length : Int) = zs7.length := by rw [hout_5]; first | done | (simp; done) | (simp; omega)
          refine r_append1 (n) m.sX rfl (by first | omega | (dsimp only; omega)) (by first | omega | (dsimp only; omega)) fun out_6 hout_6 => ?_
          conv => cbv
          have lout_6 : (out_6.length : Int) = out_5.length + 1 := by rw [hout_6]; first | done | (simp; done) | (simp; omega)
          refine r_islice' (i := k) m.sX (by omega) (by omega) fun zs8 hzs8 => ?_   -- zs8 = l[k:None]
          have lzs8 : (zs8.length : Int) = l.length - k := by rw [hzs8]; first | done | (simp; done) | (simp; omega)
          conv => cbv
          refine r_append m.sX (by first | omega | (dsimp only; omega)) (by first | omega | (dsimp only; omega)) fun zs9 hzs9 => ?_
          conv => cbv
          have lzs9 : (zs9.length : Int) = out_6.length + zs8.length := by rw [hzs9]; first | done | (simp; done) | (simp; omega)
          exact hQ (.fr 3 1 (rows cInt zs9)) (Eq.trans (by first | rfl | (simp only [lb, lbI, rows_cons, rows_nil, unnilT, unnil, unnilTI, unnilI]; done) | (simp only [lb, lbI, rows_cons, rows_nil, unnilT, unnil, unnilTI, unnilI]; rfl)) (congrArg (fun l => PV.fr 3 1 (rows cInt l)) (show zs9 = putF l n from by first | (rw [put_some q hx1 (by omega)]; subst_vars; simp; done) | (rw [put_some q hx3 (by omega)]; subst_vars; simp; done) | (rw [put_none q (by omega)]; subst_vars; simp; done))))   -- leaf 5
      · refine r_islice (i := 0) (j := k) m.sX (by omega) (by omega) (by omega) fun zs10 hzs10 => ?_   -- zs10 = l[None:k]
        have lzs10 : (zs10.length : Int) = k - 0 := by rw [hzs10]; first | done | (simp; done) | (simp; omega)
        conv => cbv
        refine r_append0R m.sX (by first | omega | (dsimp only; omega)) (by first | omega | (dsimp only; omega)) fun out_7 hout_7 => ?_
        conv => cbv
        have lout_7 : (out_7.length : Int) = zs10.length := by rw [hout_7]; first | done | (simp; done) | (simp; omega)
        refine r_append1 (n) m.sX rfl (by first | omega | (dsimp only; omega)) (by first | omega | (dsimp only; omega)) fun out_8 hout_8 => ?_
        conv => cbv
        have lout_8 : (out_8.length : Int) = out_7.length + 1 := by rw [hout_8]; first | done | (simp; done) | (simp; omega)
        refine r_islice' (i := k) m.sX (by omega) (by omega) fun zs11 hzs11 => ?_   -- zs11 = l[k:None]
        have lzs11 : (zs11.length : Int) = l.length - k := by rw [hzs11]; first | done | (simp; done) | (simp; omega)
        conv => cbv
        refine r_append m.sX (by first | omega | (dsimp only; omega)) (by first | omega | (dsimp only; omega)) fun zs12 hzs12 => ?_
        conv => cbv
        have lzs12 : (zs12.length : Int) = out_8.length + zs11.length := by rw [hzs12]; first | done | (simp; done) | (simp; omega)
        exact hQ (.fr 3 1 (rows cInt zs12)) (Eq.trans (by first | rfl | (simp only [lb, lbI, rows_cons, rows_nil, unnilT, unnil, unnilTI, unnilI]; done) | (simp only [lb, lbI, rows_cons, rows_nil, unnilT, unnil, unnilTI, unnilI]; rfl)) (congrArg (fun l => PV.fr 3 1 (rows cInt l)) (show zs12 = putF l n from by first | (rw [put_some q hx1 (by omega)]; subst_vars; simp; done) | (rw [put_some q hx3 (by omega)]; subst_vars; simp; done) | (rw [put_none q (by omega)]; subst_vars; simp; done)))))   -- leaf 6


/- Sums of sides: plain law. -/
/-- Which sums can be reached with one side of each of some pieces. -/
def reachF (ps : List Piece) : Int → Bool := ps.foldl (fun f p n => f n || (f (n - p.1) || f (n - p.2))) (fun n => decide (n = 0))
theorem reach_take {ps : List Piece} {i : Nat} {p : Piece} (h : ps[i]? = some p) (n : Int) : reachF (ps.take (i + 1)) n = (reachF (ps.take i) n || (reachF (ps.take i) (n - p.1) || reachF (ps.take i) (n - p.2))) := by
  unfold reachF
  rw [List.take_add_one, h, List.foldl_append]; rfl
/-- Strictly rising. -/
abbrev Ris (l : List Int) : Prop := l.Pairwise (· < ·)
theorem ris_ext : ∀ {a b : List Int}, Ris a → Ris b → (∀ n, n ∈ a ↔ n ∈ b) → a = b
  | [], [], _, _, _ => rfl
  | [], y :: b, _, _, h => by have := (h y).2 (by simp); cases this
  | x :: a, [], _, _, h => by have := (h x).1 (by simp); cases this
  | x :: a, y :: b, ha, hb, h => by
    rw [Ris, List.pairwise_cons] at ha hb
    have e : x = y := by
      rcases List.mem_cons.1 ((h x).1 (by simp)) with e | h1
      · exact e
      · rcases List.mem_cons.1 ((h y).2 (by simp)) with e | h2
        · exact e.symm
        · have := ha.1 y h2; have := hb.1 x h1; omega
    subst e
    rw [ris_ext ha.2 hb.2 fun n => ?_]
    constructor
    · intro hn
      rcases List.mem_cons.1 ((h n).1 (by simp [hn])) with e | h1
      · have := ha.1 n hn; omega
      · exact h1
    · intro hn
      rcases List.mem_cons.1 ((h n).2 (by simp [hn])) with e | h1
      · have := hb.1 n hn; omega
      · exact h1
def sidesA (ps : List Piece) (most : Int) : List Int × Bool :=
  if okPs ps = true ∧ inB most 0 64 = true then (((List.range (most.toNat + 1)).map fun (k : Nat) => (k : Int)).filter (reachF ps), true) else ([], false)
theorem ris_range (n : Nat) : Ris ((List.range n).map fun (k : Nat) => (k : Int)) := by
  rw [Ris, List.pairwise_map]
  exact List.pairwise_lt_range.imp fun h => by omega
theorem sides_eq {ps : List Piece} {most : Int} {l : List Int} (hr : Ris l) (hm : ∀ n, n ∈ l ↔ reachF ps n = true ∧ 0 ≤ n) (h0 : 0 ≤ most) : (l.filter fun n => decide (n ≤ most)) = ((List.range (most.toNat + 1)).map fun (k : Nat) => (k : Int)).filter (reachF ps) := by
  refine ris_ext (hr.filter _) ((ris_range _).filter _) fun n => ?_
  rw [List.mem_filter, List.mem_filter, hm, List.mem_map]
  constructor
  · rintro ⟨⟨h1, h2⟩, h3⟩
    have := of_decide_eq_true h3
    exact ⟨⟨n.toNat, List.mem_range.2 (by omega), by omega⟩, h1⟩
  · rintro ⟨⟨k, h1, rfl⟩, h2⟩
    have := List.mem_range.1 h1
    exact ⟨⟨h2, by omega⟩, decide_eq_true (by omega)⟩
theorem ris_put {l : List Int} (n : Int) (h : Ris l) : Ris (putF l n) ∧ ∀ m, m ∈ putF l n ↔ m ∈ l ∨ m = n := by
  have hp : ∀ x ∈ l.takeWhile (fun x => decide (x < n)), x < n := fun x hx => of_decide_eq_true (List.all_eq_true.1 (List.all_takeWhile (p := fun x => decide (x < n)) (l := l)) x hx)
  have hs : l = l.takeWhile (fun x => decide (x < n)) ++ l.dropWhile (fun x => decide (x < n)) := List.takeWhile_append_dropWhile.symm
  have hd : ∀ x ∈ l.dropWhile (fun x => decide (x < n)), n ≤ x := fun x hx => by
    rw [hs] at h
    have h2 := (List.pairwise_append.1 h).2.1
    cases hc : l.dropWhile (fun x => decide (x < n)) with
    | nil => rw [hc] at hx; cases hx
    | cons y r =>
      have hy : ¬ (decide (y < n) = true) := by
        have := List.head?_dropWhile_not (fun x => decide (x < n)) l
        rw [hc] at this
        simpa using this
      rw [hc] at hx h2
      have hy2 : n ≤ y := by simpa using hy
      rcases List.mem_cons.1 hx with rfl | hx
      · exact hy2
      · have := (List.pairwise_cons.1 h2).1 x hx; omega
  unfold putF
  split
  · rename_i e
    refine ⟨h, fun m => ⟨.inl, ?_⟩⟩
    rintro (h1 | rfl)
    · exact h1
    · rw [hs]; exact List.mem_append.2 (.inr (List.mem_of_mem_head? e))
  · rename_i e
    refine ⟨?_, fun m => ?_⟩
    · rw [Ris, List.pairwise_append, List.pairwise_cons]
      have h3 := h
      rw [hs, Ris, List.pairwise_append] at h3
      refine ⟨h3.1, ⟨fun x hx => ?_, h3.2.1⟩, fun x hx y hy => ?_⟩
      · have := hd x hx
        rcases Int.lt_or_eq_of_le this with h4 | h4
        · exact h4
        · exfalso
          refine e ?_
          cases hc : l.dropWhile (fun x => decide (x < n)) with
          | nil => rw [hc] at hx; cases hx
          | cons y r =>
            rw [hc] at hx h3
            rcases List.mem_cons.1 hx with rfl | hx
            · rw [h4]; rfl
            · have h5 := (List.pairwise_cons.1 h3.2.1).1 x hx
              have h6 := hd y (by rw [hc]; simp)
              omega
      · rcases List.mem_cons.1 hy with rfl | hy
        · exact hp x hx
        · have := hp x hx; have := hd y hy; omega
    · conv => rhs; rw [hs]
      simp only [List.mem_append, List.mem_cons]
      constructor
      · rintro (h1 | h1 | h1)
        · exact .inl (.inl h1)
        · exact .inr h1
        · exact .inl (.inr h1)
      · rintro ((h1 | h1) | h1)
        · exact .inl h1
        · exact .inr (.inr h1)
        · exact .inr (.inl h1)

/- Contract of the reference's sums of sides. -/
theorem side_step {s2 s3 s4 v : List Int} {k : Nat} {x a b u1 u2 : Int} (hx : v[k]? = some x) (e1 : u1 = x + a) (e2 : u2 = x + b) (h3 : s3 = putF s2 u1) (h4 : s4 = putF s3 u2) (ri : Ris s2) (mb : ∀ m, m ∈ s2 ↔ m ∈ v ∨ ∃ y ∈ v.take k, m = y + a ∨ m = y + b) :
    Ris s4 ∧ ∀ m, m ∈ s4 ↔ m ∈ v ∨ ∃ y ∈ v.take (k + 1), m = y + a ∨ m = y + b := by
  obtain ⟨r3, m3⟩ := ris_put u1 ri
  rw [← h3] at r3 m3
  obtain ⟨r4, m4⟩ := ris_put u2 r3
  rw [← h4] at r4 m4
  refine ⟨r4, fun m => ?_⟩
  rw [m4, m3, mb, List.take_add_one, hx]
  constructor
  · rintro (((h | ⟨y, hy, h⟩) | h) | h)
    · exact .inl h
    · exact .inr ⟨y, List.mem_append.2 (.inl hy), h⟩
    · exact .inr ⟨x, by simp, .inl (by omega)⟩
    · exact .inr ⟨x, by simp, .inr (by omega)⟩
  · rintro (h | ⟨y, hy, h⟩)
    · exact .inl (.inl (.inl h))
    · rcases List.mem_append.1 hy with hy | hy
      · exact .inl (.inl (.inr ⟨y, hy, h⟩))
      · have hy : y = x := by simpa using hy
        subst hy
        rcases h with h | h
        · exact .inl (.inr (by omega))
        · exact .inr (by omega)
theorem side_iff {l : List Int} {a b m : Int} : (m ∈ l ∨ ∃ y ∈ l, m = y + a ∨ m = y + b) ↔ (m ∈ l ∨ (m - a ∈ l ∨ m - b ∈ l)) := by
  constructor
  · rintro (h | ⟨y, hy, h | h⟩)
    · exact .inl h
    · exact .inr (.inl (by rw [show m - a = y by omega]; exact hy))
    · exact .inr (.inr (by rw [show m - b = y by omega]; exact hy))
  · rintro (h | h | h)
    · exact .inl h
    · exact .inr ⟨_, h, .inl (by omega)⟩
    · exact .inr ⟨_, h, .inr (by omega)⟩
theorem ris_len {l : List Int} {b : Nat} (h : Ris l) (hb : ∀ n ∈ l, 0 ≤ n ∧ n ≤ b) : l.length ≤ b + 1 :=
  diff_len (b + 1) l ⟨h.imp fun h => by omega, fun x hx => by have := hb x hx; omega⟩
theorem specSidesOf_ok (pieces : List Piece) (most : Int)  : OkA Try.prog 29 [.isl 2 (rows cPiece pieces), .int .i64 most] (· = (lb 3 1 cInt) (sidesA pieces most)) :=
  OkA.unnil 3 1 (fn_intro envOk fieldsOk mixed Try.func29 rfl fun κ X Y L Q m hQ => by
    conv => cbv
    refine r_callB m.sX (fuPieces_ok pieces) (fun h1 => ?_) (fun h1 => ?_) <;> conv => cbv
    · refine r_callB m.sX (l1In_ok most 0 64) (fun h2 => ?_) (fun h2 => ?_) <;> conv => cbv
      · refine r_lenR m.sX fun n1 hn1 mn1 => ?_
        conv => cbv
        have ol := (okPs_spec h1).2
        have b2 := inB_spec h2
        refine r_seal 6 m rfl rfl ?_
        conv => cbv
        refine r_loopF (α := List Int × Int) m 65 [1, 6, 23, 24, 25] [] (fun σ => [(1, .int .i64 most), (6, .isl 1 (rows cInt σ.1)), (23, .isl 2 (rows cPiece pieces)), (24, .int .i64 n1), (25, .int .i64 σ.2)]) (fun σ => [])
          (fun σ => (0 ≤ σ.2) ∧ (σ.2 ≤ n1) ∧ (Ris σ.1) ∧ (∀ n, n ∈ σ.1 ↔ reachF (pieces.take σ.2.toNat) n = true) ∧ (∀ n ∈ σ.1, 0 ≤ n ∧ n ≤ 8 * σ.2)) (fun σ => (n1 - σ.2).toNat) ([0], 0) ?_ ?_ ?_ ?_
        · cbv
        · (try dsimp only); (try simp only [rows_cons, rows_nil]); cbv
        · exact ⟨(by (try dsimp only); first | omega | (simp only [List.length_nil]; omega) | (simp only [List.length_cons, List.length_nil]; omega)), (by (try dsimp only); first | omega | (simp only [List.length_nil]; omega) | (simp only [List.length_cons, List.length_nil]; omega)), (by (try dsimp only) <;> (simp [Ris])), (by (try dsimp only) <;> ((intro n; simp [reachF]))), (by (try dsimp only) <;> ((intro n hn; simp at hn; omega)))⟩
        rintro ⟨sums, i1⟩ ⟨lo1, hi1, ri, mb, bd⟩ E hE F hF
        dsimp only at lo1 hi1 ri mb bd
        have sl := ris_len (b := 64) ri (fun n hn => by have := bd n hn; omega)
        conv => cbv
        refine r_lss m.sX (fun h3 => ?_) (fun h3 => ?_) <;> conv => cbv
        · refine r_index m.sX (by omega) (by omega) fun v hpA => ?_
          obtain ⟨pA, pB⟩ := v
          conv => cbv
          have hp := hpA
          have mp := get_mem hp
          have dp := drop_cons hp
          have kp := take_snoc hp
          have jp : (i1 + 1).toNat = Int.toNat i1 + 1 := by omega
          have bp := (okPs_spec h1).1 _ mp
          try dsimp only at bp
          refine r_callF (fun l => PV.fr _ _ (rows _ l)) m.sX (l1Own_ok sums (by first | rfl | assumption | omega | (simp only [List.length_append, List.length_cons, List.length_nil] at *; omega))) fun v1 hv1 => ?_
          conv => cbv
          try dsimp only at hv1
          refine r_lenR m.sX fun n2 hn2 mn2 => ?_
          conv => cbv
          refine r_loopF (α := List Int × Int) m 65 [1, 6, 23, 24, 25, 31, 32] [⟨8, 65, 0, 0, 0⟩, ⟨30, 241, 3, 1, 0⟩] (fun σ => [(1, .int .i64 most), (6, .isl 1 (rows cInt σ.1)), (8, .optr 65 0 2 0 0), (23, .isl 2 (rows cPiece pieces)), (24, .int .i64 n1), (25, .int .i64 i1), (30, .osl 241 0), (31, .int .i64 n2), (32, .int .i64 σ.2)]) (fun σ => [(65, 0, .box [.int .i64 pA, .int .i64 pB]), (241, 0, .row 3 1 (rows cInt v1))])
            (fun σ => (0 ≤ σ.2) ∧ (σ.2 ≤ n2) ∧ (Ris σ.1) ∧ (∀ m, m ∈ σ.1 ↔ m ∈ v1 ∨ ∃ y ∈ v1.take σ.2.toNat, m = y + pA ∨ m = y + pB) ∧ (∀ n ∈ σ.1, 0 ≤ n ∧ n ≤ 8 * (i1 + 1))) (fun σ => (n2 - σ.2).toNat) (sums, 0) ?_ ?_ ?_ ?_
          · cbv
          · cbv
          · exact ⟨(by (try dsimp only); first | omega | (simp only [List.length_nil]; omega) | (simp only [List.length_cons, List.length_nil]; omega)), (by (try dsimp only); first | omega | (simp only [List.length_nil]; omega) | (simp only [List.length_cons, List.length_nil]; omega)), (by (try dsimp only) <;> (exact ri)), (by (try dsimp only) <;> ((intro n; rw [hv1]; simp))), (by (try dsimp only) <;> ((intro n hn; have := bd n hn; omega)))⟩
          rintro ⟨sums_2, i2⟩ ⟨lo2, hi2, ri2, mb2, bd2⟩ E2 hE2 F2 hF2
          dsimp only at lo2 hi2 ri2 mb2 bd2
          have sl2 := ris_len (b := 72) ri2 (fun n hn => by have := bd2 n hn; omega)
          try dsimp only at sl2
          conv => cbv
          refine r_lss m.sX (fun h4 => ?_) (fun h4 => ?_) <;> conv => cbv
          · refine r_oindex m.sX (by omega) (by omega) ?_
            conv => cbv
            obtain ⟨n, hn⟩ := get_ex (xs := v1) (i := Int.toNat i2) (by omega)
            have mn := get_mem hn
            have dn := drop_cons hn
            have kn := take_snoc hn
            have jn : (i2 + 1).toNat = Int.toNat i2 + 1 := by omega
            have vn := nth_some hn
            have bn := bd n (by rw [← hv1]; exact mn)
            try dsimp only at bn
            refine r_oload m.sX hn (Nat.le_of_ble_eq_true rfl) ?_
            conv => cbv
            refine r_addf m.sX (by omega) (by omega) fun r1 hr1 => ?_
            conv => cbv
            refine r_callF (fun l => PV.isl _ (rows _ l)) m.sX (l1Put_ok sums_2 r1 (by omega)) fun sums_3 hsums_3 => ?_
            conv => cbv
            try dsimp only at hsums_3
            have pl3 := put_len sums_2 r1
            try dsimp only at pl3
            rw [← hsums_3] at pl3
            refine r_addf m.sX (by omega) (by omega) fun r2 hr2 => ?_
            conv => cbv
            refine r_callF (fun l => PV.isl _ (rows _ l)) m.sX (l1Put_ok sums_3 r2 (by omega)) fun sums_4 hsums_4 => ?_
            conv => cbv
            try dsimp only at hsums_4
            obtain ⟨ri4, mb4⟩ := side_step hn hr1 hr2 hsums_3 hsums_4 ri2 mb2
            refine r_addf m.sX (by omega) (by omega) fun r3 hr3 => ?_
            conv => cbv
            try have tr3 : Int.toNat r3 = Int.toNat i2 + 1 := by omega
            refine hE2 _ (sums_4, r3) ?_ ?_ ⟨(by (try dsimp only); first | omega | (simp only [List.length_nil]; omega) | (simp only [List.length_cons, List.length_nil]; omega)), (by (try dsimp only); first | omega | (simp only [List.length_nil]; omega) | (simp only [List.length_cons, List.length_nil]; omega)), (by (try dsimp only) <;> (exact ri4)), (by (try dsimp only) <;> (rw [tr3]; exact mb4)), (by (try dsimp only) <;> ((intro z hz; rcases (mb4 z).1 hz with h | ⟨y, hy, h⟩; (have := bd z (by rw [← hv1]; exact h); omega); (have := bd y (by rw [← hv1]; exact List.mem_of_mem_take hy); omega))))⟩ (by first | omega | (dsimp only; omega))
            · cbv
            · cbv
          · have dz_i2 := drop_end (xs := v1) (i := Int.toNat i2) (by omega)
            have tz_i2 := take_end (xs := v1) (i := Int.toNat i2) (by omega)
            refine hF2 _ _ ?_
            conv => cbv
            refine r_addf m.sX (by omega) (by omega) fun r4 hr4 => ?_
            conv => cbv
            try have tr4 : Int.toNat r4 = Int.toNat i1 + 1 := by omega
            refine hE _ (sums_2, r4) ?_ ?_ ⟨(by (try dsimp only); first | omega | (simp only [List.length_nil]; omega) | (simp only [List.length_cons, List.length_nil]; omega)), (by (try dsimp only); first | omega | (simp only [List.length_nil]; omega) | (simp only [List.length_cons, List.length_nil]; omega)), (by (try dsimp only) <;> (exact ri2)), (by (try dsimp only) <;> ((intro z; rw [tr4, reach_take hp, mb2, tz_i2, hv1, mb]; simp only [Bool.or_eq_true, ← mb]; exact side_iff))), (by (try dsimp only) <;> ((intro z hz; have := bd2 z hz; omega)))⟩ (by first | omega | (dsimp only; omega))
            · cbv
            · cbv
        · have dz_i1 := drop_end (xs := pieces) (i := Int.toNat i1) (by omega)
          have tz_i1 := take_end (xs := pieces) (i := Int.toNat i1) (by omega)
          refine hF _ _ ?_
          conv => cbv
          refine r_lenR m.sX fun n3 hn3 mn3 => ?_
          conv => cbv
          refine r_loopF (α := List Int × Int) m 65 [1, 50, 51, 52] [⟨11, 89, 3, 1, 0⟩] (fun σ => [(1, .int .i64 most), (11, .osl 89 0), (50, .isl 1 (rows cInt sums)), (51, .int .i64 n3), (52, .int .i64 σ.2)]) (fun σ => [(89, 0, .row 3 1 (rows cInt σ.1))])
            (fun σ => (0 ≤ σ.2) ∧ (σ.2 ≤ n3) ∧ (σ.1 = (sums.take σ.2.toNat).filter (fun n => decide (n ≤ most))) ∧ ((σ.1.length : Int) ≤ σ.2)) (fun σ => (n3 - σ.2).toNat) ([], 0) ?_ ?_ ?_ ?_
          · cbv
          · (try dsimp only); (try simp only [rows_cons, rows_nil]); cbv
          · exact ⟨(by (try dsimp only); first | omega | (simp only [List.length_nil]; omega) | (simp only [List.length_cons, List.length_nil]; omega)), (by (try dsimp only); first | omega | (simp only [List.length_nil]; omega) | (simp only [List.length_cons, List.length_nil]; omega)), (by (try dsimp only) <;> (rfl)), (by (try dsimp only) <;> first | omega | rfl | (simp [*]; done))⟩
          rintro ⟨out, i3⟩ ⟨lo3, hi3, q, ol3⟩ E hE F hF
          dsimp only at lo3 hi3 q ol3
          conv => cbv
          refine r_lss m.sX (fun h5 => ?_) (fun h5 => ?_) <;> conv => cbv
          · refine r_index m.sX (by omega) (by omega) fun n_2 hn_2 => ?_
            conv => cbv
            have mn_2 := get_mem hn_2
            have dn_2 := drop_cons hn_2
            have kn_2 := take_snoc hn_2
            have jn_2 : (i3 + 1).toNat = Int.toNat i3 + 1 := by omega
            have vn_2 := nth_some hn_2
            refine r_leq m.sX (fun h6 => ?_) (fun h6 => ?_) <;> conv => cbv
            · refine r_append1 (n_2) m.sX rfl (by first | omega | (dsimp only; omega)) (by first | omega | (dsimp only; omega)) fun out_2 hout_2 => ?_
              conv => cbv
              have lout_2 : (out_2.length : Int) = out.length + 1 := by rw [hout_2]; first | done | (simp; done) | (simp; omega)
              refine r_addf m.sX (by omega) (by omega) fun r5 hr5 => ?_
              conv => cbv
              try have tr5 : Int.toNat r5 = Int.toNat i3 + 1 := by omega
              refine hE _ (out_2, r5) ?_ ?_ ⟨(by (try dsimp only); first | omega | (simp only [List.length_nil]; omega) | (simp only [List.length_cons, List.length_nil]; omega)), (by (try dsimp only); first | omega | (simp only [List.length_nil]; omega) | (simp only [List.length_cons, List.length_nil]; omega)), (by (try dsimp only) <;> (first | (rw [hout_2, q, tr5, List.take_add_one, hn_2, List.filter_append]; simp [h6]; done) | (rw [q, tr5, List.take_add_one, hn_2, List.filter_append]; simp [h6]; done))), (by (try dsimp only) <;> first | omega | rfl | (simp [*]; done) | (rw [ol3]; simp [*]; done))⟩ (by first | omega | (dsimp only; omega))
              · cbv
              · cbv
            · refine r_addf m.sX (by omega) (by omega) fun r6 hr6 => ?_
              conv => cbv
              try have tr6 : Int.toNat r6 = Int.toNat i3 + 1 := by omega
              refine hE _ (out, r6) ?_ ?_ ⟨(by (try dsimp only); first | omega | (simp only [List.length_nil]; omega) | (simp only [List.length_cons, List.length_nil]; omega)), (by (try dsimp only); first | omega | (simp only [List.length_nil]; omega) | (simp only [List.length_cons, List.length_nil]; omega)), (by (try dsimp only) <;> (first | (rw [hout_2, q, tr6, List.take_add_one, hn_2, List.filter_append]; simp [h6]; done) | (rw [q, tr6, List.take_add_one, hn_2, List.filter_append]; simp [h6]; done))), (by (try dsimp only) <;> first | omega | rfl | (simp [*]; done) | (rw [ol3]; simp [*]; done))⟩ (by first | omega | (dsimp only; omega))
              · cbv
              · cbv
          · have dz_i3 := drop_end (xs := sums) (i := Int.toNat i3) (by omega)
            have tz_i3 := take_end (xs := sums) (i := Int.toNat i3) (by omega)
            refine hF _ _ ?_
            conv => cbv
            exact hQ (.tup [.fr 3 1 (rows cInt out), .bool true]) (Eq.trans (by first | rfl | (simp only [lb, lbI, rows_cons, rows_nil, unnilT, unnil, unnilTI, unnilI]; done) | (simp only [lb, lbI, rows_cons, rows_nil, unnilT, unnil, unnilTI, unnilI]; rfl)) (congrArg ((lb 3 1 cInt)) (show (out, true) = sidesA pieces most from by rw [q, tz_i3, sides_eq ri (fun n => by rw [mb, tz_i1]; exact ⟨fun h => ⟨h, (bd n ((mb n).2 (by rw [tz_i1]; exact h))).1⟩, fun h => h.1⟩) b2.1, sidesA, if_pos ⟨h1, h2⟩])))   -- leaf 1
      · exact hQ (.tup [.nil, .bool false]) (Eq.trans (by first | rfl | (simp only [lb, lbI, rows_cons, rows_nil, unnilT, unnil, unnilTI, unnilI]; done) | (simp only [lb, lbI, rows_cons, rows_nil, unnilT, unnil, unnilTI, unnilI]; rfl)) (congrArg ((lb 3 1 cInt)) (show ([], false) = sidesA pieces most from by rw [sidesA, if_neg (fun e => by rw [h2] at e; cases e.2)])))   -- leaf 2
    · exact hQ (.tup [.nil, .bool false]) (Eq.trans (by first | rfl | (simp only [lb, lbI, rows_cons, rows_nil, unnilT, unnil, unnilTI, unnilI]; done) | (simp only [lb, lbI, rows_cons, rows_nil, unnilT, unnil, unnilTI, unnilI]; rfl)) (congrArg ((lb 3 1 cInt)) (show ([], false) = sidesA pieces most from by rw [sidesA, if_neg (fun e => by rw [h1] at e; cases e.1)]))))   -- leaf 3


/- Sets of numbers in memory (map[int]bool whose values are true), for the kit's walk. -/
abbrev keyI (x : Int) : Lit := .int .i64 x
/-- A map that has just the numbers of S. -/
def SetP (D : DataW Unit) (S : Int → Prop) : Prop := ∀ x z, (S x → D.atKey (keyI x) z = .lit (.bool true)) ∧ (¬ S x → D.atKey (keyI x) z = z)
theorem SetP.congr {D : DataW Unit} {S T : Int → Prop} (h : SetP D S) (e : ∀ x, T x ↔ S x) : SetP D T := fun x z => ⟨fun t => (h x z).1 ((e x).1 t), fun t => (h x z).2 fun s => t ((e x).2 s)⟩
theorem SetP.put {D : DataW Unit} {S : Int → Prop} (h : SetP D S) (hD : IsMap D) (k : Int) : SetP (D.put (keyI k) (.lit (.bool true))) (fun x => S x ∨ x = k) := fun x z => by
  by_cases e : x = k
  · subst e
    exact ⟨fun _ => atKey_put_same hD (show WideAt.IsKeyLit (.int .i64 x) from trivial) _ _, fun hn => absurd (.inr rfl) hn⟩
  · have ne : keyI x ≠ keyI k := fun h => e (by injection h)
    refine ⟨fun hs => ?_, fun hn => ?_⟩
    · rw [atKey_put_other ne]; exact (h x z).1 (hs.resolve_right e)
    · rw [atKey_put_other ne]; exact (h x z).2 fun s => hn (.inl s)
theorem SetP.has {D : DataW Unit} {S : Int → Prop} (h : SetP D S) (x : Int) : Maps.has D (keyI x) = true ↔ S x := by
  constructor
  · intro e
    apply Classical.byContradiction
    intro hn
    rw [has_false_of_atKey fun z => (h x z).2 hn] at e
    cases e
  · intro s
    exact has_true_of_atKey fun z => (h x z).1 s
theorem keyedI : Keyed Try.prog 3 := int_keyed Try.underlying3
theorem zeroB (w : World) : (zeroValue 4).run Try.prog w = .ok (.bool false) w := by kernel_rfl
def SetM (w : World) (b n : Nat) (S : Int → Prop) : Prop := ∃ D : DataW Unit, w.ownsMap Try.prog 3 (plainElem Try.prog 4) b n D ∧ SetP D S
theorem wf_of {k : Int} (h : 0 ≤ k ∧ k ≤ 1000000) : (Lit.int .i64 k).wf = true := WalkArith.wf_i64 (by omega)
theorem SetM.new (w : World) : SetM (w.alloc (.map #[] 0)) w.heap.size 0 (fun _ => False) := ⟨.map [], World.ownsMap_made w _ _ _, fun x z => ⟨fun h => h.elim, fun _ => rfl⟩⟩
theorem SetM.congr {w : World} {b n : Nat} {S T : Int → Prop} (h : SetM w b n S) (e : ∀ x, T x ↔ S x) : SetM w b n T := by obtain ⟨D, h1, h2⟩ := h; exact ⟨D, h1, h2.congr e⟩
theorem SetM.put {w : World} {b n : Nat} {S : Int → Prop} (h : SetM w b n S) (hn : n < maxLen) {k : Int} (hk : 0 ≤ k ∧ k ≤ 1000000) : ∃ w', (Instr.mapUpdate 112 (.map (some b)) (.int .i64 k) (.bool true)).run Try.prog w = .ok () w' ∧ SetM w' b (n + 1) (fun x => S x ∨ x = k) ∧ w.grownBy w' (some b) := by
  obtain ⟨D, h1, h2⟩ := h
  obtain ⟨w', r1, r2, r3⟩ := h1.update keyedI Try.underlying112 hn (keyOf_int_mk Try.underlying3 (wf_of hk)) (plainElem_bool Try.underlying4 true)
  exact ⟨w', r1, ⟨_, r2, h2.put h1.isMap k⟩, r3⟩
theorem elem_bool {v : Value} {z : DataW Unit × List MemPlace} (h : plainElem Try.prog 4 v = some z) : ∃ c, v = .bool c ∧ z = (.lit (.bool c), []) := by
  have hu := Try.underlying4
  generalize Try.prog = P at hu h
  unfold plainElem at h
  rw [hu] at h
  cases v <;> simp at h
  exact ⟨_, rfl, h.symm⟩
theorem SetM.get {w : World} {b n : Nat} {S : Int → Prop} (h : SetM w b n S) {k : Int} (hk : 0 ≤ k ∧ k ≤ 1000000) : ∃ c, (Instr.lookup 112 (.map (some b)) (.int .i64 k) false).run Try.prog w = .ok (.bool c) w ∧ (c = true ↔ S k) := by
  obtain ⟨D, h1, h2⟩ := h
  obtain ⟨v, ps, r1, r2⟩ := h1.lookup keyedI Try.underlying112 (zeroB w) (plainElem_bool Try.underlying4 false) (keyOf_int_mk Try.underlying3 (wf_of hk))
  obtain ⟨c, rfl, e⟩ := elem_bool r2
  refine ⟨c, r1, ?_⟩
  by_cases s : S k
  · rw [(h2 k _).1 s] at e
    simp only [Prod.mk.injEq, DataW.lit.injEq, Lit.bool.injEq] at e
    exact ⟨fun _ => s, fun _ => e.1.symm⟩
  · rw [(h2 k _).2 s] at e
    simp only [Prod.mk.injEq, DataW.lit.injEq, Lit.bool.injEq] at e
    exact ⟨fun hc => by rw [hc] at e; exact absurd e.1 (by decide), fun h => absurd h s⟩
theorem SetM.lt {w : World} {b n : Nat} {S : Int → Prop} (h : SetM w b n S) : b < w.heap.size := by obtain ⟨D, h1, -⟩ := h; exact h1.lt
theorem SetM.kept {w w' : World} {row : Option Nat} {b n : Nat} {S : Int → Prop} (h : SetM w b n S) (hg : w.grownBy w' row) (hne : some b ≠ row) : SetM w' b n S := by obtain ⟨D, h1, h2⟩ := h; exact ⟨D, h1.kept hg hne, h2⟩
theorem SetM.below {w w' : World} {b n : Nat} {S : Int → Prop} (h : SetM w b n S) (hb : Below w.heap.size w w') : SetM w' b n S := h.kept (row := none) ⟨hb.os, hb.tape, hb.output, hb.size, fun i hi _ => hb.block i hi⟩ (by simp)
/-- The step of a range over a set. -/
theorem wpList_next_set {w : World} {ops : Array Oper} {rest : List Oper} {o : Oper} {a : Act} {Q : Exit → Act → World → Prop} (hg : o.guard = none) (it : Operand) (hop : o.op = Op.next it false) (b r n : Nat) (D : DataW Unit) (S : Int → Prop) (hSP : SetP D S) (left : Lit → Bool) (cnt : Nat)
    (hit : a.eval it = .pointer (some ⟨r, 0, none⟩)) (h : w.ranges Try.prog 3 (plainElem Try.prog 4) b r n D left cnt)
    (hDone : cnt = 0 → (∀ kl, left kl = false) → wpList Try.prog ops Q rest (a.put o.dst (.tuple #[.bool false])) w)
    (hMore : ∀ (x : Int) (w' : World) (cnt' : Nat), S x → left (keyI x) = true → w'.ranges Try.prog 3 (plainElem Try.prog 4) b r n D (fun z => left z && !z.sameKey (keyI x)) cnt' → cnt' < cnt →
      w.grownBy w' (some r) → w'.heap.size = w.heap.size → (Instr.entry (.pointer (some ⟨r, 0, none⟩))).run Try.prog w' = .ok (.tuple #[.int .i64 x, .bool true]) w' → wpList Try.prog ops Q rest (a.put o.dst (.tuple #[.bool true, .int .i64 x, .bool true])) w') :
    wpList Try.prog ops Q (o :: rest) a w :=
  wpList_next_ranges w hg it hop 3 keyedI (plainElem Try.prog 4) (Value.int .i64) Value.bool (fun key kl hkey => by obtain ⟨x, rfl, _⟩ := Maps.keyOf_int_inv Try.underlying3 hkey; exact ⟨x, rfl⟩) (fun v y hv => by obtain ⟨c, rfl, _⟩ := elem_bool hv; exact ⟨c, rfl⟩)
    b r n D left cnt hit h hDone (fun x c kl y w' cnt' hkey hlk hv hat hrg hlt hgr hsz hen => by
      obtain ⟨x', ex, rfl, hwx⟩ := Maps.keyOf_int_inv Try.underlying3 hkey
      cases ex
      obtain ⟨c', ec, rfl⟩ := elem_bool hv
      cases ec
      have hs : S x := (hSP.has x).1 (has_true_of_atKey hat)
      have hc := (hSP x (.lit (.bool false))).1 hs
      rw [hat] at hc
      simp only [DataW.lit.injEq, Lit.bool.injEq] at hc
      subst hc
      exact hMore x w' cnt' hs hlk hrg hlt hgr hsz hen)

/- impl.SidesOf: sums of sides, by the kit's walk (maps). -/
def reachS (ps : List Piece) (i : Nat) (x : Int) : Prop := reachF (ps.take i) x = true
theorem reach_zero (ps : List Piece) (x : Int) : reachS ps 0 x ↔ (False ∨ x = 0) := by unfold reachS reachF; simp
theorem reach_succ {ps : List Piece} {i : Nat} {p : Piece} (h : ps[i]? = some p) (x : Int) : reachS ps (i + 1) x ↔ ∃ m, reachS ps i m ∧ (x = m ∨ x = m + p.1 ∨ x = m + p.2) := by
  unfold reachS
  rw [reach_take h]
  simp only [Bool.or_eq_true]
  constructor
  · rintro (h | h | h)
    · exact ⟨x, h, .inl rfl⟩
    · exact ⟨_, h, .inr (.inl (by omega))⟩
    · exact ⟨_, h, .inr (.inr (by omega))⟩
  · rintro ⟨m, h, rfl | rfl | rfl⟩
    · exact .inl h
    · exact .inr (.inl (by rw [show m + p.1 - p.1 = m by omega]; exact h))
    · exact .inr (.inr (by rw [show m + p.2 - p.2 = m by omega]; exact h))
theorem reach_null {ps : List Piece} : ∀ (i : Nat), i ≤ ps.length → reachS ps i 0
  | 0, _ => (reach_zero ps 0).2 (.inr rfl)
  | i + 1, hi => (reach_succ (List.getElem?_eq_getElem (show i < ps.length by omega)) 0).2 ⟨0, reach_null i (by omega), .inl rfl⟩
theorem SetM.at {w w' : World} {b n : Nat} {S : Int → Prop} (h : SetM w b n S) (e : w'.heap[b]? = w.heap[b]?) : SetM w' b n S := by
  obtain ⟨D, ⟨es, clock, h1, h2⟩, h3⟩ := h
  exact ⟨D, ⟨es, clock, e.trans h1, h2⟩, h3⟩
theorem reach_bound {ps : List Piece} (hp : ∀ p ∈ ps, (1 ≤ p.1 ∧ p.1 ≤ 8) ∧ 1 ≤ p.2 ∧ p.2 ≤ 8) : ∀ (i : Nat), i ≤ ps.length → ∀ x, reachS ps i x → 0 ≤ x ∧ x ≤ 8 * i
  | 0, _, x, h => by
    rcases (reach_zero ps x).1 h with h | h
    · exact h.elim
    · omega
  | i + 1, hi, x, h => by
    have hpi : ps[i]? = some ps[i] := List.getElem?_eq_getElem (by omega)
    obtain ⟨m, h1, h2⟩ := (reach_succ hpi x).1 h
    have := reach_bound hp i (by omega) m h1
    have := hp _ (List.mem_of_getElem? hpi)
    omega
/-- What the next set has while a range over the set S is under way. -/
def nextS (S : Int → Prop) (left : Lit → Bool) (a b : Int) (x : Int) : Prop := ∃ m, S m ∧ left (keyI m) = false ∧ (x = m ∨ x = m + a ∨ x = m + b)
theorem next_start {D : DataW Unit} {S : Int → Prop} (h : SetP D S) (a b x : Int) : nextS S (Maps.has D) a b x ↔ False := by
  refine ⟨?_, fun h => h.elim⟩
  rintro ⟨m, h1, h2, -⟩
  rw [(h.has m).2 h1] at h2
  cases h2
theorem next_end {S : Int → Prop} {left : Lit → Bool} (h : ∀ kl, left kl = false) (a b x : Int) : nextS S left a b x ↔ ∃ m, S m ∧ (x = m ∨ x = m + a ∨ x = m + b) :=
  ⟨fun ⟨m, h1, _, h3⟩ => ⟨m, h1, h3⟩, fun ⟨m, h1, h3⟩ => ⟨m, h1, h _, h3⟩⟩
theorem next_step {S : Int → Prop} {left : Lit → Bool} {a b y : Int} (hy : S y) (x : Int) : nextS S (fun z => left z && !z.sameKey (keyI y)) a b x ↔ nextS S left a b x ∨ (x = y ∨ x = y + a ∨ x = y + b) := by
  have sk : ∀ m : Int, (keyI m).sameKey (keyI y) = true ↔ m = y := fun m => by
    rw [WideAt.sameKey_iff (show WideAt.IsKeyLit (keyI y) from trivial)]
    exact ⟨fun e => by injection e, fun e => by rw [e]⟩
  constructor
  · rintro ⟨m, h1, h2, h3⟩
    by_cases e : m = y
    · subst e; exact .inr h3
    · refine .inl ⟨m, h1, ?_, h3⟩
      have : (keyI m).sameKey (keyI y) = false := by cases hs : (keyI m).sameKey (keyI y) with
        | false => rfl
        | true => exact absurd ((sk m).1 hs) e
      dsimp only at h2
      rw [this] at h2
      simpa using h2
  · rintro (⟨m, h1, h2, h3⟩ | h)
    · exact ⟨m, h1, by dsimp only; rw [h2]; rfl, h3⟩
    · exact ⟨y, hy, by dsimp only; rw [(sk y).2 rfl]; simp, h⟩
/-- Three stores in whichever order. -/
structure Put3 (w : World) (b n : Nat) (S : Int → Prop) (x y z : Int) (u : World) : Prop where
  set : SetM u b (n + 3) (fun v => ((S v ∨ v = x) ∨ v = y) ∨ v = z)
  grown : w.grownBy u (some b)
theorem Put3.all {w : World} {b n : Nat} {S : Int → Prop} {x y z x2 y2 z2 : Int} {u : World} (h : Put3 w b n S x y z u) (e : ∀ v, (v = x ∨ v = y ∨ v = z) ↔ (v = x2 ∨ v = y2 ∨ v = z2)) : SetM u b (n + 3) (fun v => S v ∨ (v = x2 ∨ v = y2 ∨ v = z2)) ∧ w.grownBy u (some b) :=
  ⟨h.set.congr fun v => by
    rw [← e]
    constructor
    · rintro (h | h | h | h)
      · exact .inl (.inl (.inl h))
      · exact .inl (.inl (.inr h))
      · exact .inl (.inr h)
      · exact .inr h
    · rintro (((h | h) | h) | h)
      · exact .inl h
      · exact .inr (.inl h)
      · exact .inr (.inr (.inl h))
      · exact .inr (.inr (.inr h)), h.grown⟩
theorem piece_cells {w : World} {I : Nat → Prop} : ∀ {ps : List Piece} {vs : List Value}, RepIs w I (ps.map cPiece).flatten vs → ∀ (i : Nat) p, ps[i]? = some p → vs[i * 2]? = some (.int .i64 p.1) ∧ vs[i * 2 + 1]? = some (.int .i64 p.2)
  | [], _, _, i, p, h => by simp at h
  | q :: r, vs, h, i, p, hi => by
    simp only [List.map_cons, List.flatten_cons, cPiece, List.cons_append, List.nil_append] at h
    cases h with
    | cons h1 h => cases h with
      | cons h2 h =>
        cases h1
        cases h2
        cases i with
        | zero => simp at hi; subst hi; exact ⟨rfl, rfl⟩
        | succ i =>
          have := piece_cells h i p (by simpa using hi)
          rw [show (i + 1) * 2 = i * 2 + 2 by omega]
          exact this
theorem pieces_at {w : World} {I : Nat → Prop} {v : Value} {ps : List Piece} (h : RepI w I (.isl 2 (rows cPiece ps)) v) : ∃ A c, v = .slice A ps.length c ∧ (0 < ps.length → ∃ g o, A = some ⟨g, o, none⟩ ∧ I g ∧ ∀ (i : Nat) p, ps[i]? = some p → w.cell? ⟨g, o + i * 2, none⟩ = some (.int .i64 p.1) ∧ w.cell? ⟨g, o + i * 2 + 1, none⟩ = some (.int .i64 p.2)) := by
  rw [rows_eq] at h
  generalize hes : ps.map cPiece = es at h
  cases h with
  | isl0 sz A c hm =>
    rw [List.map_eq_nil_iff.1 hes]
    exact ⟨A, c, rfl, fun h => absurd h (Nat.lt_irrefl _)⟩
  | isl sz es g o c vs hl hr hI hcell hc hm =>
    subst hes
    refine ⟨_, c, by rw [List.length_map], fun _ => ⟨g, o, rfl, hI, fun i p hi => ?_⟩⟩
    obtain ⟨a, b⟩ := piece_cells hr i p hi
    exact ⟨hcell _ _ a, by rw [Nat.add_assoc]; exact hcell _ _ b⟩
set_option maxHeartbeats 4000000 in
set_option maxRecDepth 1000000 in
theorem sides_walk (pieces : List Piece) (most : Int) (vps : Value) (w : World) (I : Nat → Prop) (hI : InR w I)
    (ha : All2 (RepArg w I) [.isl 2 (rows cPiece pieces), .int .i64 most] [vps, .int .i64 most]) :
    Calls Try.prog 28 #[vps, .int .i64 most] w fun e w' => ∃ v, e = .returned (.tuple #[v, .bool (sidesA pieces most).2]) ∧ Below w.heap.size w w' ∧ RepI w' (fun g => w.heap.size ≤ g ∧ g < w'.heap.size ∧ plain w' g) (.isl 1 (rows cInt (sidesA pieces most).1)) v := by
  have hps : RepI w I (.isl 2 (rows cPiece pieces)) vps := by
    cases ha with
    | cons h1 t => cases h1 with
      | one h1 => exact h1
  have AP : Calls Try.prog 20 #[vps] w _ := calls_bool (ArePieces_ok pieces) hI (vs := [vps]) (.cons (.one hps) .nil)
  have AW : ∀ W : World, Calls Try.prog 87 #[.int .i64 most, .int .i64 0, .int .i64 64] W fun e w' => e = .returned (.bool (inB most 0 64)) ∧ Below W.heap.size W w' := fun W =>
    calls_bool (within_ok most 0 64) (inr_all W) (vs := [.int .i64 most, .int .i64 0, .int .i64 64]) (by
      cases ha with
      | cons h1 t => cases t with
        | cons h2 t => cases h2 with
          | one h2 => cases h2 with
            | int _ _ hw => exact .cons (.one (.int _ _ hw)) (.cons (.one (.int _ _ (by decide))) (.cons (.one (.int _ _ (by decide))) .nil)))
  cases ho : okPs pieces with
  | false =>
    rw [ho] at AP
    have eF : sidesA pieces most = ([], false) := by unfold sidesA; rw [if_neg (by rw [ho]; simp)]
    rw [eF]
    go_enter Try.func28, Try.ntmps28
    go_wp2_with (go_at_call 20; refine AP.mono ?_; rintro e w1 ⟨rfl, b1⟩; refine Hid.out ?_)
    refine Lib.hid ?_
    go_wp2
    go_ret2
    refine ⟨_, rfl, b1.trans ((alloc_below w1 _).mono b1.size), ?_⟩
    rw [rows_nil]; exact .isl0 _ _ _ (Nat.zero_le _)
  | true =>
    rw [ho] at AP
    cases hb : inB most 0 64 with
    | false =>
      rw [hb] at AW
      have eF : sidesA pieces most = ([], false) := by unfold sidesA; rw [if_neg (by rw [hb]; simp)]
      rw [eF]
      go_enter Try.func28, Try.ntmps28
      go_wp2_with (go_at_call 20; refine AP.mono ?_; rintro e w1 ⟨rfl, b1⟩; refine Hid.out ?_)
      refine Lib.hid ?_
      go_wp2_with (go_at_call 87; refine (AW _).mono ?_; rintro e w2 ⟨rfl, b2⟩; refine Hid.out ?_)
      refine Lib.hid ?_
      go_wp2
      go_ret2
      have b3 := b1.trans (b2.mono b1.size)
      refine ⟨_, rfl, b3.trans ((alloc_below w2 _).mono b3.size), ?_⟩
      rw [rows_nil]; exact .isl0 _ _ _ (Nat.zero_le _)
    | true =>
      rw [hb] at AW
      have mb := inB_spec hb
      obtain ⟨hpp, hN⟩ := okPs_spec ho
      obtain ⟨A, vc, rfl, hA⟩ := pieces_at hps
      have hmm := @run_makeMap Try.prog
      go_enter Try.func28, Try.ntmps28
      go_wp2_with (go_at_call 20; refine AP.mono ?_; rintro e w1 ⟨rfl, b1⟩; refine Hid.out ?_)
      refine Lib.hid ?_
      go_wp2_with (go_at_call 87; refine (AW _).mono ?_; rintro e w2 ⟨rfl, b2⟩; refine Hid.out ?_)
      refine Lib.hid ?_
      have b3 := b1.trans (b2.mono b1.size)
      obtain ⟨w3, E0, s3, g3⟩ := (SetM.new w2).put (by unfold maxLen; omega) (k := 0) ⟨by omega, by omega⟩
      have b4 := b3.trans ((alloc_below w2 (.map #[] 0)).mono b3.size)
      have b5 : Below w.heap.size w w3 := b4.grown g3 b4.size fun k hk => by cases hk; exact b3.size
      have hbase := b3.size
      go_wp2
      clear E0 g3
      go_loopw [6, 26] (fun c u wr => ∃ (b n i : Nat), c = .map (some b) ∧ u = .int .i64 (i : Int) ∧ i ≤ pieces.length ∧ n ≤ 3 ^ i ∧ w.heap.size ≤ b ∧ SetM wr b n (reachS pieces i) ∧ Below w.heap.size w wr) (fun _ u _ => pieces.length - (intOf u).toNat)
      case atStart => exact ⟨w2.heap.size, 0 + 1, 0, rfl, rfl, Nat.zero_le _, by decide, hbase, s3.congr fun x => reach_zero pieces x, b5⟩
      case round =>
        obtain ⟨b, n, i, rfl, rfl, hi, hn, hbB, hS, hB⟩ := hrel
        by_cases hin : i < pieces.length
        · obtain ⟨p, hp⟩ : ∃ p, pieces[i]? = some p := ⟨_, List.getElem?_eq_getElem hin⟩
          obtain ⟨g, o, rfl, hg, hcells⟩ := hA (by omega)
          obtain ⟨pA, pB⟩ := p
          have pb := hpp _ (List.mem_of_getElem? hp)
          dsimp only at pb
          have gl := hI.1 g hg
          have cA := cell_old hB (hcells i _ hp).1
          have cB := cell_old hB (hcells i _ hp).2
          dsimp only at cA cB
          obtain ⟨D, hown, hSP⟩ := hS
          have hblt := hown.lt
          have hn6 : (3 : Nat) ^ i ≤ 3 ^ 8 := Nat.pow_le_pow_right (by omega) (by omega)
          have hown2 := (hown.alloc (.cells #[.int .i64 pA, .int .i64 pB] 62)).alloc (.map #[] 0)
          have hzs := hown.size_le
          have q5 := (alloc_below wr (.cells #[.int .i64 pA, .int .i64 pB] 62))
          have e5 : (wr.alloc (.cells #[.int .i64 pA, .int .i64 pB] 62)).heap[wr.heap.size]? = some (.cells #[.int .i64 pA, .int .i64 pB] 62 (0, 0)) := heap_alloc_new wr _
          have z5 : (wr.alloc (.cells #[.int .i64 pA, .int .i64 pB] 62)).heap.size = wr.heap.size + 1 := Array.size_push _
          go_wp2_with (at_range; refine wpList_range_own _ rfl _ 112 rfl 3 4 keyedI Try.underlying112 _ b n D rfl hown2 ?_; intro w6 hrg6 hg6 hs6; refine Hid.out ?_)
          refine Lib.hid ?_
          have z6 : ((wr.alloc (.cells #[.int .i64 pA, .int .i64 pB] 62)).alloc (.map #[] 0)).heap.size = wr.heap.size + 1 + 1 := (Array.size_push _).trans (congrArg (· + 1) z5)
          rw [z6] at hrg6 hs6
          have m5 := (SetM.new (wr.alloc (.cells #[.int .i64 pA, .int .i64 pB] 62))).kept hg6 (by simp)
          rw [z5] at m5
          have q6 : Below wr.heap.size wr w6 := (q5.alloc q5.size _).grown hg6 (by rw [z6]; omega) (fun k hk => by cases hk)
          have e6 : w6.heap[wr.heap.size]? = some (.cells #[.int .i64 pA, .int .i64 pB] 62 (0, 0)) := by
            rw [hg6.block _ (by rw [z6]; omega) (by simp), (alloc_below _ _).block _ (by rw [z5]; omega)]; exact e5
          have B6 : Below w.heap.size w w6 := hB.trans (q6.mono hB.size)
          generalize hkx : wr.heap.size = kx at *
          clear hs6 hg6 q6 q5 e5 z5 z6 hown2 hown cA cB hcells
          go_wp2
          go_loopw [10] (fun _ wq => ∃ (left : Lit → Bool) (cnt n2 : Nat), wq.ranges Try.prog 3 (plainElem Try.prog 4) b (kx + 1 + 1) n D left cnt ∧ n2 + 3 * cnt ≤ 3 * Maps.size D ∧ SetM wq (kx + 1) n2 (nextS (reachS pieces i) left pA pB) ∧ wq.heap[kx]? = some (.cells #[.int .i64 pA, .int .i64 pB] 62 (0, 0)) ∧ Below w.heap.size w wq) (fun _ wq => wq.rangeLeft b (kx + 1 + 1))
          case atStart => exact ⟨_, _, 0, hrg6, by omega, m5.congr fun x => next_start hSP pA pB x, e6, B6⟩
          case round =>
            obtain ⟨left, cnt, n2, hrg, hn2, hM, ebx, hBq⟩ := hrel
            go_wp2_with (at_next; refine wpList_next_set rfl _ rfl b (kx + 1 + 1) n D _ hSP left cnt rfl hrg ?_ ?_)
            · intro hc0 hl0
              go_wp2
              have m7 := hM.congr (T := reachS pieces (i + 1)) fun x => by rw [reach_succ hp, next_end hl0]
              refine ⟨⟨kx + 1, n2, i + 1, rfl, rfl, by omega, ?_, by have := hB.size; omega, m7, hBq⟩, ?_⟩
              · rw [Nat.pow_succ]; omega
              · simp only [intOf]; omega
            · intro x w1 cnt1 hSx hlx hrg1 hlt hg1 hs1 hen
              have xb := reach_bound hpp i hi x hSx
              have M1 := hM.kept hg1 (by simp)
              have eb1 : w1.heap[kx]? = some (.cells #[.int .i64 pA, .int .i64 pB] 62 (0, 0)) := by
                rw [hg1.block _ (Array.getElem?_eq_some_iff.1 ebx).1 (by simp; omega)]; exact ebx
              go_wp2
              have b0 : n2 + 10 < maxLen := by have : Maps.size D ≤ n := hzs; have : (3 : Nat) ^ 8 = 6561 := by decide
                                               unfold maxLen; omega
              have M0 : SetM w1.drew (kx + 1) n2 (nextS (reachS pieces i) left pA pB) := M1
              have kX : 0 ≤ x ∧ x ≤ 1000000 := by omega
              have kY : 0 ≤ x + pA ∧ x + pA ≤ 1000000 := by omega
              have kZ : 0 ≤ x + pB ∧ x + pB ≤ 1000000 := by omega
              obtain ⟨uX, EX, MX, GX⟩ := M0.put (by omega) kX
              obtain ⟨uY, EY, MY, GY⟩ := M0.put (by omega) kY
              obtain ⟨uZ, EZ, MZ, GZ⟩ := M0.put (by omega) kZ
              obtain ⟨uXY, EXY, MXY, hXY⟩ := MX.put (by omega) kY
              have GXY := GX.trans hXY
              obtain ⟨uXZ, EXZ, MXZ, hXZ⟩ := MX.put (by omega) kZ
              have GXZ := GX.trans hXZ
              obtain ⟨uYX, EYX, MYX, hYX⟩ := MY.put (by omega) kX
              have GYX := GY.trans hYX
              obtain ⟨uYZ, EYZ, MYZ, hYZ⟩ := MY.put (by omega) kZ
              have GYZ := GY.trans hYZ
              obtain ⟨uZX, EZX, MZX, hZX⟩ := MZ.put (by omega) kX
              have GZX := GZ.trans hZX
              obtain ⟨uZY, EZY, MZY, hZY⟩ := MZ.put (by omega) kY
              have GZY := GZ.trans hZY
              obtain ⟨uXYZ, EXYZ, MXYZ, hXYZ⟩ := MXY.put (by omega) kZ
              have GXYZ := GXY.trans hXYZ
              obtain ⟨uXZY, EXZY, MXZY, hXZY⟩ := MXZ.put (by omega) kY
              have GXZY := GXZ.trans hXZY
              obtain ⟨uYXZ, EYXZ, MYXZ, hYXZ⟩ := MYX.put (by omega) kZ
              have GYXZ := GYX.trans hYXZ
              obtain ⟨uYZX, EYZX, MYZX, hYZX⟩ := MYZ.put (by omega) kX
              have GYZX := GYZ.trans hYZX
              obtain ⟨uZXY, EZXY, MZXY, hZXY⟩ := MZX.put (by omega) kY
              have GZXY := GZX.trans hZXY
              obtain ⟨uZYX, EZYX, MZYX, hZYX⟩ := MZY.put (by omega) kX
              have GZYX := GZY.trans hZYX
              have klt : kx < w1.heap.size := (Array.getElem?_eq_some_iff.1 eb1).1
              have hS0 : w1.cell? ⟨kx, 0, none⟩ = some (.int .i64 pA) ∧ w1.cell? ⟨kx, 1, none⟩ = some (.int .i64 pB) := by constructor <;> simp [World.cell?, eb1]
              have hS1 : w1.drew.cell? ⟨kx, 0, none⟩ = some (.int .i64 pA) ∧ w1.drew.cell? ⟨kx, 1, none⟩ = some (.int .i64 pB) := hS0
              have hSg : ∀ u : World, w1.drew.grownBy u (some (kx + 1)) → u.cell? ⟨kx, 0, none⟩ = some (.int .i64 pA) ∧ u.cell? ⟨kx, 1, none⟩ = some (.int .i64 pB) := fun u hu => by
                have : u.heap[kx]? = some (.cells #[.int .i64 pA, .int .i64 pB] 62 (0, 0)) := by rw [hu.block kx klt (by simp)]; exact eb1
                constructor <;> simp [World.cell?, this]
              have wA : IntKind.i64.wrap (x + pA) = x + pA := wrap64 (by omega) (by omega)
              have wB : IntKind.i64.wrap (x + pB) = x + pB := wrap64 (by omega) (by omega)
              go_region_held3 (fun w' => w'.cell? ⟨kx, 0, none⟩ = some (.int .i64 pA) ∧ w'.cell? ⟨kx, 1, none⟩ = some (.int .i64 pB)) (first | exact hS0 | exact hS1 | exact hSg _ (by assumption)) (fail)
              have hbl : b ≠ kx + 1 := by omega
              have fin : ∀ (u : World) (T : Int → Prop), SetM u (kx + 1) (n2 + 1 + 1 + 1) T → (∀ v, T v ↔ nextS (reachS pieces i) left pA pB v ∨ (v = x ∨ v = x + pA ∨ v = x + pB)) → w1.drew.grownBy u (some (kx + 1)) →
                  (∃ (left : Lit → Bool) (cnt n2 : Nat), u.ranges Try.prog 3 (plainElem Try.prog 4) b (kx + 1 + 1) n D left cnt ∧ n2 + 3 * cnt ≤ 3 * Maps.size D ∧ SetM u (kx + 1) n2 (nextS (reachS pieces i) left pA pB) ∧ u.heap[kx]? = some (.cells #[.int .i64 pA, .int .i64 pB] 62 (0, 0)) ∧ Below w.heap.size w u) ∧ u.rangeLeft b (kx + 1 + 1) < wr.rangeLeft b (kx + 1 + 1) := fun u T h1 h2 h3 => by
                have hu : w1.grownBy u (some (kx + 1)) := ⟨h3.os, h3.tape, h3.output, h3.size, h3.block⟩
                have r2 := hrg1.kept hu (by simp; omega) (by simp)
                refine ⟨⟨_, cnt1, n2 + 1 + 1 + 1, r2, by omega, h1.congr fun v => (next_step hSx v).trans (h2 v).symm, by rw [hu.block kx klt (by simp)]; exact eb1, ?_⟩, by rw [r2.left_eq, hrg.left_eq]; exact hlt⟩
                have q1 : Below w.heap.size w w1 := hBq.grown hg1 hBq.size fun k hk => by cases hk; have := hB.size; omega
                exact q1.grown hu q1.size fun k hk => by cases hk; have := hB.size; omega
              all_goals go_wp2
              all_goals first
                | exact fin _ _ MXYZ (fun v => by constructor; (rintro (((h | h) | h) | h) <;> simp [h]); (rintro (h | h | h | h) <;> simp [h])) GXYZ
                | exact fin _ _ MXZY (fun v => by constructor; (rintro (((h | h) | h) | h) <;> simp [h]); (rintro (h | h | h | h) <;> simp [h])) GXZY
                | exact fin _ _ MYXZ (fun v => by constructor; (rintro (((h | h) | h) | h) <;> simp [h]); (rintro (h | h | h | h) <;> simp [h])) GYXZ
                | exact fin _ _ MYZX (fun v => by constructor; (rintro (((h | h) | h) | h) <;> simp [h]); (rintro (h | h | h | h) <;> simp [h])) GYZX
                | exact fin _ _ MZXY (fun v => by constructor; (rintro (((h | h) | h) | h) <;> simp [h]); (rintro (h | h | h | h) <;> simp [h])) GZXY
                | exact fin _ _ MZYX (fun v => by constructor; (rintro (((h | h) | h) | h) <;> simp [h]); (rintro (h | h | h | h) <;> simp [h])) GZYX
        · obtain rfl : i = pieces.length := by omega
          rw [show reachS pieces pieces.length = fun x => reachF pieces x = true from by funext x; unfold reachS; rw [List.take_length]] at hS
          obtain ⟨i0, z0, hi0, hz0, -, hz1, hz2, hz3, -⟩ := run_zeroValue (envOk 3 _ rfl)
          replace hz1 : i0.size = 1 := hz1
          replace hz2 : i0.bytes = 8 := hz2
          replace hz3 : z0.cells.size = 1 := hz3
          have r0 := own_new wr (B := wr.heap.size) (Nat.le_refl _)
          have q2 := alloc_below wr (.cells #[] 3)
          have hbl := hS.lt
          have m2 := hS.below q2
          generalize hw2 : wr.alloc (.cells #[] 3) = w7 at r0 q2 m2
          obtain ⟨kB, hkB⟩ : ∃ kB, kB = wr.heap.size := ⟨_, rfl⟩
          go_wp2
          rw [← hkB] at r0 ⊢
          have HB1 := Lib.hid hkB
          clear hw2 hkB
          go_loopw [11, 12] (fun v' u wq => ∃ x : Nat, u = .int .i64 (x : Int) ∧ (x : Int) ≤ most + 1 ∧ OwnI wq kB v' (((List.range x).map fun (k : Nat) => (k : Int)).filter (reachF pieces)) ∧ SetM wq b n (fun x => reachF pieces x = true) ∧ Below wr.heap.size wr wq) (fun _ u _ => (most + 1 - intOf u).toNat)
          case atStart => exact ⟨0, rfl, by omega, r0, m2, q2⟩
          case round =>
            obtain ⟨x, rfl, hx, hO, hM, hb2⟩ := hrel
            obtain ⟨l, hl⟩ : ∃ l, l = ((List.range x).map fun (k : Nat) => (k : Int)).filter (reachF pieces) := ⟨_, rfl⟩
            have hll : l.length ≤ 65 := by
              rw [hl]
              refine Nat.le_trans (List.length_filter_le _ _) ?_
              rw [List.length_map, List.length_range]; omega
            have hnext : ((List.range (x + 1)).map fun (k : Nat) => (k : Int)).filter (reachF pieces) = if reachF pieces (x : Int) = true then l ++ [(x : Int)] else l := by
              rw [List.range_succ, List.map_append, List.filter_append, ← hl]
              split
              · rename_i h; simp [h]
              · rename_i h; simp [h]
            rw [← hl] at hO
            by_cases hxm : (x : Int) ≤ most
            · obtain ⟨c, hrun, hc⟩ := hM.get (k := (x : Int)) ⟨by omega, by omega⟩
              cases c with
              | true =>
                rw [if_pos (hc.1 rfl)] at hnext
                have k3 : l.length + 1 ≤ maxLen := by unfold maxLen; omega
                have k4 : (l.length + 1) * 8 ≤ 140737488355328 := by omega
                have b5 := alloc_below wr (.cells #[.int .i64 (x : Int)] 3)
                have hs2 : kB ≤ wr.heap.size := by have := hb2.size; have := HB1.out; omega
                have HN := Lib.hid hnext
                clear hnext hl
                go_wp2_with (at_builtin; refine wpList_append_own _ rfl _ _ 46 rfl kB 3 i0 z0 1 8 Try.underlying46 hi0 hz0 hz1 hz2 hz3 (by decide) _ _ _ rfl (hO.alloc _) ⟨_, 0, none⟩ 1 1 [.int .i64 (x : Int)] rfl rfl (new_cell _ _) (new_one _) k3 k4 (Nat.le_trans hs2 b5.size) ?_; intro v6 w9 h6 g6 _; refine Hid.out ?_)
                all_goals try (exfalso; omega)
                refine Lib.hid ?_
                go_wp2
                have o1 : OwnI w9 kB v6 (l ++ [(x : Int)]) := own_next h6 (Nat.le_refl _)
                have b9 : Below kB wr w9 := ((b5.mono hs2).grown g6 (Nat.le_trans hs2 b5.size) (fun k hk => (World.ownsRow.lt hO k hk).1))
                have M9 : SetM w9 b n (fun x => reachF pieces x = true) := hM.at (b9.block _ (by rw [HB1.out]; exact hbl))
                refine ⟨⟨x + 1, by simp, by omega, ?_, M9, hb2.trans (by rw [← HB1.out]; exact b9)⟩, ?_⟩
                · rw [HN.out]; exact o1
                · simp only [intOf]; omega
              | false =>
                rw [if_neg (fun h => by have := hc.2 h; cases this)] at hnext
                have HN := Lib.hid hnext
                clear hnext hl
                go_wp2
                refine ⟨⟨x + 1, by simp, by omega, ?_, hM, hb2⟩, ?_⟩
                · rw [HN.out]; exact hO
                · simp only [intOf]; omega
            · have hne : l ≠ [] := by
                intro e
                have : (0 : Int) ∈ l := by
                  rw [hl, List.mem_filter]
                  refine ⟨List.mem_map.2 ⟨0, List.mem_range.2 (by omega), rfl⟩, ?_⟩
                  have := reach_null (ps := pieces) pieces.length (Nat.le_refl _)
                  unfold reachS at this; rw [List.take_length] at this; exact this
                rw [e] at this; cases this
              have eA : sidesA pieces most = (l, true) := by
                unfold sidesA; rw [if_pos ⟨ho, hb⟩, hl, show most.toNat + 1 = x by omega]
              obtain ⟨bb, rfl, hr, hbB2⟩ := hO.rowI hne
              have hlx : ∀ y ∈ l, IntKind.i64.wrap y = y := fun y hy => by
                rw [hl] at hy
                obtain ⟨k, hk, rfl⟩ := List.mem_map.1 (List.mem_filter.1 hy).1
                have := List.mem_range.1 hk
                exact wrap64 (by omega) (by omega)
              have HA := Lib.hid eA
              clear eA hl hnext
              go_wp2
              go_ret2
              rw [HA.out]
              have bF : Below w.heap.size w wr := hB.trans (hb2.mono hB.size)
              refine ⟨_, rfl, bF, hr.rep hlx ⟨?_, hr.lt, ?_⟩⟩
              · have := HB1.out; have := hB.size; omega
              · obtain ⟨cur, h1, -⟩ := hr; exact ⟨cur, _, h1⟩
theorem SidesOf_ok (pieces : List Piece) (most : Int) : OkA Try.prog 28 [.isl 2 (rows cPiece pieces), .int .i64 most] (· = lbI 1 cInt (sidesA pieces most)) := by
  refine ⟨⟨_, Try.func28, rfl, rfl⟩, fun w I vs hI hargs => ?_⟩
  obtain ⟨vps, rfl⟩ : ∃ vps, vs = [vps, .int .i64 most] := by
    cases hargs with
    | cons h1 t => cases t with
      | cons h2 t =>
        cases t
        cases h2 with
        | one h2 => cases h2; exact ⟨_, rfl⟩
  refine (sides_walk pieces most vps w I hI hargs).mono ?_
  rintro e w' ⟨v, rfl, hbl, hr⟩
  refine ⟨_, lbI 1 cInt (sidesA pieces most), [] ++ ([] ++ []), rfl, rfl, hbl, List.nodup_nil, (fun g hg => by cases hg), .tup (.cons (.imm ?_) (.cons (.imm (.bool _)) .nil))⟩
  exact hr.mono fun g hg => ⟨⟨.inr hg.1, hg.2.1, by simp, fun _ => hg.2.2⟩, rfl⟩

end Go.Proofs.Ytiaodmfipeoegaa.Ai
