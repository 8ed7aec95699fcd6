/- Contracts behind the exact law on learning in an order. -/
import Derived.Test.YtnamefdhmlbcpaaMiss
import Derived.Test.YtnamefdhmlbcpaaTariff
namespace Go.Proofs.Ytnamefdhmlbcpaa.Ai
open Go Go.Proofs
set_option maxRecDepth 10000
set_option maxHeartbeats 4000000
set_option linter.unusedVariables false

def orderG (l : List Craft) : List Int → List Int → Int → Option (List Int × Int)
  | [], now, s => some (now, s)
  | i :: r, now, s => if has (nextF l now) i = true then orderG l r (now ++ [i]) (s + monthsAt l i) else none
def orderS (l : List Craft) : List Int → List Int → Int → Option (List Int × Int)
  | [], out, s => some (out, s)
  | i :: r, out, s => if has (nextF l out) i = true then orderS l r (putF out i) (s + monthsAt l i) else none
def ordA (o : Option (List Int × Int)) : List Int × Int × Bool := match o with
  | some p => (p.1, p.2, true)
  | none => ([], 0, false)
def orderAns (l : List Craft) (set order : List Int) : List Int × Int × Bool := if asked l set then ordA ((orderG l order set 0).map fun p => (sortI p.1, p.2)) else ([], 0, false)
theorem put_perm {l : List Int} {n : Int} (h : n ∉ l) : (putF l n).Perm (l ++ [n]) := by
  unfold putF
  split
  · rename_i hh
    have := List.takeWhile_append_dropWhile (p := fun x => decide (x < n)) (l := l)
    exact absurd (this ▸ List.mem_append_right _ (List.mem_of_mem_head? hh)) h
  · have e := List.takeWhile_append_dropWhile (p := fun x => decide (x < n)) (l := l)
    refine List.perm_middle.trans ?_
    rw [e]
    exact (List.perm_append_comm (l₁ := [n]) (l₂ := l))
theorem next_not {l : List Craft} {set : List Int} {i : Int} (h : has (nextF l set) i = true) : i ∉ set ∧ 0 ≤ i ∧ i < l.length := by
  have hm := (has_mem _ _).1 h
  refine ⟨fun hs => ?_, nextF_in i hm⟩
  have := (List.mem_filter.1 hm).2
  rw [(has_mem _ _).2 hs] at this
  simp at this
theorem order_eq {l : List Craft} : ∀ (r : List Int) {now out : List Int} (s : Int), out.Pairwise (fun x y => x < y) → out.Perm now → orderS l r out s = (orderG l r now s).map fun p => (sortI p.1, p.2)
  | [], now, out, s, h1, h2 => by
    rw [orderS, orderG, Option.map_some, ← sortI_eq h2 (h1.imp fun h => by omega)]
  | i :: r, now, out, s, h1, h2 => by
    have hh : ∀ j, has out j = has now j := fun j => by
      have := h2.mem_iff (a := j)
      rw [← has_mem, ← has_mem] at this
      cases e1 : has out j <;> cases e2 : has now j <;> simp_all
    rw [orderS, orderG, nextF_congr hh]
    by_cases hc : has (nextF l now) i = true
    · rw [if_pos hc, if_pos hc]
      refine order_eq r _ (put_sorted h1) ?_
      have hn := (next_not hc).1
      exact (put_perm (fun hm => hn (h2.mem_iff.1 hm))).trans (h2.append_right [i])
    · rw [if_neg hc, if_neg hc]; rfl
theorem rising_sorted : ∀ {xs : List Int} {lo hi : Int} {p : Option Int}, rising lo hi p xs = true → xs.Pairwise (fun x y => x < y) ∧ ∀ y, p = some y → ∀ x ∈ xs, y < x
  | [], _, _, _, _ => ⟨.nil, fun _ _ x hx => by cases hx⟩
  | x :: r, lo, hi, p, h => by
    rw [rising_cons] at h
    simp only [Bool.and_eq_true] at h
    obtain ⟨h1, h2⟩ := rising_sorted h.2
    refine ⟨List.pairwise_cons.2 ⟨h2 x rfl, h1⟩, fun y hy z hz => ?_⟩
    subst hy
    have hyx : y < x := by simpa using h.1.2
    rcases List.mem_cons.1 hz with rfl | hz
    · exact hyx
    · have := h2 x rfl z hz; omega
theorem asked_sorted {l : List Craft} {set : List Int} (h : asked l set = true) : set.Pairwise (fun x y => x < y) := by
  simp only [asked, Bool.and_eq_true] at h
  exact (rising_sorted h.2.1).1
theorem order_none {l : List Craft} : ∀ {r : List Int} {now : List Int} {s : Int}, (∃ i ∈ r, ¬ (0 ≤ i ∧ i < l.length)) → orderG l r now s = none
  | [], _, _, ⟨i, hi, _⟩ => by cases hi
  | j :: r, now, s, ⟨i, hi, hn⟩ => by
    rw [orderG]
    split
    · rename_i hc
      rcases List.mem_cons.1 hi with rfl | hi
      · exact absurd (next_not hc).2 hn
      · exact order_none ⟨i, hi, hn⟩
    · rfl
theorem order_spec {l : List Craft} {set order : List Int} (h : asked l set = true) : orderAns l set order = ordA (orderS l order set 0) := by
  rw [orderAns, if_pos h, order_eq order 0 (asked_sorted h) (List.Perm.refl _)]
noncomputable def lic {α : Type} (e n : Nat) (f : α → List PV) (v : List α × Int × Bool) : PV := .tup [.fr e n (rows f v.1), .int .i64 v.2.1, .bool v.2.2]
noncomputable def licI {α : Type} (n : Nat) (f : α → List PV) (v : List α × Int × Bool) : PV := .tup [.isl n (rows f v.1), .int .i64 v.2.1, .bool v.2.2]
theorem flat_lic {α : Type} {e n : Nat} {f : α → List PV} (hf : ∀ x, ∀ c ∈ f x, flat c) {v : List α × Int × Bool} : ∀ r, r = lic e n f v → flatR r := fun r h => by
  subst h
  intro x hx
  simp only [List.mem_cons, List.not_mem_nil, or_false] at hx
  rcases hx with rfl | rfl | rfl
  · exact flat_rows hf v.1
  · trivial
  · trivial
theorem allIn_false {xs : List Int} {lo hi : Int} (h : allIn xs lo hi = false) : ∃ i ∈ xs, ¬ (lo ≤ i ∧ i ≤ hi) := by
  have h' : ¬ ∀ x ∈ xs, inB x lo hi = true := fun hh => by
    have : allIn xs lo hi = true := List.all_eq_true.2 hh
    rw [h] at this; cases this
  simp only [Classical.not_forall] at h'
  obtain ⟨x, hx, hn⟩ := h'
  exact ⟨x, hx, fun hb => hn (by simp [inB, hb.1, hb.2])⟩
theorem LearnInOrder_ok (l : List Craft) (set : List Int) (order : List Int) (hset : (set.length : Int) ≤ 1048576) (ho : (order.length : Int) ≤ 1048576) : OkA Try.prog 27 [.isl 2 (rows cCraft l), .isl 1 (rows cInt set), .isl 1 (rows cInt order)] (· = (lic 3 1 cInt) (orderAns l set order)) :=
  OkA.unnil 3 1 (fn_intro envOk fieldsOk mixed Try.func27 rfl fun κ X Y L Q m hQ => by
    conv => cbv
    refine r_callB m.sX (isApprentice_ok l set) (fun h1 => ?_) (fun h1 => ?_) <;> conv => cbv
    · have al := asked_le h1
      refine r_append0R m.sX (by first | omega | (dsimp only; omega)) (by first | omega | (dsimp only; omega)) fun now hnow => ?_
      conv => cbv
      have lnow : (now.length : Int) = set.length := by rw [hnow]; first | done | (simp; done) | (simp; omega)
      refine r_lenR m.sX fun n1 hn1 mn1 => ?_
      conv => cbv
      refine r_loopF (α := List Int × Int × Int) m 49 [0, 10, 21, 22, 23] [⟨9, 73, 3, 1, 0⟩] (fun σ => [(0, .isl 2 (rows cCraft l)), (9, .osl 73 0), (10, .int .i64 σ.2.1), (21, .isl 1 (rows cInt order)), (22, .int .i64 n1), (23, .int .i64 σ.2.2)]) (fun σ => [(73, 0, .row 3 1 (rows cInt σ.1))])
        (fun σ => (0 ≤ σ.2.2) ∧ (σ.2.2 ≤ n1) ∧ (orderG l order set 0 = orderG l (order.drop σ.2.2.toNat) σ.1 σ.2.1) ∧ ((σ.1.length : Int) ≤ set.length + σ.2.2) ∧ (0 ≤ σ.2.1 ∧ σ.2.1 ≤ 60 * σ.2.2)) (fun σ => (n1 - σ.2.2).toNat) (now, 0, 0) ?_ ?_ ?_ ?_
      · cbv
      · cbv
      · exact ⟨(by (try dsimp only); first | omega | (simp only [List.length_nil]; omega)), (by (try dsimp only); first | omega | (simp only [List.length_nil]; omega)), (by (try dsimp only) <;> ((rw [hnow]; rfl))), (by (try dsimp only) <;> ((rw [hnow]; simp))), (by (try dsimp only) <;> first | omega | rfl | (simp [*]; done))⟩
      rintro ⟨now_2, months, i1⟩ ⟨lo1, hi1, q, nl, sb⟩ E hE F hF
      dsimp only at lo1 hi1 q nl sb
      conv => cbv
      refine r_lss m.sX (fun h2 => ?_) (fun h2 => ?_) <;> conv => cbv
      · refine r_index m.sX (by omega) (by omega) fun i hi => ?_
        conv => cbv
        have mi := get_mem hi
        have di := drop_cons hi
        have ki := take_snoc hi
        have ji : (i1 + 1).toNat = Int.toNat i1 + 1 := by omega
        have vi := nth_some hi
        rw [di, orderG] at q
        refine .inl (r_callFO (fun l => PV.fr _ _ (rows _ l)) m.sX ((next_ok l now_2 (by first | rfl | assumption | omega | (simp only [List.length_append, List.length_cons, List.length_nil] at *; omega))).ok (flat_fr flat_cInt)) fun v1 hv1 => ?_)
        conv => cbv
        refine .inl (r_callBO m.sX ((hasNumber_ok v1 i).ok flat_bool) (fun h3 => ?_) (fun h3 => ?_)) <;> conv => cbv
        · rw [← hv1, if_pos h3] at q
          have ni : i ∉ now_2 ∧ 0 ≤ i ∧ i < l.length := next_not (by rw [← hv1]; exact h3)
          refine r_append1 (i) m.sX rfl (by first | omega | (dsimp only; omega)) (by first | omega | (dsimp only; omega)) fun now_3 hnow_3 => ?_
          conv => cbv
          have lnow_3 : (now_3.length : Int) = now_2.length + 1 := by rw [hnow_3]; first | done | (simp; done) | (simp; omega)
          refine r_index m.sX (by omega) (by omega) fun v hx1A => ?_
          obtain ⟨x1A, x1B⟩ := v
          conv => cbv
          have hx1 := hx1A
          have mx1 := get_mem hx1
          have gm := months_in h1 hx1
          try dsimp only at gm
          have m1 := monthsAt_some hx1
          try dsimp only at m1
          refine r_addf m.sX (by omega) (by omega) fun months_2 hmonths_2 => ?_
          conv => cbv
          refine r_addf m.sX (by omega) (by omega) fun r1 hr1 => ?_
          conv => cbv
          try have tr1 : Int.toNat r1 = Int.toNat i1 + 1 := by omega
          refine hE _ (now_3, months_2, r1) ?_ ?_ ⟨(by (try dsimp only); first | omega | (simp only [List.length_nil]; omega)), (by (try dsimp only); first | omega | (simp only [List.length_nil]; omega)), (by (try dsimp only) <;> (rw [q, tr1, hnow_3, hmonths_2, m1])), (by (try dsimp only) <;> (omega)), (by (try dsimp only) <;> (omega))⟩ (by first | omega | (dsimp only; omega))
          · cbv
          · cbv
        · rw [← hv1, if_neg (show ¬ (has v1 i = true) by rw [h3]; simp)] at q
          refine hF _ _ ?_
          conv => cbv
          exact hQ (.tup [.fr 3 1 [], .int .i64 0, .bool false]) (Eq.trans (by first | rfl | (simp only [lic, licI, lb, lbI, rows_cons, rows_nil, unnilT, unnil, unnilTI, unnilI]; done) | (simp only [lic, licI, lb, lbI, rows_cons, rows_nil, unnilT, unnil, unnilTI, unnilI]; rfl)) (congrArg ((lic 3 1 cInt)) (show ([], 0, false) = orderAns l set order from by first | (rw [orderAns, if_pos h1, q, dz_i1, orderG, hv2]; rfl) | (rw [orderAns, if_pos h1, q]; rfl) | (rw [orderAns, if_neg (show ¬ (asked l set = true) by rw [h1]; simp)]; done))))   -- leaf 1
      · have dz_i1 := drop_end (xs := order) (i := Int.toNat i1) (by omega)
        have tz_i1 := take_end (xs := order) (i := Int.toNat i1) (by omega)
        refine hF _ _ ?_
        conv => cbv
        refine .inl (r_callFO (fun l => PV.fr _ _ (rows _ l)) m.sX ((sorted0_ok now_2 (by omega)).ok (flat_fr flat_cInt)) fun v2 hv2 => ?_)
        conv => cbv
        try dsimp only at hv2
        exact hQ (.tup [.fr 3 1 (rows cInt v2), .int .i64 months, .bool true]) (Eq.trans (by first | rfl | (simp only [lic, licI, lb, lbI, rows_cons, rows_nil, unnilT, unnil, unnilTI, unnilI]; done) | (simp only [lic, licI, lb, lbI, rows_cons, rows_nil, unnilT, unnil, unnilTI, unnilI]; rfl)) (congrArg ((lic 3 1 cInt)) (show (v2, months, true) = orderAns l set order from by first | (rw [orderAns, if_pos h1, q, dz_i1, orderG, hv2]; rfl) | (rw [orderAns, if_pos h1, q]; rfl) | (rw [orderAns, if_neg (show ¬ (asked l set = true) by rw [h1]; simp)]; done))))   -- leaf 2
    · exact hQ (.tup [.fr 3 1 [], .int .i64 0, .bool false]) (Eq.trans (by first | rfl | (simp only [lic, licI, lb, lbI, rows_cons, rows_nil, unnilT, unnil, unnilTI, unnilI]; done) | (simp only [lic, licI, lb, lbI, rows_cons, rows_nil, unnilT, unnil, unnilTI, unnilI]; rfl)) (congrArg ((lic 3 1 cInt)) (show ([], 0, false) = orderAns l set order from by first | (rw [orderAns, if_pos h1, q, dz_i1, orderG, hv2]; rfl) | (rw [orderAns, if_pos h1, q]; rfl) | (rw [orderAns, if_neg (show ¬ (asked l set = true) by rw [h1]; simp)]; done)))))   -- leaf 3

theorem specLearnInOrder_ok (l : List Craft) (set : List Int) (order : List Int) (hset : (set.length : Int) ≤ 1048576) (ho : (order.length : Int) ≤ 1048576) : OkA Try.prog 26 [.isl 2 (rows cCraft l), .isl 1 (rows cInt set), .isl 1 (rows cInt order)] (· = (licI 1 cInt) (orderAns l set order)) :=
  OkA.iceI 1 (fn_intro envOk fieldsOk mixed Try.func26 rfl fun κ X Y L Q m hQ => by
    conv => cbv
    refine r_callB m.sX (apAsked_ok l set) (fun h1 => ?_) (fun h1 => ?_) <;> conv => cbv
    · have al := asked_le h1
      refine r_lenR m.sX fun n1 hn1 mn1 => ?_
      conv => cbv
      refine r_subf m.sX (by omega) (by omega) fun r1 hr1 => ?_
      conv => cbv
      refine r_callB m.sX (l1All_ok order 0 r1) (fun h2 => ?_) (fun h2 => ?_) <;> conv => cbv
      · have oa : ∀ z ∈ order, 0 ≤ z ∧ z ≤ r1 := fun z hz => inB_spec (List.all_eq_true.1 h2 z hz)
        refine r_callF (fun l => PV.isl _ (rows _ l)) m.sX (l1OwnI_ok set (by omega)) fun out hout => ?_
        conv => cbv
        refine r_lenR m.sX fun n2 hn2 mn2 => ?_
        conv => cbv
        refine r_loopF (α := List Int × Int × Int) m 52 [0, 9, 10, 27, 28, 29] [] (fun σ => [(0, .isl 2 (rows cCraft l)), (9, .isl 1 (rows cInt σ.1)), (10, .int .i64 σ.2.1), (27, .isl 1 (rows cInt order)), (28, .int .i64 n2), (29, .int .i64 σ.2.2)]) (fun σ => [])
          (fun σ => (0 ≤ σ.2.2) ∧ (σ.2.2 ≤ n2) ∧ (orderS l order set 0 = orderS l (order.drop σ.2.2.toNat) σ.1 σ.2.1) ∧ ((σ.1.length : Int) ≤ set.length + σ.2.2) ∧ (0 ≤ σ.2.1 ∧ σ.2.1 ≤ 60 * σ.2.2)) (fun σ => (n2 - σ.2.2).toNat) (out, 0, 0) ?_ ?_ ?_ ?_
        · cbv
        · cbv
        · exact ⟨(by (try dsimp only); first | omega | (simp only [List.length_nil]; omega)), (by (try dsimp only); first | omega | (simp only [List.length_nil]; omega)), (by (try dsimp only) <;> ((rw [hout]; rfl))), (by (try dsimp only) <;> ((rw [hout]; simp))), (by (try dsimp only) <;> first | omega | rfl | (simp [*]; done))⟩
        rintro ⟨out_2, sum, i1⟩ ⟨lo1, hi1, q, nl, sb⟩ E hE F hF
        dsimp only at lo1 hi1 q nl sb
        conv => cbv
        refine r_lss m.sX (fun h3 => ?_) (fun h3 => ?_) <;> conv => cbv
        · refine r_index m.sX (by omega) (by omega) fun i hi => ?_
          conv => cbv
          have mi := get_mem hi
          have di := drop_cons hi
          have ki := take_snoc hi
          have ji : (i1 + 1).toNat = Int.toNat i1 + 1 := by omega
          have vi := nth_some hi
          have io := oa i mi
          rw [di, orderS] at q
          refine r_callF (fun l => PV.fr _ _ (rows _ l)) m.sX (apNext_ok l out_2 (by first | rfl | assumption | omega | (simp only [List.length_append, List.length_cons, List.length_nil] at *; omega))) fun v1 hv1 => ?_
          conv => cbv
          refine .inl (r_callBO m.sX ((l1Has_ok v1 i).ok flat_bool) (fun h4 => ?_) (fun h4 => ?_)) <;> conv => cbv
          · rw [← hv1, if_pos h4] at q
            refine r_callF (fun l => PV.isl _ (rows _ l)) m.sX (l1Put_ok out_2 i (by omega)) fun out_3 hout_3 => ?_
            conv => cbv
            have pl := put_len out_2 i
            rw [← hout_3] at pl
            refine r_index m.sX (by omega) (by omega) fun v hx1A => ?_
            obtain ⟨x1A, x1B⟩ := v
            conv => cbv
            have hx1 := hx1A
            have mx1 := get_mem hx1
            have gm := months_in h1 hx1
            try dsimp only at gm
            have m1 := monthsAt_some hx1
            try dsimp only at m1
            refine r_addf m.sX (by omega) (by omega) fun sum_2 hsum_2 => ?_
            conv => cbv
            refine r_addf m.sX (by omega) (by omega) fun r2 hr2 => ?_
            conv => cbv
            try have tr2 : Int.toNat r2 = Int.toNat i1 + 1 := by omega
            refine hE _ (out_3, sum_2, r2) ?_ ?_ ⟨(by (try dsimp only); first | omega | (simp only [List.length_nil]; omega)), (by (try dsimp only); first | omega | (simp only [List.length_nil]; omega)), (by (try dsimp only) <;> (rw [q, tr2, hout_3, hsum_2, m1])), (by (try dsimp only) <;> (omega)), (by (try dsimp only) <;> (omega))⟩ (by first | omega | (dsimp only; omega))
            · cbv
            · cbv
          · rw [← hv1, if_neg (show ¬ (has v1 i = true) by rw [h4]; simp)] at q
            refine hF _ _ ?_
            conv => cbv
            exact hQ (.tup [.nil, .int .i64 0, .bool false]) (Eq.trans (by first | rfl | (simp only [lic, licI, lb, lbI, rows_cons, rows_nil, unnilT, unnil, unnilTI, unnilI]; done) | (simp only [lic, licI, lb, lbI, rows_cons, rows_nil, unnilT, unnil, unnilTI, unnilI]; rfl)) (congrArg ((licI 1 cInt)) (show ([], 0, false) = orderAns l set order from by first | (rw [order_spec h1, q, dz_i1]; rfl) | (rw [order_spec h1, q]; rfl) | (rw [orderAns, if_pos h1, order_none on]; rfl) | (rw [orderAns, if_neg (show ¬ (asked l set = true) by rw [h1]; simp)]; done))))   -- leaf 1
        · have dz_i1 := drop_end (xs := order) (i := Int.toNat i1) (by omega)
          have tz_i1 := take_end (xs := order) (i := Int.toNat i1) (by omega)
          refine hF _ _ ?_
          conv => cbv
          exact hQ (.tup [.isl 1 (rows cInt out_2), .int .i64 sum, .bool true]) (Eq.trans (by first | rfl | (simp only [lic, licI, lb, lbI, rows_cons, rows_nil, unnilT, unnil, unnilTI, unnilI]; done) | (simp only [lic, licI, lb, lbI, rows_cons, rows_nil, unnilT, unnil, unnilTI, unnilI]; rfl)) (congrArg ((licI 1 cInt)) (show (out_2, sum, true) = orderAns l set order from by first | (rw [order_spec h1, q, dz_i1]; rfl) | (rw [order_spec h1, q]; rfl) | (rw [orderAns, if_pos h1, order_none on]; rfl) | (rw [orderAns, if_neg (show ¬ (asked l set = true) by rw [h1]; simp)]; done))))   -- leaf 2
      · have on : ∃ i ∈ order, ¬ (0 ≤ i ∧ i < (l.length : Int)) := (by obtain ⟨z, hz, hb⟩ := allIn_false h2; exact ⟨z, hz, by omega⟩)
        exact hQ (.tup [.nil, .int .i64 0, .bool false]) (Eq.trans (by first | rfl | (simp only [lic, licI, lb, lbI, rows_cons, rows_nil, unnilT, unnil, unnilTI, unnilI]; done) | (simp only [lic, licI, lb, lbI, rows_cons, rows_nil, unnilT, unnil, unnilTI, unnilI]; rfl)) (congrArg ((licI 1 cInt)) (show ([], 0, false) = orderAns l set order from by first | (rw [order_spec h1, q, dz_i1]; rfl) | (rw [order_spec h1, q]; rfl) | (rw [orderAns, if_pos h1, order_none on]; rfl) | (rw [orderAns, if_neg (show ¬ (asked l set = true) by rw [h1]; simp)]; done))))   -- leaf 3
    · exact hQ (.tup [.nil, .int .i64 0, .bool false]) (Eq.trans (by first | rfl | (simp only [lic, licI, lb, lbI, rows_cons, rows_nil, unnilT, unnil, unnilTI, unnilI]; done) | (simp only [lic, licI, lb, lbI, rows_cons, rows_nil, unnilT, unnil, unnilTI, unnilI]; rfl)) (congrArg ((licI 1 cInt)) (show ([], 0, false) = orderAns l set order from by first | (rw [order_spec h1, q, dz_i1]; rfl) | (rw [order_spec h1, q]; rfl) | (rw [orderAns, if_pos h1, order_none on]; rfl) | (rw [orderAns, if_neg (show ¬ (asked l set = true) by rw [h1]; simp)]; done)))))   -- leaf 4

theorem orderG_len {l : List Craft} : ∀ {r now : List Int} {s : Int} {p : List Int × Int}, orderG l r now s = some p → p.1.length = now.length + r.length
  | [], now, s, p, h => by rw [orderG] at h; obtain rfl := Option.some.inj h; simp
  | i :: r, now, s, p, h => by
    rw [orderG] at h
    split at h
    · have := orderG_len h
      simp only [List.length_append, List.length_cons, List.length_nil] at this ⊢
      omega
    · cases h
theorem orderAns_len (l : List Craft) (set order : List Int) (h1 : (set.length : Int) ≤ 1048576) (h2 : (order.length : Int) ≤ 1048576) : (orderAns l set order).1.length ≤ 1000000000 := by
  unfold orderAns
  split
  · cases hq : orderG l order set 0 with
    | none => simp [ordA]
    | some p =>
      have := orderG_len hq
      show (sortI p.1).length ≤ 1000000000
      rw [sortI_len]
      omega
  · simp
end Go.Proofs.Ytnamefdhmlbcpaa.Ai
