/- Contracts behind the exact law on the next crafts. -/
import Derived.Test.YtnamefdhmlbcpaaNew
import Derived.Test.YtnamefdhmlbcpaaCommonC
import Derived.Test.YtnamefdhmlbcpaaWage
namespace Go.Proofs.Ytnamefdhmlbcpaa.Ai
open Go Go.Proofs
set_option maxRecDepth 10000
set_option maxHeartbeats 4000000
set_option linter.unusedVariables false

def heldF : List Int → Int → Int
  | [], k => k
  | x :: r, k => if x = k then heldF r (k + 1) else -1
theorem heldF_up (n : Nat) (k : Int) : heldF (upM k n) k = k + n := by
  induction n generalizing k with
  | zero => simp [upM, heldF]
  | succ n ih =>
    have e : upM k (n + 1) = k :: upM (k + 1) n := by
      unfold upM
      rw [List.range_succ_eq_map, List.map_cons, List.map_map]
      simp only [Int.natCast_zero, Int.add_zero, List.cons.injEq, true_and]
      refine List.map_congr_left fun j _ => ?_
      simp only [Function.comp, Nat.succ_eq_add_one, Int.natCast_add, Int.natCast_one]
      omega
    rw [e, heldF, if_pos rfl, ih]
    omega
theorem heldIntS_ok (a : List Int) (k : Int) (h0 : 0 ≤ k ∧ k ≤ 1000000000) (hl : a.length ≤ 1000000000) : OkA Try.prog 21 [.isl 1 (rows cInt a), .int .i64 k] (· = .int .i64 (heldF a k)) :=
  fn_intro envOk fieldsOk mixed Try.func21 rfl fun κ X Y L Q m hQ => by
    conv => cbv
    refine r_loopF (α := Int × Int) m 21 [0, 1, 5] [] (fun σ => [(0, .isl 1 (rows cInt a)), (1, .int .i64 σ.1), (5, .int .i64 σ.2)]) (fun σ => [])
      (fun σ => (σ.1 = k + σ.2) ∧ (0 ≤ σ.2 ∧ σ.2 ≤ a.length) ∧ (heldF a k = heldF (a.drop σ.2.toNat) σ.1)) (fun σ => (a.length - σ.2).toNat) (k, 0) ?_ ?_ ?_ ?_
    · cbv
    · cbv
    · exact ⟨(by (try dsimp only) <;> (omega)), (by (try dsimp only) <;> (omega)), (by (try dsimp only) <;> (rfl))⟩
    rintro ⟨k_2, i⟩ ⟨kb, ib, q⟩ E hE F hF
    dsimp only at kb ib q
    conv => cbv
    refine r_lenR m.sX fun n1 hn1 mn1 => ?_
    conv => cbv
    refine r_lss m.sX (fun h1 => ?_) (fun h1 => ?_) <;> conv => cbv
    · refine r_index m.sX (by omega) (by omega) fun x1 hx1 => ?_
      conv => cbv
      have mx1 := get_mem hx1
      have vx1 := nth_some hx1
      have dc : heldF (a.drop i.toNat) k_2 = (if x1 = k_2 then heldF (a.drop (i.toNat + 1)) (k_2 + 1) else -1) := (by rw [List.drop_eq_getElem_cons (List.getElem?_eq_some_iff.1 hx1).1, heldF, (List.getElem?_eq_some_iff.1 hx1).2])
      refine r_neq m.sX (fun h2 => ?_) (fun h2 => ?_) <;> conv => cbv
      · refine hF _ _ ?_
        conv => cbv
        exact hQ (.int .i64 (-1)) (Eq.trans (by first | rfl | (simp only [lb, lbI, rows_cons, rows_nil, unnilT, unnil, unnilTI, unnilI]; done) | (simp only [lb, lbI, rows_cons, rows_nil, unnilT, unnil, unnilTI, unnilI]; rfl)) (congrArg (PV.int .i64) (show -1 = heldF a k from by first | (rw [q, dc, if_neg (by omega)]; done) | (rw [q, List.drop_eq_nil_of_le (show a.length ≤ i.toNat by omega)]; rfl))))   -- leaf 1
      · refine r_addf m.sX (by omega) (by omega) fun k_3 hk_3 => ?_
        conv => cbv
        refine r_addf m.sX (by omega) (by omega) fun i_2 hi_2 => ?_
        conv => cbv
        refine hE _ (k_3, i_2) ?_ ?_ ⟨(by (try dsimp only) <;> (omega)), (by (try dsimp only) <;> (omega)), (by (try dsimp only) <;> (rw [q, dc, if_pos (by omega), hk_3, show i_2.toNat = i.toNat + 1 by omega]))⟩ (by first | omega | (dsimp only; omega))
        · cbv
        · cbv
    · refine hF _ _ ?_
      conv => cbv
      exact hQ (.int .i64 k_2) (Eq.trans (by first | rfl | (simp only [lb, lbI, rows_cons, rows_nil, unnilT, unnil, unnilTI, unnilI]; done) | (simp only [lb, lbI, rows_cons, rows_nil, unnilT, unnil, unnilTI, unnilI]; rfl)) (congrArg (PV.int .i64) (show k_2 = heldF a k from by first | (rw [q, dc, if_neg (by omega)]; done) | (rw [q, List.drop_eq_nil_of_le (show a.length ≤ i.toNat by omega)]; rfl))))   -- leaf 2


theorem asked_le {l : List Craft} {set : List Int} (h : asked l set = true) : l.length ≤ 10 := by
  simp only [asked, good, Bool.and_eq_true, decide_eq_true_eq] at h
  omega
def nextT (l : List Craft) (set : List Int) (n : Nat) : List Int := ((List.range n).map fun (j : Nat) => (j : Int)).filter fun i => !has set i && ready l set i
def nextF (l : List Craft) (set : List Int) : List Int := nextT l set l.length
theorem nextT_succ (l : List Craft) (set : List Int) (n : Nat) : nextT l set (n + 1) = nextT l set n ++ (if (!has set (n : Int) && ready l set (n : Int)) = true then [(n : Int)] else []) := by
  unfold nextT
  rw [List.range_succ, List.map_append, List.filter_append]
  congr 1
  simp only [List.map_cons, List.map_nil, List.filter_cons, List.filter_nil]
theorem nextT_at (l : List Craft) (set : List Int) {i : Int} (h : 0 ≤ i) : nextT l set (i.toNat + 1) = nextT l set i.toNat ++ (if (!has set i && ready l set i) = true then [i] else []) := by
  have := nextT_succ l set i.toNat
  rwa [Int.toNat_of_nonneg h] at this
theorem nextT_len (l : List Craft) (set : List Int) (n : Nat) : (nextT l set n).length ≤ n := by
  unfold nextT
  refine Nat.le_trans (List.length_filter_le _ _) ?_
  simp
def nextAns (l : List Craft) (set : List Int) : List Int × Bool := if asked l set then (nextF l set, true) else ([], false)
theorem nextAns_len (l : List Craft) (set : List Int) : (nextAns l set).1.length ≤ 10 := by
  unfold nextAns
  split
  · rename_i h
    exact Nat.le_trans (nextT_len _ _ _) (asked_le h)
  · simp
theorem apNext_ok (l : List Craft) (set : List Int) (hl : l.length ≤ 1048576) : OkA Try.prog 61 [.isl 2 (rows cCraft l), .isl 1 (rows cInt set)] (· = .fr 3 1 (rows cInt (nextF l set))) :=
  OkA.unnil 3 1 (fn_intro envOk fieldsOk mixed Try.func61 rfl fun κ X Y L Q m hQ => by
    conv => cbv
    refine r_lenR m.sX fun n1 hn1 mn1 => ?_
    conv => cbv
    refine r_loopF (α := List Int × Int) m 28 [0, 1, 8, 9] [⟨5, 41, 3, 1, 0⟩] (fun σ => [(0, .isl 2 (rows cCraft l)), (1, .isl 1 (rows cInt set)), (5, .osl 41 0), (8, .int .i64 n1), (9, .int .i64 σ.2)]) (fun σ => [(41, 0, .row 3 1 (rows cInt σ.1))])
      (fun σ => (0 ≤ σ.2) ∧ (σ.2 ≤ n1) ∧ (σ.1 = nextT l set σ.2.toNat) ∧ ((σ.1.length : Int) ≤ σ.2)) (fun σ => (n1 - σ.2).toNat) ([], 0) ?_ ?_ ?_ ?_
    · cbv
    · (try dsimp only); simp only [rows_cons, rows_nil]; cbv
    · exact ⟨(by (try dsimp only); first | omega | (simp only [List.length_nil]; omega)), (by (try dsimp only); first | omega | (simp only [List.length_nil]; omega)), (by (try dsimp only) <;> (rfl)), (by (try dsimp only) <;> first | omega | rfl | (simp [*]; done))⟩
    rintro ⟨out, i1⟩ ⟨lo1, hi1, q, ol⟩ E hE F hF
    dsimp only at lo1 hi1 q ol
    conv => cbv
    refine r_lss m.sX (fun h1 => ?_) (fun h1 => ?_) <;> conv => cbv
    · have ns := nextT_at l set (i := i1) (by omega)
      refine r_callB m.sX (l1Has_ok set i1) (fun h2 => ?_) (fun h2 => ?_) <;> conv => cbv
      · refine r_addf m.sX (by omega) (by omega) fun r1 hr1 => ?_
        conv => cbv
        try have tr1 : Int.toNat r1 = Int.toNat i1 + 1 := by omega
        refine hE _ (out, r1) ?_ ?_ ⟨(by (try dsimp only); first | omega | (simp only [List.length_nil]; omega)), (by (try dsimp only); first | omega | (simp only [List.length_nil]; omega)), (by (try dsimp only) <;> (rw [tr1, ns]; first | (rw [h2]; simpa using q) | (rw [hout_2, q, h2, h3]; rfl) | (rw [h2, h3]; simpa using q))), (by (try dsimp only) <;> first | omega | rfl | (simp [*]; done) | (rw [ol]; simp [*]; done))⟩ (by first | omega | (dsimp only; omega))
        · cbv
        · cbv
      · refine r_callB m.sX (apReady_ok l set i1 (by omega) (by omega)) (fun h3 => ?_) (fun h3 => ?_) <;> conv => cbv
        · refine r_append1 (i1) m.sX rfl (by first | omega | (dsimp only; omega)) (by first | omega | (dsimp only; omega)) fun out_2 hout_2 => ?_
          conv => cbv
          have lout_2 : (out_2.length : Int) = out.length + 1 := by rw [hout_2]; first | done | (simp; done) | (simp; omega)
          refine r_addf m.sX (by omega) (by omega) fun r2 hr2 => ?_
          conv => cbv
          try have tr2 : Int.toNat r2 = Int.toNat i1 + 1 := by omega
          refine hE _ (out_2, r2) ?_ ?_ ⟨(by (try dsimp only); first | omega | (simp only [List.length_nil]; omega)), (by (try dsimp only); first | omega | (simp only [List.length_nil]; omega)), (by (try dsimp only) <;> (rw [tr2, ns]; first | (rw [h2]; simpa using q) | (rw [hout_2, q, h2, h3]; rfl) | (rw [h2, h3]; simpa using q))), (by (try dsimp only) <;> first | omega | rfl | (simp [*]; done) | (rw [ol]; simp [*]; done))⟩ (by first | omega | (dsimp only; omega))
          · cbv
          · cbv
        · refine r_addf m.sX (by omega) (by omega) fun r3 hr3 => ?_
          conv => cbv
          try have tr3 : Int.toNat r3 = Int.toNat i1 + 1 := by omega
          refine hE _ (out, r3) ?_ ?_ ⟨(by (try dsimp only); first | omega | (simp only [List.length_nil]; omega)), (by (try dsimp only); first | omega | (simp only [List.length_nil]; omega)), (by (try dsimp only) <;> (rw [tr3, ns]; first | (rw [h2]; simpa using q) | (rw [hout_2, q, h2, h3]; rfl) | (rw [h2, h3]; simpa using q))), (by (try dsimp only) <;> first | omega | rfl | (simp [*]; done) | (rw [ol]; simp [*]; done))⟩ (by first | omega | (dsimp only; omega))
          · cbv
          · cbv
    · have dz_i1 := drop_end (xs := l) (i := Int.toNat i1) (by omega)
      have tz_i1 := take_end (xs := l) (i := Int.toNat i1) (by omega)
      refine hF _ _ ?_
      conv => cbv
      exact hQ (.fr 3 1 (rows cInt out)) (Eq.trans (by first | rfl | (simp only [lb, lbI, rows_cons, rows_nil, unnilT, unnil, unnilTI, unnilI]; done) | (simp only [lb, lbI, rows_cons, rows_nil, unnilT, unnil, unnilTI, unnilI]; rfl)) (congrArg (fun l => PV.fr 3 1 (rows cInt l)) (show out = nextF l set from by rw [q, show i1.toNat = l.length by omega]; rfl))))   -- leaf 1

theorem next_ok (l : List Craft) (set : List Int) (hl : l.length ≤ 1048576) : OkA Try.prog 64 [.isl 2 (rows cCraft l), .isl 1 (rows cInt set)] (· = .fr 3 1 (rows cInt (nextF l set))) :=
  OkA.unnil 3 1 (fn_intro envOk fieldsOk mixed Try.func64 rfl fun κ X Y L Q m hQ => by
    conv => cbv
    refine r_lenR m.sX fun n1 hn1 mn1 => ?_
    conv => cbv
    refine r_loopF (α := List Int × Int) m 32 [1, 9, 10, 11] [⟨5, 41, 3, 1, 0⟩] (fun σ => [(1, .isl 1 (rows cInt set)), (5, .osl 41 0), (9, .isl 2 (rows cCraft l)), (10, .int .i64 n1), (11, .int .i64 σ.2)]) (fun σ => [(41, 0, .row 3 1 (rows cInt σ.1))])
      (fun σ => (0 ≤ σ.2) ∧ (σ.2 ≤ n1) ∧ (σ.1 = nextT l set σ.2.toNat) ∧ ((σ.1.length : Int) ≤ σ.2)) (fun σ => (n1 - σ.2).toNat) ([], 0) ?_ ?_ ?_ ?_
    · cbv
    · (try dsimp only); simp only [rows_cons, rows_nil]; cbv
    · exact ⟨(by (try dsimp only); first | omega | (simp only [List.length_nil]; omega)), (by (try dsimp only); first | omega | (simp only [List.length_nil]; omega)), (by (try dsimp only) <;> (rfl)), (by (try dsimp only) <;> first | omega | rfl | (simp [*]; done))⟩
    rintro ⟨list, i1⟩ ⟨lo1, hi1, q, ol⟩ E hE F hF
    dsimp only at lo1 hi1 q ol
    conv => cbv
    refine r_lss m.sX (fun h1 => ?_) (fun h1 => ?_) <;> conv => cbv
    · refine r_index m.sX (by omega) (by omega) fun v hcA => ?_
      obtain ⟨cA, cB⟩ := v
      conv => cbv
      have hc := hcA
      have mc := get_mem hc
      have dc := drop_cons hc
      have kc := take_snoc hc
      have jc : (i1 + 1).toNat = Int.toNat i1 + 1 := by omega
      have ns := nextT_at l set (i := i1) (by omega)
      try dsimp only at ns
      have rc : ready l set i1 = hasAll set cA := (by rw [ready, hcA])
      rw [rc] at ns
      refine r_callB m.sX (hasNumber_ok set i1) (fun h2 => ?_) (fun h2 => ?_) <;> conv => cbv
      · refine r_addf m.sX (by omega) (by omega) fun r1 hr1 => ?_
        conv => cbv
        try have tr1 : Int.toNat r1 = Int.toNat i1 + 1 := by omega
        refine hE _ (list, r1) ?_ ?_ ⟨(by (try dsimp only); first | omega | (simp only [List.length_nil]; omega)), (by (try dsimp only); first | omega | (simp only [List.length_nil]; omega)), (by (try dsimp only) <;> (rw [tr1, ns]; first | (rw [h2]; simpa using q) | (rw [hlist_2, q, h2, h3]; rfl) | (rw [h2, h3]; simpa using q))), (by (try dsimp only) <;> first | omega | rfl | (simp [*]; done) | (rw [ol]; simp [*]; done))⟩ (by first | omega | (dsimp only; omega))
        · cbv
        · cbv
      · refine r_callB m.sX (hasAll_ok set cA) (fun h3 => ?_) (fun h3 => ?_) <;> conv => cbv
        · refine r_append1 (i1) m.sX rfl (by first | omega | (dsimp only; omega)) (by first | omega | (dsimp only; omega)) fun list_2 hlist_2 => ?_
          conv => cbv
          have llist_2 : (list_2.length : Int) = list.length + 1 := by rw [hlist_2]; first | done | (simp; done) | (simp; omega)
          refine r_addf m.sX (by omega) (by omega) fun r2 hr2 => ?_
          conv => cbv
          try have tr2 : Int.toNat r2 = Int.toNat i1 + 1 := by omega
          refine hE _ (list_2, r2) ?_ ?_ ⟨(by (try dsimp only); first | omega | (simp only [List.length_nil]; omega)), (by (try dsimp only); first | omega | (simp only [List.length_nil]; omega)), (by (try dsimp only) <;> (rw [tr2, ns]; first | (rw [h2]; simpa using q) | (rw [hlist_2, q, h2, h3]; rfl) | (rw [h2, h3]; simpa using q))), (by (try dsimp only) <;> first | omega | rfl | (simp [*]; done) | (rw [ol]; simp [*]; done))⟩ (by first | omega | (dsimp only; omega))
          · cbv
          · cbv
        · refine r_addf m.sX (by omega) (by omega) fun r3 hr3 => ?_
          conv => cbv
          try have tr3 : Int.toNat r3 = Int.toNat i1 + 1 := by omega
          refine hE _ (list, r3) ?_ ?_ ⟨(by (try dsimp only); first | omega | (simp only [List.length_nil]; omega)), (by (try dsimp only); first | omega | (simp only [List.length_nil]; omega)), (by (try dsimp only) <;> (rw [tr3, ns]; first | (rw [h2]; simpa using q) | (rw [hlist_2, q, h2, h3]; rfl) | (rw [h2, h3]; simpa using q))), (by (try dsimp only) <;> first | omega | rfl | (simp [*]; done) | (rw [ol]; simp [*]; done))⟩ (by first | omega | (dsimp only; omega))
          · cbv
          · cbv
    · have dz_i1 := drop_end (xs := l) (i := Int.toNat i1) (by omega)
      have tz_i1 := take_end (xs := l) (i := Int.toNat i1) (by omega)
      refine hF _ _ ?_
      conv => cbv
      exact hQ (.fr 3 1 (rows cInt list)) (Eq.trans (by first | rfl | (simp only [lb, lbI, rows_cons, rows_nil, unnilT, unnil, unnilTI, unnilI]; done) | (simp only [lb, lbI, rows_cons, rows_nil, unnilT, unnil, unnilTI, unnilI]; rfl)) (congrArg (fun l => PV.fr 3 1 (rows cInt l)) (show list = nextF l set from by rw [q, show i1.toNat = l.length by omega]; rfl))))   -- leaf 1

theorem specNextCrafts_ok (l : List Craft) (set : List Int)  : OkA Try.prog 35 [.isl 2 (rows cCraft l), .isl 1 (rows cInt set)] (· = (lb 3 1 cInt) (nextAns l set)) :=
  OkA.unnil 3 1 (fn_intro envOk fieldsOk mixed Try.func35 rfl fun κ X Y L Q m hQ => by
    conv => cbv
    refine r_callB m.sX (apAsked_ok l set) (fun h1 => ?_) (fun h1 => ?_) <;> conv => cbv
    · have al := asked_le h1
      refine r_callF (fun l => PV.fr _ _ (rows _ l)) m.sX (apNext_ok l set (by first | rfl | assumption | omega | (simp only [List.length_append, List.length_cons, List.length_nil] at *; omega))) fun v1 hv1 => ?_
      conv => cbv
      exact hQ (.tup [.fr 3 1 (rows cInt v1), .bool true]) (Eq.trans (by first | rfl | (simp only [lb, lbI, rows_cons, rows_nil, unnilT, unnil, unnilTI, unnilI]; done) | (simp only [lb, lbI, rows_cons, rows_nil, unnilT, unnil, unnilTI, unnilI]; rfl)) (congrArg ((lb 3 1 cInt)) (show (v1, true) = nextAns l set from by first | (rw [nextAns, if_pos h1, hv1]; done) | (rw [nextAns, if_neg (by rw [h1]; simp)]; done))))   -- leaf 1
    · exact hQ (.tup [.nil, .bool false]) (Eq.trans (by first | rfl | (simp only [lb, lbI, rows_cons, rows_nil, unnilT, unnil, unnilTI, unnilI]; done) | (simp only [lb, lbI, rows_cons, rows_nil, unnilT, unnil, unnilTI, unnilI]; rfl)) (congrArg ((lb 3 1 cInt)) (show ([], false) = nextAns l set from by first | (rw [nextAns, if_pos h1, hv1]; done) | (rw [nextAns, if_neg (by rw [h1]; simp)]; done)))))   -- leaf 2

theorem NextCrafts_ok (l : List Craft) (set : List Int)  : OkA Try.prog 34 [.isl 2 (rows cCraft l), .isl 1 (rows cInt set)] (· = (lb 3 1 cInt) (nextAns l set)) :=
  OkA.unnil 3 1 (fn_intro envOk fieldsOk mixed Try.func34 rfl fun κ X Y L Q m hQ => by
    conv => cbv
    refine r_callB m.sX (isApprentice_ok l set) (fun h1 => ?_) (fun h1 => ?_) <;> conv => cbv
    · have al := asked_le h1
      refine r_callF (fun l => PV.fr _ _ (rows _ l)) m.sX (next_ok l set (by first | rfl | assumption | omega | (simp only [List.length_append, List.length_cons, List.length_nil] at *; omega))) fun v1 hv1 => ?_
      conv => cbv
      exact hQ (.tup [.fr 3 1 (rows cInt v1), .bool true]) (Eq.trans (by first | rfl | (simp only [lb, lbI, rows_cons, rows_nil, unnilT, unnil, unnilTI, unnilI]; done) | (simp only [lb, lbI, rows_cons, rows_nil, unnilT, unnil, unnilTI, unnilI]; rfl)) (congrArg ((lb 3 1 cInt)) (show (v1, true) = nextAns l set from by first | (rw [nextAns, if_pos h1, hv1]; done) | (rw [nextAns, if_neg (by rw [h1]; simp)]; done))))   -- leaf 1
    · exact hQ (.tup [.fr 3 1 [], .bool false]) (Eq.trans (by first | rfl | (simp only [lb, lbI, rows_cons, rows_nil, unnilT, unnil, unnilTI, unnilI]; done) | (simp only [lb, lbI, rows_cons, rows_nil, unnilT, unnil, unnilTI, unnilI]; rfl)) (congrArg ((lb 3 1 cInt)) (show ([], false) = nextAns l set from by first | (rw [nextAns, if_pos h1, hv1]; done) | (rw [nextAns, if_neg (by rw [h1]; simp)]; done)))))   -- leaf 2

theorem heldUp_ok (n : Nat) (hn : n ≤ 1000000000) : OkA Try.prog 21 [.isl 1 (rows cInt (upM 1 n)), .int .i64 1] (· = .int .i64 (1 + n)) := by
  have := heldIntS_ok (upM 1 n) 1 (by omega) (by rw [upF_len]; exact hn)
  rwa [heldF_up] at this
theorem heldZ_ok (zs : List Int) (n : Nat) (hz : zs = upM 1 n) (hn : n ≤ 1000000000) : OkA Try.prog 21 [.isl 1 (rows cInt zs), .int .i64 1] (· = .int .i64 (1 + n)) := by
  rw [hz]; exact heldUp_ok n hn
end Go.Proofs.Ytnamefdhmlbcpaa.Ai
