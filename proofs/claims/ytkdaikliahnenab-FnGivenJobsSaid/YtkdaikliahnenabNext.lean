/- Contracts behind the exact law on the next crafts. -/
import Derived.Test.YtkdaikliahnenabNew
import Derived.Test.YtkdaikliahnenabCommonC
import Derived.Test.YtkdaikliahnenabWage
namespace Go.Proofs.Ytkdaikliahnenab.Ai
open Go Go.Proofs
set_option maxRecDepth 10000
set_option maxHeartbeats 4000000
set_option linter.unusedVariables false

def heldF : List Int → Int → Int
  | [], k => k
  | x :: r, k => if x = k then heldF r (k + 1) else -1
theorem heldF_up (n : Nat) (k : Int) : heldF (upM k n) k = k + n := by
  induction n generalizing k with
  | zero => simp [upM, heldF]
  | succ n ih =>
    have e : upM k (n + 1) = k :: upM (k + 1) n := by
      unfold upM
      rw [List.range_succ_eq_map, List.map_cons, List.map_map]
      simp only [Int.natCast_zero, Int.add_zero, List.cons.injEq, true_and]
      refine List.map_congr_left fun j _ => ?_
      simp only [Function.comp, Nat.succ_eq_add_one, Int.natCast_add, Int.natCast_one]
      omega
    rw [e, heldF, if_pos rfl, ih]
    omega
theorem asked_le {l : List Craft} {set : List Int} (h : asked l set = true) : l.length ≤ 10 := by
  simp only [asked, good, Bool.and_eq_true, decide_eq_true_eq] at h
  omega
def nextT (l : List Craft) (set : List Int) (n : Nat) : List Int := ((List.range n).map fun (j : Nat) => (j : Int)).filter fun i => !has set i && ready l set i
def nextF (l : List Craft) (set : List Int) : List Int := nextT l set l.length
theorem nextT_succ (l : List Craft) (set : List Int) (n : Nat) : nextT l set (n + 1) = nextT l set n ++ (if (!has set (n : Int) && ready l set (n : Int)) = true then [(n : Int)] else []) := by
  unfold nextT
  rw [List.range_succ, List.map_append, List.filter_append]
  congr 1
  simp only [List.map_cons, List.map_nil, List.filter_cons, List.filter_nil]
theorem nextT_at (l : List Craft) (set : List Int) {i : Int} (h : 0 ≤ i) : nextT l set (i.toNat + 1) = nextT l set i.toNat ++ (if (!has set i && ready l set i) = true then [i] else []) := by
  have := nextT_succ l set i.toNat
  rwa [Int.toNat_of_nonneg h] at this
theorem nextT_len (l : List Craft) (set : List Int) (n : Nat) : (nextT l set n).length ≤ n := by
  unfold nextT
  refine Nat.le_trans (List.length_filter_le _ _) ?_
  simp
def nextAns (l : List Craft) (set : List Int) : List Int × Bool := if asked l set then (nextF l set, true) else ([], false)
theorem nextAns_len (l : List Craft) (set : List Int) : (nextAns l set).1.length ≤ 10 := by
  unfold nextAns
  split
  · rename_i h
    exact Nat.le_trans (nextT_len _ _ _) (asked_le h)
  · simp
theorem apNext_ok (l : List Craft) (set : List Int) (hl : l.length ≤ 1048576) : OkA Try.prog 153 [.isl 2 (rows cCraft l), .isl 1 (rows cInt set)] (· = .fr 3 1 (rows cInt (nextF l set))) :=
  OkA.unnil 3 1 (fn_intro envOk fieldsOk mixed Try.func153 rfl fun κ X Y L Q m hQ => by
    conv => cbv
    refine r_lenR m.sX fun n1 hn1 mn1 => ?_
    conv => cbv
    refine r_loopF (α := List Int × Int) m 28 [0, 1, 8, 9] [⟨5, 41, 3, 1, 0⟩] (fun σ => [(0, .isl 2 (rows cCraft l)), (1, .isl 1 (rows cInt set)), (5, .osl 41 0), (8, .int .i64 n1), (9, .int .i64 σ.2)]) (fun σ => [(41, 0, .row 3 1 (rows cInt σ.1))])
      (fun σ => (0 ≤ σ.2) ∧ (σ.2 ≤ n1) ∧ (σ.1 = nextT l set σ.2.toNat) ∧ ((σ.1.length : Int) ≤ σ.2)) (fun σ => (n1 - σ.2).toNat) ([], 0) ?_ ?_ ?_ ?_
    · cbv
    · (try dsimp only); simp only [rows_cons, rows_nil]; cbv
    · exact ⟨(by (try dsimp only); first | omega | (simp only [List.length_nil]; omega)), (by (try dsimp only); first | omega | (simp only [List.length_nil]; omega)), (by (try dsimp only) <;> (rfl)), (by (try dsimp only) <;> first | omega | rfl | (simp [*]; done))⟩
    rintro ⟨out, i1⟩ ⟨lo1, hi1, q, ol⟩ E hE F hF
    dsimp only at lo1 hi1 q ol
    conv => cbv
    refine r_lss m.sX (fun h1 => ?_) (fun h1 => ?_) <;> conv => cbv
    · have ns := nextT_at l set (i := i1) (by omega)
      refine r_callB m.sX (l1Has_ok set i1) (fun h2 => ?_) (fun h2 => ?_) <;> conv => cbv
      · refine r_addf m.sX (by omega) (by omega) fun r1 hr1 => ?_
        conv => cbv
        try have tr1 : Int.toNat r1 = Int.toNat i1 + 1 := by omega
        refine hE _ (out, r1) ?_ ?_ ⟨(by (try dsimp only); first | omega | (simp only [List.length_nil]; omega)), (by (try dsimp only); first | omega | (simp only [List.length_nil]; omega)), (by (try dsimp only) <;> (rw [tr1, ns]; first | (rw [h2]; simpa using q) | (rw [hout_2, q, h2, h3]; rfl) | (rw [h2, h3]; simpa using q))), (by (try dsimp only) <;> first | omega | rfl | (simp [*]; done) | (rw [ol]; simp [*]; done))⟩ (by first | omega | (dsimp only; omega))
        · cbv
        · cbv
      · refine r_callB m.sX (apReady_ok l set i1 (by omega) (by omega)) (fun h3 => ?_) (fun h3 => ?_) <;> conv => cbv
        · refine r_append1 (i1) m.sX rfl (by first | omega | (dsimp only; omega)) (by first | omega | (dsimp only; omega)) fun out_2 hout_2 => ?_
          conv => cbv
          have lout_2 : (out_2.length : Int) = out.length + 1 := by rw [hout_2]; first | done | (simp; done) | (simp; omega)
          refine r_addf m.sX (by omega) (by omega) fun r2 hr2 => ?_
          conv => cbv
          try have tr2 : Int.toNat r2 = Int.toNat i1 + 1 := by omega
          refine hE _ (out_2, r2) ?_ ?_ ⟨(by (try dsimp only); first | omega | (simp only [List.length_nil]; omega)), (by (try dsimp only); first | omega | (simp only [List.length_nil]; omega)), (by (try dsimp only) <;> (rw [tr2, ns]; first | (rw [h2]; simpa using q) | (rw [hout_2, q, h2, h3]; rfl) | (rw [h2, h3]; simpa using q))), (by (try dsimp only) <;> first | omega | rfl | (simp [*]; done) | (rw [ol]; simp [*]; done))⟩ (by first | omega | (dsimp only; omega))
          · cbv
          · cbv
        · refine r_addf m.sX (by omega) (by omega) fun r3 hr3 => ?_
          conv => cbv
          try have tr3 : Int.toNat r3 = Int.toNat i1 + 1 := by omega
          refine hE _ (out, r3) ?_ ?_ ⟨(by (try dsimp only); first | omega | (simp only [List.length_nil]; omega)), (by (try dsimp only); first | omega | (simp only [List.length_nil]; omega)), (by (try dsimp only) <;> (rw [tr3, ns]; first | (rw [h2]; simpa using q) | (rw [hout_2, q, h2, h3]; rfl) | (rw [h2, h3]; simpa using q))), (by (try dsimp only) <;> first | omega | rfl | (simp [*]; done) | (rw [ol]; simp [*]; done))⟩ (by first | omega | (dsimp only; omega))
          · cbv
          · cbv
    · have dz_i1 := drop_end (xs := l) (i := Int.toNat i1) (by omega)
      have tz_i1 := take_end (xs := l) (i := Int.toNat i1) (by omega)
      refine hF _ _ ?_
      conv => cbv
      exact hQ (.fr 3 1 (rows cInt out)) (Eq.trans (by first | rfl | (simp only [lb, lbI, rows_cons, rows_nil, unnilT, unnil, unnilTI, unnilI]; done) | (simp only [lb, lbI, rows_cons, rows_nil, unnilT, unnil, unnilTI, unnilI]; rfl)) (congrArg (fun l => PV.fr 3 1 (rows cInt l)) (show out = nextF l set from by rw [q, show i1.toNat = l.length by omega]; rfl))))   -- leaf 1

end Go.Proofs.Ytkdaikliahnenab.Ai
