/- Contracts of RarestCraft, the helpers for [][]int, and the law FnExactRarestCraft. -/
import Derived.Test.YtkdaikliahnenabWage
namespace Go.Proofs.Ytkdaikliahnenab.Ai
open Go Go.Proofs
set_option maxRecDepth 10000
set_option maxHeartbeats 4000000
set_option linter.unusedVariables false

/-! ### Helpers for [][]int -/
def SmallSS (ps : List (List Int)) : Prop := (ps.length : Int) ≤ 1048576 ∧ ∀ x ∈ ps, (x.length : Int) ≤ 1048576

def whoFrom (c : Int) : Int → List (List Int) → List Int
  | _, [] => []
  | i, s :: r => if has s c then i :: whoFrom c (i + 1) r else whoFrom c (i + 1) r
def whoF (ps : List (List Int)) (c : Int) : List Int := whoFrom c 0 ps

theorem whoFrom_length (c : Int) : ∀ (i : Int) (ps : List (List Int)), (whoFrom c i ps).length ≤ ps.length
  | _, [] => Nat.le_refl _
  | i, s :: r => by
    have := whoFrom_length c (i + 1) r
    unfold whoFrom
    split
    · simp only [List.length_cons]; omega
    · simp only [List.length_cons]; omega

theorem whoMay_ok (ps : List (List Int)) (c : Int) (hl : ps.length ≤ 1000000) : OkA Try.prog 129 [.isl 1 (rows (cSl 1 cInt) ps), .int .i64 c] (· = .fr 3 1 (rows cInt (whoF ps c))) :=
  fn_intro envOk fieldsOk mixed Try.func129 rfl fun κ X Y L Q m hQ => by
    conv => cbv
    refine r_lenR m.sX fun n1 hn1 mn1 => ?_
    conv => cbv
    refine r_loop (α := List Int × Int) m 25 [1, 9, 10, 11] [⟨5, 41, 3, 1, 0⟩] (fun a => [(1, .int .i64 c), (5, .osl 41 0), (9, .isl 1 (rows (cSl 1 cInt) ps)), (10, .int .i64 n1), (11, .int .i64 a.2)]) (fun a => [(41, 0, .row 3 1 (rows cInt a.1))])
      (fun a => 0 ≤ a.2 ∧ a.2 ≤ ps.length ∧ whoF ps c = a.1 ++ whoFrom c a.2 (ps.drop a.2.toNat)) (fun a => ps.length - a.2.toNat) ([], 0) ?_ ?_ ?_ ?_
    · cbv
    · (try dsimp only); simp only [rows_nil]; cbv
    · exact ⟨by dsimp only; omega, by dsimp only; omega, rfl⟩
    rintro ⟨ys1, i1⟩ ⟨p1, p2, p3⟩ E hE
    dsimp only at p1 p2 p3
    have hy : ys1.length ≤ ps.length := by
      have e := congrArg List.length p3
      have := whoFrom_length c 0 ps
      simp only [whoF, List.length_append] at e
      omega
    conv => cbv
    refine r_lss m.sX (fun h1 => ?_) (fun h1 => ?_) <;> conv => cbv
    · refine r_index m.sX (by omega) (by omega) fun x1 hx1 => ?_
      conv => cbv
      rw [drop_cons hx1, whoFrom] at p3
      refine r_callB m.sX (hasNumber_ok x1 c) (fun h2 => ?_) (fun h2 => ?_) <;> conv => cbv
      · rw [if_pos h2] at p3
        refine r_append1 (i1) m.sX rfl (by first | omega | (dsimp only; omega)) (by first | omega | (dsimp only; omega)) fun zs1 hzs1 => ?_
        conv => cbv
        refine r_addf m.sX (by omega) (by omega) fun r1 hr1 => ?_
        conv => cbv
        refine hE _ (zs1, r1) ?_ ?_ ⟨by dsimp only; omega, by dsimp only; omega, by dsimp only; rw [p3, hzs1, hr1, show (i1 + 1).toNat = i1.toNat + 1 by omega]; simp⟩ (by first | omega | (dsimp only; omega))
        · cbv
        · cbv
      · rw [if_neg (by rw [h2]; simp)] at p3
        refine r_addf m.sX (by omega) (by omega) fun r2 hr2 => ?_
        conv => cbv
        refine hE _ (ys1, r2) ?_ ?_ ⟨by dsimp only; omega, by dsimp only; omega, by dsimp only; rw [p3, hr2, show (i1 + 1).toNat = i1.toNat + 1 by omega]⟩ (by first | omega | (dsimp only; omega))
        · cbv
        · cbv
    · exact hQ _ (congrArg (fun l => PV.fr 3 1 (rows cInt l)) (by rw [p3, List.drop_of_length_le (by omega), whoFrom, List.append_nil]))

theorem apWho_ok (ps : List (List Int)) (c : Int) (hl : ps.length ≤ 1000000) : OkA Try.prog 126 [.isl 1 (rows (cSl 1 cInt) ps), .int .i64 c] (· = .fr 3 1 (rows cInt (whoF ps c))) :=
  fn_intro envOk fieldsOk mixed Try.func126 rfl fun κ X Y L Q m hQ => by
    conv => cbv
    refine r_lenR m.sX fun n1 hn1 mn1 => ?_
    conv => cbv
    refine r_loop (α := List Int × Int) m 24 [1, 8, 9, 10] [⟨5, 41, 3, 1, 0⟩] (fun a => [(1, .int .i64 c), (5, .osl 41 0), (8, .isl 1 (rows (cSl 1 cInt) ps)), (9, .int .i64 n1), (10, .int .i64 a.2)]) (fun a => [(41, 0, .row 3 1 (rows cInt a.1))])
      (fun a => 0 ≤ a.2 ∧ a.2 ≤ ps.length ∧ whoF ps c = a.1 ++ whoFrom c a.2 (ps.drop a.2.toNat)) (fun a => ps.length - a.2.toNat) ([], 0) ?_ ?_ ?_ ?_
    · cbv
    · (try dsimp only); simp only [rows_nil]; cbv
    · exact ⟨by dsimp only; omega, by dsimp only; omega, rfl⟩
    rintro ⟨ys1, i1⟩ ⟨p1, p2, p3⟩ E hE
    dsimp only at p1 p2 p3
    have hy : ys1.length ≤ ps.length := by
      have e := congrArg List.length p3
      have := whoFrom_length c 0 ps
      simp only [whoF, List.length_append] at e
      omega
    conv => cbv
    refine r_lss m.sX (fun h1 => ?_) (fun h1 => ?_) <;> conv => cbv
    · refine r_index m.sX (by omega) (by omega) fun x1 hx1 => ?_
      conv => cbv
      rw [drop_cons hx1, whoFrom] at p3
      refine r_callB m.sX (l1Has_ok x1 c) (fun h2 => ?_) (fun h2 => ?_) <;> conv => cbv
      · rw [if_pos h2] at p3
        refine r_append1 (i1) m.sX rfl (by first | omega | (dsimp only; omega)) (by first | omega | (dsimp only; omega)) fun zs1 hzs1 => ?_
        conv => cbv
        refine r_addf m.sX (by omega) (by omega) fun r1 hr1 => ?_
        conv => cbv
        refine hE _ (zs1, r1) ?_ ?_ ⟨by dsimp only; omega, by dsimp only; omega, by dsimp only; rw [p3, hzs1, hr1, show (i1 + 1).toNat = i1.toNat + 1 by omega]; simp⟩ (by first | omega | (dsimp only; omega))
        · cbv
        · cbv
      · rw [if_neg (by rw [h2]; simp)] at p3
        refine r_addf m.sX (by omega) (by omega) fun r2 hr2 => ?_
        conv => cbv
        refine hE _ (ys1, r2) ?_ ?_ ⟨by dsimp only; omega, by dsimp only; omega, by dsimp only; rw [p3, hr2, show (i1 + 1).toNat = i1.toNat + 1 by omega]⟩ (by first | omega | (dsimp only; omega))
        · cbv
        · cbv
    · exact hQ _ (congrArg (fun l => PV.fr 3 1 (rows cInt l)) (by rw [p3, List.drop_of_length_le (by omega), whoFrom, List.append_nil]))

def goodP (l : List Craft) (ps : List (List Int)) : Bool := ps.all (asked l) && (good l && decide ((ps.length : Int) ≤ 6))

theorem arePeople_ok (l : List Craft) (ps : List (List Int)) : OkA Try.prog 121 [.isl 2 (rows cCraft l), .isl 1 (rows (cSl 1 cInt) ps)] (· = .bool (goodP l ps)) :=
  fn_intro envOk fieldsOk mixed Try.func121 rfl fun κ X Y L Q m hQ => by
    conv => cbv
    refine r_lenR m.sX fun n1 hn1 mn1 => ?_
    conv => cbv
    refine r_loop (α := Int) m 25 [0, 1, 7, 8, 9] [] (fun a => [(0, .isl 2 (rows cCraft l)), (1, .isl 1 (rows (cSl 1 cInt) ps)), (7, .isl 1 (rows (cSl 1 cInt) ps)), (8, .int .i64 n1), (9, .int .i64 a)]) (fun a => [])
      (fun a => 0 ≤ a ∧ a ≤ ps.length ∧ ps.all (asked l) = (ps.drop a.toNat).all (asked l)) (fun a => ps.length - a.toNat) 0 ?_ ?_ ?_ ?_
    · cbv
    · cbv
    · exact ⟨by omega, by omega, rfl⟩
    rintro i1 ⟨p1, p2, p3⟩ E hE
    conv => cbv
    refine r_lss m.sX (fun h1 => ?_) (fun h1 => ?_) <;> conv => cbv
    · refine r_index m.sX (by omega) (by omega) fun x1 hx1 => ?_
      conv => cbv
      rw [drop_cons hx1, List.all_cons] at p3
      refine r_callB m.sX (isApprentice_ok l x1) (fun h2 => ?_) (fun h2 => ?_) <;> conv => cbv
      · refine r_addf m.sX (by omega) (by omega) fun r1 hr1 => ?_
        conv => cbv
        refine hE _ r1 ?_ ?_ ⟨by omega, by omega, by rw [p3, h2, show r1.toNat = i1.toNat + 1 by omega]; rfl⟩ (by first | omega | (dsimp only; omega))
        · cbv
        · cbv
      · exact hQ _ (congrArg PV.bool (by rw [goodP, p3, h2]; rfl))
    · rw [List.drop_of_length_le (by omega)] at p3
      refine r_callB m.sX (areCrafts_ok l) (fun h3 => ?_) (fun h3 => ?_) <;> conv => cbv
      · refine r_lenR m.sX fun n2 hn2 mn2 => ?_
        conv => cbv
        refine r_leq m.sX (fun h4 => ?_) (fun h4 => ?_) <;> conv => cbv
        · exact hQ _ (congrArg PV.bool (by rw [goodP, p3, h3, decide_eq_true (by omega)]; rfl))
        · exact hQ _ (congrArg PV.bool (by rw [goodP, p3, h3, decide_eq_false (by omega)]; rfl))
      · exact hQ _ (congrArg PV.bool (by rw [goodP, p3, h3]; rfl))

theorem apPeople_ok (l : List Craft) (ps : List (List Int)) : OkA Try.prog 123 [.isl 2 (rows cCraft l), .isl 1 (rows (cSl 1 cInt) ps)] (· = .bool (goodP l ps)) :=
  fn_intro envOk fieldsOk mixed Try.func123 rfl fun κ X Y L Q m hQ => by
    conv => cbv
    refine r_lenR m.sX fun n1 hn1 mn1 => ?_
    conv => cbv
    refine r_loop (α := Int) m 30 [0, 1, 7, 8, 9] [] (fun a => [(0, .isl 2 (rows cCraft l)), (1, .isl 1 (rows (cSl 1 cInt) ps)), (7, .isl 1 (rows (cSl 1 cInt) ps)), (8, .int .i64 n1), (9, .int .i64 a)]) (fun a => [])
      (fun a => 0 ≤ a ∧ a ≤ ps.length ∧ ps.all (asked l) = (ps.drop a.toNat).all (asked l)) (fun a => ps.length - a.toNat) 0 ?_ ?_ ?_ ?_
    · cbv
    · cbv
    · exact ⟨by omega, by omega, rfl⟩
    rintro i1 ⟨p1, p2, p3⟩ E hE
    conv => cbv
    refine r_lss m.sX (fun h1 => ?_) (fun h1 => ?_) <;> conv => cbv
    · refine r_index m.sX (by omega) (by omega) fun x1 hx1 => ?_
      conv => cbv
      rw [drop_cons hx1, List.all_cons, asked] at p3
      refine r_callB m.sX (apGood_ok l) (fun h2 => ?_) (fun h2 => ?_) <;> conv => cbv
      · refine r_callB m.sX (apLearnt_ok l x1) (fun h3 => ?_) (fun h3 => ?_) <;> conv => cbv
        · refine r_addf m.sX (by omega) (by omega) fun r1 hr1 => ?_
          conv => cbv
          refine hE _ r1 ?_ ?_ ⟨by omega, by omega, by rw [p3, h2, h3, show r1.toNat = i1.toNat + 1 by omega]; rfl⟩ (by first | omega | (dsimp only; omega))
          · cbv
          · cbv
        · exact hQ _ (congrArg PV.bool (by rw [goodP, p3, h2, h3]; rfl))
      · exact hQ _ (congrArg PV.bool (by rw [goodP, p3, h2]; rfl))
    · rw [List.drop_of_length_le (by omega)] at p3
      refine r_callB m.sX (apGood_ok l) (fun h3 => ?_) (fun h3 => ?_) <;> conv => cbv
      · refine r_lenR m.sX fun n2 hn2 mn2 => ?_
        conv => cbv
        refine r_leq m.sX (fun h4 => ?_) (fun h4 => ?_) <;> conv => cbv
        · exact hQ _ (congrArg PV.bool (by rw [goodP, p3, h3, decide_eq_true (by omega)]; rfl))
        · exact hQ _ (congrArg PV.bool (by rw [goodP, p3, h3, decide_eq_false (by omega)]; rfl))
      · exact hQ _ (congrArg PV.bool (by rw [goodP, p3, h3]; rfl))

theorem goodP_le {l : List Craft} {ps : List (List Int)} (h : goodP l ps = true) : ps.length ≤ 6 := by
  rw [goodP, Bool.and_eq_true, Bool.and_eq_true, decide_eq_true_eq] at h
  omega

/-! ### The rarest craft -/
def cnt (ps : List (List Int)) (c : Int) : Int := (whoF ps c).length
/-- The first one of the first k crafts with the fewest. -/
def rareB (ps : List (List Int)) : Nat → Int
  | 0 => 0
  | k + 1 => if cnt ps k < cnt ps (rareB ps k) then k else rareB ps k

theorem rareB_one (ps : List (List Int)) : rareB ps 1 = 0 := by
  show (if cnt ps ((0 : Nat) : Int) < cnt ps 0 then ((0 : Nat) : Int) else 0) = 0
  split <;> rfl

theorem rareB_bound (ps : List (List Int)) : ∀ k, 0 ≤ rareB ps k ∧ rareB ps k ≤ k
  | 0 => ⟨Int.le_refl _, Int.le_refl _⟩
  | k + 1 => by
    have := rareB_bound ps k
    unfold rareB
    split <;> omega

def rare (l : List Craft) (ps : List (List Int)) : Int × Int × Bool :=
  if goodP l ps && !decide ((l.length : Int) = 0) then (rareB ps l.length, cnt ps (rareB ps l.length), true) else (0, 0, false)

theorem rarestCraft_ok (l : List Craft) (ps : List (List Int)) : OkA Try.prog 57 [.isl 2 (rows cCraft l), .isl 1 (rows (cSl 1 cInt) ps)] (· = iib (rare l ps)) :=
  fn_intro envOk fieldsOk mixed Try.func57 rfl fun κ X Y L Q m hQ => by
    conv => cbv
    refine r_callB m.sX (arePeople_ok l ps) (fun h1 => ?_) (fun h1 => ?_) <;> conv => cbv
    · have hps := goodP_le h1
      refine r_lenR m.sX fun n1 hn1 mn1 => ?_
      conv => cbv
      refine r_eql m.sX (fun h2 => ?_) (fun h2 => ?_) <;> conv => cbv
      · exact hQ (iib (0, 0, false)) (congrArg iib (by rw [rare, h1, decide_eq_true (by omega)]; rfl))
      · refine r_lenR m.sX fun n2 hn2 mn2 => ?_
        conv => cbv
        refine r_loop (α := Int × Int × Int) m 41 [1, 7, 8, 21, 22] [] (fun a => [(1, .isl 1 (rows (cSl 1 cInt) ps)), (7, .int .i64 a.1), (8, .int .i64 a.2.1), (21, .int .i64 n2), (22, .int .i64 a.2.2)]) (fun a => [])
          (fun a => 0 ≤ a.2.2 ∧ a.2.2 ≤ l.length ∧ (a.2.2 = 0 ∧ a.1 = 0 ∧ a.2.1 = -1 ∨ 1 ≤ a.2.2 ∧ a.1 = rareB ps a.2.2.toNat ∧ a.2.1 = cnt ps (rareB ps a.2.2.toNat))) (fun a => l.length - a.2.2.toNat) (0, -1, 0) ?_ ?_ ?_ ?_
        · cbv
        · cbv
        · exact ⟨by dsimp only; omega, by dsimp only; omega, .inl ⟨rfl, rfl, rfl⟩⟩
        rintro ⟨i1, i2, i3⟩ ⟨p1, p2, p3⟩ E hE
        dsimp only at p1 p2 p3
        conv => cbv
        refine r_lss m.sX (fun h3 => ?_) (fun h3 => ?_) <;> conv => cbv
        · refine r_callF (fun l => PV.fr _ _ (rows _ l)) m.sX (whoMay_ok ps i3 (by omega)) fun w3 hw3 => ?_
          conv => cbv
          refine r_lenR m.sX fun n3 hn3 mn3 => ?_
          conv => cbv
          have e3 : n3 = cnt ps i3 := by rw [hn3, hw3]; rfl
          refine r_lss m.sX (fun h4 => ?_) (fun h4 => ?_) <;> conv => cbv
          · refine r_addf m.sX (by omega) (by omega) fun r1 hr1 => ?_
            conv => cbv
            refine hE _ (i3, n3, r1) ?_ ?_ ⟨by dsimp only; omega, by dsimp only; omega, ?_⟩ (by first | omega | (dsimp only; omega))
            · cbv
            · cbv
            · dsimp only
              rcases p3 with ⟨q1, q2, q3⟩ | ⟨q1, q2, q3⟩
              · obtain rfl : r1 = 1 := by omega
                subst q1
                exact .inr ⟨by omega, by rw [show (1 : Int).toNat = 1 from rfl, rareB_one], by rw [show (1 : Int).toNat = 1 from rfl, rareB_one, e3]⟩
              · rw [q3] at h4
                simp only [cnt] at h4
                omega
          · have q : 1 ≤ i3 ∧ i1 = rareB ps i3.toNat ∧ i2 = cnt ps (rareB ps i3.toNat) := by
              rcases p3 with ⟨q1, q2, q3⟩ | q
              · omega
              · exact q
            obtain ⟨q1, q2, q3⟩ := q
            have hr : ∀ r : Int, r = i3 + 1 → rareB ps r.toNat = if n3 < i2 then i3 else i1 := fun r hr => by
              rw [show r.toNat = i3.toNat + 1 by omega, rareB, ← q3, ← q2, Int.toNat_of_nonneg p1, ← e3]
            refine r_lss m.sX (fun h5 => ?_) (fun h5 => ?_) <;> conv => cbv
            · refine r_addf m.sX (by omega) (by omega) fun r2 hr2 => ?_
              conv => cbv
              refine hE _ (i3, n3, r2) ?_ ?_ ⟨by dsimp only; omega, by dsimp only; omega, .inr ⟨by dsimp only; omega, by dsimp only; rw [hr r2 hr2, if_pos h5], by dsimp only; rw [hr r2 hr2, if_pos h5, e3]⟩⟩ (by first | omega | (dsimp only; omega))
              · cbv
              · cbv
            · refine r_addf m.sX (by omega) (by omega) fun r3 hr3 => ?_
              conv => cbv
              refine hE _ (i1, i2, r3) ?_ ?_ ⟨by dsimp only; omega, by dsimp only; omega, .inr ⟨by dsimp only; omega, by dsimp only; rw [hr r3 hr3, if_neg (by omega)], by dsimp only; rw [hr r3 hr3, if_neg (by omega), q3, q2]⟩⟩ (by first | omega | (dsimp only; omega))
              · cbv
              · cbv
        · have q : i1 = rareB ps l.length ∧ i2 = cnt ps (rareB ps l.length) := by
            rcases p3 with ⟨q1, q2, q3⟩ | ⟨q1, q2, q3⟩
            · omega
            · rw [show i3.toNat = l.length by omega] at q2 q3
              exact ⟨q2, q3⟩
          exact hQ (iib (i1, i2, true)) (congrArg iib (by rw [rare, h1, decide_eq_false (by omega), q.1, q.2]; rfl))
    · exact hQ (iib (0, 0, false)) (congrArg iib (by rw [rare, h1]; rfl))

theorem specRarestCraft_ok (l : List Craft) (ps : List (List Int)) : OkA Try.prog 58 [.isl 2 (rows cCraft l), .isl 1 (rows (cSl 1 cInt) ps)] (· = iib (rare l ps)) :=
  fn_intro envOk fieldsOk mixed Try.func58 rfl fun κ X Y L Q m hQ => by
    conv => cbv
    refine r_callB m.sX (apPeople_ok l ps) (fun h1 => ?_) (fun h1 => ?_) <;> conv => cbv
    · have hps := goodP_le h1
      refine r_lenR m.sX fun n1 hn1 mn1 => ?_
      conv => cbv
      refine r_eql m.sX (fun h2 => ?_) (fun h2 => ?_) <;> conv => cbv
      · exact hQ (iib (0, 0, false)) (congrArg iib (by rw [rare, h1, decide_eq_true (by omega)]; rfl))
      · refine r_lenR m.sX fun n2 hn2 mn2 => ?_
        conv => cbv
        refine r_loop (α := Int × Int) m 39 [1, 7, 19, 20] [] (fun a => [(1, .isl 1 (rows (cSl 1 cInt) ps)), (7, .int .i64 a.1), (19, .int .i64 n2), (20, .int .i64 a.2)]) (fun a => [])
          (fun a => 0 ≤ a.2 ∧ a.2 ≤ l.length ∧ a.1 = rareB ps a.2.toNat) (fun a => l.length - a.2.toNat) (0, 0) ?_ ?_ ?_ ?_
        · cbv
        · cbv
        · exact ⟨by dsimp only; omega, by dsimp only; omega, rfl⟩
        rintro ⟨i1, i2⟩ ⟨p1, p2, p3⟩ E hE
        dsimp only at p1 p2 p3
        conv => cbv
        refine r_lss m.sX (fun h3 => ?_) (fun h3 => ?_) <;> conv => cbv
        · refine r_callF (fun l => PV.fr _ _ (rows _ l)) m.sX (apWho_ok ps i2 (by omega)) fun w3 hw3 => ?_
          conv => cbv
          refine r_lenR m.sX fun n3 hn3 mn3 => ?_
          conv => cbv
          refine r_callF (fun l => PV.fr _ _ (rows _ l)) m.sX (apWho_ok ps i1 (by omega)) fun w4 hw4 => ?_
          conv => cbv
          refine r_lenR m.sX fun n4 hn4 mn4 => ?_
          conv => cbv
          rw [hw3] at hn3
          rw [hw4] at hn4
          have hr : ∀ r : Int, r = i2 + 1 → rareB ps r.toNat = if n3 < n4 then i2 else i1 := fun r hr => by
            rw [show r.toNat = i2.toNat + 1 by omega, rareB, ← p3, Int.toNat_of_nonneg p1]
            show (if ((whoF ps i2).length : Int) < (whoF ps i1).length then i2 else i1) = _
            rw [← hn3, ← hn4]
          refine r_lss m.sX (fun h4 => ?_) (fun h4 => ?_) <;> conv => cbv
          · refine r_addf m.sX (by omega) (by omega) fun r1 hr1 => ?_
            conv => cbv
            refine hE _ (i2, r1) ?_ ?_ ⟨by dsimp only; omega, by dsimp only; omega, by dsimp only; rw [hr r1 hr1, if_pos h4]⟩ (by first | omega | (dsimp only; omega))
            · cbv
            · cbv
          · refine r_addf m.sX (by omega) (by omega) fun r2 hr2 => ?_
            conv => cbv
            refine hE _ (i1, r2) ?_ ?_ ⟨by dsimp only; omega, by dsimp only; omega, by dsimp only; rw [hr r2 hr2, if_neg (by omega)]⟩ (by first | omega | (dsimp only; omega))
            · cbv
            · cbv
        · refine r_callF (fun l => PV.fr _ _ (rows _ l)) m.sX (apWho_ok ps i1 (by omega)) fun w5 hw5 => ?_
          conv => cbv
          refine r_lenR m.sX fun n5 hn5 mn5 => ?_
          conv => cbv
          rw [hw5] at hn5
          rw [show i2.toNat = l.length by omega] at p3
          exact hQ (iib (i1, n5, true)) (congrArg iib (by rw [rare, h1, decide_eq_false (by omega), ← p3, hn5]; rfl))
    · exact hQ (iib (0, 0, false)) (congrArg iib (by rw [rare, h1]; rfl))

end Go.Proofs.Ytkdaikliahnenab.Ai
