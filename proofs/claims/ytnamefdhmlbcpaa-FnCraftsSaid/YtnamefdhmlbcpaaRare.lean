/- Contracts of RarestCraft, the helpers for [][]int, and the law FnExactRarestCraft. -/
import Derived.Test.YtnamefdhmlbcpaaWage
namespace Go.Proofs.Ytnamefdhmlbcpaa.Ai
open Go Go.Proofs
set_option maxRecDepth 10000
set_option maxHeartbeats 4000000
set_option linter.unusedVariables false

/-! ### Helpers for [][]int -/
def SmallSS (ps : List (List Int)) : Prop := (ps.length : Int) ≤ 1048576 ∧ ∀ x ∈ ps, (x.length : Int) ≤ 1048576

theorem szIntSS_ok (ps : List (List Int)) (l : Int) (hl : 0 ≤ l) (hl' : l ≤ 1048576) : OkA Try.prog 9 [.isl 1 (rows (cSl 1 cInt) ps), .int .i64 l] (fun r => ∃ q, r = .int .i64 q ∧ q ≤ l ∧ (0 ≤ q → SmallSS ps)) :=
  fn_intro envOk fieldsOk mixed Try.func9 rfl fun κ X Y L Q m hQ => by
    conv => cbv
    refine r_lenR m.sX fun n1 hn1 mn1 => ?_
    conv => cbv
    refine r_subf m.sX (by omega) (by omega) fun r1 hr1 => ?_
    conv => cbv
    refine r_lss m.sX (fun h1 => ?_) (fun h1 => ?_) <;> conv => cbv
    · exact hQ _ ⟨-1, rfl, by omega, by omega⟩
    · refine r_loop (α := Int × Int) m 27 [0, 1, 5] [] (fun a => [(0, .isl 1 (rows (cSl 1 cInt) ps)), (1, .int .i64 a.1), (5, .int .i64 a.2)]) (fun a => [])
        (fun a => 0 ≤ a.2 ∧ a.2 ≤ ps.length ∧ 0 ≤ a.1 ∧ a.1 ≤ l ∧ ∀ x ∈ ps.take a.2.toNat, (x.length : Int) ≤ 1048576) (fun a => ps.length - a.2.toNat) (r1, 0) ?_ ?_ ?_ ?_
      · cbv
      · cbv
      · exact ⟨by dsimp only; omega, by dsimp only; omega, by dsimp only; omega, by dsimp only; omega, by simp⟩
      rintro ⟨i1, i2⟩ ⟨p1, p2, p3, p4, p5⟩ E hE
      dsimp only at p1 p2 p3 p4 p5
      conv => cbv
      refine r_lenR m.sX fun n2 hn2 mn2 => ?_
      conv => cbv
      refine r_lss m.sX (fun h2 => ?_) (fun h2 => ?_) <;> conv => cbv
      · refine r_index m.sX (by omega) (by omega) fun x1 hx1 => ?_
        conv => cbv
        refine r_callE m.sX (szIntS_ok x1 i1 (by omega) (by omega)) ?_
        rintro _ ⟨q, rfl, h8, h9⟩
        conv => cbv
        refine r_lss m.sX (fun h3 => ?_) (fun h3 => ?_) <;> conv => cbv
        · exact hQ _ ⟨-1, rfl, by omega, by omega⟩
        · refine r_addf m.sX (by omega) (by omega) fun r3 hr3 => ?_
          conv => cbv
          refine hE _ (q, r3) ?_ ?_ ⟨by dsimp only; omega, by dsimp only; omega, by dsimp only; omega, by dsimp only; omega, ?_⟩ (by first | omega | (dsimp only; omega))
          · cbv
          · cbv
          · dsimp only
            rw [show r3.toNat = i2.toNat + 1 by omega, List.take_add_one, hx1]
            intro c hc
            rcases List.mem_append.1 hc with hc | hc
            · exact p5 c hc
            · obtain rfl : c = x1 := by simpa using hc
              have := h9 (by omega)
              omega
      · refine hQ _ ⟨i1, rfl, by omega, fun _ => ⟨by omega, ?_⟩⟩
        rw [show i2.toNat = ps.length by omega, List.take_length] at p5
        exact p5

theorem toIntSS_ok (ps : List (List Int)) (hs : SmallSS ps) : OkA Try.prog 12 [.isl 1 (rows (cSl 1 cInt) ps)] (· = .fr 24 1 (rows (cSl 1 cInt) ps)) :=
  fn_intro envOk fieldsOk mixed Try.func12 rfl fun κ X Y L Q m hQ => by
    obtain ⟨hl, hs⟩ := hs
    conv => cbv
    refine r_lenR m.sX fun n1 hn1 mn1 => ?_
    conv => cbv
    refine r_make (orZ [.isl 1 []] (cSl 1 cInt)) none m.sX rfl (by omega) (by omega) (by dsimp only; omega) (by omega) fun zs1 hzs1 => ?_
    conv => cbv
    refine r_loop (α := List (Option (List Int)) × Int) m 23 [0, 4] [⟨3, 25, 24, 1, 0⟩] (fun a => [(0, .isl 1 (rows (cSl 1 cInt) ps)), (3, .osl 25 0), (4, .int .i64 a.2)]) (fun a => [(25, 0, .row 24 1 (rows (orZ [.isl 1 []] (cSl 1 cInt)) a.1))])
      (fun a => 0 ≤ a.2 ∧ a.2 ≤ ps.length ∧ a.1 = (ps.map some).take a.2.toNat ++ List.replicate ((ps.map some).length - a.2.toNat) none) (fun a => ps.length - a.2.toNat) (zs1, 0) ?_ ?_ ?_ ?_
    · cbv
    · cbv
    · exact ⟨by dsimp only; omega, by dsimp only; omega, by simp [hzs1, hn1]⟩
    rintro ⟨ys1, i1⟩ ⟨p1, p2, p3⟩ E hE
    dsimp only at p1 p2 p3
    have hy : ys1.length = ps.length := by rw [p3]; simp; omega
    conv => cbv
    refine r_lenR m.sX fun n2 hn2 mn2 => ?_
    conv => cbv
    refine r_lss m.sX (fun h1 => ?_) (fun h1 => ?_) <;> conv => cbv
    · refine r_index m.sX (by omega) (by omega) fun x1 hx1 => ?_
      conv => cbv
      refine r_call m.sX (toIntS_ok x1 (hs x1 (get_mem hx1))) ?_
      conv => cbv
      refine r_oindex m.sX (by omega) (by omega) ?_
      conv => cbv
      obtain ⟨y1, hy1⟩ := get_ex (xs := ys1) (i := Int.toNat i1) (by omega)
      refine r_ostore (l := Int.toNat i1) (some x1) m.sX hy1 (by cases y1 <;> exact Nat.le_refl 1) (by cases y1 <;> rfl) fun zs2 hzs2 => ?_
      conv => cbv
      refine r_addf m.sX (by omega) (by omega) fun r1 hr1 => ?_
      conv => cbv
      refine hE _ (zs2, r1) ?_ ?_ ⟨by dsimp only; omega, by dsimp only; omega, ?_⟩ (by first | omega | (dsimp only; omega))
      · cbv
      · cbv
      · dsimp only
        rw [hzs2, copy_step (x := some x1) p3 (by simp [hx1]), show r1.toNat = i1.toNat + 1 by omega]
    · exact hQ _ (congrArg (fun l => PV.fr 24 1 l) (by rw [← rows_some [.isl 1 []] (cSl 1 cInt) ps]; exact congrArg _ (copy_end p3 (by simp; omega))))

theorem eqIntSS_ok (ps : List (List Int)) : OkA Try.prog 17 [.isl 1 (rows (cSl 1 cInt) ps), .isl 1 (rows (cSl 1 cInt) ps)] (· = .bool true) :=
  fn_intro envOk fieldsOk mixed Try.func17 rfl fun κ X Y L Q m hQ => by
    conv => cbv
    refine r_lenR m.sX fun n1 hn1 mn1 => ?_
    conv => cbv
    refine r_lenR m.sX fun n2 hn2 mn2 => ?_
    conv => cbv
    refine r_neqF m.sX (by omega) ?_
    conv => cbv
    conv => cbv
    refine r_loop (α := Int) m 27 [0, 1, 5] [] (fun a => [(0, .isl 1 (rows (cSl 1 cInt) ps)), (1, .isl 1 (rows (cSl 1 cInt) ps)), (5, .int .i64 a)]) (fun a => [])
      (fun a => 0 ≤ a ∧ a ≤ ps.length) (fun a => ps.length - a.toNat) 0 ?_ ?_ ?_ ?_
    · cbv
    · cbv
    · exact ⟨by omega, by omega⟩
    rintro i1 ⟨p1, p2⟩ E hE
    conv => cbv
    refine r_lenR m.sX fun n3 hn3 mn3 => ?_
    conv => cbv
    refine r_lss m.sX (fun h2 => ?_) (fun h2 => ?_) <;> conv => cbv
    · refine r_draw m (by kernel_rfl) ?_
      conv => cbv
      refine r_index m.sY (by omega) (by omega) fun x1 hx1 => ?_
      conv => cbv
      refine r_index m.sY (by omega) (by omega) fun x2 hx2 => ?_
      conv => cbv
      obtain rfl := Option.some.inj (hx1.symm.trans hx2)
      refine r_callS m.sY (eqIntS_ok x1) trivial ?_
      conv => cbv
      refine r_addf m.sX (by omega) (by omega) fun r1 hr1 => ?_
      conv => cbv
      refine hE _ r1 ?_ ?_ ⟨by omega, by omega⟩ (by first | omega | (dsimp only; omega))
      · cbv
      · cbv
    · exact hQ _ rfl

/-! ### Who has learnt a craft -/
def whoFrom (c : Int) : Int → List (List Int) → List Int
  | _, [] => []
  | i, s :: r => if has s c then i :: whoFrom c (i + 1) r else whoFrom c (i + 1) r
def whoF (ps : List (List Int)) (c : Int) : List Int := whoFrom c 0 ps

theorem whoFrom_length (c : Int) : ∀ (i : Int) (ps : List (List Int)), (whoFrom c i ps).length ≤ ps.length
  | _, [] => Nat.le_refl _
  | i, s :: r => by
    have := whoFrom_length c (i + 1) r
    unfold whoFrom
    split
    · simp only [List.length_cons]; omega
    · simp only [List.length_cons]; omega

theorem whoMay_ok (ps : List (List Int)) (c : Int) (hl : ps.length ≤ 1000000) : OkA Try.prog 79 [.isl 1 (rows (cSl 1 cInt) ps), .int .i64 c] (· = .fr 3 1 (rows cInt (whoF ps c))) :=
  fn_intro envOk fieldsOk mixed Try.func79 rfl fun κ X Y L Q m hQ => by
    conv => cbv
    refine r_lenR m.sX fun n1 hn1 mn1 => ?_
    conv => cbv
    refine r_loop (α := List Int × Int) m 25 [1, 9, 10, 11] [⟨5, 41, 3, 1, 0⟩] (fun a => [(1, .int .i64 c), (5, .osl 41 0), (9, .isl 1 (rows (cSl 1 cInt) ps)), (10, .int .i64 n1), (11, .int .i64 a.2)]) (fun a => [(41, 0, .row 3 1 (rows cInt a.1))])
      (fun a => 0 ≤ a.2 ∧ a.2 ≤ ps.length ∧ whoF ps c = a.1 ++ whoFrom c a.2 (ps.drop a.2.toNat)) (fun a => ps.length - a.2.toNat) ([], 0) ?_ ?_ ?_ ?_
    · cbv
    · (try dsimp only); simp only [rows_nil]; cbv
    · exact ⟨by dsimp only; omega, by dsimp only; omega, rfl⟩
    rintro ⟨ys1, i1⟩ ⟨p1, p2, p3⟩ E hE
    dsimp only at p1 p2 p3
    have hy : ys1.length ≤ ps.length := by
      have e := congrArg List.length p3
      have := whoFrom_length c 0 ps
      simp only [whoF, List.length_append] at e
      omega
    conv => cbv
    refine r_lss m.sX (fun h1 => ?_) (fun h1 => ?_) <;> conv => cbv
    · refine r_index m.sX (by omega) (by omega) fun x1 hx1 => ?_
      conv => cbv
      rw [drop_cons hx1, whoFrom] at p3
      refine r_callB m.sX (hasNumber_ok x1 c) (fun h2 => ?_) (fun h2 => ?_) <;> conv => cbv
      · rw [if_pos h2] at p3
        refine r_append1 (i1) m.sX rfl (by first | omega | (dsimp only; omega)) (by first | omega | (dsimp only; omega)) fun zs1 hzs1 => ?_
        conv => cbv
        refine r_addf m.sX (by omega) (by omega) fun r1 hr1 => ?_
        conv => cbv
        refine hE _ (zs1, r1) ?_ ?_ ⟨by dsimp only; omega, by dsimp only; omega, by dsimp only; rw [p3, hzs1, hr1, show (i1 + 1).toNat = i1.toNat + 1 by omega]; simp⟩ (by first | omega | (dsimp only; omega))
        · cbv
        · cbv
      · rw [if_neg (by rw [h2]; simp)] at p3
        refine r_addf m.sX (by omega) (by omega) fun r2 hr2 => ?_
        conv => cbv
        refine hE _ (ys1, r2) ?_ ?_ ⟨by dsimp only; omega, by dsimp only; omega, by dsimp only; rw [p3, hr2, show (i1 + 1).toNat = i1.toNat + 1 by omega]⟩ (by first | omega | (dsimp only; omega))
        · cbv
        · cbv
    · exact hQ _ (congrArg (fun l => PV.fr 3 1 (rows cInt l)) (by rw [p3, List.drop_of_length_le (by omega), whoFrom, List.append_nil]))

theorem apWho_ok (ps : List (List Int)) (c : Int) (hl : ps.length ≤ 1000000) : OkA Try.prog 48 [.isl 1 (rows (cSl 1 cInt) ps), .int .i64 c] (· = .fr 3 1 (rows cInt (whoF ps c))) :=
  fn_intro envOk fieldsOk mixed Try.func48 rfl fun κ X Y L Q m hQ => by
    conv => cbv
    refine r_lenR m.sX fun n1 hn1 mn1 => ?_
    conv => cbv
    refine r_loop (α := List Int × Int) m 24 [1, 8, 9, 10] [⟨5, 41, 3, 1, 0⟩] (fun a => [(1, .int .i64 c), (5, .osl 41 0), (8, .isl 1 (rows (cSl 1 cInt) ps)), (9, .int .i64 n1), (10, .int .i64 a.2)]) (fun a => [(41, 0, .row 3 1 (rows cInt a.1))])
      (fun a => 0 ≤ a.2 ∧ a.2 ≤ ps.length ∧ whoF ps c = a.1 ++ whoFrom c a.2 (ps.drop a.2.toNat)) (fun a => ps.length - a.2.toNat) ([], 0) ?_ ?_ ?_ ?_
    · cbv
    · (try dsimp only); simp only [rows_nil]; cbv
    · exact ⟨by dsimp only; omega, by dsimp only; omega, rfl⟩
    rintro ⟨ys1, i1⟩ ⟨p1, p2, p3⟩ E hE
    dsimp only at p1 p2 p3
    have hy : ys1.length ≤ ps.length := by
      have e := congrArg List.length p3
      have := whoFrom_length c 0 ps
      simp only [whoF, List.length_append] at e
      omega
    conv => cbv
    refine r_lss m.sX (fun h1 => ?_) (fun h1 => ?_) <;> conv => cbv
    · refine r_index m.sX (by omega) (by omega) fun x1 hx1 => ?_
      conv => cbv
      rw [drop_cons hx1, whoFrom] at p3
      refine r_callB m.sX (l1Has_ok x1 c) (fun h2 => ?_) (fun h2 => ?_) <;> conv => cbv
      · rw [if_pos h2] at p3
        refine r_append1 (i1) m.sX rfl (by first | omega | (dsimp only; omega)) (by first | omega | (dsimp only; omega)) fun zs1 hzs1 => ?_
        conv => cbv
        refine r_addf m.sX (by omega) (by omega) fun r1 hr1 => ?_
        conv => cbv
        refine hE _ (zs1, r1) ?_ ?_ ⟨by dsimp only; omega, by dsimp only; omega, by dsimp only; rw [p3, hzs1, hr1, show (i1 + 1).toNat = i1.toNat + 1 by omega]; simp⟩ (by first | omega | (dsimp only; omega))
        · cbv
        · cbv
      · rw [if_neg (by rw [h2]; simp)] at p3
        refine r_addf m.sX (by omega) (by omega) fun r2 hr2 => ?_
        conv => cbv
        refine hE _ (ys1, r2) ?_ ?_ ⟨by dsimp only; omega, by dsimp only; omega, by dsimp only; rw [p3, hr2, show (i1 + 1).toNat = i1.toNat + 1 by omega]⟩ (by first | omega | (dsimp only; omega))
        · cbv
        · cbv
    · exact hQ _ (congrArg (fun l => PV.fr 3 1 (rows cInt l)) (by rw [p3, List.drop_of_length_le (by omega), whoFrom, List.append_nil]))

def goodP (l : List Craft) (ps : List (List Int)) : Bool := ps.all (asked l) && (good l && decide ((ps.length : Int) ≤ 6))

theorem arePeople_ok (l : List Craft) (ps : List (List Int)) : OkA Try.prog 53 [.isl 2 (rows cCraft l), .isl 1 (rows (cSl 1 cInt) ps)] (· = .bool (goodP l ps)) :=
  fn_intro envOk fieldsOk mixed Try.func53 rfl fun κ X Y L Q m hQ => by
    conv => cbv
    refine r_lenR m.sX fun n1 hn1 mn1 => ?_
    conv => cbv
    refine r_loop (α := Int) m 25 [0, 1, 7, 8, 9] [] (fun a => [(0, .isl 2 (rows cCraft l)), (1, .isl 1 (rows (cSl 1 cInt) ps)), (7, .isl 1 (rows (cSl 1 cInt) ps)), (8, .int .i64 n1), (9, .int .i64 a)]) (fun a => [])
      (fun a => 0 ≤ a ∧ a ≤ ps.length ∧ ps.all (asked l) = (ps.drop a.toNat).all (asked l)) (fun a => ps.length - a.toNat) 0 ?_ ?_ ?_ ?_
    · cbv
    · cbv
    · exact ⟨by omega, by omega, rfl⟩
    rintro i1 ⟨p1, p2, p3⟩ E hE
    conv => cbv
    refine r_lss m.sX (fun h1 => ?_) (fun h1 => ?_) <;> conv => cbv
    · refine r_index m.sX (by omega) (by omega) fun x1 hx1 => ?_
      conv => cbv
      rw [drop_cons hx1, List.all_cons] at p3
      refine r_callB m.sX (isApprentice_ok l x1) (fun h2 => ?_) (fun h2 => ?_) <;> conv => cbv
      · refine r_addf m.sX (by omega) (by omega) fun r1 hr1 => ?_
        conv => cbv
        refine hE _ r1 ?_ ?_ ⟨by omega, by omega, by rw [p3, h2, show r1.toNat = i1.toNat + 1 by omega]; rfl⟩ (by first | omega | (dsimp only; omega))
        · cbv
        · cbv
      · exact hQ _ (congrArg PV.bool (by rw [goodP, p3, h2]; rfl))
    · rw [List.drop_of_length_le (by omega)] at p3
      refine r_callB m.sX (areCrafts_ok l) (fun h3 => ?_) (fun h3 => ?_) <;> conv => cbv
      · refine r_lenR m.sX fun n2 hn2 mn2 => ?_
        conv => cbv
        refine r_leq m.sX (fun h4 => ?_) (fun h4 => ?_) <;> conv => cbv
        · exact hQ _ (congrArg PV.bool (by rw [goodP, p3, h3, decide_eq_true (by omega)]; rfl))
        · exact hQ _ (congrArg PV.bool (by rw [goodP, p3, h3, decide_eq_false (by omega)]; rfl))
      · exact hQ _ (congrArg PV.bool (by rw [goodP, p3, h3]; rfl))

theorem apPeople_ok (l : List Craft) (ps : List (List Int)) : OkA Try.prog 45 [.isl 2 (rows cCraft l), .isl 1 (rows (cSl 1 cInt) ps)] (· = .bool (goodP l ps)) :=
  fn_intro envOk fieldsOk mixed Try.func45 rfl fun κ X Y L Q m hQ => by
    conv => cbv
    refine r_lenR m.sX fun n1 hn1 mn1 => ?_
    conv => cbv
    refine r_loop (α := Int) m 30 [0, 1, 7, 8, 9] [] (fun a => [(0, .isl 2 (rows cCraft l)), (1, .isl 1 (rows (cSl 1 cInt) ps)), (7, .isl 1 (rows (cSl 1 cInt) ps)), (8, .int .i64 n1), (9, .int .i64 a)]) (fun a => [])
      (fun a => 0 ≤ a ∧ a ≤ ps.length ∧ ps.all (asked l) = (ps.drop a.toNat).all (asked l)) (fun a => ps.length - a.toNat) 0 ?_ ?_ ?_ ?_
    · cbv
    · cbv
    · exact ⟨by omega, by omega, rfl⟩
    rintro i1 ⟨p1, p2, p3⟩ E hE
    conv => cbv
    refine r_lss m.sX (fun h1 => ?_) (fun h1 => ?_) <;> conv => cbv
    · refine r_index m.sX (by omega) (by omega) fun x1 hx1 => ?_
      conv => cbv
      rw [drop_cons hx1, List.all_cons, asked] at p3
      refine r_callB m.sX (apGood_ok l) (fun h2 => ?_) (fun h2 => ?_) <;> conv => cbv
      · refine r_callB m.sX (apLearnt_ok l x1) (fun h3 => ?_) (fun h3 => ?_) <;> conv => cbv
        · refine r_addf m.sX (by omega) (by omega) fun r1 hr1 => ?_
          conv => cbv
          refine hE _ r1 ?_ ?_ ⟨by omega, by omega, by rw [p3, h2, h3, show r1.toNat = i1.toNat + 1 by omega]; rfl⟩ (by first | omega | (dsimp only; omega))
          · cbv
          · cbv
        · exact hQ _ (congrArg PV.bool (by rw [goodP, p3, h2, h3]; rfl))
      · exact hQ _ (congrArg PV.bool (by rw [goodP, p3, h2]; rfl))
    · rw [List.drop_of_length_le (by omega)] at p3
      refine r_callB m.sX (apGood_ok l) (fun h3 => ?_) (fun h3 => ?_) <;> conv => cbv
      · refine r_lenR m.sX fun n2 hn2 mn2 => ?_
        conv => cbv
        refine r_leq m.sX (fun h4 => ?_) (fun h4 => ?_) <;> conv => cbv
        · exact hQ _ (congrArg PV.bool (by rw [goodP, p3, h3, decide_eq_true (by omega)]; rfl))
        · exact hQ _ (congrArg PV.bool (by rw [goodP, p3, h3, decide_eq_false (by omega)]; rfl))
      · exact hQ _ (congrArg PV.bool (by rw [goodP, p3, h3]; rfl))

theorem goodP_le {l : List Craft} {ps : List (List Int)} (h : goodP l ps = true) : ps.length ≤ 6 := by
  rw [goodP, Bool.and_eq_true, Bool.and_eq_true, decide_eq_true_eq] at h
  omega

/-! ### The rarest craft -/
def cnt (ps : List (List Int)) (c : Int) : Int := (whoF ps c).length
/-- The first one of the first k crafts with the fewest. -/
def rareB (ps : List (List Int)) : Nat → Int
  | 0 => 0
  | k + 1 => if cnt ps k < cnt ps (rareB ps k) then k else rareB ps k

theorem rareB_one (ps : List (List Int)) : rareB ps 1 = 0 := by
  show (if cnt ps ((0 : Nat) : Int) < cnt ps 0 then ((0 : Nat) : Int) else 0) = 0
  split <;> rfl

theorem rareB_bound (ps : List (List Int)) : ∀ k, 0 ≤ rareB ps k ∧ rareB ps k ≤ k
  | 0 => ⟨Int.le_refl _, Int.le_refl _⟩
  | k + 1 => by
    have := rareB_bound ps k
    unfold rareB
    split <;> omega

def rare (l : List Craft) (ps : List (List Int)) : Int × Int × Bool :=
  if goodP l ps && !decide ((l.length : Int) = 0) then (rareB ps l.length, cnt ps (rareB ps l.length), true) else (0, 0, false)

end Go.Proofs.Ytnamefdhmlbcpaa.Ai
