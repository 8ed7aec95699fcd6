/- Contracts of the functions behind IsLearnt. -/
import Derived.Test.YtkdaikliahnenabCraft
namespace Go.Proofs.Ytkdaikliahnenab.Ai
open Go Go.Proofs
set_option maxRecDepth 10000
set_option maxHeartbeats 4000000
set_option linter.unusedVariables false

theorem rising_mem {lo hi : Int} : ∀ {p : Option Int} {xs : List Int}, rising lo hi p xs = true → ∀ x ∈ xs, lo ≤ x ∧ x ≤ hi
  | _, [], _, x, hx => by cases hx
  | p, y :: r, h, x, hx => by
    rw [rising_cons] at h
    simp only [Bool.and_eq_true] at h
    rcases List.mem_cons.1 hx with rfl | hx
    · have := h.1.1
      simp [inB] at this
      exact this
    · exact rising_mem h.2 x hx

def has (xs : List Int) (n : Int) : Bool := xs.any fun x => decide (x = n)
theorem has_cons (x : Int) (r : List Int) (n : Int) : has (x :: r) n = (decide (x = n) || has r n) := rfl

theorem hasNumber_ok (xs : List Int) (n : Int) : OkA Try.prog 136 [.isl 1 (rows cInt xs), .int .i64 n] (· = .bool (has xs n)) :=
  fn_intro envOk fieldsOk mixed Try.func136 rfl fun κ X Y L Q m hQ => by
    conv => cbv
    refine r_lenR m.sX fun l hl ml => ?_
    conv => cbv
    refine r_loop (α := Int) m 17 [1, 7, 8, 9] [] (fun a => [(1, .int .i64 n), (7, .isl 1 (rows cInt xs)), (8, .int .i64 l), (9, .int .i64 a)]) (fun a => [])
      (fun a => 0 ≤ a ∧ a ≤ xs.length ∧ has xs n = has (xs.drop a.toNat) n) (fun a => xs.length - a.toNat) 0 ?_ ?_ ?_ ?_
    · cbv
    · cbv
    · exact ⟨by omega, by omega, rfl⟩
    rintro i ⟨h1, h2, h3⟩ E hE
    conv => cbv
    refine r_lss m.sX (fun h4 => ?_) (fun h4 => ?_) <;> conv => cbv
    · refine r_index m.sX (by omega) (by omega) fun x hx => ?_
      conv => cbv
      rw [drop_cons hx, has_cons] at h3
      refine r_eql m.sX (fun h5 => ?_) (fun h5 => ?_) <;> conv => cbv
      · exact hQ _ (congrArg PV.bool (by rw [h3, decide_eq_true h5]; rfl))
      · refine r_addf m.sX (by omega) (by omega) fun j hj => ?_
        conv => cbv
        refine hE _ j ?_ ?_ ⟨by omega, by omega, by rw [h3, show j.toNat = i.toNat + 1 by omega, decide_eq_false h5]; rfl⟩ (by first | omega | (dsimp only; omega))
        · cbv
        · cbv
    · exact hQ _ (congrArg PV.bool (by rw [h3, show i.toNat = xs.length by omega, List.drop_length]; rfl))

theorem l1Has_ok (xs : List Int) (n : Int) : OkA Try.prog 127 [.isl 1 (rows cInt xs), .int .i64 n] (· = .bool (has xs n)) :=
  fn_intro envOk fieldsOk mixed Try.func127 rfl fun κ X Y L Q m hQ => by
    conv => cbv
    refine r_lenR m.sX fun l hl ml => ?_
    conv => cbv
    refine r_loop (α := Int) m 17 [1, 7, 8, 9] [] (fun a => [(1, .int .i64 n), (7, .isl 1 (rows cInt xs)), (8, .int .i64 l), (9, .int .i64 a)]) (fun a => [])
      (fun a => 0 ≤ a ∧ a ≤ xs.length ∧ has xs n = has (xs.drop a.toNat) n) (fun a => xs.length - a.toNat) 0 ?_ ?_ ?_ ?_
    · cbv
    · cbv
    · exact ⟨by omega, by omega, rfl⟩
    rintro i ⟨h1, h2, h3⟩ E hE
    conv => cbv
    refine r_lss m.sX (fun h4 => ?_) (fun h4 => ?_) <;> conv => cbv
    · refine r_index m.sX (by omega) (by omega) fun x hx => ?_
      conv => cbv
      rw [drop_cons hx, has_cons] at h3
      refine r_eql m.sX (fun h5 => ?_) (fun h5 => ?_) <;> conv => cbv
      · exact hQ _ (congrArg PV.bool (by rw [h3, decide_eq_true h5]; rfl))
      · refine r_addf m.sX (by omega) (by omega) fun j hj => ?_
        conv => cbv
        refine hE _ j ?_ ?_ ⟨by omega, by omega, by rw [h3, show j.toNat = i.toNat + 1 by omega, decide_eq_false h5]; rfl⟩ (by first | omega | (dsimp only; omega))
        · cbv
        · cbv
    · exact hQ _ (congrArg PV.bool (by rw [h3, show i.toNat = xs.length by omega, List.drop_length]; rfl))

def hasAll (l ns : List Int) : Bool := ns.all fun n => has l n
theorem hasAll_cons (l : List Int) (n : Int) (r : List Int) : hasAll l (n :: r) = (has l n && hasAll l r) := rfl

theorem hasAll_ok (l ns : List Int) : OkA Try.prog 164 [.isl 1 (rows cInt l), .isl 1 (rows cInt ns)] (· = .bool (hasAll l ns)) :=
  fn_intro envOk fieldsOk mixed Try.func164 rfl fun κ X Y L Q m hQ => by
    conv => cbv
    refine r_lenR m.sX fun k hk mk => ?_
    conv => cbv
    refine r_loop (α := Int) m 18 [0, 7, 8, 9] [] (fun a => [(0, .isl 1 (rows cInt l)), (7, .isl 1 (rows cInt ns)), (8, .int .i64 k), (9, .int .i64 a)]) (fun a => [])
      (fun a => 0 ≤ a ∧ a ≤ ns.length ∧ hasAll l ns = hasAll l (ns.drop a.toNat)) (fun a => ns.length - a.toNat) 0 ?_ ?_ ?_ ?_
    · cbv
    · cbv
    · exact ⟨by omega, by omega, rfl⟩
    rintro i ⟨h1, h2, h3⟩ E hE
    conv => cbv
    refine r_lss m.sX (fun h4 => ?_) (fun h4 => ?_) <;> conv => cbv
    · refine r_index m.sX (by omega) (by omega) fun x hx => ?_
      conv => cbv
      rw [drop_cons hx, hasAll_cons] at h3
      refine r_callB m.sX (hasNumber_ok l x) (fun h5 => ?_) (fun h5 => ?_) <;> conv => cbv
      · refine r_addf m.sX (by omega) (by omega) fun j hj => ?_
        conv => cbv
        refine hE _ j ?_ ?_ ⟨by omega, by omega, by rw [h3, show j.toNat = i.toNat + 1 by omega, h5]; rfl⟩ (by first | omega | (dsimp only; omega))
        · cbv
        · cbv
      · exact hQ _ (congrArg PV.bool (by rw [h3, h5]; rfl))
    · exact hQ _ (congrArg PV.bool (by rw [h3, show i.toNat = ns.length by omega, List.drop_length]; rfl))

def ready (l : List Craft) (set : List Int) (i : Int) : Bool := match l[i.toNat]? with
  | some c => hasAll set c.1
  | none => false
def learnt (l : List Craft) (set : List Int) : Bool := set.all fun i => ready l set i

theorem isLearnt_ok (l : List Craft) (set : List Int) (hs : ∀ i ∈ set, 0 ≤ i ∧ i < l.length) : OkA Try.prog 161 [.isl 2 (rows cCraft l), .isl 1 (rows cInt set)] (· = .bool (learnt l set)) :=
  fn_intro envOk fieldsOk mixed Try.func161 rfl fun κ X Y L Q m hQ => by
    conv => cbv
    refine r_lenR m.sX fun k hk mk => ?_
    conv => cbv
    refine r_loop (α := Int) m 22 [0, 1, 7, 8, 9] [] (fun a => [(0, .isl 2 (rows cCraft l)), (1, .isl 1 (rows cInt set)), (7, .isl 1 (rows cInt set)), (8, .int .i64 k), (9, .int .i64 a)]) (fun a => [])
      (fun a => 0 ≤ a ∧ a ≤ set.length ∧ learnt l set = (set.drop a.toNat).all fun i => ready l set i) (fun a => set.length - a.toNat) 0 ?_ ?_ ?_ ?_
    · cbv
    · cbv
    · exact ⟨by omega, by omega, rfl⟩
    rintro i ⟨h1, h2, h3⟩ E hE
    conv => cbv
    refine r_lss m.sX (fun h4 => ?_) (fun h4 => ?_) <;> conv => cbv
    · refine r_index m.sX (by omega) (by omega) fun x hx => ?_
      conv => cbv
      rw [drop_cons hx, List.all_cons] at h3
      obtain ⟨h5, h6⟩ := hs x (get_mem hx)
      refine r_index m.sX (by omega) (by omega) fun c hc => ?_
      conv => cbv
      have hr : ready l set x = hasAll set c.1 := by rw [ready, hc]
      refine r_callB m.sX (hasAll_ok set c.1) (fun h7 => ?_) (fun h7 => ?_) <;> conv => cbv
      · refine r_addf m.sX (by omega) (by omega) fun j hj => ?_
        conv => cbv
        refine hE _ j ?_ ?_ ⟨by omega, by omega, by rw [h3, hr, h7, show j.toNat = i.toNat + 1 by omega]; rfl⟩ (by first | omega | (dsimp only; omega))
        · cbv
        · cbv
      · exact hQ _ (congrArg PV.bool (by rw [h3, hr, h7]; rfl))
    · exact hQ _ (congrArg PV.bool (by rw [h3, show i.toNat = set.length by omega, List.drop_length]; rfl))

theorem apReady_ok (l : List Craft) (set : List Int) (i : Int) (h0 : 0 ≤ i) (h1 : i < l.length) : OkA Try.prog 160 [.isl 2 (rows cCraft l), .isl 1 (rows cInt set), .int .i64 i] (· = .bool (ready l set i)) :=
  fn_intro envOk fieldsOk mixed Try.func160 rfl fun κ X Y L Q m hQ => by
    conv => cbv
    refine r_index m.sX (by omega) (by omega) fun c hc => ?_
    conv => cbv
    have hr : ready l set i = hasAll set c.1 := by rw [ready, hc]
    rw [hr] at hQ
    refine r_lenR (xs := c.1) m.sX fun k hk mk => ?_
    conv => cbv
    refine r_loop (α := Int) m 24 [1, 13, 14, 15] [] (fun a => [(1, .isl 1 (rows cInt set)), (13, .isl 1 (rows cInt c.1)), (14, .int .i64 k), (15, .int .i64 a)]) (fun a => [])
      (fun a => 0 ≤ a ∧ a ≤ c.1.length ∧ hasAll set c.1 = hasAll set (c.1.drop a.toNat)) (fun a => c.1.length - a.toNat) 0 ?_ ?_ ?_ ?_
    · cbv
    · cbv
    · exact ⟨by omega, by omega, rfl⟩
    rintro q ⟨h1, h2, h3⟩ E hE
    conv => cbv
    refine r_lss m.sX (fun h4 => ?_) (fun h4 => ?_) <;> conv => cbv
    · refine r_index (xs := c.1) m.sX (by omega) (by omega) fun x hx => ?_
      conv => cbv
      rw [drop_cons hx, hasAll_cons] at h3
      refine r_callB m.sX (l1Has_ok set x) (fun h5 => ?_) (fun h5 => ?_) <;> conv => cbv
      · refine r_addf m.sX (by omega) (by omega) fun j hj => ?_
        conv => cbv
        refine hE _ j ?_ ?_ ⟨by omega, by omega, by rw [h3, show j.toNat = q.toNat + 1 by omega, h5]; rfl⟩ (by first | omega | (dsimp only; omega))
        · cbv
        · cbv
      · exact hQ _ (congrArg PV.bool (by rw [h3, h5]; rfl))
    · exact hQ _ (congrArg PV.bool (by rw [h3, show q.toNat = c.1.length by omega, List.drop_length]; rfl))

theorem apLearnt_ok (l : List Craft) (set : List Int) : OkA Try.prog 152 [.isl 2 (rows cCraft l), .isl 1 (rows cInt set)] (· = .bool (rising 0 (l.length - 1) none set && learnt l set)) :=
  fn_intro envOk fieldsOk mixed Try.func152 rfl fun κ X Y L Q m hQ => by
    conv => cbv
    refine r_lenR m.sX fun n hn mn => ?_
    conv => cbv
    refine r_subf m.sX (by omega) (by omega) fun d hd => ?_
    conv => cbv
    refine r_callB m.sX (l1Rising_ok set 0 d) (fun h => ?_) (fun h => ?_) <;> conv => cbv
    · rw [← hn, ← hd, h, Bool.true_and] at hQ
      have hs := rising_mem h
      refine r_lenR m.sX fun k hk mk => ?_
      conv => cbv
      refine r_loop (α := Int) m 25 [0, 1, 13, 14, 15] [] (fun a => [(0, .isl 2 (rows cCraft l)), (1, .isl 1 (rows cInt set)), (13, .isl 1 (rows cInt set)), (14, .int .i64 k), (15, .int .i64 a)]) (fun a => [])
        (fun a => 0 ≤ a ∧ a ≤ set.length ∧ learnt l set = (set.drop a.toNat).all fun i => ready l set i) (fun a => set.length - a.toNat) 0 ?_ ?_ ?_ ?_
      · cbv
      · cbv
      · exact ⟨by omega, by omega, rfl⟩
      rintro i ⟨h1, h2, h3⟩ E hE
      conv => cbv
      refine r_lss m.sX (fun h4 => ?_) (fun h4 => ?_) <;> conv => cbv
      · refine r_index m.sX (by omega) (by omega) fun x hx => ?_
        conv => cbv
        rw [drop_cons hx, List.all_cons] at h3
        obtain ⟨h5, h6⟩ := hs x (get_mem hx)
        refine r_callB m.sX (apReady_ok l set x h5 (by omega)) (fun h7 => ?_) (fun h7 => ?_) <;> conv => cbv
        · refine r_addf m.sX (by omega) (by omega) fun j hj => ?_
          conv => cbv
          refine hE _ j ?_ ?_ ⟨by omega, by omega, by rw [h3, h7, show j.toNat = i.toNat + 1 by omega]; rfl⟩ (by first | omega | (dsimp only; omega))
          · cbv
          · cbv
        · exact hQ _ (congrArg PV.bool (by rw [h3, h7]; rfl))
      · exact hQ _ (congrArg PV.bool (by rw [h3, show i.toNat = set.length by omega, List.drop_length]; rfl))
    · exact hQ _ (congrArg PV.bool (by rw [← hn, ← hd, h]; rfl))

def isLearnt (l : List Craft) (set : List Int) : Bool × Bool := if good l && rising 0 (l.length - 1) none set then (learnt l set, true) else (false, false)

theorem IsLearnt_ok (l : List Craft) (set : List Int) : OkA Try.prog 154 [.isl 2 (rows cCraft l), .isl 1 (rows cInt set)] (· = bb (isLearnt l set)) :=
  fn_intro envOk fieldsOk mixed Try.func154 rfl fun κ X Y L Q m hQ => by
    conv => cbv
    refine r_callB m.sX (areCrafts_ok l) (fun h => ?_) (fun h => ?_) <;> conv => cbv
    · refine r_lenR m.sX fun n hn mn => ?_
      conv => cbv
      refine r_subf m.sX (by omega) (by omega) fun d hd => ?_
      conv => cbv
      refine r_callB m.sX (increases_ok set 0 d) (fun h1 => ?_) (fun h1 => ?_) <;> conv => cbv
      · have hs := rising_mem h1
        refine r_callF PV.bool m.sX (isLearnt_ok l set (fun i hi => by have := hs i hi; omega)) fun b hb => ?_
        conv => cbv
        exact hQ (bb (b, true)) (congrArg bb (by rw [isLearnt, ← hn, ← hd, h, h1, hb]; rfl))
      · exact hQ (bb (false, false)) (congrArg bb (by rw [isLearnt, ← hn, ← hd, h, h1]; rfl))
    · exact hQ (bb (false, false)) (congrArg bb (by rw [isLearnt, h]; rfl))

end Go.Proofs.Ytkdaikliahnenab.Ai
