/- Contracts of small functions on lists of numbers. -/
import Derived.Test.YtngefbdedbbplaaCur2
import Derived.Test.YtngefbdedbbplaaCraft
import Derived.Test.YtngefbdedbbplaaAiIce
namespace Go.Proofs.Ytngefbdedbbplaa.Ai
open Go Go.Proofs
set_option linter.unusedSimpArgs false
set_option maxRecDepth 10000
set_option maxHeartbeats 4000000
set_option linter.unusedVariables false


theorem OkA.iceI {P : Program} {f : FuncId} {args : List PV} {v : PV} (sz : Nat) (h : OkA P f args (fun r => unnilTI sz (Ai.ice r) = v)) : OkA P f args (· = v) :=
  OkA.unnilI sz ((OkA.iceE h).mono fun _ ⟨_, q, e⟩ => by rw [e]; exact q)
theorem rows_cons {α : Type} (f : α → List PV) (x : α) (l : List α) : rows f (x :: l) = f x :: rows f l := by simp [rows_eq]

section
variable {P : Program} {X : Req → (PV → Prop) → Prop} {K : PV → Prop} {f : FuncId} {args : List PV} {v : Bool}
/-- A call that answers a bool, where one answer can be. -/
theorem r_callBT (h : Std P false X) (hc : OkA P f args (· = .bool v)) (e : v = true) (H : K (.bool true)) : X (.call f false args) K := by subst e; exact r_call h hc H
theorem r_callBF (h : Std P false X) (hc : OkA P f args (· = .bool v)) (e : v = false) (H : K (.bool false)) : X (.call f false args) K := by subst e; exact r_call h hc H
theorem r_callBTO (h : Std P false X) (hc : Ok P f args (· = .bool v)) (e : v = true) (H : K (.bool true)) : X (.call f true args) K := by subst e; exact r_callO h hc H
theorem r_callBFO (h : Std P false X) (hc : Ok P f args (· = .bool v)) (e : v = false) (H : K (.bool false)) : X (.call f true args) K := by subst e; exact r_callO h hc H
theorem r_callBTS (h : Std P true X) (hc : OkA P f args (· = .bool v)) (e : v = true) (H : K (.bool true)) : X (.call f false args) K := by subst e; exact r_callS h hc trivial H
theorem r_callBFS (h : Std P true X) (hc : OkA P f args (· = .bool v)) (e : v = false) (H : K (.bool false)) : X (.call f false args) K := by subst e; exact r_callS h hc trivial H
end

/-- A new row, or nil. -/
noncomputable def orow {α : Type} (e n : Nat) (f : α → List PV) : Option (List α) → PV
  | none => .nil
  | some l => .fr e n (rows f l)
theorem flat_orow {α : Type} {e n : Nat} {f : α → List PV} (hf : ∀ x, ∀ c ∈ f x, flat c) {v : Option (List α)} : ∀ r, r = orow e n f v → flatR r := fun r h => by
  subst h
  cases v with
  | none => trivial
  | some l => exact flat_rows hf l

def allB (ws : List Int) (a b : Int) : Bool := ws.all fun n => inB n a b
theorem allB_mem {ws : List Int} {a b : Int} (h : allB ws a b = true) : ∀ n ∈ ws, a ≤ n ∧ n ≤ b := fun n hn => inB_spec (List.all_eq_true.1 h n hn)
theorem allB_cons (x : Int) (r : List Int) (a b : Int) : allB (x :: r) a b = (inB x a b && allB r a b) := rfl
theorem allB_nil (a b : Int) : allB [] a b = true := rfl

theorem sum_bound {ws : List Int} {B : Int} (hB : 0 ≤ B) (h : ∀ n ∈ ws, 0 ≤ n ∧ n ≤ B) : 0 ≤ ws.sum ∧ ws.sum ≤ B * ws.length := by
  induction ws with
  | nil => simp
  | cons x r ih =>
    have h1 := ih fun n hn => h n (by simp [hn])
    have h2 := h x (by simp)
    simp only [List.sum_cons, List.length_cons, Int.natCast_add, Int.mul_add]
    constructor
    · omega
    · have : B * ((1 : Nat) : Int) = B := by simp
      omega
theorem sum_take {ws : List Int} {i : Nat} {x : Int} (h : ws[i]? = some x) : (ws.take (i + 1)).sum = (ws.take i).sum + x := by
  rw [List.take_add_one, h, List.sum_append]; simp

/-- All partial sums fit. -/
def SumFits (l : List Int) : Prop := ∀ k : Nat, -9223372036854775808 ≤ (l.take k).sum ∧ (l.take k).sum ≤ 9223372036854775807
theorem sumfits_of {l : List Int} (M : Int) (h : ∀ n ∈ l, -M ≤ n ∧ n ≤ M) (hM : M * l.length ≤ 9223372036854775807) : SumFits l := by
  have go : ∀ l : List Int, (∀ n ∈ l, -M ≤ n ∧ n ≤ M) → -(M * l.length) ≤ l.sum ∧ l.sum ≤ M * l.length := by
    intro l hl
    induction l with
    | nil => simp
    | cons x r ih =>
      have h1 := ih fun n hn => hl n (by simp [hn])
      have h2 := hl x (by simp)
      simp only [List.sum_cons, List.length_cons, Int.natCast_add, Int.mul_add]
      have : M * ((1 : Nat) : Int) = M := by simp
      omega
  intro k
  cases l with
  | nil => simp
  | cons x r =>
    have hM0 : 0 ≤ M := by have := h x (by simp); omega
    have h1 := go ((x :: r).take k) fun n hn => h n (List.mem_of_mem_take hn)
    have h2 : M * (((x :: r).take k).length : Int) ≤ M * ((x :: r).length : Int) := Int.mul_le_mul_of_nonneg_left (by have := List.length_take_le' k (x :: r); omega) hM0
    omega

theorem eq_of_takes {α : Type} {a b : List α} (hl : a.length = b.length) {i : Nat} (h : a.take i = b.take i) (hi : a.length ≤ i) : a = b := by
  rwa [List.take_of_length_le hi, List.take_of_length_le (by omega)] at h

/-- An element, 0 outside. -/
def nth (xs : List Int) (i : Nat) : Int := (xs[i]?).getD 0
theorem nth_some {xs : List Int} {i : Nat} {x : Int} (h : xs[i]? = some x) : nth xs i = x := by rw [nth, h]; rfl
theorem nth_left {xs ys : List Int} {i : Nat} (h : i < xs.length) : nth (xs ++ ys) i = nth xs i := by rw [nth, nth, List.getElem?_append_left h]
theorem nth_mid {xs ys : List Int} {v : Int} {i : Nat} (h : xs.length = i) : nth (xs ++ v :: ys) i = v := by
  rw [nth, List.getElem?_append_right (by omega), h]; simp
theorem nth_out {xs : List Int} {i : Nat} (h : xs.length ≤ i) : nth xs i = 0 := by rw [nth, List.getElem?_eq_none h]; rfl
theorem set_mid {xs ys : List Int} {u v : Int} {i : Nat} (h : xs.length = i) : (xs ++ u :: ys).set i v = xs ++ v :: ys := by
  rw [List.set_append_right _ _ (by omega), h]; simp
theorem nth_take {xs : List Int} {n i : Nat} (h : i < n) : nth (xs.take n) i = nth xs i := by rw [nth, nth, List.getElem?_take, if_pos h]
theorem range_next {α : Type} (f : Nat → α) (i : Int) (h0 : 0 ≤ i) {x : α} (hx : x = f i.toNat) : (List.range i.toNat).map f ++ [x] = (List.range (i + 1).toNat).map f := by
  rw [show (i + 1).toNat = i.toNat + 1 by omega, List.range_succ, List.map_append, hx]; rfl

theorem qSum_ok (l : List Int) (hf : SumFits l) : OkA Try.prog 18 [.isl 1 (rows cInt l)] (· = .int .i64 (l.sum)) :=
  fn_intro envOk fieldsOk mixed Try.func18 rfl fun κ X Y L Q m hQ => by
    conv => cbv
    refine r_lenR m.sX fun n1 hn1 mn1 => ?_
    conv => cbv
    refine r_loopF (α := Int × Int) m 17 [3, 6, 7, 8] [] (fun σ => [(3, .int .i64 σ.1), (6, .isl 1 (rows cInt l)), (7, .int .i64 n1), (8, .int .i64 σ.2)]) (fun σ => [])
      (fun σ => (0 ≤ σ.2) ∧ (σ.2 ≤ n1) ∧ (σ.1 = (l.take σ.2.toNat).sum)) (fun σ => (n1 - σ.2).toNat) (0, 0) ?_ ?_ ?_ ?_
    · cbv
    · cbv
    · exact ⟨(by (try dsimp only); first | omega | (simp only [List.length_nil]; omega) | (simp only [List.length_cons, List.length_nil]; omega)), (by (try dsimp only); first | omega | (simp only [List.length_nil]; omega) | (simp only [List.length_cons, List.length_nil]; omega)), (by (try dsimp only) <;> first | omega | rfl | (simp [*]; done))⟩
    rintro ⟨sum, i1⟩ ⟨lo1, hi1, q⟩ E hE F hF
    dsimp only at lo1 hi1 q
    have bq := hf i1.toNat
    conv => cbv
    refine r_lss m.sX (fun h1 => ?_) (fun h1 => ?_) <;> conv => cbv
    · refine r_index m.sX (by omega) (by omega) fun n hn => ?_
      conv => cbv
      have mn := get_mem hn
      have dn := drop_cons hn
      have kn := take_snoc hn
      have jn : (i1 + 1).toNat = Int.toNat i1 + 1 := by omega
      have vn := nth_some hn
      have bn := hf (i1.toNat + 1)
      rw [sum_take hn] at bn
      refine r_addf m.sX (by omega) (by omega) fun sum_2 hsum_2 => ?_
      conv => cbv
      refine r_addf m.sX (by omega) (by omega) fun r1 hr1 => ?_
      conv => cbv
      try have tr1 : Int.toNat r1 = Int.toNat i1 + 1 := by omega
      refine hE _ (sum_2, r1) ?_ ?_ ⟨(by (try dsimp only); first | omega | (simp only [List.length_nil]; omega) | (simp only [List.length_cons, List.length_nil]; omega)), (by (try dsimp only); first | omega | (simp only [List.length_nil]; omega) | (simp only [List.length_cons, List.length_nil]; omega)), (by (try dsimp only) <;> (rw [tr1, sum_take hn]; omega))⟩ (by first | omega | (dsimp only; omega))
      · cbv
      · cbv
    · have dz_i1 := drop_end (xs := l) (i := Int.toNat i1) (by omega)
      have tz_i1 := take_end (xs := l) (i := Int.toNat i1) (by omega)
      refine hF _ _ ?_
      conv => cbv
      exact hQ (.int .i64 sum) (Eq.trans (by first | rfl | (simp only [lb, lbI, rows_cons, rows_nil, unnilT, unnil, unnilTI, unnilI]; done) | (simp only [lb, lbI, rows_cons, rows_nil, unnilT, unnil, unnilTI, unnilI]; rfl)) (congrArg (PV.int .i64) (show sum = l.sum from by rw [q, tz_i1])))   -- leaf 1

theorem qInts_ok (a : List Int) (b : List Int)  : OkA Try.prog 15 [.isl 1 (rows cInt a), .isl 1 (rows cInt b)] (· = .bool (decide (a = b))) :=
  fn_intro envOk fieldsOk mixed Try.func15 rfl fun κ X Y L Q m hQ => by
    conv => cbv
    refine r_lenR m.sX fun n1 hn1 mn1 => ?_
    conv => cbv
    refine r_lenR m.sX fun n2 hn2 mn2 => ?_
    conv => cbv
    refine r_neq m.sX (fun h1 => ?_) (fun h1 => ?_) <;> conv => cbv
    · exact hQ _ (congrArg PV.bool (by exact (decide_eq_false fun e => by rw [e] at hn1; omega).symm))   -- leaf 1
    · refine r_lenR m.sX fun n3 hn3 mn3 => ?_
      conv => cbv
      refine r_loopF (α := Int) m 26 [0, 1, 12, 13] [] (fun σ => [(0, .isl 1 (rows cInt a)), (1, .isl 1 (rows cInt b)), (12, .int .i64 n3), (13, .int .i64 σ)]) (fun σ => [])
        (fun σ => (0 ≤ σ) ∧ (σ ≤ n3) ∧ (a.take σ.toNat = b.take σ.toNat)) (fun σ => (n3 - σ).toNat) 0 ?_ ?_ ?_ ?_
      · cbv
      · cbv
      · exact ⟨(by (try dsimp only); first | omega | (simp only [List.length_nil]; omega) | (simp only [List.length_cons, List.length_nil]; omega)), (by (try dsimp only); first | omega | (simp only [List.length_nil]; omega) | (simp only [List.length_cons, List.length_nil]; omega)), (by (try dsimp only) <;> first | omega | rfl | (simp [*]; done))⟩
      rintro i1 ⟨lo1, hi1, q⟩ E hE F hF
      conv => cbv
      refine r_lss m.sX (fun h2 => ?_) (fun h2 => ?_) <;> conv => cbv
      · refine r_draw m (by kernel_rfl) ?_
        conv => cbv
        refine r_index m.sY (by omega) (by omega) fun x1 hx1 => ?_
        conv => cbv
        have mx1 := get_mem hx1
        have dx1 := drop_cons hx1
        have kx1 := take_snoc hx1
        have jx1 : (i1 + 1).toNat = Int.toNat i1 + 1 := by omega
        have vx1 := nth_some hx1
        refine r_index m.sY (by omega) (by omega) fun x2 hx2 => ?_
        conv => cbv
        have mx2 := get_mem hx2
        have dx2 := drop_cons hx2
        have kx2 := take_snoc hx2
        have jx2 : (i1 + 1).toNat = Int.toNat i1 + 1 := by omega
        have vx2 := nth_some hx2
        refine r_neq m.sY (fun h3 => ?_) (fun h3 => ?_) <;> conv => cbv
        · refine hF _ _ ?_
          conv => cbv
          exact hQ _ (congrArg PV.bool (by exact (decide_eq_false fun e => by rw [e] at hx1; exact h3 (Option.some.inj (hx1.symm.trans hx2))).symm))   -- leaf 2
        · refine r_addf m.sX (by omega) (by omega) fun r1 hr1 => ?_
          conv => cbv
          try have tr1 : Int.toNat r1 = Int.toNat i1 + 1 := by omega
          refine hE _ r1 ?_ ?_ ⟨(by (try dsimp only); first | omega | (simp only [List.length_nil]; omega) | (simp only [List.length_cons, List.length_nil]; omega)), (by (try dsimp only); first | omega | (simp only [List.length_nil]; omega) | (simp only [List.length_cons, List.length_nil]; omega)), (by (try dsimp only) <;> (rw [tr1, kx1, kx2, q, show x1 = x2 from by assumption]))⟩ (by first | omega | (dsimp only; omega))
          · cbv
          · cbv
      · have dz_i1 := drop_end (xs := a) (i := Int.toNat i1) (by omega)
        have tz_i1 := take_end (xs := a) (i := Int.toNat i1) (by omega)
        refine hF _ _ ?_
        conv => cbv
        exact hQ _ (congrArg PV.bool (by exact (decide_eq_true (eq_of_takes (by omega) q (by omega))).symm))   -- leaf 3


theorem sameInts_ok (a : List Int) (b : List Int)  : OkA Try.prog 31 [.isl 1 (rows cInt a), .isl 1 (rows cInt b)] (· = .bool (decide (a = b))) :=
  fn_intro envOk fieldsOk mixed Try.func31 rfl fun κ X Y L Q m hQ => by
    conv => cbv
    refine r_lenR m.sX fun n1 hn1 mn1 => ?_
    conv => cbv
    refine r_lenR m.sX fun n2 hn2 mn2 => ?_
    conv => cbv
    refine r_neq m.sX (fun h1 => ?_) (fun h1 => ?_) <;> conv => cbv
    · exact hQ _ (congrArg PV.bool (by exact (decide_eq_false fun e => by rw [e] at hn1; omega).symm))   -- leaf 1
    · refine r_lenR m.sX fun n3 hn3 mn3 => ?_
      conv => cbv
      refine r_loopF (α := Int) m 26 [0, 1, 12, 13] [] (fun σ => [(0, .isl 1 (rows cInt a)), (1, .isl 1 (rows cInt b)), (12, .int .i64 n3), (13, .int .i64 σ)]) (fun σ => [])
        (fun σ => (0 ≤ σ) ∧ (σ ≤ n3) ∧ (a.take σ.toNat = b.take σ.toNat)) (fun σ => (n3 - σ).toNat) 0 ?_ ?_ ?_ ?_
      · cbv
      · cbv
      · exact ⟨(by (try dsimp only); first | omega | (simp only [List.length_nil]; omega) | (simp only [List.length_cons, List.length_nil]; omega)), (by (try dsimp only); first | omega | (simp only [List.length_nil]; omega) | (simp only [List.length_cons, List.length_nil]; omega)), (by (try dsimp only) <;> first | omega | rfl | (simp [*]; done))⟩
      rintro i1 ⟨lo1, hi1, q⟩ E hE F hF
      conv => cbv
      refine r_lss m.sX (fun h2 => ?_) (fun h2 => ?_) <;> conv => cbv
      · refine r_draw m (by kernel_rfl) ?_
        conv => cbv
        refine r_index m.sY (by omega) (by omega) fun x1 hx1 => ?_
        conv => cbv
        have mx1 := get_mem hx1
        have dx1 := drop_cons hx1
        have kx1 := take_snoc hx1
        have jx1 : (i1 + 1).toNat = Int.toNat i1 + 1 := by omega
        have vx1 := nth_some hx1
        refine r_index m.sY (by omega) (by omega) fun x2 hx2 => ?_
        conv => cbv
        have mx2 := get_mem hx2
        have dx2 := drop_cons hx2
        have kx2 := take_snoc hx2
        have jx2 : (i1 + 1).toNat = Int.toNat i1 + 1 := by omega
        have vx2 := nth_some hx2
        refine r_neq m.sY (fun h3 => ?_) (fun h3 => ?_) <;> conv => cbv
        · refine hF _ _ ?_
          conv => cbv
          exact hQ _ (congrArg PV.bool (by exact (decide_eq_false fun e => by rw [e] at hx1; exact h3 (Option.some.inj (hx1.symm.trans hx2))).symm))   -- leaf 2
        · refine r_addf m.sX (by omega) (by omega) fun r1 hr1 => ?_
          conv => cbv
          try have tr1 : Int.toNat r1 = Int.toNat i1 + 1 := by omega
          refine hE _ r1 ?_ ?_ ⟨(by (try dsimp only); first | omega | (simp only [List.length_nil]; omega) | (simp only [List.length_cons, List.length_nil]; omega)), (by (try dsimp only); first | omega | (simp only [List.length_nil]; omega) | (simp only [List.length_cons, List.length_nil]; omega)), (by (try dsimp only) <;> (rw [tr1, kx1, kx2, q, show x1 = x2 from by assumption]))⟩ (by first | omega | (dsimp only; omega))
          · cbv
          · cbv
      · have dz_i1 := drop_end (xs := a) (i := Int.toNat i1) (by omega)
        have tz_i1 := take_end (xs := a) (i := Int.toNat i1) (by omega)
        refine hF _ _ ?_
        conv => cbv
        exact hQ _ (congrArg PV.bool (by exact (decide_eq_true (eq_of_takes (by omega) q (by omega))).symm))   -- leaf 3


theorem big_ok (code : List Int) (more : List Int)  : OkA Try.prog 23 [.isl 1 (rows cU8 code), .isl 1 (rows cU8 more)] (· = .bool (decide (1048576 < (code.length : Int)) || decide (1048576 < (code.length : Int) + more.length))) :=
  fn_intro envOk fieldsOk mixed Try.func23 rfl fun κ X Y L Q m hQ => by
    conv => cbv
    refine r_lenR m.sX fun n1 hn1 mn1 => ?_
    conv => cbv
    refine r_gtr m.sX (fun h1 => ?_) (fun h1 => ?_) <;> conv => cbv
    · exact hQ _ (congrArg PV.bool (by simp; omega))   -- leaf 1
    · refine r_lenR m.sX fun n2 hn2 mn2 => ?_
      conv => cbv
      refine r_lenR m.sX fun n3 hn3 mn3 => ?_
      conv => cbv
      refine r_subf m.sX (by omega) (by omega) fun r1 hr1 => ?_
      conv => cbv
      refine r_gtr m.sX (fun h2 => ?_) (fun h2 => ?_) <;> conv => cbv
      · exact hQ _ (congrArg PV.bool (by simp; omega))   -- leaf 2
      · exact hQ _ (congrArg PV.bool (by simp; omega))   -- leaf 3


theorem cPick_ex (code : List Int) (a s n : Int) : ∃ r cs, (∃ q, r = PV.int .i64 q ∧ CurTo code a 2 cs ∧ 0 ≤ q ∧ (1 ≤ n → q < n) ∧ q ≤ 65535) := ⟨_, _, 0, rfl, ⟨a, s, rfl, by omega, by omega⟩, by omega, by omega, by omega⟩
theorem cOne_ex (code : List Int) (a s : Int) : ∃ r cs, (∃ q, r = PV.bool q ∧ CurTo code a 2 cs) := ⟨_, _, false, rfl, ⟨a, s, rfl, by omega, by omega⟩⟩
theorem cAmong_ex (code : List Int) (a s : Int) (xs : List Int) (hx : xs ≠ []) : ∃ r cs, (∃ q, r = PV.int .i64 q ∧ CurTo code a 2 cs ∧ q ∈ xs) := ⟨_, _, xs.head hx, rfl, ⟨a, s, rfl, by omega, by omega⟩, List.head_mem hx⟩
end Go.Proofs.Ytngefbdedbbplaa.Ai
