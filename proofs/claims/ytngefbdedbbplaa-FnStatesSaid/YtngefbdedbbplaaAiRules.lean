/- Rules for proofs of functions: the machine is evaluated by 'cbv' with its questions opaque; each question has a rule. -/
import Derived.Test.YtngefbdedbbplaaAiDraw4
set_option linter.unusedSectionVars false
namespace Go.Proofs.Ytngefbdedbbplaa.Ai
open Go Go.RowKit
set_option linter.unusedVariables false
set_option linter.unusedSimpArgs false

/-- What the opaque parts of a run are. -/
structure Mach (P : Program) (G : Env) (κ : Ctx) (X Y : Req → (PV → Prop) → Prop) (L : Code → (Ex → St → Prop) → St → Prop) : Prop where
  hG : EnvOk P G
  hF : FieldsOk P G
  hm : P.follows .mixedOrders = true
  z : NoZ κ
  X : X = std false P
  Y : Y = std true P
  L : L = W P κ

structure Std (P : Program) (b : Bool) (X : Req → (PV → Prop) → Prop) : Prop where
  eq : X = std b P

section
variable {P : Program} {G : Env} {κ : Ctx} {X Y : Req → (PV → Prop) → Prop} {L : Code → (Ex → St → Prop) → St → Prop} {b : Bool}

theorem Mach.sX (m : Mach P G κ X Y L) : Std P false X := ⟨m.X⟩
theorem Mach.sY (m : Mach P G κ X Y L) : Std P true Y := ⟨m.Y⟩

/-- The body of a function, run by the machine. -/
def runs (X : Req → (PV → Prop) → Prop) (L : Code → (Ex → St → Prop) → St → Prop) (G : Env) (body : Option Code) (rs : List ResultVar) (n : Nat) (args : List PV) (Q : PV → Prop) : Prop :=
  match body with
  | some c => code X L G c (EndsIn (post G rs Q)) (start n args [])
  | none => False

theorem fn_intro (hG : EnvOk P G) (hF : FieldsOk P G) (hm : P.follows .mixedOrders = true) {f : FuncId} {fn : Func} (hf : P.funcs[f]? = some fn) (hn : (fn.name == "runtime.NumGoroutine") = false) {args : List PV} {R : PV → Prop}
    (h : ∀ κ X Y L Q, Mach P G κ X Y L → (∀ r, R r → Q r) → runs X L G fn.body fn.results.toList fn.ntmps args Q) (hb : fn.body.isSome = true := by rfl) : OkA P f args R :=
  OkA_intro hG hF hf hn (fun κ hz => by
    have := h κ _ _ _ R ⟨hG, hF, hm, hz, rfl, rfl, rfl⟩ fun _ x => x
    exact this) hb

/-- The same for a function that hands back structs with own rows in them. -/
def runsO (X : Req → (PV → Prop) → Prop) (L : Code → (Ex → St → Prop) → St → Prop) (G : Env) (body : Option Code) (rs : List ResultVar) (n : Nat) (args : List PV) (Q : PV → Prop) : Prop :=
  match body with
  | some c => code X L G c (EndsIn (postW true G rs Q)) (start n args [])
  | none => False

theorem fn_introO (hG : EnvOk P G) (hF : FieldsOk P G) (hm : P.follows .mixedOrders = true) {f : FuncId} {fn : Func} (hf : P.funcs[f]? = some fn) (hn : (fn.name == "runtime.NumGoroutine") = false) {args : List PV} {R : PV → Prop}
    (h : ∀ κ X Y L Q, Mach P G κ X Y L → (∀ r, R r → Q r) → runsO X L G fn.body fn.results.toList fn.ntmps args Q) (hb : fn.body.isSome = true := by rfl) : OkA P f args R :=
  OkA_introO true hG hF hf hn (fun κ hz => by
    have := h κ _ _ _ R ⟨hG, hF, hm, hz, rfl, rfl, rfl⟩ fun _ x => x
    exact this) hb

def runsM (X : Req → (PV → Prop) → Prop) (L : Code → (Ex → St → Prop) → St → Prop) (G : Env) (body : Option Code) (rs : List ResultVar) (n : Nat) (args : List PV) (h : Heap) (Q : PV → List PV → Prop) : Prop :=
  match body with
  | some c => code X L G c (EndsIn (postM G rs Q)) (start n args h)
  | none => False

variable {k : IntKind} {m n : Int} {K : PV → Prop}

theorem r_add (h : Std P b X) (H : ∀ r, r = k.wrap (m + n) → K (.int k r)) : X (.bin .add k m n) K := by rw [h.eq]; exact H _ rfl
theorem r_sub (h : Std P b X) (H : ∀ r, r = k.wrap (m - n) → K (.int k r)) : X (.bin .sub k m n) K := by rw [h.eq]; exact H _ rfl
theorem r_mul (h : Std P b X) (H : ∀ r, r = k.wrap (m * n) → K (.int k r)) : X (.bin .mul k m n) K := by rw [h.eq]; exact H _ rfl
theorem r_quo (h : Std P b X) (h0 : n ≠ 0) (H : ∀ r, r = k.wrap (m.tdiv n) → K (.int k r)) : X (.bin .quo k m n) K := by rw [h.eq]; exact ⟨h0, H _ rfl⟩
theorem r_rem (h : Std P b X) (h0 : n ≠ 0) (H : ∀ r, r = k.wrap (m.tmod n) → K (.int k r)) : X (.bin .rem k m n) K := by rw [h.eq]; exact ⟨h0, H _ rfl⟩
theorem r_neg (h : Std P b X) (H : ∀ r, r = k.wrap (-m) → K (.int k r)) : X (.neg k m) K := by rw [h.eq]; exact H _ rfl
theorem r_conv (h : Std P b X) (H : ∀ r, r = k.wrap m → K (.int k r)) : X (.conv k m) K := by rw [h.eq]; exact H _ rfl

theorem wrap64 {x : Int} (h1 : -9223372036854775808 ≤ x) (h2 : x ≤ 9223372036854775807) : IntKind.i64.wrap x = x := by
  simp [IntKind.wrap, IntKind.bits, IntKind.signed]; omega

/-- Sums that fit. -/
theorem r_addf (h : Std P b X) (h1 : -9223372036854775808 ≤ m + n) (h2 : m + n ≤ 9223372036854775807) (H : ∀ r, r = m + n → K (.int .i64 r)) : X (.bin .add .i64 m n) K := r_add h fun r e => H r (by rw [e, wrap64 h1 h2])
theorem r_subf (h : Std P b X) (h1 : -9223372036854775808 ≤ m - n) (h2 : m - n ≤ 9223372036854775807) (H : ∀ r, r = m - n → K (.int .i64 r)) : X (.bin .sub .i64 m n) K := r_sub h fun r e => H r (by rw [e, wrap64 h1 h2])
theorem r_mulf (h : Std P b X) (h1 : -9223372036854775808 ≤ m * n) (h2 : m * n ≤ 9223372036854775807) (H : ∀ r, r = m * n → K (.int .i64 r)) : X (.bin .mul .i64 m n) K := r_mul h fun r e => H r (by rw [e, wrap64 h1 h2])

/-- Structs that are compared. -/
theorem r_aeq_same (ks : List PV) {t : Nat} {neq : Bool} {a : List PV} (h : Std P b X) (hk : aeqKinds P t ks = true) (hs : a.map shape = ks) (H : K (.bool (!neq))) : X (.aeq t neq a a) K := by
  rw [h.eq]; exact ⟨⟨ks, hk, hs, hs⟩, fun _ => H, fun e => absurd rfl e⟩
theorem r_aeq (ks : List PV) {t : Nat} {neq : Bool} {a c : List PV} (h : Std P b X) (hk : aeqKinds P t ks = true) (hs : a.map shape = ks) (hs' : c.map shape = ks) (H1 : a = c → K (.bool (!neq))) (H2 : a ≠ c → K (.bool neq)) : X (.aeq t neq a c) K := by
  rw [h.eq]; exact ⟨⟨ks, hk, hs, hs'⟩, H1, H2⟩

/-- Quotient and remainder of numbers of at least 0. -/
theorem r_divf (h : Std P b X) (h1 : 0 ≤ m ∧ m ≤ 9223372036854775807) (h0 : 0 < n) (H : ∀ r, r = m / n → 0 ≤ r ∧ r ≤ m → K (.int .i64 r)) : X (.bin .quo .i64 m n) K := by
  have a1 := Int.ediv_nonneg h1.1 (Int.le_of_lt h0)
  have a2 := Int.ediv_le_self n h1.1
  exact r_quo h (by omega) fun r e => H r (by rw [e, Int.tdiv_eq_ediv_of_nonneg h1.1, wrap64 (by omega) (by omega)]) (by rw [e, Int.tdiv_eq_ediv_of_nonneg h1.1, wrap64 (by omega) (by omega)]; exact ⟨a1, a2⟩)
theorem r_modf (h : Std P b X) (h1 : 0 ≤ m ∧ m ≤ 9223372036854775807) (h0 : 0 < n) (H : ∀ r, r = m % n → 0 ≤ r ∧ r < n ∧ r ≤ m → K (.int .i64 r)) : X (.bin .rem .i64 m n) K := by
  have a1 := Int.emod_nonneg m (show n ≠ 0 by omega)
  have a2 := Int.emod_lt_of_pos m h0
  have a3 : m % n ≤ m := by
    have := Int.emod_add_mul_ediv m n
    have := Int.mul_nonneg (Int.le_of_lt h0) (Int.ediv_nonneg h1.1 (Int.le_of_lt h0))
    omega
  exact r_rem h (by omega) fun r e => H r (by rw [e, Int.tmod_eq_emod_of_nonneg h1.1, wrap64 (by omega) (by omega)]) (by rw [e, Int.tmod_eq_emod_of_nonneg h1.1, wrap64 (by omega) (by omega)]; exact ⟨a1, a2, a3⟩)
theorem mul_bound {a b A B : Int} (h1 : 0 ≤ a) (h2 : a ≤ A) (h3 : 0 ≤ b) (h4 : b ≤ B) : 0 ≤ a * b ∧ a * b ≤ A * B := ⟨Int.mul_nonneg h1 h3, Int.mul_le_mul h2 h4 h3 (by omega)⟩
theorem r_max (h : Std P b X) (H : ∀ r, r = max m n → K (.int k r)) : X (.minmax true k m n) K := by
  rw [h.eq]
  refine H _ ?_
  simp only [if_true]
  split <;> omega
theorem r_min (h : Std P b X) (H : ∀ r, r = min m n → K (.int k r)) : X (.minmax false k m n) K := by
  rw [h.eq]
  refine H _ ?_
  simp only [Bool.false_eq_true, if_false]
  split <;> omega

theorem r_eql (h : Std P b X) (h1 : m = n → K (.bool true)) (h2 : m ≠ n → K (.bool false)) : X (.bin .eql k m n) K := by rw [h.eq]; exact ⟨h1, h2⟩
theorem r_neq (h : Std P b X) (h1 : m ≠ n → K (.bool true)) (h2 : m = n → K (.bool false)) : X (.bin .neq k m n) K := by rw [h.eq]; exact ⟨h1, h2⟩
theorem r_lss (h : Std P b X) (h1 : m < n → K (.bool true)) (h2 : n ≤ m → K (.bool false)) : X (.bin .lss k m n) K := by rw [h.eq]; exact ⟨h1, h2⟩
theorem r_leq (h : Std P b X) (h1 : m ≤ n → K (.bool true)) (h2 : n < m → K (.bool false)) : X (.bin .leq k m n) K := by rw [h.eq]; exact ⟨h1, h2⟩
theorem r_gtr (h : Std P b X) (h1 : n < m → K (.bool true)) (h2 : m ≤ n → K (.bool false)) : X (.bin .gtr k m n) K := by rw [h.eq]; exact ⟨h1, h2⟩
theorem r_geq (h : Std P b X) (h1 : n ≤ m → K (.bool true)) (h2 : m < n → K (.bool false)) : X (.bin .geq k m n) K := by rw [h.eq]; exact ⟨h1, h2⟩

/-- One answer, where the other can't be: no proof under the binder of a large goal. -/
theorem r_neq_same (h : Std P b X) (H : K (.bool false)) : X (.bin .neq k m m) K := r_neq h (fun e => absurd rfl e) fun _ => H
theorem r_eql_same (h : Std P b X) (H : K (.bool true)) : X (.bin .eql k m m) K := r_eql h (fun _ => H) fun e => absurd rfl e
theorem r_neqT (h : Std P b X) (e : m ≠ n) (H : K (.bool true)) : X (.bin .neq k m n) K := r_neq h (fun _ => H) fun e' => absurd e' e
theorem r_neqF (h : Std P b X) (e : m = n) (H : K (.bool false)) : X (.bin .neq k m n) K := r_neq h (fun e' => absurd e e') fun _ => H
theorem r_eqlT (h : Std P b X) (e : m = n) (H : K (.bool true)) : X (.bin .eql k m n) K := r_eql h (fun _ => H) fun e' => absurd e e'
theorem r_eqlF (h : Std P b X) (e : m ≠ n) (H : K (.bool false)) : X (.bin .eql k m n) K := r_eql h (fun e' => absurd e' e) fun _ => H
theorem r_lssT (h : Std P b X) (e : m < n) (H : K (.bool true)) : X (.bin .lss k m n) K := r_lss h (fun _ => H) fun e' => absurd e (by omega)
theorem r_lssF (h : Std P b X) (e : n ≤ m) (H : K (.bool false)) : X (.bin .lss k m n) K := r_lss h (fun e' => absurd e (by omega)) fun _ => H
theorem r_leqT (h : Std P b X) (e : m ≤ n) (H : K (.bool true)) : X (.bin .leq k m n) K := r_leq h (fun _ => H) fun e' => absurd e (by omega)
theorem r_leqF (h : Std P b X) (e : n < m) (H : K (.bool false)) : X (.bin .leq k m n) K := r_leq h (fun e' => absurd e (by omega)) fun _ => H
theorem r_gtrT (h : Std P b X) (e : n < m) (H : K (.bool true)) : X (.bin .gtr k m n) K := r_gtr h (fun _ => H) fun e' => absurd e (by omega)
theorem r_gtrF (h : Std P b X) (e : m ≤ n) (H : K (.bool false)) : X (.bin .gtr k m n) K := r_gtr h (fun e' => absurd e (by omega)) fun _ => H
theorem r_geqT (h : Std P b X) (e : n ≤ m) (H : K (.bool true)) : X (.bin .geq k m n) K := r_geq h (fun _ => H) fun e' => absurd e (by omega)
theorem r_geqF (h : Std P b X) (e : m < n) (H : K (.bool false)) : X (.bin .geq k m n) K := r_geq h (fun e' => absurd e (by omega)) fun _ => H

theorem r_notnil {l : Nat} (h : Std P b X) (hl : 0 < l) (H : K .undef) : X (.notnil l) K := by rw [h.eq]; exact ⟨hl, H⟩
theorem r_len {l : Nat} (h : Std P false X) (H : ∀ r : Int, r = l → r ≤ 9223372036854775807 → K (.int .i64 r)) : X (.len l) K := by
  rw [h.eq]
  intro hl
  refine H _ rfl ?_
  simp only [maxLen] at hl
  omega
theorem r_lenS {l : Nat} (h : Std P true X) (hl : (l : Int) ≤ 9223372036854775807) (H : ∀ r : Int, r = l → K (.int .i64 r)) : X (.len l) K := by
  rw [h.eq]
  refine ⟨?_, H _ rfl⟩
  simp only [maxLen]
  omega

/-- The cells of a list's elements: kept closed to 'cbv'. -/
structure RowsOf where
  fn : (α : Type) → (α → List PV) → List α → List (List PV)
  eq : ∀ α f xs, fn α f xs = xs.map f
theorem rowsEx : Nonempty RowsOf := ⟨⟨fun _ f xs => xs.map f, fun _ _ _ => rfl⟩⟩
noncomputable def rowsC : RowsOf := Classical.choice rowsEx
noncomputable def rows {α : Type} (f : α → List PV) (xs : List α) : List (List PV) := rowsC.fn α f xs

theorem rows_eq {α : Type} (f : α → List PV) (xs : List α) : rows f xs = xs.map f := rowsC.eq α f xs
theorem rows_length {α : Type} (f : α → List PV) (xs : List α) : (rows f xs).length = xs.length := by simp [rows_eq]

section
variable {α : Type} {f : α → List PV} {xs ys : List α} {i j : Int}

theorem r_notnilR (h : Std P b X) (hl : 0 < xs.length) (H : K .undef) : X (.notnil (rows f xs).length) K := r_notnil h (by rw [rows_length]; exact hl) H
theorem r_lenR (h : Std P false X) (H : ∀ r : Int, r = xs.length → r ≤ 9223372036854775807 → K (.int .i64 r)) : X (.len (rows f xs).length) K := r_len h fun r e hr => H r (by rw [e, rows_length]) hr
theorem r_lenRS (h : Std P true X) (hl : (xs.length : Int) ≤ 9223372036854775807) (H : ∀ r : Int, r = xs.length → K (.int .i64 r)) : X (.len (rows f xs).length) K := r_lenS h (by rw [rows_length]; exact hl) fun r e => H r (by rw [e, rows_length])
theorem r_index (h : Std P b X) (h0 : 0 ≤ i) (h1 : i < xs.length) (H : ∀ x, xs[i.toNat]? = some x → K (.iptr (f x))) : X (.index (rows f xs) i) K := by
  rw [h.eq, rows_eq]
  have hlt : i.toNat < xs.length := by omega
  exact ⟨h0, f xs[i.toNat], by simp [hlt], H _ (by simp [hlt])⟩
theorem r_oindex (h : Std P b X) (h0 : 0 ≤ i) (h1 : i < xs.length) (H : K .undef) : X (.oindex (rows f xs).length i) K := by
  rw [h.eq, rows_length]; exact ⟨h0, by omega, H⟩
theorem r_oload {l o n : Nat} {x : α} (h : Std P b X) (hx : xs[l]? = some x) (h1 : o + n ≤ (f x).length) (H : K (.agg (((f x).drop o).take n))) : X (.oload (rows f xs) l o n) K := by
  rw [h.eq, rows_eq]; exact ⟨f x, by simp [hx], h1, H⟩
theorem r_ostore {l o : Nat} {cs : List PV} {x : α} (y : α) (h : Std P b X) (hx : xs[l]? = some x) (h1 : o + cs.length ≤ (f x).length) (h2 : splice (f x) o cs = f y)
    (H : ∀ zs, zs = xs.set l y → K (.isl 0 (rows f zs))) : X (.ostore (rows f xs) l o cs) K := by
  have H := H _ rfl
  rw [rows_eq] at H
  rw [h.eq, rows_eq]; exact ⟨f x, by simp [hx], h1, by rw [h2, ← List.map_set]; exact H⟩
theorem r_append {l : Nat} (h : Std P b X) (h1 : (xs.length + ys.length : Int) * l ≤ 140737488355328) (h2 : (xs.length + ys.length : Int) ≤ 1099511627776) (H : ∀ zs, zs = xs ++ ys → K (.isl 0 (rows f zs))) : X (.append (rows f xs) (rows f ys) l) K := by
  have H := H _ rfl
  rw [h.eq]
  refine ⟨?_, ?_, ?_⟩
  · rw [rows_length, rows_length]
    exact Int.ofNat_le.1 (by rw [Int.natCast_mul, Int.natCast_add]; exact h1)
  · rw [rows_length, rows_length]; simp only [sizeBound]; omega
  · rw [rows_eq, rows_eq, ← List.map_append, ← rows_eq]; exact H
theorem r_append1 {l : Nat} {c : List PV} (y : α) (h : Std P b X) (hy : c = f y) (h1 : (xs.length + 1 : Int) * l ≤ 140737488355328) (h2 : (xs.length : Int) < 1099511627776) (H : ∀ zs, zs = xs ++ [y] → K (.isl 0 (rows f zs))) : X (.append (rows f xs) [c] l) K := by
  have := r_append (f := f) (xs := xs) (ys := [y]) (l := l) (K := K) h (by simp only [List.length_singleton]; exact h1) (by simp only [List.length_singleton]; omega) H
  rwa [hy, ← (show rows f [y] = [f y] from rows_eq f [y])]
theorem r_append0 {l : Nat} {c : List PV} (f : α → List PV) (y : α) (h : Std P b X) (hy : c = f y) (h1 : (1 : Int) * l ≤ 140737488355328) (H : ∀ zs, zs = [y] → K (.isl 0 (rows f zs))) : X (.append [] [c] l) K := by
  have := r_append1 (f := f) (xs := []) (l := l) (K := K) (c := c) y h hy (by simpa using h1) (by simp) fun zs hz => H zs (by simpa using hz)
  rwa [show rows f [] = [] from rows_eq f []] at this
theorem r_append0R {l : Nat} (h : Std P b X) (h1 : (ys.length : Int) * l ≤ 140737488355328) (h2 : (ys.length : Int) ≤ 1099511627776) (H : ∀ zs, zs = ys → K (.isl 0 (rows f zs))) : X (.append [] (rows f ys) l) K := by
  have := r_append (f := f) (xs := []) (ys := ys) (l := l) (K := K) h (by simpa using h1) (by simpa using h2) fun zs hz => H zs (by simpa using hz)
  rwa [show rows f [] = [] from rows_eq f []] at this
theorem r_make {l : Nat} {z : List PV} (f : α → List PV) (x0 : α) (h : Std P b X) (hz : f x0 = z) (h0 : 0 ≤ i) (h1 : i ≤ j) (h2 : (l : Int) * j ≤ 140737488355328) (h3 : j ≤ 1099511627776) (H : ∀ zs, zs = List.replicate i.toNat x0 → K (.isl 0 (rows f zs))) : X (.make l z i j) K := by
  have H := H _ rfl
  rw [h.eq]
  refine ⟨h0, h1, ?_, ?_, ?_⟩
  · have : ((l * j.toNat : Nat) : Int) ≤ 140737488355328 := by rw [Int.natCast_mul, Int.toNat_of_nonneg (by omega)]; exact h2
    omega
  · simp only [sizeBound]; omega
  · rw [rows_eq, List.map_replicate, hz] at H; exact H
theorem r_islice (h : Std P b X) (h0 : 0 ≤ i) (h1 : i ≤ j) (h2 : j ≤ xs.length) (H : ∀ zs, zs = (xs.take j.toNat).drop i.toNat → K (.isl 0 (rows f zs))) : X (.islice (rows f xs) i j) K := by
  have H := H _ rfl
  rw [h.eq]
  refine ⟨h0, h1, by rw [rows_length]; omega, ?_⟩
  rw [rows_eq] at H ⊢
  rw [← List.map_take, ← List.map_drop]; exact H
end

/-- A slice's end that is its length. -/
theorem r_islice' {α : Type} {f : α → List PV} {xs : List α} {i : Int} (h : Std P b X) (h0 : 0 ≤ i) (h1 : i ≤ xs.length) (H : ∀ zs, zs = xs.drop i.toNat → K (.isl 0 (rows f zs))) : X (.islice (rows f xs) i ((rows f xs).length : Nat)) K := by
  have := r_islice (f := f) (xs := xs) (i := i) (j := ((rows f xs).length : Nat)) (K := K) h h0 (by rw [rows_length]; exact h1) (by rw [rows_length]; omega) (by
    rw [rows_length, Int.toNat_natCast, List.take_length]; exact H)
  exact this

/-! ### Strings -/
section
variable {u v : List UInt8} {i j : Int}
theorem r_sidx (h : Std P b X) (h0 : 0 ≤ i) (h1 : i < u.length) (H : ∀ x, u[i.toNat]? = some x → ∀ r : Int, r = x.toNat → 0 ≤ r ∧ r ≤ 255 → K (.int .u8 r)) : X (.sindex u i) K := by
  rw [h.eq]
  have hlt : i.toNat < u.length := by omega
  exact ⟨h0, u[i.toNat], by simp [hlt], H _ (by simp [hlt]) _ rfl (by have := (u[i.toNat]).toNat_lt; omega)⟩
theorem r_sslice (h : Std P b X) (h0 : 0 ≤ i) (h1 : i ≤ j) (h2 : j ≤ u.length) (H : ∀ zs, zs = (u.take j.toNat).drop i.toNat → K (.str zs)) : X (.sslice u i j) K := by
  rw [h.eq]; exact ⟨h0, h1, by omega, H _ rfl⟩
theorem r_sslice' (h : Std P b X) (h0 : 0 ≤ i) (h1 : i ≤ u.length) (H : ∀ zs, zs = u.drop i.toNat → K (.str zs)) : X (.sslice u i (u.length : Nat)) K :=
  r_sslice h h0 h1 (Int.le_refl _) fun zs e => H zs (by rw [e, Int.toNat_natCast, List.take_length])
theorem r_scat (h : Std P b X) (h1 : (u.length : Int) + v.length ≤ 1099511627776) (H : ∀ zs, zs = u ++ v → K (.str zs)) : X (.sbin .add u v) K := by
  rw [h.eq]; exact ⟨by simp only [sizeBound]; omega, H _ rfl⟩
theorem r_seql (h : Std P b X) (h1 : u = v → K (.bool true)) (h2 : u ≠ v → K (.bool false)) : X (.sbin .eql u v) K := by rw [h.eq]; exact ⟨h1, h2⟩
theorem r_sneq (h : Std P b X) (h1 : u ≠ v → K (.bool true)) (h2 : u = v → K (.bool false)) : X (.sbin .neq u v) K := by rw [h.eq]; exact ⟨h1, h2⟩
theorem r_slss (h : Std P b X) (h1 : Op.bytesLess u v = true → K (.bool true)) (h2 : Op.bytesLess u v = false → K (.bool false)) : X (.sbin .lss u v) K := by rw [h.eq]; exact ⟨h1, h2⟩
theorem r_sgeq (h : Std P b X) (h1 : Op.bytesLess u v = false → K (.bool true)) (h2 : Op.bytesLess u v = true → K (.bool false)) : X (.sbin .geq u v) K := by rw [h.eq]; exact ⟨h1, h2⟩
theorem r_slen (h : Std P false X) (H : ∀ r : Int, r = u.length → r ≤ 9223372036854775807 → K (.int .i64 r)) : X (.len u.length) K := r_len h H
theorem r_slenS (h : Std P true X) (hl : (u.length : Int) ≤ 9223372036854775807) (H : ∀ r : Int, r = u.length → K (.int .i64 r)) : X (.len u.length) K := r_lenS h hl H
/-- The next character of a string (below 128), or its end. -/
theorem r_snext {p : Nat} (h : Std P b X) (H0 : ∀ hp : u.length ≤ p, K (.tup [.bool false])) (H1 : ∀ x, u[p]? = some x → x.toNat < 128 ∧ ∀ (i r : Int), i = p → r = x.toNat → K (.tup [.bool true, .int .i64 i, .int .i32 r])) : X (.snext u p) K := by
  rw [h.eq]; exact ⟨H0, fun x hx => ⟨(H1 x hx).1, (H1 x hx).2 _ _ rfl rfl⟩⟩
end

/-- Calls. -/
theorem r_call {f : FuncId} {args : List PV} {v : PV} (h : Std P false X) (hc : OkA P f args (· = v)) (H : K v) : X (.call f false args) K := by
  rw [h.eq]; exact ⟨_, hc, fun e => (by cases e), fun r e => by subst e; exact H⟩
theorem r_callE {f : FuncId} {args : List PV} {R : PV → Prop} (h : Std P false X) (hc : OkA P f args R) (H : ∀ r, R r → K r) : X (.call f false args) K := by
  rw [h.eq]; exact ⟨_, hc, fun e => (by cases e), H⟩
theorem r_callO {f : FuncId} {args : List PV} {v : PV} (h : Std P false X) (hc : Ok P f args (· = v)) (H : K v) : X (.call f true args) K := by
  rw [h.eq]; exact ⟨_, hc, fun e => (by cases e), fun r e => by subst e; exact H⟩
theorem r_callOE {f : FuncId} {args : List PV} {R : PV → Prop} (h : Std P false X) (hc : Ok P f args R) (H : ∀ r, R r → K r) : X (.call f true args) K := by
  rw [h.eq]; exact ⟨_, hc, fun e => (by cases e), H⟩
theorem r_callS {f : FuncId} {args : List PV} {v : PV} (h : Std P true X) (hc : OkA P f args (· = v)) (_ : frOk v) (H : K v) : X (.call f false args) K := by
  rw [h.eq]; exact ⟨_, hc, fun _ => ⟨v, rfl⟩, fun r e => by subst e; exact H⟩
theorem r_callSO {f : FuncId} {args : List PV} {v : PV} (h : Std P true X) (hc : Ok P f args (· = v)) (_ : frOk v) (H : K v) : X (.call f true args) K := by
  rw [h.eq]; exact ⟨_, hc, fun _ => ⟨v, rfl⟩, fun r e => by subst e; exact H⟩
/-- A call whose answer is kept closed. -/
theorem r_callF {β : Type} (mk : β → PV) {v : β} {f : FuncId} {args : List PV} (h : Std P false X) (hc : OkA P f args (· = mk v)) (H : ∀ x, x = v → K (mk x)) : X (.call f false args) K := r_call h hc (H v rfl)
theorem r_callFO {β : Type} (mk : β → PV) {v : β} {f : FuncId} {args : List PV} (h : Std P false X) (hc : Ok P f args (· = mk v)) (H : ∀ x, x = v → K (mk x)) : X (.call f true args) K := r_callO h hc (H v rfl)

theorem r_callFS {β : Type} (mk : β → PV) {v : β} {f : FuncId} {args : List PV} (h : Std P true X) (hc : OkA P f args (· = mk v)) (hn : frOk (mk v)) (H : ∀ x, x = v → K (mk x)) : X (.call f false args) K := r_callS h hc hn (H v rfl)

/-- A call that answers a bool: both answers. -/
theorem r_callB {f : FuncId} {args : List PV} {v : Bool} (h : Std P false X) (hc : OkA P f args (· = .bool v)) (H1 : v = true → K (.bool true)) (H2 : v = false → K (.bool false)) : X (.call f false args) K := by
  refine r_call h hc ?_
  cases v
  · exact H2 rfl
  · exact H1 rfl
theorem r_callBO {f : FuncId} {args : List PV} {v : Bool} (h : Std P false X) (hc : Ok P f args (· = .bool v)) (H1 : v = true → K (.bool true)) (H2 : v = false → K (.bool false)) : X (.call f true args) K := by
  refine r_callO h hc ?_
  cases v
  · exact H2 rfl
  · exact H1 rfl
theorem r_callBS {f : FuncId} {args : List PV} {v : Bool} (h : Std P true X) (hc : OkA P f args (· = .bool v)) (H1 : v = true → K (.bool true)) (H2 : v = false → K (.bool false)) : X (.call f false args) K := by
  refine r_callS h hc trivial ?_
  cases v
  · exact H2 rfl
  · exact H1 rfl
theorem r_pcall {f : FuncId} {args : List PV} {v : PV} (h : Std P false X) (hc : OkA P f args (· = v)) (H : K v) : X (.pcall f args) K := by
  rw [h.eq]; exact ⟨rfl, _, hc, fun r e => by subst e; exact H⟩
theorem r_pcallE {f : FuncId} {args : List PV} {R : PV → Prop} (h : Std P false X) (hc : OkA P f args R) (H : ∀ r, R r → K r) : X (.pcall f args) K := by
  rw [h.eq]; exact ⟨rfl, _, hc, H⟩
theorem r_mcall {f : FuncId} {cs args : List PV} {R : PV → List PV → Prop} (h : Std P false X) (hc : OkM P f cs args R) (H : ∀ r cs', R r cs' → K (.tup [r, .agg cs'])) : X (.mcall f cs args) K := by
  rw [h.eq]; exact ⟨_, hc, fun e => (by cases e), H⟩
theorem r_mcallS {f : FuncId} {cs args : List PV} {R : PV → List PV → Prop} (h : Std P true X) (hc : OkM P f cs args R) (hx : ∃ r cs', R r cs') (_ : ∀ r cs', R r cs' → frOk r) (H : ∀ r cs', R r cs' → K (.tup [r, .agg cs'])) : X (.mcall f cs args) K := by
  rw [h.eq]; exact ⟨_, hc, fun _ => hx, H⟩

theorem fnM_intro (hG : EnvOk P G) (hF : FieldsOk P G) (hm : P.follows .mixedOrders = true) {f : FuncId} {fn : Func} (hf : P.funcs[f]? = some fn) (hn : (fn.name == "runtime.NumGoroutine") = false) {cs args : List PV} {R : PV → List PV → Prop}
    (h : ∀ κ X Y L Q, Mach P G κ X Y L → (∀ r c, R r c → Q r c) → runsM X L G fn.body fn.results.toList fn.ntmps (.optr 1 0 0 0 0 :: args) [(1, 0, .box cs)] Q) (hb : fn.body.isSome = true := by rfl) : OkM P f cs args R :=
  OkM_intro hG hF hf hn (fun κ hz => h κ _ _ _ R ⟨hG, hF, hm, hz, rfl, rfl, rfl⟩ fun _ _ x => x) hb

theorem r_shr {yk : IntKind} (h : Std P b X) (h1 : 0 ≤ n) (h2 : n ≤ k.bits) (H : ∀ r, r = m / 2 ^ n.toNat → K (.int k r)) : X (.shift .shr k m yk n) K := by rw [h.eq]; exact ⟨h1, h2, H _ rfl⟩
theorem r_and (h : Std P b X) (H : ∀ r, r = bits .and k m n → K (.int k r)) : X (.bin .and k m n) K := by rw [h.eq]; exact H _ rfl
theorem r_convf (h : Std P b X) (h1 : -9223372036854775808 ≤ m) (h2 : m ≤ 9223372036854775807) (H : ∀ r, r = m → K (.int .i64 r)) : X (.conv .i64 m) K := r_conv h fun r e => H r (by rw [e, wrap64 h1 h2])

/-- A table of temporaries: what stands in some slots, nothing known of all others. -/
def tabAt : List (Nat × PV) → Nat → PV
  | [], _ => .undef
  | (j, v) :: r, i => if j = i then v else tabAt r i
def tab : Nat → Nat → List (Nat × PV) → List PV
  | 0, _, _ => []
  | n + 1, i, l => tabAt l i :: tab n (i + 1) l
def St.at (n : Nat) (l : List (Nat × PV)) (h : Heap) : St := ⟨tab n 0 l, h⟩

/-- Loops: 'tb' says what stands at the loop's head. -/
theorem r_loop {α : Type} {body : Code} {Q : Ex → St → Prop} {s : St} (h : Mach P G κ X Y L) (nt : Nat) (keep : List Nat) (own : List Hold) (tb : α → List (Nat × PV)) (hp : α → Heap) (I : α → Prop) (ms : α → Nat)
    (a0 : α) (h1 : headOk s own = true) (h2 : Ai.norm keep own s = St.at nt (tb a0) (hp a0)) (h3 : I a0)
    (step : ∀ a, I a → ∀ E : St → Prop, (∀ s' a', headOk s' own = true → Ai.norm keep own s' = St.at nt (tb a') (hp a') → I a' → ms a' < ms a → E s') →
      code X L G body (fun e s' => match e with | .normal => E s' | .exit i => Q (.exit i) s' | .ret => Q .ret s') (St.at nt (tb a) (hp a))) : L (.loop body) Q s := by
  have := h.z
  rw [h.L]
  refine W_loop keep own (fun n s => ∃ a, I a ∧ ms a = n ∧ s = St.at nt (tb a) (hp a)) (ms a0) ⟨h1, a0, h3, rfl, h2⟩ ?_
  rintro n s ⟨a, ha, rfl, rfl⟩
  have hst := step a ha (fun s' => headOk s' own = true ∧ ∃ n', n' < ms a ∧ ∃ a', I a' ∧ ms a' = n' ∧ Ai.norm keep own s' = St.at nt (tb a') (hp a')) fun s' a' e1 e2 e3 e4 => ⟨e1, _, e4, a', e3, rfl, e2⟩
  rw [h.X, h.L] at hst
  refine fun η a' w hs => Go.wp_mono (code_sound h.hG h.hF body _ _ hst η a' w hs) fun e a'' w' hq => ?_
  cases e <;> exact hq

/-- The same, with what stands behind the loop kept closed. -/
theorem r_loopF {α : Type} {body : Code} {Q : Ex → St → Prop} {s : St} (h : Mach P G κ X Y L) (nt : Nat) (keep : List Nat) (own : List Hold) (tb : α → List (Nat × PV)) (hp : α → Heap) (I : α → Prop) (ms : α → Nat)
    (a0 : α) (h1 : headOk s own = true) (h2 : Ai.norm keep own s = St.at nt (tb a0) (hp a0)) (h3 : I a0)
    (step : ∀ a, I a → ∀ E : St → Prop, (∀ s' a', headOk s' own = true → Ai.norm keep own s' = St.at nt (tb a') (hp a') → I a' → ms a' < ms a → E s') → ∀ F : Ex → St → Prop, (∀ e s', Q e s' → F e s') →
      code X L G body (fun e s' => match e with | .normal => E s' | .exit i => F (.exit i) s' | .ret => F .ret s') (St.at nt (tb a) (hp a))) : L (.loop body) Q s :=
  r_loop h nt keep own tb hp I ms a0 h1 h2 h3 fun a ha E hE => step a ha E hE Q fun _ _ x => x

theorem r_draw {id : Nat} {os : Array Oper} {Q : Ex → St → Prop} {s : St} (h : Mach P G κ X Y L) (hB : drawOk G os.toList (tabOf G os.toList s) = true) (H : opsD Y G os.toList (tabOf G os.toList s) 0 os.toList (touch (regKeys G os.toList) s) (Q .normal)) : L (.region id os true) Q s := by
  have := h.z
  rw [h.L]
  rw [h.Y] at H
  exact W_draw h.hG h.hF h.hm (tabOf G os.toList s) hB H
end
end Go.Proofs.Ytngefbdedbbplaa.Ai
