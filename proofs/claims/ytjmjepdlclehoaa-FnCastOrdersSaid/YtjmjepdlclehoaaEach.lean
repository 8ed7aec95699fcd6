/- impl.eachOrder: a closure is called at every order, one after the other. -/
import Derived.Test.YtjmjepdlclehoaaCastLaw
import Derived.Test.YtjmjepdlclehoaaCast2
import Derived.Shelf.Abstract
import Derived.WalkKit
import Derived.BigCall
import Derived.Lib.Hide
import Derived.Laws.AppendOwnNone
namespace Go.Proofs.Ytjmjepdlclehoaa.Ai
open Go Go.Proofs Go.RowKit
set_option linter.unusedSimpArgs false
set_option linter.unusedVariables false

theorem repIs_ints0 {w : World} {I : Nat → Prop} : ∀ {l : List Int} {vs : List Value}, RepIs w I (l.map cInt).flatten vs → vs = l.map (Value.int .i64)
  | [], _, h => by cases h; rfl
  | x :: r, _, h => by
    simp only [List.map_cons, List.flatten_cons, cInt, List.cons_append, List.nil_append] at h
    cases h with
    | cons h1 h2 =>
      cases h1 with
      | int k n hn => rw [List.map_cons, repIs_ints0 h2]
theorem repIs_ints1 {w : World} {I : Nat → Prop} : ∀ {l : List Int}, (∀ x ∈ l, IntKind.i64.wrap x = x) → RepIs w I (l.map cInt).flatten (l.map (Value.int .i64))
  | [], _ => .nil
  | x :: r, h => .cons (.int _ _ (h x (by simp))) (repIs_ints1 fun y hy => h y (by simp [hy]))
section
variable {P : Program} {w : World} {I : Nat → Prop}
theorem calls_bool {f : FuncId} {args : List PV} {b : Bool} (h : OkA P f args (· = .bool b)) {vs : List Value} (hI : InR w I) (ha : All2 (RepArg w I) args vs) :
    Calls P f vs.toArray w fun e w' => e = .returned (.bool b) ∧ Below w.heap.size w w' := by
  refine (h.2 w I vs hI ha).mono ?_
  rintro e w' ⟨v, r, gs, rfl, rfl, hb, -, -, hr⟩
  cases hr with
  | one hr => cases hr with
    | imm hr => cases hr; exact ⟨rfl, hb⟩
theorem calls_int {f : FuncId} {args : List PV} {n : Int} (h : OkA P f args (· = .int .i64 n)) {vs : List Value} (hI : InR w I) (ha : All2 (RepArg w I) args vs) :
    Calls P f vs.toArray w fun e w' => e = .returned (.int .i64 n) ∧ Below w.heap.size w w' := by
  refine (h.2 w I vs hI ha).mono ?_
  rintro e w' ⟨v, r, gs, rfl, rfl, hb, -, -, hr⟩
  cases hr with
  | one hr => cases hr with
    | imm hr => cases hr; exact ⟨rfl, hb⟩
end

/-- From w to w' only the blocks of S have changed, and new ones have come. -/
structure Upd (S : Nat → Prop) (w w' : World) : Prop where
  os : w'.os = w.os
  tape : w'.tape = w.tape
  output : w'.output = w.output
  size : w.heap.size ≤ w'.heap.size
  block : ∀ k, k < w.heap.size → ¬ S k → w'.heap[k]? = w.heap[k]?
theorem Upd.refl (S : Nat → Prop) (w : World) : Upd S w w := ⟨rfl, rfl, rfl, Nat.le_refl _, fun _ _ _ => rfl⟩
theorem Upd.trans {S : Nat → Prop} {a b c : World} (h : Upd S a b) (k : Upd S b c) : Upd S a c :=
  ⟨k.os.trans h.os, k.tape.trans h.tape, k.output.trans h.output, Nat.le_trans h.size k.size, fun i hi hs => (k.block i (Nat.lt_of_lt_of_le hi h.size) hs).trans (h.block i hi hs)⟩
theorem Upd.of {S : Nat → Prop} {w w' : World} (h : Below w.heap.size w w') : Upd S w w' := ⟨h.os, h.tape, h.output, h.size, fun k hk _ => h.block k hk⟩
theorem Upd.below {S : Nat → Prop} {w w' : World} (h : Upd S w w') {B : Nat} (hB : B ≤ w.heap.size) (hS : ∀ k, S k → B ≤ k) : Below B w w' :=
  ⟨h.os, h.tape, h.output, h.size, fun k hk => h.block k (Nat.lt_of_lt_of_le hk hB) fun hs => by have := hS k hs; omega⟩
/-- A row of numbers of one's own. -/
def OwnI (w : World) (B : Nat) (v : Value) (o : List Int) : Prop := w.ownsRow B 3 1 v o.length (o.map (.int .i64))
theorem OwnI.upd {S : Nat → Prop} {w w' : World} {B : Nat} {v : Value} {o : List Int} (h : OwnI w B v o) (hu : Upd S w w') (hS : ∀ k, S k → k < B) : OwnI w' B v o := by
  obtain ⟨h1, h2⟩ := h
  refine ⟨h1, ?_⟩
  rcases h2 with h2 | ⟨g, cap, cur, hv, hg, hh, r⟩
  · exact .inl h2
  · exact .inr ⟨g, cap, cur, hv, hg, by rw [hu.block g (Array.getElem?_eq_some_iff.1 hh).1 fun hs => by have := hS g hs; omega]; exact hh, r⟩
theorem OwnI.below {w w' : World} {B : Nat} {v : Value} {o : List Int} (h : OwnI w B v o) (hu : Below w.heap.size w w') : OwnI w' B v o := h.upd (Upd.of (S := fun _ => False) hu) fun _ h => h.elim
theorem OwnI.low {w : World} {B C : Nat} {v : Value} {o : List Int} (h : OwnI w B v o) (hC : C ≤ B) : OwnI w C v o := by
  obtain ⟨h1, h2⟩ := h
  refine ⟨h1, ?_⟩
  rcases h2 with h2 | ⟨g, cap, cur, hv, hg, r⟩
  · exact .inl h2
  · exact .inr ⟨g, cap, cur, hv, by omega, r⟩
theorem OwnI.rep {w : World} {B : Nat} {v : Value} {o : List Int} (h : OwnI w B v o) (hx : ∀ x ∈ o, IntKind.i64.wrap x = x) : RepI w (fun k => k < w.heap.size) (.isl 1 (rows cInt o)) v := by
  obtain ⟨-, ⟨rfl, hn⟩ | ⟨g, cap, cur, rfl, hb, hg, h1, h2, h3, h4⟩⟩ := h
  · rw [List.length_eq_zero_iff.1 hn, rows_nil]
    exact .isl0 1 none 0 (Nat.zero_le _)
  · have := RepI.isl (w := w) (I := fun k => k < w.heap.size) 1 (o.map cInt) g 0 cap (o.map (.int .i64)) (fun e he => by obtain ⟨y, -, rfl⟩ := List.mem_map.1 he; rfl)
      (repIs_ints1 hx) (Array.getElem?_eq_some_iff.1 hg).1
      (fun j y hy => by
        rw [Nat.mul_one] at h4
        rw [← h4, List.getElem?_take] at hy
        split at hy
        · rw [Nat.zero_add]
          simp only [World.cell?, hg, Option.bind_some]
          rw [← Array.getElem?_toList]
          simpa using hy
        · cases hy) (by rw [List.length_map]; exact h1) h2
    rw [List.length_map] at this
    rw [rows_eq]; exact this
theorem inr_all (w : World) : InR w (fun k => k < w.heap.size) := ⟨fun _ h => h, 0, Nat.zero_le _, Good.triv _ _⟩

/-- The state behind the first j numbers of a round. -/
def eachF {α : Type} (step : α → List Int → α) (n k : Nat) (o : List Int) (a : α) (j : Nat) : α := (List.range j).foldl (fun b (i : Nat) => if (i : Int) ∈ o then b else (ordersF n k (o ++ [(i : Int)])).foldl step b) a
theorem each_next {α : Type} (step : α → List Int → α) (n k : Nat) (o : List Int) (a : α) (j : Nat) : eachF step n k o a (j + 1) = if (j : Int) ∈ o then eachF step n k o a j else (ordersF n k (o ++ [(j : Int)])).foldl step (eachF step n k o a j) := by
  unfold eachF
  rw [List.range_succ, List.foldl_append]; rfl
theorem each_all {α : Type} (step : α → List Int → α) (n k : Nat) (o : List Int) (a : α) : eachF step n k o (step a o) n = (ordersF n (k + 1) o).foldl step a := by
  rw [ordersF, List.foldl_cons, List.foldl_flatMap]
  unfold eachF
  congr 1
  funext b i
  split <;> rfl
theorem diff_snoc {n : Nat} {o : List Int} (h : Diff n o) {j : Nat} (hj : j < n) (hn : (j : Int) ∉ o) : Diff n (o ++ [(j : Int)]) := by
  refine ⟨?_, fun x hx => ?_⟩
  · rw [List.nodup_append]
    exact ⟨h.1, by simp, fun a ha b hb e => by simp at hb; subst hb; exact hn (e ▸ ha)⟩
  · rcases List.mem_append.1 hx with hx | hx
    · exact h.2 x hx
    · simp at hx; subst hx; omega
theorem diff_full {n : Nat} {o : List Int} (h : Diff n o) (hl : o.length = n) {j : Nat} (hj : j < n) : (j : Int) ∈ o := by
  by_cases hn : (j : Int) ∈ o
  · exact hn
  · have := diff_len _ _ (diff_snoc h hj hn)
    simp only [List.length_append, List.length_cons, List.length_nil] at this
    omega

theorem OwnI.cells {w : World} {B g n cap : Nat} {o : List Int} (h : OwnI w B (.slice (some ⟨g, 0, none⟩) n cap) o) : ∀ j u, (o.map (Value.int .i64))[j]? = some u → w.cell? ((⟨g, 0, none⟩ : Addr).add j) = some u := by
  intro j u hu
  obtain ⟨-, ⟨h0, -⟩ | ⟨g2, cap2, cur, h0, hb, hg, h1, h2, h3, h4⟩⟩ := h
  · cases h0
  · cases h0
    rw [Nat.mul_one] at h4
    rw [← h4, List.getElem?_take] at hu
    split at hu
    · rw [Addr.add_lit, Nat.zero_add]
      simp only [World.cell?, hg, Option.bind_some]
      rw [← Array.getElem?_toList]
      simpa using hu
    · cases hu
theorem OwnI.of_row {w : World} {B m : Nat} {v : Value} {p : List Int} {xs : List Value} (h : w.ownsRow B 3 1 v m xs) (hm : m = p.length) (hx : xs = p.map (.int .i64)) : OwnI w B v p := by
  subst hm; subst hx; exact h
theorem own_next {w : World} {B C : Nat} {v : Value} {o : List Int} {j : Int} (h : w.ownsRow C 3 1 v (o.length + 1) (o.map (.int .i64) ++ [.int .i64 j])) (hC : B ≤ C) : OwnI w B v (o ++ [j]) :=
  (OwnI.of_row h (by simp) (by simp)).low hC
theorem own_next2 {w : World} {B C : Nat} {v : Value} {o : List Int} {j : Int} (h : w.ownsRow C 3 1 v (0 + o.length + 1) ([] ++ o.map (.int .i64) ++ [.int .i64 j])) (hC : B ≤ C) : OwnI w B v (o ++ [j]) :=
  (OwnI.of_row h (by simp) (by simp)).low hC
theorem ints_one (l : List Int) : ∀ u ∈ l.map (Value.int .i64), u.oneCell' = true := by
  intro u hu; obtain ⟨x, -, rfl⟩ := List.mem_map.1 hu; rfl
theorem new_cell (w : World) (n : Int) : ∀ j u, ([Value.int .i64 n] : List Value)[j]? = some u → (w.alloc (.cells #[.int .i64 n] 3)).cell? ((⟨w.heap.size, 0, none⟩ : Addr).add j) = some u := by
  intro j u hj
  match j, hj with
  | 0, hj => simp at hj; subst hj; simp [Addr.add]
theorem new_one (n : Int) : ∀ u ∈ ([Value.int .i64 n] : List Value), u.oneCell' = true := by
  intro u hu; simp at hu; subst hu; rfl

set_option maxHeartbeats 4000000 in
set_option maxRecDepth 1000000 in
theorem each_body {α : Type} (n : Nat) (hn : n ≤ 100) (f : FuncId) (hen : ∀ (args : Array Value) (w : World), (callFunc f args).run Try.prog w = .ok (.enter f args) w) (cap : Array Value) (B : Nat) (S : Nat → Prop) (Inv : World → α → Prop)
    (hS : ∀ k, S k → k < B) (hnew : ∀ w w' a, Inv w a → Below w.heap.size w w' → Inv w' a)
    (o : List Int) (hd : Diff n o) (w : World) (v : Value) (hB : B ≤ w.heap.size) (hv : OwnI w B v o) (F : Nat → α)
    (hf : Calls Try.prog f (#[v] ++ cap) w fun e w' => e = .returned (.tuple #[]) ∧ Inv w' (F 0) ∧ Upd S w w')
    (hin : ∀ j, j < n → (j : Int) ∈ o → F (j + 1) = F j)
    (hout : ∀ j, j < n → (j : Int) ∉ o → ∀ (wr : World) (u : Value), Inv wr (F j) → B ≤ wr.heap.size → OwnI wr B u (o ++ [(j : Int)]) →
      Calls Try.prog 75 #[.int .i64 (n : Int), u, .func (.func f) #[] cap] wr fun e w' => e = .returned (.tuple #[]) ∧ Inv w' (F (j + 1)) ∧ Upd S wr w') :
      Calls Try.prog 75 #[.int .i64 (n : Int), v, .func (.func f) #[] cap] w fun e w' => e = .returned (.tuple #[]) ∧ Inv w' (F n) ∧ Upd S w w' := by
  obtain ⟨i0, z0, hi, hz0, -, hz1, hz2, hz3, -⟩ := run_zeroValue (envOk 3 _ rfl)
  replace hz1 : i0.size = 1 := hz1
  replace hz2 : i0.bytes = 8 := hz2
  replace hz3 : z0.cells.size = 1 := hz3
  have hx : ∀ x ∈ o, IntKind.i64.wrap x = x := fun x h => by have := hd.2 x h; exact wrap64 (by omega) (by omega)
  have hlen := diff_len n o hd
  go_enter Try.func75, Try.ntmps75
  go_wp2_with (go_at_fn f; refine hf.mono ?_; rintro e w1 ⟨rfl, hi1, hu1⟩; refine Hid.out ?_)
  refine Lib.hid ?_
  go_wp2
  go_loopw [6] (fun i wr => ∃ j : Nat, j ≤ n ∧ i = .int .i64 (j : Int) ∧ Inv wr (F j) ∧ Upd S w wr) (fun i _ => n - (intOf i).toNat)
  case atStart => exact ⟨0, Nat.zero_le _, rfl, hi1, hu1⟩
  case round =>
    obtain ⟨j, hj, rfl, hi2, hu2⟩ := hrel
    have hv2 := hv.upd hu2 hS
    have A1 : Calls Try.prog 136 #[v, .int .i64 (j : Int)] wr _ := calls_bool (hasNumber_ok o (j : Int)) (inr_all wr) (All2.cons (.one (hv2.rep hx)) (All2.cons (.one (.int _ _ (wrap64 (by omega) (by omega)))) .nil))
    by_cases hjo : (j : Int) ∈ o
    · rw [decide_eq_true hjo] at A1
      go_wp2_with (go_at_call 136; refine A1.mono ?_; rintro e w3 ⟨rfl, b3⟩; refine Hid.out ?_)
      · refine Lib.hid ?_
        go_wp2
        have hjn : j < n := by assumption
        refine ⟨⟨j + 1, hjn, by simp, ?_, hu2.trans (Upd.of b3)⟩, ?_⟩
        · rw [hin j hjn hjo]; exact hnew _ _ _ hi2 b3
        · simp only [intOf]; omega
      · have e : j = n := by omega
        subst e
        go_end0
        exact ⟨rfl, hi2, hu2⟩
    · rw [decide_eq_false hjo] at A1
      have hv2' := hv2
      obtain ⟨-, ⟨rfl, hn0⟩ | ⟨g, vc, cur, rfl, hgB, hgw, hlc, hcm, hcs, htk⟩⟩ := hv2'
      · go_wp2_with (go_at_call 136; refine A1.mono ?_; rintro e w3 ⟨rfl, b3⟩; refine Hid.out ?_)
        · refine Lib.hid ?_
          have hjn : j < n := by assumption
          have ho : o = [] := List.length_eq_zero_iff.1 hn0
          subst ho
          have k3 : 0 + 1 ≤ maxLen := by unfold maxLen; omega
          have k4 : (0 + 1) * 8 ≤ 140737488355328 := by omega
          have k5 : B ≤ w3.heap.size := Nat.le_trans hB (Nat.le_trans hu2.size b3.size)
          have h4 := World.ownsRow_made (e := 3) (size := 1) w3 #[] 0 (Nat.le_refl _) (Nat.zero_le _) rfl
          have b4 : Below w3.heap.size w3 (w3.alloc (.cells #[] 3)) := (Below.refl _ _).alloc (Nat.le_refl _) _
          go_wp2_with (first
            | (at_builtin; refine wpList_append_own_none rfl _ _ 29 rfl w3.heap.size 3 i0 1 Try.underlying29 hi _ 0 [] rfl h4 rfl ?_; generalize Value.slice (some ⟨w3.heap.size, 0, none⟩) 0 0 = v4 at h4 ⊢; generalize w3.alloc (.cells #[] 3) = w4 at h4 b4 ⊢)
            | (at_builtin; have b5 := b4.alloc b4.size (.cells #[.int .i64 (j : Int)] 3); refine wpList_append_own _ rfl _ _ 29 rfl w3.heap.size 3 i0 z0 1 8 Try.underlying29 hi hz0 hz1 hz2 hz3 (by decide) _ 0 [] rfl (h4.alloc _) ⟨_, 0, none⟩ 1 1 [.int .i64 (j : Int)] rfl rfl (new_cell _ _) (new_one _) k3 k4 b5.size ?_; intro v6 w6 h6 g6 _; have b6 := b5.grown g6 b5.size (fun k hk => (h4.lt k hk).1); have b7 := b3.trans (b6.mono b3.size); have o6 := own_next (o := []) h6 k5)
            | (go_at_call 75; refine (hout j hjn hjo _ _ (hnew _ _ _ hi2 b7) (Nat.le_trans hB (Nat.le_trans hu2.size b7.size)) o6).mono ?_; rintro e w7 ⟨rfl, hi7, hu7⟩; refine Hid.out ?_))
          refine Lib.hid ?_
          go_wp2
          refine ⟨⟨j + 1, hjn, by simp, hi7, hu2.trans ((Upd.of b7).trans hu7)⟩, ?_⟩
          simp only [intOf]; omega
        · have e : j = n := by omega
          subst e
          go_end0
          exact ⟨rfl, hi2, hu2⟩
      · go_wp2_with (go_at_call 136; refine A1.mono ?_; rintro e w3 ⟨rfl, b3⟩; refine Hid.out ?_)
        · refine Lib.hid ?_
          have hjn : j < n := by assumption
          have k3 : 0 + o.length ≤ maxLen := by unfold maxLen; omega
          have k4 : (0 + o.length) * 8 ≤ 140737488355328 := by omega
          have k8 : 0 + o.length + 1 ≤ maxLen := by unfold maxLen; omega
          have k9 : (0 + o.length + 1) * 8 ≤ 140737488355328 := by omega
          have k5 : B ≤ w3.heap.size := Nat.le_trans hB (Nat.le_trans hu2.size b3.size)
          have b0 : Below w3.heap.size w3 (w3.alloc (.cells #[] 3)) := (Below.refl _ _).alloc (Nat.le_refl _) _
          have k6 : (o.map (Value.int .i64)).length = o.length * 1 := by simp
          have k7 := ((hv2.below b3).below b0).cells
          have h0 := World.ownsRow_made (e := 3) (size := 1) w3 #[] 0 (Nat.le_refl _) (Nat.zero_le _) rfl
          go_wp2_with (first
            | (at_builtin; refine wpList_append_own _ rfl _ _ 29 rfl w3.heap.size 3 i0 z0 1 8 Try.underlying29 hi hz0 hz1 hz2 hz3 (by decide) _ 0 [] rfl h0 ⟨g, 0, none⟩ o.length vc (o.map (.int .i64)) rfl k6 k7 (ints_one _) k3 k4 b0.size ?_; intro v4 w4 h4 g4 _; have b4 := b0.grown g4 b0.size (fun k hk => (h0.lt k hk).1))
            | (at_builtin; have b5 := b4.alloc b4.size (.cells #[.int .i64 (j : Int)] 3); refine wpList_append_own _ rfl _ _ 29 rfl w3.heap.size 3 i0 z0 1 8 Try.underlying29 hi hz0 hz1 hz2 hz3 (by decide) _ (0 + o.length) ([] ++ o.map (.int .i64)) rfl (h4.alloc _) ⟨_, 0, none⟩ 1 1 [.int .i64 (j : Int)] rfl rfl (new_cell _ _) (new_one _) k8 k9 b5.size ?_; intro v6 w6 h6 g6 _; have b6 := b5.grown g6 b5.size (fun k hk => (h4.lt k hk).1); have b7 := b3.trans (b6.mono b3.size); have o6 := own_next2 h6 k5)
            | (go_at_call 75; refine (hout j hjn hjo _ _ (hnew _ _ _ hi2 b7) (Nat.le_trans hB (Nat.le_trans hu2.size b7.size)) o6).mono ?_; rintro e w7 ⟨rfl, hi7, hu7⟩; refine Hid.out ?_))
          refine Lib.hid ?_
          go_wp2
          refine ⟨⟨j + 1, hjn, by simp, hi7, hu2.trans ((Upd.of b7).trans hu7)⟩, ?_⟩
          simp only [intOf]; omega
        · have e : j = n := by omega
          subst e
          go_end0
          exact ⟨rfl, hi2, hu2⟩

/-- eachOrder carries a state along all orders. -/
theorem each_walk {α : Type} (n : Nat) (hn : n ≤ 100) (f : FuncId) (hen : ∀ (args : Array Value) (w : World), (callFunc f args).run Try.prog w = .ok (.enter f args) w) (cap : Array Value) (B : Nat) (S : Nat → Prop) (Inv : World → α → Prop) (step : α → List Int → α)
    (hS : ∀ k, S k → k < B) (hnew : ∀ w w' a, Inv w a → Below w.heap.size w w' → Inv w' a)
    (hf : ∀ (w : World) (a : α) (o : List Int) (v : Value), Inv w a → B ≤ w.heap.size → OwnI w B v o → Diff n o → Calls Try.prog f (#[v] ++ cap) w fun e w' => e = .returned (.tuple #[]) ∧ Inv w' (step a o) ∧ Upd S w w') :
    ∀ (k : Nat) (o : List Int) (a : α) (w : World) (v : Value), o.length + k = n → Diff n o → Inv w a → B ≤ w.heap.size → OwnI w B v o →
      Calls Try.prog 75 #[.int .i64 (n : Int), v, .func (.func f) #[] cap] w fun e w' => e = .returned (.tuple #[]) ∧ Inv w' ((ordersF n k o).foldl step a) ∧ Upd S w w' := by
  intro k
  induction k with
  | zero =>
    intro o a w v hk hd hi hB hv
    have := each_body n hn f hen cap B S Inv hS hnew o hd w v hB hv (fun _ => step a o) (hf w a o v hi hB hv hd) (fun j hj hjo => rfl) (fun j hj hjo => absurd (diff_full hd (by omega) hj) hjo)
    rw [ordersF]; exact this
  | succ k ih =>
    intro o a w v hk hd hi hB hv
    have := each_body n hn f hen cap B S Inv hS hnew o hd w v hB hv (eachF step n k o (step a o)) (hf w a o v hi hB hv hd) (fun j hj hjo => by rw [each_next, if_pos hjo])
      (fun j hj hjo wr u hi2 hB2 hu => by rw [each_next, if_neg hjo]; exact ih _ _ _ _ (by simp only [List.length_append, List.length_cons, List.length_nil]; omega) (diff_snoc hd hj hjo) hi2 hB2 hu)
    rw [each_all] at this; exact this
end Go.Proofs.Ytjmjepdlclehoaa.Ai
