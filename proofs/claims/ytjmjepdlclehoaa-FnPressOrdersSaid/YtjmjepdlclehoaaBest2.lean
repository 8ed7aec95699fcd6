/- impl.eachOrder: a closure is called at every order, one after the other. -/
import Derived.Test.YtjmjepdlclehoaaCastLaw
import Derived.Test.YtjmjepdlclehoaaCast2
import Derived.Shelf.Abstract
import Derived.WalkKit
import Derived.BigCall
import Derived.Lib.Hide
import Derived.Laws.AppendOwnNone
import Derived.Deep.RegionWith
import Derived.Deep.DeepMust
import Derived.Test.YtjmjepdlclehoaaCast3
namespace Go.Proofs.Ytjmjepdlclehoaa.Ai
open Go Go.Proofs Go.RowKit
set_option linter.unusedSimpArgs false
set_option linter.unusedVariables false

theorem repIs_ints0 {w : World} {I : Nat → Prop} : ∀ {l : List Int} {vs : List Value}, RepIs w I (l.map cInt).flatten vs → vs = l.map (Value.int .i64)
  | [], _, h => by cases h; rfl
  | x :: r, _, h => by
    simp only [List.map_cons, List.flatten_cons, cInt, List.cons_append, List.nil_append] at h
    cases h with
    | cons h1 h2 =>
      cases h1 with
      | int k n hn => rw [List.map_cons, repIs_ints0 h2]
theorem repIs_ints1 {w : World} {I : Nat → Prop} : ∀ {l : List Int}, (∀ x ∈ l, IntKind.i64.wrap x = x) → RepIs w I (l.map cInt).flatten (l.map (Value.int .i64))
  | [], _ => .nil
  | x :: r, h => .cons (.int _ _ (h x (by simp))) (repIs_ints1 fun y hy => h y (by simp [hy]))
section
variable {P : Program} {w : World} {I : Nat → Prop}
theorem calls_bool {f : FuncId} {args : List PV} {b : Bool} (h : OkA P f args (· = .bool b)) {vs : List Value} (hI : InR w I) (ha : All2 (RepArg w I) args vs) :
    Calls P f vs.toArray w fun e w' => e = .returned (.bool b) ∧ Below w.heap.size w w' := by
  refine (h.2 w I vs hI ha).mono ?_
  rintro e w' ⟨v, r, gs, rfl, rfl, hb, -, -, hr⟩
  cases hr with
  | one hr => cases hr with
    | imm hr => cases hr; exact ⟨rfl, hb⟩
theorem calls_int {f : FuncId} {args : List PV} {n : Int} (h : OkA P f args (· = .int .i64 n)) {vs : List Value} (hI : InR w I) (ha : All2 (RepArg w I) args vs) :
    Calls P f vs.toArray w fun e w' => e = .returned (.int .i64 n) ∧ Below w.heap.size w w' := by
  refine (h.2 w I vs hI ha).mono ?_
  rintro e w' ⟨v, r, gs, rfl, rfl, hb, -, -, hr⟩
  cases hr with
  | one hr => cases hr with
    | imm hr => cases hr; exact ⟨rfl, hb⟩
end

/-- From w to w' only the blocks of S have changed, and new ones have come. -/
structure Upd (S : Nat → Prop) (w w' : World) : Prop where
  os : w'.os = w.os
  tape : w'.tape = w.tape
  output : w'.output = w.output
  size : w.heap.size ≤ w'.heap.size
  block : ∀ k, k < w.heap.size → ¬ S k → w'.heap[k]? = w.heap[k]?
theorem Upd.refl (S : Nat → Prop) (w : World) : Upd S w w := ⟨rfl, rfl, rfl, Nat.le_refl _, fun _ _ _ => rfl⟩
theorem Upd.trans {S : Nat → Prop} {a b c : World} (h : Upd S a b) (k : Upd S b c) : Upd S a c :=
  ⟨k.os.trans h.os, k.tape.trans h.tape, k.output.trans h.output, Nat.le_trans h.size k.size, fun i hi hs => (k.block i (Nat.lt_of_lt_of_le hi h.size) hs).trans (h.block i hi hs)⟩
theorem Upd.of {S : Nat → Prop} {w w' : World} (h : Below w.heap.size w w') : Upd S w w' := ⟨h.os, h.tape, h.output, h.size, fun k hk _ => h.block k hk⟩
theorem Upd.below {S : Nat → Prop} {w w' : World} (h : Upd S w w') {B : Nat} (hB : B ≤ w.heap.size) (hS : ∀ k, S k → B ≤ k) : Below B w w' :=
  ⟨h.os, h.tape, h.output, h.size, fun k hk => h.block k (Nat.lt_of_lt_of_le hk hB) fun hs => by have := hS k hs; omega⟩
/-- A row of numbers of one's own. -/
def OwnI (w : World) (B : Nat) (v : Value) (o : List Int) : Prop := w.ownsRow B 3 1 v o.length (o.map (.int .i64))
theorem OwnI.upd {S : Nat → Prop} {w w' : World} {B : Nat} {v : Value} {o : List Int} (h : OwnI w B v o) (hu : Upd S w w') (hS : ∀ k, S k → k < B) : OwnI w' B v o := by
  obtain ⟨h1, h2⟩ := h
  refine ⟨h1, ?_⟩
  rcases h2 with h2 | ⟨g, cap, cur, hv, hg, hh, r⟩
  · exact .inl h2
  · exact .inr ⟨g, cap, cur, hv, hg, by rw [hu.block g (Array.getElem?_eq_some_iff.1 hh).1 fun hs => by have := hS g hs; omega]; exact hh, r⟩
theorem OwnI.below {w w' : World} {B : Nat} {v : Value} {o : List Int} (h : OwnI w B v o) (hu : Below w.heap.size w w') : OwnI w' B v o := h.upd (Upd.of (S := fun _ => False) hu) fun _ h => h.elim
theorem OwnI.low {w : World} {B C : Nat} {v : Value} {o : List Int} (h : OwnI w B v o) (hC : C ≤ B) : OwnI w C v o := by
  obtain ⟨h1, h2⟩ := h
  refine ⟨h1, ?_⟩
  rcases h2 with h2 | ⟨g, cap, cur, hv, hg, r⟩
  · exact .inl h2
  · exact .inr ⟨g, cap, cur, hv, by omega, r⟩
theorem OwnI.rep {w : World} {B : Nat} {v : Value} {o : List Int} (h : OwnI w B v o) (hx : ∀ x ∈ o, IntKind.i64.wrap x = x) : RepI w (fun k => k < w.heap.size) (.isl 1 (rows cInt o)) v := by
  obtain ⟨-, ⟨rfl, hn⟩ | ⟨g, cap, cur, rfl, hb, hg, h1, h2, h3, h4⟩⟩ := h
  · rw [List.length_eq_zero_iff.1 hn, rows_nil]
    exact .isl0 1 none 0 (Nat.zero_le _)
  · have := RepI.isl (w := w) (I := fun k => k < w.heap.size) 1 (o.map cInt) g 0 cap (o.map (.int .i64)) (fun e he => by obtain ⟨y, -, rfl⟩ := List.mem_map.1 he; rfl)
      (repIs_ints1 hx) (Array.getElem?_eq_some_iff.1 hg).1
      (fun j y hy => by
        rw [Nat.mul_one] at h4
        rw [← h4, List.getElem?_take] at hy
        split at hy
        · rw [Nat.zero_add]
          simp only [World.cell?, hg, Option.bind_some]
          rw [← Array.getElem?_toList]
          simpa using hy
        · cases hy) (by rw [List.length_map]; exact h1) h2
    rw [List.length_map] at this
    rw [rows_eq]; exact this
theorem inr_all (w : World) : InR w (fun k => k < w.heap.size) := ⟨fun _ h => h, 0, Nat.zero_le _, Good.triv _ _⟩

/-- The state behind the first j numbers of a round. -/
def eachF {α : Type} (step : α → List Int → α) (n k : Nat) (o : List Int) (a : α) (j : Nat) : α := (List.range j).foldl (fun b (i : Nat) => if (i : Int) ∈ o then b else (ordersF n k (o ++ [(i : Int)])).foldl step b) a
theorem each_next {α : Type} (step : α → List Int → α) (n k : Nat) (o : List Int) (a : α) (j : Nat) : eachF step n k o a (j + 1) = if (j : Int) ∈ o then eachF step n k o a j else (ordersF n k (o ++ [(j : Int)])).foldl step (eachF step n k o a j) := by
  unfold eachF
  rw [List.range_succ, List.foldl_append]; rfl
theorem each_all {α : Type} (step : α → List Int → α) (n k : Nat) (o : List Int) (a : α) : eachF step n k o (step a o) n = (ordersF n (k + 1) o).foldl step a := by
  rw [ordersF, List.foldl_cons, List.foldl_flatMap]
  unfold eachF
  congr 1
  funext b i
  split <;> rfl
theorem diff_snoc {n : Nat} {o : List Int} (h : Diff n o) {j : Nat} (hj : j < n) (hn : (j : Int) ∉ o) : Diff n (o ++ [(j : Int)]) := by
  refine ⟨?_, fun x hx => ?_⟩
  · rw [List.nodup_append]
    exact ⟨h.1, by simp, fun a ha b hb e => by simp at hb; subst hb; exact hn (e ▸ ha)⟩
  · rcases List.mem_append.1 hx with hx | hx
    · exact h.2 x hx
    · simp at hx; subst hx; omega
theorem diff_full {n : Nat} {o : List Int} (h : Diff n o) (hl : o.length = n) {j : Nat} (hj : j < n) : (j : Int) ∈ o := by
  by_cases hn : (j : Int) ∈ o
  · exact hn
  · have := diff_len _ _ (diff_snoc h hj hn)
    simp only [List.length_append, List.length_cons, List.length_nil] at this
    omega

theorem OwnI.cells {w : World} {B g n cap : Nat} {o : List Int} (h : OwnI w B (.slice (some ⟨g, 0, none⟩) n cap) o) : ∀ j u, (o.map (Value.int .i64))[j]? = some u → w.cell? ((⟨g, 0, none⟩ : Addr).add j) = some u := by
  intro j u hu
  obtain ⟨-, ⟨h0, -⟩ | ⟨g2, cap2, cur, h0, hb, hg, h1, h2, h3, h4⟩⟩ := h
  · cases h0
  · cases h0
    rw [Nat.mul_one] at h4
    rw [← h4, List.getElem?_take] at hu
    split at hu
    · rw [Addr.add_lit, Nat.zero_add]
      simp only [World.cell?, hg, Option.bind_some]
      rw [← Array.getElem?_toList]
      simpa using hu
    · cases hu
theorem OwnI.of_row {w : World} {B m : Nat} {v : Value} {p : List Int} {xs : List Value} (h : w.ownsRow B 3 1 v m xs) (hm : m = p.length) (hx : xs = p.map (.int .i64)) : OwnI w B v p := by
  subst hm; subst hx; exact h
theorem own_next {w : World} {B C : Nat} {v : Value} {o : List Int} {j : Int} (h : w.ownsRow C 3 1 v (o.length + 1) (o.map (.int .i64) ++ [.int .i64 j])) (hC : B ≤ C) : OwnI w B v (o ++ [j]) :=
  (OwnI.of_row h (by simp) (by simp)).low hC
theorem own_next2 {w : World} {B C : Nat} {v : Value} {o : List Int} {j : Int} (h : w.ownsRow C 3 1 v (0 + o.length + 1) ([] ++ o.map (.int .i64) ++ [.int .i64 j])) (hC : B ≤ C) : OwnI w B v (o ++ [j]) :=
  (OwnI.of_row h (by simp) (by simp)).low hC
theorem ints_one (l : List Int) : ∀ u ∈ l.map (Value.int .i64), u.oneCell' = true := by
  intro u hu; obtain ⟨x, -, rfl⟩ := List.mem_map.1 hu; rfl
theorem new_cell (w : World) (n : Int) : ∀ j u, ([Value.int .i64 n] : List Value)[j]? = some u → (w.alloc (.cells #[.int .i64 n] 3)).cell? ((⟨w.heap.size, 0, none⟩ : Addr).add j) = some u := by
  intro j u hj
  match j, hj with
  | 0, hj => simp at hj; subst hj; simp [Addr.add]
theorem new_one (n : Int) : ∀ u ∈ ([Value.int .i64 n] : List Value), u.oneCell' = true := by
  intro u hu; simp at hu; subst hu; rfl

set_option maxHeartbeats 4000000 in
set_option maxRecDepth 1000000 in
theorem each_body {α : Type} (n : Nat) (hn : n ≤ 100) (f : FuncId) (hen : ∀ (args : Array Value) (w : World), (callFunc f args).run Try.prog w = .ok (.enter f args) w) (cap : Array Value) (B : Nat) (S : Nat → Prop) (Inv : World → α → Prop)
    (hS : ∀ k, S k → k < B) (hnew : ∀ w w' a, Inv w a → Below w.heap.size w w' → Inv w' a)
    (o : List Int) (hd : Diff n o) (w : World) (v : Value) (hB : B ≤ w.heap.size) (hv : OwnI w B v o) (F : Nat → α)
    (hf : Calls Try.prog f (#[v] ++ cap) w fun e w' => e = .returned (.tuple #[]) ∧ Inv w' (F 0) ∧ Upd S w w')
    (hin : ∀ j, j < n → (j : Int) ∈ o → F (j + 1) = F j)
    (hout : ∀ j, j < n → (j : Int) ∉ o → ∀ (wr : World) (u : Value), Inv wr (F j) → B ≤ wr.heap.size → OwnI wr B u (o ++ [(j : Int)]) →
      Calls Try.prog 75 #[.int .i64 (n : Int), u, .func (.func f) #[] cap] wr fun e w' => e = .returned (.tuple #[]) ∧ Inv w' (F (j + 1)) ∧ Upd S wr w') :
      Calls Try.prog 75 #[.int .i64 (n : Int), v, .func (.func f) #[] cap] w fun e w' => e = .returned (.tuple #[]) ∧ Inv w' (F n) ∧ Upd S w w' := by
  obtain ⟨i0, z0, hi, hz0, -, hz1, hz2, hz3, -⟩ := run_zeroValue (envOk 3 _ rfl)
  replace hz1 : i0.size = 1 := hz1
  replace hz2 : i0.bytes = 8 := hz2
  replace hz3 : z0.cells.size = 1 := hz3
  have hx : ∀ x ∈ o, IntKind.i64.wrap x = x := fun x h => by have := hd.2 x h; exact wrap64 (by omega) (by omega)
  have hlen := diff_len n o hd
  go_enter Try.func75, Try.ntmps75
  go_wp2_with (go_at_fn f; refine hf.mono ?_; rintro e w1 ⟨rfl, hi1, hu1⟩; refine Hid.out ?_)
  refine Lib.hid ?_
  go_wp2
  go_loopw [6] (fun i wr => ∃ j : Nat, j ≤ n ∧ i = .int .i64 (j : Int) ∧ Inv wr (F j) ∧ Upd S w wr) (fun i _ => n - (intOf i).toNat)
  case atStart => exact ⟨0, Nat.zero_le _, rfl, hi1, hu1⟩
  case round =>
    obtain ⟨j, hj, rfl, hi2, hu2⟩ := hrel
    have hv2 := hv.upd hu2 hS
    have A1 : Calls Try.prog 136 #[v, .int .i64 (j : Int)] wr _ := calls_bool (hasNumber_ok o (j : Int)) (inr_all wr) (All2.cons (.one (hv2.rep hx)) (All2.cons (.one (.int _ _ (wrap64 (by omega) (by omega)))) .nil))
    by_cases hjo : (j : Int) ∈ o
    · rw [decide_eq_true hjo] at A1
      go_wp2_with (go_at_call 136; refine A1.mono ?_; rintro e w3 ⟨rfl, b3⟩; refine Hid.out ?_)
      · refine Lib.hid ?_
        go_wp2
        have hjn : j < n := by assumption
        refine ⟨⟨j + 1, hjn, by simp, ?_, hu2.trans (Upd.of b3)⟩, ?_⟩
        · rw [hin j hjn hjo]; exact hnew _ _ _ hi2 b3
        · simp only [intOf]; omega
      · have e : j = n := by omega
        subst e
        go_end0
        exact ⟨rfl, hi2, hu2⟩
    · rw [decide_eq_false hjo] at A1
      have hv2' := hv2
      obtain ⟨-, ⟨rfl, hn0⟩ | ⟨g, vc, cur, rfl, hgB, hgw, hlc, hcm, hcs, htk⟩⟩ := hv2'
      · go_wp2_with (go_at_call 136; refine A1.mono ?_; rintro e w3 ⟨rfl, b3⟩; refine Hid.out ?_)
        · refine Lib.hid ?_
          have hjn : j < n := by assumption
          have ho : o = [] := List.length_eq_zero_iff.1 hn0
          subst ho
          have k3 : 0 + 1 ≤ maxLen := by unfold maxLen; omega
          have k4 : (0 + 1) * 8 ≤ 140737488355328 := by omega
          have k5 : B ≤ w3.heap.size := Nat.le_trans hB (Nat.le_trans hu2.size b3.size)
          have h4 := World.ownsRow_made (e := 3) (size := 1) w3 #[] 0 (Nat.le_refl _) (Nat.zero_le _) rfl
          have b4 : Below w3.heap.size w3 (w3.alloc (.cells #[] 3)) := (Below.refl _ _).alloc (Nat.le_refl _) _
          go_wp2_with (first
            | (at_builtin; refine wpList_append_own_none rfl _ _ 29 rfl w3.heap.size 3 i0 1 Try.underlying29 hi _ 0 [] rfl h4 rfl ?_; generalize Value.slice (some ⟨w3.heap.size, 0, none⟩) 0 0 = v4 at h4 ⊢; generalize w3.alloc (.cells #[] 3) = w4 at h4 b4 ⊢)
            | (at_builtin; have b5 := b4.alloc b4.size (.cells #[.int .i64 (j : Int)] 3); refine wpList_append_own _ rfl _ _ 29 rfl w3.heap.size 3 i0 z0 1 8 Try.underlying29 hi hz0 hz1 hz2 hz3 (by decide) _ 0 [] rfl (h4.alloc _) ⟨_, 0, none⟩ 1 1 [.int .i64 (j : Int)] rfl rfl (new_cell _ _) (new_one _) k3 k4 b5.size ?_; intro v6 w6 h6 g6 _; have b6 := b5.grown g6 b5.size (fun k hk => (h4.lt k hk).1); have b7 := b3.trans (b6.mono b3.size); have o6 := own_next (o := []) h6 k5)
            | (go_at_call 75; refine (hout j hjn hjo _ _ (hnew _ _ _ hi2 b7) (Nat.le_trans hB (Nat.le_trans hu2.size b7.size)) o6).mono ?_; rintro e w7 ⟨rfl, hi7, hu7⟩; refine Hid.out ?_))
          refine Lib.hid ?_
          go_wp2
          refine ⟨⟨j + 1, hjn, by simp, hi7, hu2.trans ((Upd.of b7).trans hu7)⟩, ?_⟩
          simp only [intOf]; omega
        · have e : j = n := by omega
          subst e
          go_end0
          exact ⟨rfl, hi2, hu2⟩
      · go_wp2_with (go_at_call 136; refine A1.mono ?_; rintro e w3 ⟨rfl, b3⟩; refine Hid.out ?_)
        · refine Lib.hid ?_
          have hjn : j < n := by assumption
          have k3 : 0 + o.length ≤ maxLen := by unfold maxLen; omega
          have k4 : (0 + o.length) * 8 ≤ 140737488355328 := by omega
          have k8 : 0 + o.length + 1 ≤ maxLen := by unfold maxLen; omega
          have k9 : (0 + o.length + 1) * 8 ≤ 140737488355328 := by omega
          have k5 : B ≤ w3.heap.size := Nat.le_trans hB (Nat.le_trans hu2.size b3.size)
          have b0 : Below w3.heap.size w3 (w3.alloc (.cells #[] 3)) := (Below.refl _ _).alloc (Nat.le_refl _) _
          have k6 : (o.map (Value.int .i64)).length = o.length * 1 := by simp
          have k7 := ((hv2.below b3).below b0).cells
          have h0 := World.ownsRow_made (e := 3) (size := 1) w3 #[] 0 (Nat.le_refl _) (Nat.zero_le _) rfl
          go_wp2_with (first
            | (at_builtin; refine wpList_append_own _ rfl _ _ 29 rfl w3.heap.size 3 i0 z0 1 8 Try.underlying29 hi hz0 hz1 hz2 hz3 (by decide) _ 0 [] rfl h0 ⟨g, 0, none⟩ o.length vc (o.map (.int .i64)) rfl k6 k7 (ints_one _) k3 k4 b0.size ?_; intro v4 w4 h4 g4 _; have b4 := b0.grown g4 b0.size (fun k hk => (h0.lt k hk).1))
            | (at_builtin; have b5 := b4.alloc b4.size (.cells #[.int .i64 (j : Int)] 3); refine wpList_append_own _ rfl _ _ 29 rfl w3.heap.size 3 i0 z0 1 8 Try.underlying29 hi hz0 hz1 hz2 hz3 (by decide) _ (0 + o.length) ([] ++ o.map (.int .i64)) rfl (h4.alloc _) ⟨_, 0, none⟩ 1 1 [.int .i64 (j : Int)] rfl rfl (new_cell _ _) (new_one _) k8 k9 b5.size ?_; intro v6 w6 h6 g6 _; have b6 := b5.grown g6 b5.size (fun k hk => (h4.lt k hk).1); have b7 := b3.trans (b6.mono b3.size); have o6 := own_next2 h6 k5)
            | (go_at_call 75; refine (hout j hjn hjo _ _ (hnew _ _ _ hi2 b7) (Nat.le_trans hB (Nat.le_trans hu2.size b7.size)) o6).mono ?_; rintro e w7 ⟨rfl, hi7, hu7⟩; refine Hid.out ?_))
          refine Lib.hid ?_
          go_wp2
          refine ⟨⟨j + 1, hjn, by simp, hi7, hu2.trans ((Upd.of b7).trans hu7)⟩, ?_⟩
          simp only [intOf]; omega
        · have e : j = n := by omega
          subst e
          go_end0
          exact ⟨rfl, hi2, hu2⟩

/-- eachOrder carries a state along all orders. -/
theorem each_walk {α : Type} (n : Nat) (hn : n ≤ 100) (f : FuncId) (hen : ∀ (args : Array Value) (w : World), (callFunc f args).run Try.prog w = .ok (.enter f args) w) (cap : Array Value) (B : Nat) (S : Nat → Prop) (Inv : World → α → Prop) (step : α → List Int → α)
    (hS : ∀ k, S k → k < B) (hnew : ∀ w w' a, Inv w a → Below w.heap.size w w' → Inv w' a)
    (hf : ∀ (w : World) (a : α) (o : List Int) (v : Value), Inv w a → B ≤ w.heap.size → OwnI w B v o → Diff n o → Calls Try.prog f (#[v] ++ cap) w fun e w' => e = .returned (.tuple #[]) ∧ Inv w' (step a o) ∧ Upd S w w') :
    ∀ (k : Nat) (o : List Int) (a : α) (w : World) (v : Value), o.length + k = n → Diff n o → Inv w a → B ≤ w.heap.size → OwnI w B v o →
      Calls Try.prog 75 #[.int .i64 (n : Int), v, .func (.func f) #[] cap] w fun e w' => e = .returned (.tuple #[]) ∧ Inv w' ((ordersF n k o).foldl step a) ∧ Upd S w w' := by
  intro k
  induction k with
  | zero =>
    intro o a w v hk hd hi hB hv
    have := each_body n hn f hen cap B S Inv hS hnew o hd w v hB hv (fun _ => step a o) (hf w a o v hi hB hv hd) (fun j hj hjo => rfl) (fun j hj hjo => absurd (diff_full hd (by omega) hj) hjo)
    rw [ordersF]; exact this
  | succ k ih =>
    intro o a w v hk hd hi hB hv
    have := each_body n hn f hen cap B S Inv hS hnew o hd w v hB hv (eachF step n k o (step a o)) (hf w a o v hi hB hv hd) (fun j hj hjo => by rw [each_next, if_pos hjo])
      (fun j hj hjo wr u hi2 hB2 hu => by rw [each_next, if_neg hjo]; exact ih _ _ _ _ (by simp only [List.length_append, List.length_cons, List.length_nil]; omega) (diff_snoc hd hj hjo) hi2 hB2 hu)
    rw [each_all] at this; exact this

/- impl.MostCastings: its closure and the walk over all orders. -/

/-- What the closure of MostCastings finds. -/
structure MostBox (B0 bb bm bl bn : Nat) (m : CMach) (l : List Casting) (minutes : Int) (vl : Value) (w : World) (a : List Int) : Prop where
  mb : w.heap[bm]? = some (.cells #[.int .i64 m.1, .int .i64 m.2.1, .int .i64 m.2.2] 25 (0, 0))
  lb : w.heap[bl]? = some (.cells #[vl] 26 (0, 0))
  nb : w.heap[bn]? = some (.cells #[.int .i64 minutes] 3 (0, 0))
  best : ∃ vb, w.heap[bb]? = some (.cells #[vb] 29 (0, 0)) ∧ OwnI w B0 vb a
  row : RepI w (fun k => k < B0) (.isl 2 (rows cCasting l)) vl
  b0 : B0 ≤ w.heap.size
  bb0 : B0 ≤ bb
theorem MostBox.below {B0 bb bm bl bn : Nat} {m : CMach} {l : List Casting} {minutes : Int} {vl : Value} {w w' : World} {a : List Int} (h : MostBox B0 bb bm bl bn m l minutes vl w a) (hu : Below w.heap.size w w') : MostBox B0 bb bm bl bn m l minutes vl w' a := by
  obtain ⟨h1, h2, h3, ⟨vb, h4, h5⟩, h6, h7, h8⟩ := h
  have kp : ∀ {k : Nat} {o : Obj}, w.heap[k]? = some o → w'.heap[k]? = some o := fun {k o} ho => by rw [hu.block k (Array.getElem?_eq_some_iff.1 ho).1]; exact ho
  exact ⟨kp h1, kp h2, kp h3, ⟨vb, kp h4, h5.below hu⟩, h6.mono fun g hg => ⟨hg, hu.block g (by omega)⟩, Nat.le_trans h7 hu.size, h8⟩

set_option maxHeartbeats 4000000 in
set_option maxRecDepth 1000000 in
theorem most_clo {B0 bb bm bl bn : Nat} {m : CMach} {l : List Casting} {minutes : Int} {vl : Value} (hm : okM m = true) (hl : okCs l = true) (w : World) (a o : List Int) (v : Value) (h : MostBox B0 bb bm bl bn m l minutes vl w a) (B : Nat) (hB : B0 ≤ B) (hv : OwnI w B v o) (hd : Diff l.length o) :
    Calls Try.prog 76 (#[v] ++ #[.pointer (some ⟨bb, 0, none⟩), .pointer (some ⟨bm, 0, none⟩), .pointer (some ⟨bl, 0, none⟩), .pointer (some ⟨bn, 0, none⟩)]) w
      fun e w' => e = .returned (.tuple #[]) ∧ MostBox B0 bb bm bl bn m l minutes vl w' (mostStep m l minutes a o) ∧ Upd (· = bb) w w' := by
  obtain ⟨h1, h2, h3, ⟨vb, h4, h5⟩, h6, h7, h8⟩ := h
  have c2 := cell_of_one h2
  have c3 := cell_of_one h3
  have c4 := cell_of_one h4
  have f4 := free_of_one h4
  have m0 : w.cell? ⟨bm, 0, none⟩ = some (.int .i64 m.1) := by simp [World.cell?, h1]
  have m1 : w.cell? ⟨bm, 1, none⟩ = some (.int .i64 m.2.1) := by simp [World.cell?, h1]
  have m2 : w.cell? ⟨bm, 2, none⟩ = some (.int .i64 m.2.2) := by simp [World.cell?, h1]
  obtain ⟨ka, kc, rfl⟩ : ∃ k cc, v = .slice k o.length cc := by
    obtain ⟨-, ⟨rfl, hn⟩ | ⟨g, cap, cur, rfl, r⟩⟩ := hv
    · exact ⟨none, 0, by rw [hn]⟩
    · exact ⟨_, _, rfl⟩
  obtain ⟨qa, qc, rfl⟩ : ∃ k cc, vb = .slice k a.length cc := by
    obtain ⟨-, ⟨rfl, hn⟩ | ⟨g, cap, cur, rfl, r⟩⟩ := h5
    · exact ⟨none, 0, by rw [hn]⟩
    · exact ⟨_, _, rfl⟩
  have hx : ∀ x ∈ o, IntKind.i64.wrap x = x := fun x hx => by have := hd.2 x hx; have := okCs_len hl; exact wrap64 (by omega) (by omega)
  have mq := okM_spec hm
  have hA : ∀ W : World, W.heap = w.heap → Calls Try.prog 68 #[.agg #[.int .i64 m.1, .int .i64 m.2.1, .int .i64 m.2.2], vl, .slice ka o.length kc] W fun e w' => e = .returned (.int .i64 (timeF m l o)) ∧ Below W.heap.size W w' := by
    intro W hW
    have r1 : RepI W (fun k => k < W.heap.size) (.isl 2 (rows cCasting l)) vl := h6.mono fun g hg => ⟨by rw [hW]; omega, by rw [hW]⟩
    have r2 : RepI W (fun k => k < W.heap.size) (.isl 1 (rows cInt o)) (.slice ka o.length kc) := (hv.rep hx).mono fun g hg => ⟨by rw [hW]; exact hg, by rw [hW]⟩
    exact calls_int (time_ok m l o hm hl (fineB_diff.2 hd)) (inr_all W) (vs := [.agg #[.int .i64 m.1, .int .i64 m.2.1, .int .i64 m.2.2], vl, .slice ka o.length kc])
      (All2.cons (.agg (cMachine m) [.int .i64 m.1, .int .i64 m.2.1, .int .i64 m.2.2] (.cons (.int _ _ (wrap64 (by omega) (by omega))) (.cons (.int _ _ (wrap64 (by omega) (by omega))) (.cons (.int _ _ (wrap64 (by omega) (by omega))) .nil))))
        (All2.cons (.one r1) (All2.cons (.one r2) .nil)))
  have kp : ∀ W w' : World, W.heap = w.heap → Below W.heap.size W w' → ∀ {k : Nat} {ob : Obj}, w.heap[k]? = some ob → w'.heap[k]? = some ob := fun W w' hW hu k ob ho => by rw [hu.block k (by rw [hW]; exact (Array.getElem?_eq_some_iff.1 ho).1), hW]; exact ho
  have hM : MostBox B0 bb bm bl bn m l minutes vl w a := ⟨h1, h2, h3, ⟨_, h4, h5⟩, h6, h7, h8⟩
  have hNo : ∀ w1, Below w.drew.heap.size w.drew w1 → minutes < timeF m l o → MostBox B0 bb bm bl bn m l minutes vl w1 (mostStep m l minutes a o) ∧ Upd (· = bb) w w1 := by
    intro w1 b1 ht
    have b2 : Below w.heap.size w w1 := (Below.refl _ _).drew.trans b1
    rw [mostStep, if_neg (fun hc => by omega)]
    exact ⟨hM.below b2, Upd.of b2⟩
  by_cases hlt : a.length < o.length
  · have hYes : ∀ w1, Below w.drew.heap.size w.drew w1 → timeF m l o ≤ minutes → MostBox B0 bb bm bl bn m l minutes vl (w1.setCell ⟨bb, 0, none⟩ (.slice ka o.length kc)) (mostStep m l minutes a o) ∧ Upd (· = bb) w (w1.setCell ⟨bb, 0, none⟩ (.slice ka o.length kc)) := by
      intro w1 b1 ht
      have b2 : Below w.heap.size w w1 := (Below.refl _ _).drew.trans b1
      obtain ⟨g1, g2, g3, ⟨vb, g4, -⟩, g6, g7, -⟩ := hM.below b2
      have gv := hv.below b2
      rw [mostStep, if_pos ⟨hlt, ht⟩]
      have st : ∀ k, k ≠ bb → (w1.setCell ⟨bb, 0, none⟩ (.slice ka o.length kc)).heap[k]? = w1.heap[k]? := fun k hk => Below.heap_setCell _ _ _ _ hk
      have n1 : bm ≠ bb := fun e => by subst e; rw [g1] at g4; simp at g4
      have n2 : bl ≠ bb := fun e => by subst e; rw [g2] at g4; simp at g4
      have n3 : bn ≠ bb := fun e => by subst e; rw [g3] at g4; simp at g4
      have nv : (Value.slice ka o.length kc).ownBlock ≠ some bb := fun e => by
        obtain ⟨-, ⟨q, -⟩ | ⟨g, cp, cur, q, -, hg, -⟩⟩ := gv
        · rw [q] at e; simp [Value.ownBlock] at e
        · rw [q] at e; simp [Value.ownBlock] at e
          subst e; rw [g4] at hg; simp at hg
      have sz : (w1.setCell ⟨bb, 0, none⟩ (.slice ka o.length kc)).heap.size = w1.heap.size := by simp [World.setCell]
      refine ⟨⟨by rw [st _ n1]; exact g1, by rw [st _ n2]; exact g2, by rw [st _ n3]; exact g3, ⟨_, one_setCell g4, (show OwnI _ B _ _ from ownsRow_setCell_other gv nv _).low hB⟩, g6.mono fun g hg => ⟨hg, st g (by omega)⟩, by omega, h8⟩, ?_⟩
      exact ⟨b2.os, b2.tape, b2.output, by rw [sz]; exact b2.size, fun k hk hs => by rw [st k hs]; exact b2.block k hk⟩
    go_enter Try.func76, Try.ntmps76
    go_wp2
    go_region_with (go_at_call 68; go_must (refine (hA _ ?_).mono ?_; rfl; rintro e w1 ⟨rfl, b1⟩; have c3' := cell_of_one (kp w.drew w1 rfl b1 h3); have c4' := cell_of_one (kp w.drew w1 rfl b1 h4); have f4' := free_of_one (kp w.drew w1 rfl b1 h4)))
    all_goals (try go_wp2)
    all_goals go_end0
    all_goals first
      | exact ⟨rfl, hNo _ b1 (by assumption)⟩
      | exact ⟨rfl, hYes _ b1 (by assumption)⟩
  · go_enter Try.func76, Try.ntmps76
    go_wp2
    go_region
    all_goals (try go_wp2)
    go_end0
    refine ⟨rfl, ?_, Upd.of ((Below.refl _ _).drew)⟩
    rw [mostStep, if_neg (fun hc => hlt hc.1)]
    exact (show MostBox B0 bb bm bl bn m l minutes _ w a from ⟨h1, h2, h3, ⟨_, h4, h5⟩, h6, h7, h8⟩).below ((Below.refl _ _).drew)

/- impl.MostCastings: its boxes, its closure and the walk over all orders. -/

theorem OwnI.repQ {w : World} {B : Nat} {v : Value} {o : List Int} (h : OwnI w B v o) (hx : ∀ x ∈ o, IntKind.i64.wrap x = x) {Q : Nat → Prop} (hQ : ∀ g, B ≤ g → Q g) : RepI w Q (.isl 1 (rows cInt o)) v := by
  obtain ⟨-, ⟨rfl, hn⟩ | ⟨g, cap, cur, rfl, hb, hg, h1, h2, h3, h4⟩⟩ := h
  · rw [List.length_eq_zero_iff.1 hn, rows_nil]
    exact .isl0 1 none 0 (Nat.zero_le _)
  · have := RepI.isl (w := w) (I := Q) 1 (o.map cInt) g 0 cap (o.map (.int .i64)) (fun e he => by obtain ⟨y, -, rfl⟩ := List.mem_map.1 he; rfl)
      (repIs_ints1 hx) (hQ g hb)
      (fun j y hy => by
        rw [Nat.mul_one] at h4
        rw [← h4, List.getElem?_take] at hy
        split at hy
        · rw [Nat.zero_add]
          simp only [World.cell?, hg, Option.bind_some]
          rw [← Array.getElem?_toList]
          simpa using hy
        · cases hy) (by rw [List.length_map]; exact h1) h2
    rw [List.length_map] at this
    rw [rows_eq]; exact this
theorem isl_shape {w : World} {I : Nat → Prop} {n : Nat} {es : List (List PV)} {v : Value} (h : RepI w I (.isl n es) v) : ∃ A c, v = .slice A es.length c := by
  cases h with
  | isl0 _ A c hm => exact ⟨A, c, rfl⟩
  | isl _ _ g o c vs h1 hr hI hc hl hm => exact ⟨_, c, rfl⟩
theorem enters_eq {f : FuncId} {fn : Func} {c : Code} (hf : Try.prog.funcs[f]? = some fn) (hname : (fn.name == "runtime.NumGoroutine") = false) (hb : fn.body = some c) : ∀ (args : Array Value) (w : World), (callFunc f args).run Try.prog w = .ok (.enter f args) w := enters_of hf hname hb
def mostAns (m : CMach) (l : List Casting) (minutes : Int) : List Int × Bool := if okM m && (okCs l && inB minutes 0 100000) then (mostF m l minutes, true) else ([], false)
def vM (m : CMach) : Value := .agg #[.int .i64 m.1, .int .i64 m.2.1, .int .i64 m.2.2]

theorem most_each {B0 bb bm bl bn : Nat} {m : CMach} {l : List Casting} {minutes : Int} {vl : Value} (hm : okM m = true) (hl : okCs l = true) (w : World) (v : Value) (h : MostBox B0 bb bm bl bn m l minutes vl w []) (hB0 : B0 ≤ bb + 1) (hB : bb + 1 ≤ w.heap.size) (hv : OwnI w (bb + 1) v []) :
    Calls Try.prog 75 #[.int .i64 (l.length : Int), v, .func (.func 76) #[] #[.pointer (some ⟨bb, 0, none⟩), .pointer (some ⟨bm, 0, none⟩), .pointer (some ⟨bl, 0, none⟩), .pointer (some ⟨bn, 0, none⟩)]] w
      fun e w' => e = .returned (.tuple #[]) ∧ MostBox B0 bb bm bl bn m l minutes vl w' (mostF m l minutes) ∧ Upd (· = bb) w w' :=
  each_walk l.length (by have := okCs_len hl; omega) _ (enters_eq Try.func76 rfl rfl) _ (bb + 1) (· = bb) (MostBox B0 bb bm bl bn m l minutes vl) (mostStep m l minutes) (fun k hk => by omega) (fun w w' a h hb => h.below hb)
    (fun w a o v hi hB hv hd => most_clo hm hl w a o v hi (bb + 1) hB0 hv hd) l.length [] [] w v (by simp) (diff_nil _) h hB hv
/-- What stands ready ahead of the walk: the boxes, a list without elements, a box that holds it, another list. -/
theorem most_ready {B0 bm bl bn : Nat} {m : CMach} {l : List Casting} {minutes : Int} {vl : Value} {w : World} (hb0 : B0 ≤ w.heap.size)
    (h1 : w.heap[bm]? = some (.cells #[.int .i64 m.1, .int .i64 m.2.1, .int .i64 m.2.2] 25 (0, 0))) (h2 : w.heap[bl]? = some (.cells #[vl] 26 (0, 0))) (h3 : w.heap[bn]? = some (.cells #[.int .i64 minutes] 3 (0, 0)))
    (hv : RepI w (fun k => k < B0) (.isl 2 (rows cCasting l)) vl) :
    MostBox B0 (w.heap.size + 1) bm bl bn m l minutes vl (((w.alloc (.cells #[] 3)).alloc (.cells #[.slice (some ⟨w.heap.size, 0, none⟩) 0 0] 29)).alloc (.cells #[] 3)) [] ∧
    OwnI (((w.alloc (.cells #[] 3)).alloc (.cells #[.slice (some ⟨w.heap.size, 0, none⟩) 0 0] 29)).alloc (.cells #[] 3)) (w.heap.size + 1 + 1) (.slice (some ⟨w.heap.size + 1 + 1, 0, none⟩) 0 0) [] ∧
    Below w.heap.size w (((w.alloc (.cells #[] 3)).alloc (.cells #[.slice (some ⟨w.heap.size, 0, none⟩) 0 0] 29)).alloc (.cells #[] 3)) ∧
    (((w.alloc (.cells #[] 3)).alloc (.cells #[.slice (some ⟨w.heap.size, 0, none⟩) 0 0] 29)).alloc (.cells #[] 3)).heap.size = w.heap.size + 3 ∧
    ((w.alloc (.cells #[] 3)).alloc (.cells #[.slice (some ⟨w.heap.size, 0, none⟩) 0 0] 29)).cell? ⟨bl, 0, none⟩ = some vl := by
  generalize hW1 : w.alloc (.cells #[] 3) = W1
  have s1 : W1.heap.size = w.heap.size + 1 := by rw [← hW1]; simp
  have q1 : Below w.heap.size w W1 := by rw [← hW1]; exact (Below.refl _ _).alloc (Nat.le_refl _) _
  have r1 : OwnI W1 B0 (.slice (some ⟨w.heap.size, 0, none⟩) 0 0) [] := by rw [← hW1]; exact World.ownsRow_made w #[] 0 hb0 (Nat.zero_le _) rfl
  generalize hW2 : W1.alloc (.cells #[.slice (some ⟨w.heap.size, 0, none⟩) 0 0] 29) = W2
  have s2 : W2.heap.size = w.heap.size + 2 := by rw [← hW2]; simp [s1]
  have q2 : Below W1.heap.size W1 W2 := by rw [← hW2]; exact (Below.refl _ _).alloc (Nat.le_refl _) _
  have r2 : OwnI W2 B0 (.slice (some ⟨w.heap.size, 0, none⟩) 0 0) [] := r1.below q2
  have e2 : W2.heap[w.heap.size + 1]? = some (.cells #[.slice (some ⟨w.heap.size, 0, none⟩) 0 0] 29 (0, 0)) := by rw [← hW2, ← s1]; exact heap_alloc_new W1 _
  generalize hW3 : W2.alloc (.cells #[] 3) = W3
  have s3 : W3.heap.size = w.heap.size + 3 := by rw [← hW3]; simp [s2]
  have q3 : Below W2.heap.size W2 W3 := by rw [← hW3]; exact (Below.refl _ _).alloc (Nat.le_refl _) _
  have r3 : OwnI W3 (w.heap.size + 1 + 1) (.slice (some ⟨w.heap.size + 1 + 1, 0, none⟩) 0 0) [] := by
    have := World.ownsRow_made (base := w.heap.size + 1 + 1) (e := 3) (size := 1) W2 #[] 0 (by omega) (Nat.zero_le _) rfl
    rw [hW3, s2] at this; exact this
  have b2 : Below w.heap.size w W2 := q1.trans (q2.mono q1.size)
  have b3 : Below w.heap.size w W3 := b2.trans (q3.mono b2.size)
  have kp2 : ∀ {k : Nat} {o : Obj}, w.heap[k]? = some o → W2.heap[k]? = some o := fun {k o} ho => by rw [b2.block k (Array.getElem?_eq_some_iff.1 ho).1]; exact ho
  have kp : ∀ {k : Nat} {o : Obj}, w.heap[k]? = some o → W3.heap[k]? = some o := fun {k o} ho => by rw [b3.block k (Array.getElem?_eq_some_iff.1 ho).1]; exact ho
  refine ⟨⟨kp h1, kp h2, kp h3, ⟨_, by rw [q3.block _ (by omega)]; exact e2, r2.below q3⟩, hv.mono fun g hg => ⟨hg, b3.block g (by omega)⟩, by omega, by omega⟩, r3, b3, s3, cell_of_one (kp2 h2)⟩

set_option maxHeartbeats 4000000 in
set_option maxRecDepth 1000000 in
theorem most_walk (m : CMach) (l : List Casting) (minutes : Int) (hw1 : IntKind.i64.wrap m.1 = m.1) (hw2 : IntKind.i64.wrap m.2.1 = m.2.1) (hw3 : IntKind.i64.wrap m.2.2 = m.2.2) (hw4 : IntKind.i64.wrap minutes = minutes) (vl : Value) (w : World) (I : Nat → Prop) (hI : InR w I) (hv : RepI w I (.isl 2 (rows cCasting l)) vl) :
    Calls Try.prog 14 #[.agg #[.int .i64 m.1, .int .i64 m.2.1, .int .i64 m.2.2], vl, .int .i64 minutes] w fun e w' => ∃ v, e = .returned (.tuple #[v, .bool (mostAns m l minutes).2]) ∧ Below w.heap.size w w' ∧ OwnI w' w.heap.size v (mostAns m l minutes).1 := by
  obtain ⟨vA, vc, rfl⟩ := isl_shape hv
  rw [rows_eq, List.length_map] at hv ⊢
  have hmf : ∀ (fn : Fn) (first cap : Array Value) (w : World), (Instr.makeFunc fn first cap).run Try.prog w = .ok (.func fn first cap) w := fun _ _ _ _ => rfl
  let W1 : World := w.alloc (.cells #[.int .i64 m.1, .int .i64 m.2.1, .int .i64 m.2.2] 25)
  let W2 : World := W1.alloc (.cells #[.slice vA l.length vc] 26)
  let W3 : World := W2.alloc (.cells #[.int .i64 minutes] 3)
  have s1 : W1.heap.size = w.heap.size + 1 := by simp [W1]
  have s2 : W2.heap.size = w.heap.size + 2 := by simp [W2, s1]
  have hsz : W3.heap.size = w.heap.size + 3 := by simp [W3, s2]
  have q1 : Below w.heap.size w W1 := (Below.refl _ _).alloc (Nat.le_refl _) _
  have q2 : Below W1.heap.size W1 W2 := (Below.refl _ _).alloc (Nat.le_refl _) _
  have q3 : Below W2.heap.size W2 W3 := (Below.refl _ _).alloc (Nat.le_refl _) _
  have b3 : Below w.heap.size w W3 := (q1.trans (q2.mono q1.size)).trans (q3.mono (by omega))
  have e1 : W3.heap[w.heap.size]? = some (.cells #[.int .i64 m.1, .int .i64 m.2.1, .int .i64 m.2.2] 25 (0, 0)) := by
    rw [q3.block _ (by omega), q2.block _ (by omega)]; exact heap_alloc_new w _
  have e2 : W3.heap[w.heap.size + 1]? = some (.cells #[.slice vA l.length vc] 26 (0, 0)) := by
    rw [q3.block _ (by omega), ← s1]; exact heap_alloc_new W1 _
  have e3 : W3.heap[w.heap.size + 2]? = some (.cells #[.int .i64 minutes] 3 (0, 0)) := by
    rw [← s2]; exact heap_alloc_new W2 _
  have hA : ∀ W : World, Calls Try.prog 27 #[.agg #[.int .i64 m.1, .int .i64 m.2.1, .int .i64 m.2.2]] W fun e w' => e = .returned (.bool (okM m)) ∧ Below W.heap.size W w' := fun W =>
    calls_bool (IsMachine_ok m) (inr_all W) (vs := [.agg #[.int .i64 m.1, .int .i64 m.2.1, .int .i64 m.2.2]]) (All2.cons (.agg (cMachine m) [.int .i64 m.1, .int .i64 m.2.1, .int .i64 m.2.2] (.cons (.int _ _ hw1) (.cons (.int _ _ hw2) (.cons (.int _ _ hw3) .nil)))) .nil)
  have hC : ∀ W : World, Below w.heap.size w W → Calls Try.prog 28 #[.slice vA l.length vc] W fun e w' => e = .returned (.bool (okCs l)) ∧ Below W.heap.size W w' := fun W hW =>
    calls_bool (AreCastings_ok l) (inr_all W) (vs := [.slice vA l.length vc]) (All2.cons (.one (by rw [rows_eq]; exact hv.mono fun g hg => ⟨Nat.lt_of_lt_of_le (hI.1 g hg) hW.size, hW.block g (hI.1 g hg)⟩)) .nil)
  have hv' : RepI w (fun k => k < w.heap.size) (.isl 2 (rows cCasting l)) (.slice vA l.length vc) := by rw [rows_eq]; exact hv.mono fun g hg => ⟨hI.1 g hg, rfl⟩
  have hN : ∀ W : World, Calls Try.prog 74 #[.int .i64 minutes] W fun e w' => e = .returned (.bool (inB minutes 0 100000)) ∧ Below W.heap.size W w' := fun W =>
    calls_bool (isMinutes_ok minutes) (inr_all W) (vs := [.int .i64 minutes]) (All2.cons (.one (.int _ _ hw4)) .nil)
  have K : ∀ W : World, Below W3.heap.size W3 W → W.heap[w.heap.size]? = some (.cells #[.int .i64 m.1, .int .i64 m.2.1, .int .i64 m.2.2] 25 (0, 0)) ∧ W.heap[w.heap.size + 1]? = some (.cells #[.slice vA l.length vc] 26 (0, 0)) ∧ W.heap[w.heap.size + 2]? = some (.cells #[.int .i64 minutes] 3 (0, 0)) ∧ W.cell? ⟨w.heap.size + 1, 0, none⟩ = some (.slice vA l.length vc) ∧ W.cell? ⟨w.heap.size + 2, 0, none⟩ = some (.int .i64 minutes) := by
    intro W hW
    have a1 := (hW.block w.heap.size (by omega)).trans e1
    have a2 := (hW.block (w.heap.size + 1) (by omega)).trans e2
    have a3 := (hW.block (w.heap.size + 2) (by omega)).trans e3
    exact ⟨a1, a2, a3, cell_of_one a2, cell_of_one a3⟩
  cases hM : okM m
  · rw [hM] at hA
    have ha : mostAns m l minutes = ([], false) := by rw [mostAns, hM]; rfl
    go_enter Try.func14, Try.ntmps14
    go_wp2_with (go_at_call 27; refine (hA _).mono ?_; rintro e w4 ⟨rfl, b4⟩)
    go_ret2
    rw [ha]
    have c4 := b3.trans (b4.mono b3.size)
    exact ⟨_, rfl, c4.alloc c4.size _, World.ownsRow_made _ _ _ c4.size (by decide) rfl⟩
  · rw [hM] at hA
    cases hO : okCs l
    · rw [hO] at hC
      have ha : mostAns m l minutes = ([], false) := by rw [mostAns, hM, hO]; rfl
      go_enter Try.func14, Try.ntmps14
      go_wp2_with (first | (go_at_call 27; go_must (refine (hA _).mono ?_; rintro e w4 ⟨rfl, b4⟩; obtain ⟨k1, k2, k3, k4, k5⟩ := K w4 b4; have c4 := b3.trans (b4.mono b3.size))) | (go_at_call 28; go_must (refine (hC _ c4).mono ?_; rintro e w5 ⟨rfl, b5⟩; have c5 := c4.trans (b5.mono c4.size))))
      go_ret2
      rw [ha]
      exact ⟨_, rfl, c5.alloc c5.size _, World.ownsRow_made _ _ _ c5.size (by decide) rfl⟩
    · rw [hO] at hC
      cases hB : inB minutes 0 100000
      · rw [hB] at hN
        have ha : mostAns m l minutes = ([], false) := by rw [mostAns, hM, hO, hB]; rfl
        go_enter Try.func14, Try.ntmps14
        go_wp2_with (first | (go_at_call 27; go_must (refine (hA _).mono ?_; rintro e w4 ⟨rfl, b4⟩; obtain ⟨k1, k2, k3, k4, k5⟩ := K w4 b4; have c4 := b3.trans (b4.mono b3.size))) | (go_at_call 28; go_must (refine (hC _ c4).mono ?_; rintro e w5 ⟨rfl, b5⟩; have c5 := c4.trans (b5.mono c4.size); obtain ⟨k1, k2, k3, k4, k5⟩ := K w5 (b4.trans (b5.mono b4.size)))) | (go_at_call 74; go_must (refine (hN _).mono ?_; rintro e w6 ⟨rfl, b6⟩; have c6 := c5.trans (b6.mono c5.size))))
        go_ret2
        rw [ha]
        exact ⟨_, rfl, c6.alloc c6.size _, World.ownsRow_made _ _ _ c6.size (by decide) rfl⟩
      · rw [hB] at hN
        have ha : mostAns m l minutes = (mostF m l minutes, true) := by rw [mostAns, hM, hO, hB]; rfl
        go_enter Try.func14, Try.ntmps14
        go_wp2_with (first | (go_at_call 27; go_must (refine (hA _).mono ?_; rintro e w4 ⟨rfl, b4⟩; obtain ⟨k1, k2, k3, k4, k5⟩ := K w4 b4; have c4 := b3.trans (b4.mono b3.size))) | (go_at_call 28; go_must (refine (hC _ c4).mono ?_; rintro e w5 ⟨rfl, b5⟩; have c5 := c4.trans (b5.mono c4.size); obtain ⟨k1, k2, k3, k4, k5⟩ := K w5 (b4.trans (b5.mono b4.size)))) | (go_at_call 74; go_must (refine (hN _).mono ?_; rintro e w6 ⟨rfl, b6⟩; have c6 := c5.trans (b6.mono c5.size); obtain ⟨k1, k2, k3, -, -⟩ := K w6 ((b4.trans (b5.mono b4.size)).trans (b6.mono (b4.trans (b5.mono b4.size)).size)); obtain ⟨g1, g2, g3, g4, g5⟩ := most_ready (m := m) (l := l) (minutes := minutes) c6.size k1 k2 k3 (hv'.mono fun g hg => ⟨hg, c6.block g hg⟩))) | (go_at_call 75; go_must (refine (most_each hM hO _ _ g1 (by have := c6.size; omega) (by omega) g2).mono ?_; rintro e w9 ⟨rfl, i9, u9⟩; obtain ⟨vb, h9, o9⟩ := i9.best; have n9 := cell_of_one h9)))
        go_ret2
        rw [ha]
        refine ⟨vb, rfl, (c6.trans (g3.mono c6.size)).trans (u9.below (by have := c6.size; omega) fun k hk => by have := c6.size; omega), o9⟩

/- impl.BestCastOrder: its closure and the walk over all orders; the contracts of MostCastings and BestCastOrder. -/

theorem OwnI.ne {w : World} {B k : Nat} {v : Value} {o : List Int} (h : OwnI w B v o) (hk : k < B) : v.ownBlock ≠ some k := fun e => by have := (World.ownsRow.lt h k e).1; omega
theorem OwnI.shape {w : World} {B : Nat} {v : Value} {o : List Int} (h : OwnI w B v o) : ∃ k cc, v = .slice k o.length cc := by
  obtain ⟨-, ⟨rfl, hn⟩ | ⟨g, cap, cur, rfl, r⟩⟩ := h
  · exact ⟨none, 0, by rw [hn]⟩
  · exact ⟨_, _, rfl⟩
theorem Upd.mono {S T : Nat → Prop} {w w' : World} (h : Upd S w w') (hs : ∀ k, S k → T k) : Upd T w w' := ⟨h.os, h.tape, h.output, h.size, fun k hk hn => h.block k hk fun e => hn (hs k e)⟩
theorem setCell_size (w : World) (a : Addr) (u : Value) : (w.setCell a u).heap.size = w.heap.size := by simp [World.setCell]
theorem upd_setCell (w : World) (b : Nat) (u : Value) : Upd (· = b) w (w.setCell ⟨b, 0, none⟩ u) :=
  ⟨by simp [World.setCell], by simp [World.setCell], by simp [World.setCell], by rw [setCell_size]; exact Nat.le_refl _, fun k hk hn => Below.heap_setCell _ _ _ _ hn⟩

/-- The best list so far and its number, in two boxes. -/
structure Found (B0 bb bs : Nat) (w : World) (a : List Int × Int) : Prop where
  least : w.heap[bs]? = some (.cells #[.int .i64 a.2] 3 (0, 0))
  best : ∃ vb, w.heap[bb]? = some (.cells #[vb] 29 (0, 0)) ∧ OwnI w B0 vb a.1 ∧ vb.ownBlock ≠ some bs
  bb0 : B0 ≤ bb
  bs0 : B0 ≤ bs
theorem Found.lt {B0 bb bs : Nat} {w : World} {a : List Int × Int} (h : Found B0 bb bs w a) : bb < w.heap.size ∧ bs < w.heap.size ∧ bb ≠ bs := by
  obtain ⟨h1, ⟨vb, h2, -, -⟩, -, -⟩ := h
  exact ⟨(Array.getElem?_eq_some_iff.1 h2).1, (Array.getElem?_eq_some_iff.1 h1).1, fun e => by subst e; rw [h1] at h2; simp at h2⟩
theorem Found.below {B0 bb bs : Nat} {w w' : World} {a : List Int × Int} (h : Found B0 bb bs w a) (hu : Below w.heap.size w w') : Found B0 bb bs w' a := by
  obtain ⟨h1, ⟨vb, h2, h3, h4⟩, h5, h6⟩ := h
  have kp : ∀ {k : Nat} {o : Obj}, w.heap[k]? = some o → w'.heap[k]? = some o := fun {k o} ho => by rw [hu.block k (Array.getElem?_eq_some_iff.1 ho).1]; exact ho
  exact ⟨kp h1, ⟨vb, kp h2, h3.below hu, h4⟩, h5, h6⟩
theorem Found.store {B0 bb bs : Nat} {w : World} {a : List Int × Int} (h : Found B0 bb bs w a) {B : Nat} {v : Value} {o : List Int} (hv : OwnI w B v o) (hB0 : B0 ≤ B) (hb : bb < B) (hs : bs < B) (t : Int) :
    Found B0 bb bs ((w.setCell ⟨bb, 0, none⟩ v).setCell ⟨bs, 0, none⟩ (.int .i64 t)) (o, t) ∧ Upd (fun k => k = bb ∨ k = bs) w ((w.setCell ⟨bb, 0, none⟩ v).setCell ⟨bs, 0, none⟩ (.int .i64 t)) ∧
    (w.setCell ⟨bb, 0, none⟩ v).cell? ⟨bs, 0, none⟩ = some (.int .i64 a.2) ∧ (w.setCell ⟨bb, 0, none⟩ v).frozen? ⟨bs, 0, none⟩ = false := by
  obtain ⟨l1, l2, ne⟩ := h.lt
  obtain ⟨h1, ⟨vb, h2, h3, h4⟩, h5, h6⟩ := h
  have k1 : (w.setCell ⟨bb, 0, none⟩ v).heap[bs]? = some (.cells #[.int .i64 a.2] 3 (0, 0)) := by rw [(upd_setCell w bb v).block _ l2 (fun e => ne e.symm)]; exact h1
  refine ⟨⟨one_setCell k1, ⟨v, ?_, ?_, hv.ne hs⟩, h5, h6⟩, ((upd_setCell w bb v).mono fun k e => .inl e).trans ((upd_setCell _ bs _).mono fun k e => .inr e), cell_of_one k1, free_of_one k1⟩
  · rw [(upd_setCell _ bs _).block _ (by rw [setCell_size]; exact l1) ne]; exact one_setCell h2
  · exact (show OwnI _ B _ _ from ownsRow_setCell_other (a := ⟨bs, 0, none⟩) (ownsRow_setCell_other (a := ⟨bb, 0, none⟩) hv (hv.ne hb) _) (hv.ne hs) _).low hB0

/-- A machine's box and one of castings. -/
structure CastEnv (B0 bm bl : Nat) (m : CMach) (l : List Casting) (vl : Value) (w : World) : Prop where
  mb : w.heap[bm]? = some (.cells #[.int .i64 m.1, .int .i64 m.2.1, .int .i64 m.2.2] 25 (0, 0))
  lb : w.heap[bl]? = some (.cells #[vl] 26 (0, 0))
  row : RepI w (fun k => k < B0) (.isl 2 (rows cCasting l)) vl
  b0 : B0 ≤ w.heap.size
theorem CastEnv.upd {B0 bm bl : Nat} {m : CMach} {l : List Casting} {vl : Value} {S : Nat → Prop} {w w' : World} (h : CastEnv B0 bm bl m l vl w) (hu : Upd S w w') (hS : ∀ k, S k → B0 ≤ k ∧ k ≠ bm ∧ k ≠ bl) : CastEnv B0 bm bl m l vl w' := by
  obtain ⟨h1, h2, h3, h4⟩ := h
  refine ⟨?_, ?_, h3.mono fun g hg => ⟨hg, hu.block g (by omega) fun e => by have := (hS g e).1; omega⟩, Nat.le_trans h4 hu.size⟩
  · rw [hu.block _ (Array.getElem?_eq_some_iff.1 h1).1 fun e => (hS _ e).2.1 rfl]; exact h1
  · rw [hu.block _ (Array.getElem?_eq_some_iff.1 h2).1 fun e => (hS _ e).2.2 rfl]; exact h2
theorem CastEnv.below {B0 bm bl : Nat} {m : CMach} {l : List Casting} {vl : Value} {w w' : World} (h : CastEnv B0 bm bl m l vl w) (hu : Below w.heap.size w w') : CastEnv B0 bm bl m l vl w' := h.upd (Upd.of (S := fun _ => False) hu) fun _ e => e.elim
theorem CastEnv.apart {B0 bm bl bb bs : Nat} {m : CMach} {l : List Casting} {vl : Value} {w : World} {a : List Int × Int} (h : CastEnv B0 bm bl m l vl w) (f : Found B0 bb bs w a) : ∀ k, k = bb ∨ k = bs → B0 ≤ k ∧ k ≠ bm ∧ k ≠ bl := by
  obtain ⟨h1, h2, -, -⟩ := h
  obtain ⟨f1, ⟨vb, f2, -, -⟩, f3, f4⟩ := f
  rintro k (rfl | rfl)
  · exact ⟨f3, fun e => by subst e; rw [h1] at f2; simp at f2, fun e => by subst e; rw [h2] at f2; simp at f2⟩
  · exact ⟨f4, fun e => by subst e; rw [h1] at f1; simp at f1, fun e => by subst e; rw [h2] at f1; simp at f1⟩
/-- The minutes of an order, asked of a world's own things. -/
theorem time_calls {m : CMach} {l : List Casting} (hm : okM m = true) (hl : okCs l = true) {w : World} {I : Nat → Prop} {B : Nat} {vl v : Value} {o : List Int} (hv : RepI w I (.isl 2 (rows cCasting l)) vl) (hI : ∀ g, I g → g < w.heap.size) (ho : OwnI w B v o) (hd : Diff l.length o) :
    ∀ W : World, W.heap = w.heap → Calls Try.prog 68 #[.agg #[.int .i64 m.1, .int .i64 m.2.1, .int .i64 m.2.2], vl, v] W fun e w' => e = .returned (.int .i64 (timeF m l o)) ∧ Below W.heap.size W w' := by
  intro W hW
  have mq := okM_spec hm
  have hx : ∀ x ∈ o, IntKind.i64.wrap x = x := fun x hx => by have := hd.2 x hx; have := okCs_len hl; exact wrap64 (by omega) (by omega)
  have r1 : RepI W (fun k => k < W.heap.size) (.isl 2 (rows cCasting l)) vl := hv.mono fun g hg => ⟨by rw [hW]; exact hI g hg, by rw [hW]⟩
  have r2 : RepI W (fun k => k < W.heap.size) (.isl 1 (rows cInt o)) v := (ho.rep hx).mono fun g hg => ⟨by rw [hW]; exact hg, by rw [hW]⟩
  exact calls_int (time_ok m l o hm hl (fineB_diff.2 hd)) (inr_all W) (vs := [.agg #[.int .i64 m.1, .int .i64 m.2.1, .int .i64 m.2.2], vl, v])
    (All2.cons (.agg (cMachine m) [.int .i64 m.1, .int .i64 m.2.1, .int .i64 m.2.2] (.cons (.int _ _ (wrap64 (by omega) (by omega))) (.cons (.int _ _ (wrap64 (by omega) (by omega))) (.cons (.int _ _ (wrap64 (by omega) (by omega))) .nil))))
      (All2.cons (.one r1) (All2.cons (.one r2) .nil)))

set_option maxHeartbeats 4000000 in
set_option maxRecDepth 1000000 in
theorem best_clo {B0 bb bs bm bl : Nat} {m : CMach} {l : List Casting} {vl : Value} (hm : okM m = true) (hl : okCs l = true) (w : World) (a : List Int × Int) (o : List Int) (v : Value) (hf : Found B0 bb bs w a) (he : CastEnv B0 bm bl m l vl w) (B : Nat) (hB : B0 ≤ B) (hbb : bb < B) (hbs : bs < B) (hv : OwnI w B v o) (hd : Diff l.length o) :
    Calls Try.prog 79 (#[v] ++ #[.pointer (some ⟨bl, 0, none⟩), .pointer (some ⟨bm, 0, none⟩), .pointer (some ⟨bs, 0, none⟩), .pointer (some ⟨bb, 0, none⟩)]) w
      fun e w' => e = .returned (.tuple #[]) ∧ (Found B0 bb bs w' (bestStep m l a o) ∧ CastEnv B0 bm bl m l vl w') ∧ Upd (fun k => k = bb ∨ k = bs) w w' := by
  have hap := he.apart hf
  have hA := time_calls hm hl he.row (fun g hg => Nat.lt_of_lt_of_le hg he.b0) hv hd
  obtain ⟨vA, vc, rfl⟩ := isl_shape he.row
  rw [rows_eq, List.length_map] at *
  obtain ⟨ka, kc, rfl⟩ := hv.shape
  have c2 := cell_of_one he.lb
  have h1 := he.mb
  have m0 : w.cell? ⟨bm, 0, none⟩ = some (.int .i64 m.1) := by simp [World.cell?, h1]
  have m1 : w.cell? ⟨bm, 1, none⟩ = some (.int .i64 m.2.1) := by simp [World.cell?, h1]
  have m2 : w.cell? ⟨bm, 2, none⟩ = some (.int .i64 m.2.2) := by simp [World.cell?, h1]
  have hNo : ∀ w1, Below w.heap.size w w1 → bestStep m l a o = a → (Found B0 bb bs w1 (bestStep m l a o) ∧ CastEnv B0 bm bl m l (.slice vA l.length vc) w1) ∧ Upd (fun k => k = bb ∨ k = bs) w w1 := fun w1 b1 e => by
    rw [e]; exact ⟨⟨hf.below b1, he.below b1⟩, Upd.of b1⟩
  have hYes : ∀ w1, Below w.heap.size w w1 → bestStep m l a o = (o, timeF m l o) → (Found B0 bb bs ((w1.setCell ⟨bb, 0, none⟩ (.slice ka o.length kc)).setCell ⟨bs, 0, none⟩ (.int .i64 (timeF m l o))) (bestStep m l a o) ∧ CastEnv B0 bm bl m l (.slice vA l.length vc) ((w1.setCell ⟨bb, 0, none⟩ (.slice ka o.length kc)).setCell ⟨bs, 0, none⟩ (.int .i64 (timeF m l o)))) ∧ Upd (fun k => k = bb ∨ k = bs) w ((w1.setCell ⟨bb, 0, none⟩ (.slice ka o.length kc)).setCell ⟨bs, 0, none⟩ (.int .i64 (timeF m l o))) := fun w1 b1 e => by
    rw [e]
    obtain ⟨s1, s2, -, -⟩ := (hf.below b1).store (hv.below b1) hB hbb hbs (timeF m l o)
    exact ⟨⟨s1, (he.below b1).upd s2 hap⟩, (Upd.of b1).trans s2⟩
  by_cases hlt : o.length < l.length
  · go_enter Try.func79, Try.ntmps79
    go_wp2
    all_goals try (exfalso; omega)
    first | go_end0 | ((try simp only [Exit.inBlock, Exit.then]); refine bodyPost_ret (results_none rfl _ _ _) rfl ?_)
    exact ⟨rfl, hNo _ (Below.refl _ _) (by rw [bestStep, if_pos hlt])⟩
  · by_cases h0 : a.2 < 0
    · go_enter Try.func79, Try.ntmps79
      go_wp2_with (go_at_call 68; go_must (refine (hA _ ?_).mono ?_; rfl; rintro e w1 ⟨rfl, b1⟩; have f1 := hf.below b1; have c3 := cell_of_one f1.least; obtain ⟨vb, g1, g2, g3⟩ := f1.best; have c4 := cell_of_one g1; have c5 := free_of_one g1; obtain ⟨-, -, c6, c7⟩ := f1.store (hv.below b1) hB hbb hbs (timeF m l o)))
      all_goals try (exfalso; omega)
      go_end0
      exact ⟨rfl, hYes _ b1 (by rw [bestStep, if_neg hlt, if_pos (.inl h0)])⟩
    · by_cases h2 : timeF m l o < a.2
      · go_enter Try.func79, Try.ntmps79
        go_wp2_with (go_at_call 68; go_must (refine (hA _ ?_).mono ?_; rfl; rintro e w1 ⟨rfl, b1⟩; have f1 := hf.below b1; have c3 := cell_of_one f1.least; obtain ⟨vb, g1, g2, g3⟩ := f1.best; have c4 := cell_of_one g1; have c5 := free_of_one g1; obtain ⟨-, -, c6, c7⟩ := f1.store (hv.below b1) hB hbb hbs (timeF m l o)))
        all_goals try (exfalso; omega)
        go_end0
        exact ⟨rfl, hYes _ b1 (by rw [bestStep, if_neg hlt, if_pos (.inr h2)])⟩
      · go_enter Try.func79, Try.ntmps79
        go_wp2_with (go_at_call 68; go_must (refine (hA _ ?_).mono ?_; rfl; rintro e w1 ⟨rfl, b1⟩; have f1 := hf.below b1; have c3 := cell_of_one f1.least))
        all_goals try (exfalso; omega)
        go_end0
        exact ⟨rfl, hNo _ b1 (by rw [bestStep, if_neg hlt, if_neg (by omega)])⟩

/- The contracts of impl.MostCastings and impl.BestCastOrder. -/

theorem best_each {B0 bb bs bm bl : Nat} {m : CMach} {l : List Casting} {vl : Value} (hm : okM m = true) (hl : okCs l = true) (w : World) (v : Value) (hf : Found B0 bb bs w ([], -1)) (he : CastEnv B0 bm bl m l vl w) (B : Nat) (hB : B0 ≤ B) (hbb : bb < B) (hbs : bs < B) (hw : B ≤ w.heap.size) (hv : OwnI w B v []) :
    Calls Try.prog 75 #[.int .i64 (l.length : Int), v, .func (.func 79) #[] #[.pointer (some ⟨bl, 0, none⟩), .pointer (some ⟨bm, 0, none⟩), .pointer (some ⟨bs, 0, none⟩), .pointer (some ⟨bb, 0, none⟩)]] w
      fun e w' => e = .returned (.tuple #[]) ∧ (Found B0 bb bs w' (bestO m l) ∧ CastEnv B0 bm bl m l vl w') ∧ Upd (fun k => k = bb ∨ k = bs) w w' :=
  each_walk l.length (by have := okCs_len hl; omega) _ (enters_eq Try.func79 rfl rfl) _ B (fun k => k = bb ∨ k = bs) (fun w a => Found B0 bb bs w a ∧ CastEnv B0 bm bl m l vl w) (bestStep m l) (fun k hk => by omega) (fun w w' a h hb => ⟨h.1.below hb, h.2.below hb⟩)
    (fun w a o v hi hB2 hv hd => best_clo hm hl w a o v hi.1 hi.2 B hB hbb hbs hv hd) l.length [] ([], -1) w v (by simp) (diff_nil _) ⟨hf, he⟩ hw hv
/-- Two boxes for what is found, as they are made: a list without elements, a box that holds it, a box that holds -1. -/
theorem found_ready {B0 : Nat} {w : World} (hb0 : B0 ≤ w.heap.size) :
    Found B0 (w.heap.size + 1) (w.heap.size + 1 + 1) (((w.alloc (.cells #[] 3)).alloc (.cells #[.slice (some ⟨w.heap.size, 0, none⟩) 0 0] 29)).alloc (.cells #[.int .i64 (-1)] 3)) ([], -1) ∧
    Below w.heap.size w (((w.alloc (.cells #[] 3)).alloc (.cells #[.slice (some ⟨w.heap.size, 0, none⟩) 0 0] 29)).alloc (.cells #[.int .i64 (-1)] 3)) ∧
    (((w.alloc (.cells #[] 3)).alloc (.cells #[.slice (some ⟨w.heap.size, 0, none⟩) 0 0] 29)).alloc (.cells #[.int .i64 (-1)] 3)).heap.size = w.heap.size + 3 := by
  generalize hW1 : w.alloc (.cells #[] 3) = W1
  have s1 : W1.heap.size = w.heap.size + 1 := by rw [← hW1]; simp
  have q1 : Below w.heap.size w W1 := by rw [← hW1]; exact (Below.refl _ _).alloc (Nat.le_refl _) _
  have r1 : OwnI W1 B0 (.slice (some ⟨w.heap.size, 0, none⟩) 0 0) [] := by rw [← hW1]; exact World.ownsRow_made w #[] 0 hb0 (Nat.zero_le _) rfl
  generalize hW2 : W1.alloc (.cells #[.slice (some ⟨w.heap.size, 0, none⟩) 0 0] 29) = W2
  have s2 : W2.heap.size = w.heap.size + 2 := by rw [← hW2]; simp [s1]
  have q2 : Below W1.heap.size W1 W2 := by rw [← hW2]; exact (Below.refl _ _).alloc (Nat.le_refl _) _
  have e2 : W2.heap[w.heap.size + 1]? = some (.cells #[.slice (some ⟨w.heap.size, 0, none⟩) 0 0] 29 (0, 0)) := by rw [← hW2, ← s1]; exact heap_alloc_new W1 _
  generalize hW3 : W2.alloc (.cells #[.int .i64 (-1)] 3) = W3
  have s3 : W3.heap.size = w.heap.size + 3 := by rw [← hW3]; simp [s2]
  have q3 : Below W2.heap.size W2 W3 := by rw [← hW3]; exact (Below.refl _ _).alloc (Nat.le_refl _) _
  have e3 : W3.heap[w.heap.size + 1 + 1]? = some (.cells #[.int .i64 (-1)] 3 (0, 0)) := by rw [← hW3, show w.heap.size + 1 + 1 = W2.heap.size by omega]; exact heap_alloc_new W2 _
  refine ⟨⟨e3, ⟨_, by rw [q3.block _ (by omega)]; exact e2, (r1.below q2).below q3, ?_⟩, by omega, by omega⟩, (q1.trans (q2.mono q1.size)).trans (q3.mono (by omega)), s3⟩
  simp [Value.ownBlock]; omega
/-- A list without elements, new. -/
theorem own_new (w : World) {B : Nat} (hB : B ≤ w.heap.size) : OwnI (w.alloc (.cells #[] 3)) B (.slice (some ⟨w.heap.size, 0, none⟩) 0 0) [] := World.ownsRow_made w #[] 0 hB (Nat.zero_le _) rfl
theorem alloc_below (w : World) (o : Obj) : Below w.heap.size w (w.alloc o) := (Below.refl _ _).alloc (Nat.le_refl _) _
theorem found_ready2 {B0 : Nat} {w : World} (hb0 : B0 ≤ w.heap.size) :
    Found B0 (w.heap.size + 1) (w.heap.size + 1 + 1) ((((w.alloc (.cells #[] 3)).alloc (.cells #[.slice (some ⟨w.heap.size, 0, none⟩) 0 0] 29)).alloc (.cells #[.int .i64 (-1)] 3)).alloc (.cells #[] 3)) ([], -1) ∧
    Below w.heap.size w ((((w.alloc (.cells #[] 3)).alloc (.cells #[.slice (some ⟨w.heap.size, 0, none⟩) 0 0] 29)).alloc (.cells #[.int .i64 (-1)] 3)).alloc (.cells #[] 3)) ∧
    ((((w.alloc (.cells #[] 3)).alloc (.cells #[.slice (some ⟨w.heap.size, 0, none⟩) 0 0] 29)).alloc (.cells #[.int .i64 (-1)] 3)).alloc (.cells #[] 3)).heap.size = w.heap.size + 4 ∧
    OwnI ((((w.alloc (.cells #[] 3)).alloc (.cells #[.slice (some ⟨w.heap.size, 0, none⟩) 0 0] 29)).alloc (.cells #[.int .i64 (-1)] 3)).alloc (.cells #[] 3)) (w.heap.size + 3) (.slice (some ⟨w.heap.size + 1 + 1 + 1, 0, none⟩) 0 0) [] := by
  obtain ⟨h1, h2, h3⟩ := found_ready hb0
  generalize ((w.alloc (.cells #[] 3)).alloc (.cells #[.slice (some ⟨w.heap.size, 0, none⟩) 0 0] 29)).alloc (.cells #[.int .i64 (-1)] 3) = X at h1 h2 h3 ⊢
  refine ⟨h1.below (alloc_below _ _), h2.trans ((alloc_below _ _).mono h2.size), by rw [World.size_alloc, h3], ?_⟩
  have := own_new X (B := w.heap.size + 3) (by omega)
  rw [h3] at this
  exact this
def bestAns (m : CMach) (l : List Casting) : List Int × Int × Bool := if okM m && okCs l then ((bestO m l).1, (bestO m l).2, true) else ([], 0, false)

set_option maxHeartbeats 4000000 in
set_option maxRecDepth 1000000 in
theorem best_walk (m : CMach) (l : List Casting) (hw1 : IntKind.i64.wrap m.1 = m.1) (hw2 : IntKind.i64.wrap m.2.1 = m.2.1) (hw3 : IntKind.i64.wrap m.2.2 = m.2.2) (vl : Value) (w : World) (I : Nat → Prop) (hI : InR w I) (hv : RepI w I (.isl 2 (rows cCasting l)) vl) :
    Calls Try.prog 16 #[.agg #[.int .i64 m.1, .int .i64 m.2.1, .int .i64 m.2.2], vl] w fun e w' => ∃ v, e = .returned (.tuple #[v, .int .i64 (bestAns m l).2.1, .bool (bestAns m l).2.2]) ∧ Below w.heap.size w w' ∧ OwnI w' w.heap.size v (bestAns m l).1 := by
  obtain ⟨vA, vc, rfl⟩ := isl_shape hv
  rw [rows_eq, List.length_map] at hv ⊢
  have hmf : ∀ (fn : Fn) (first cap : Array Value) (w : World), (Instr.makeFunc fn first cap).run Try.prog w = .ok (.func fn first cap) w := fun _ _ _ _ => rfl
  let W1 : World := w.alloc (.cells #[.int .i64 m.1, .int .i64 m.2.1, .int .i64 m.2.2] 25)
  let W2 : World := W1.alloc (.cells #[.slice vA l.length vc] 26)
  have s1 : W1.heap.size = w.heap.size + 1 := by simp [W1]
  have hsz : W2.heap.size = w.heap.size + 2 := by simp [W2, s1]
  have q1 : Below w.heap.size w W1 := (Below.refl _ _).alloc (Nat.le_refl _) _
  have q2 : Below W1.heap.size W1 W2 := (Below.refl _ _).alloc (Nat.le_refl _) _
  have b3 : Below w.heap.size w W2 := q1.trans (q2.mono q1.size)
  have e1 : W2.heap[w.heap.size]? = some (.cells #[.int .i64 m.1, .int .i64 m.2.1, .int .i64 m.2.2] 25 (0, 0)) := by
    rw [q2.block _ (by omega)]; exact heap_alloc_new w _
  have e2 : W2.heap[w.heap.size + 1]? = some (.cells #[.slice vA l.length vc] 26 (0, 0)) := by
    rw [← s1]; exact heap_alloc_new W1 _
  have hA : ∀ W : World, Calls Try.prog 27 #[.agg #[.int .i64 m.1, .int .i64 m.2.1, .int .i64 m.2.2]] W fun e w' => e = .returned (.bool (okM m)) ∧ Below W.heap.size W w' := fun W =>
    calls_bool (IsMachine_ok m) (inr_all W) (vs := [.agg #[.int .i64 m.1, .int .i64 m.2.1, .int .i64 m.2.2]]) (All2.cons (.agg (cMachine m) [.int .i64 m.1, .int .i64 m.2.1, .int .i64 m.2.2] (.cons (.int _ _ hw1) (.cons (.int _ _ hw2) (.cons (.int _ _ hw3) .nil)))) .nil)
  have hC : ∀ W : World, Below w.heap.size w W → Calls Try.prog 28 #[.slice vA l.length vc] W fun e w' => e = .returned (.bool (okCs l)) ∧ Below W.heap.size W w' := fun W hW =>
    calls_bool (AreCastings_ok l) (inr_all W) (vs := [.slice vA l.length vc]) (All2.cons (.one (by rw [rows_eq]; exact hv.mono fun g hg => ⟨Nat.lt_of_lt_of_le (hI.1 g hg) hW.size, hW.block g (hI.1 g hg)⟩)) .nil)
  have hv' : RepI w (fun k => k < w.heap.size) (.isl 2 (rows cCasting l)) (.slice vA l.length vc) := by rw [rows_eq]; exact hv.mono fun g hg => ⟨hI.1 g hg, rfl⟩
  have K : ∀ W : World, Below W2.heap.size W2 W → CastEnv w.heap.size w.heap.size (w.heap.size + 1) m l (.slice vA l.length vc) W ∧ W.cell? ⟨w.heap.size + 1, 0, none⟩ = some (.slice vA l.length vc) := by
    intro W hW
    have a1 := (hW.block w.heap.size (by omega)).trans e1
    have a2 := (hW.block (w.heap.size + 1) (by omega)).trans e2
    exact ⟨⟨a1, a2, hv'.mono fun g hg => ⟨hg, by rw [hW.block g (by omega)]; exact b3.block g hg⟩, by have := hW.size; omega⟩, cell_of_one a2⟩
  cases hM : okM m
  · rw [hM] at hA
    have ha : bestAns m l = ([], 0, false) := by rw [bestAns, hM]; rfl
    go_enter Try.func16, Try.ntmps16
    go_wp2_with (go_at_call 27; refine (hA _).mono ?_; rintro e w4 ⟨rfl, b4⟩)
    go_ret3
    rw [ha]
    have c4 := b3.trans (b4.mono b3.size)
    exact ⟨_, rfl, c4.alloc c4.size _, World.ownsRow_made _ _ _ c4.size (by decide) rfl⟩
  · rw [hM] at hA
    cases hO : okCs l
    · rw [hO] at hC
      have ha : bestAns m l = ([], 0, false) := by rw [bestAns, hM, hO]; rfl
      go_enter Try.func16, Try.ntmps16
      go_wp2_with (first | (go_at_call 27; go_must (refine (hA _).mono ?_; rintro e w4 ⟨rfl, b4⟩; obtain ⟨k1, k2⟩ := K w4 b4; have c4 := b3.trans (b4.mono b3.size))) | (go_at_call 28; go_must (refine (hC _ c4).mono ?_; rintro e w5 ⟨rfl, b5⟩; have c5 := c4.trans (b5.mono c4.size))))
      go_ret3
      rw [ha]
      exact ⟨_, rfl, c5.alloc c5.size _, World.ownsRow_made _ _ _ c5.size (by decide) rfl⟩
    · rw [hO] at hC
      have ha : bestAns m l = ((bestO m l).1, (bestO m l).2, true) := by rw [bestAns, hM, hO]; rfl
      go_enter Try.func16, Try.ntmps16
      go_wp2_with (first | (go_at_call 27; go_must (refine (hA _).mono ?_; rintro e w4 ⟨rfl, b4⟩; obtain ⟨k1, k2⟩ := K w4 b4; have c4 := b3.trans (b4.mono b3.size))) | (go_at_call 28; go_must (refine (hC _ c4).mono ?_; rintro e w5 ⟨rfl, b5⟩; have c5 := c4.trans (b5.mono c4.size); obtain ⟨k1, k2⟩ := K w5 (b4.trans (b5.mono b4.size)); obtain ⟨g1, g2, g3⟩ := found_ready (B0 := w.heap.size) c5.size; have k3 := k1.below g2; have k4 := cell_of_one k3.lb; obtain ⟨g4, g5, g6, g7⟩ := found_ready2 (B0 := w.heap.size) c5.size; have k5 := k1.below g5)) | (go_at_call 75; go_must (refine (best_each hM hO _ _ g4 k5 (w5.heap.size + 3) (by have := c5.size; omega) (by omega) (by omega) (by omega) g7).mono ?_; rintro e w9 ⟨rfl, ⟨i9, -⟩, u9⟩; obtain ⟨vb, h9, o9, -⟩ := i9.best; have n9 := cell_of_one h9; have m9 := cell_of_one i9.least)))
      go_region
      all_goals (try go_wp2)
      go_ret3
      rw [ha]
      refine ⟨vb, rfl, ((c5.trans (g5.mono c5.size)).trans (u9.below (B := w.heap.size) (by have := c5.size; omega) fun k hk => by have := c5.size; omega)).drew, o9.below (Below.refl _ _).drew⟩
theorem own_res {w : World} {B : Nat} {v : Value} {o : List Int} (h : OwnI w B v o) (hx : ∀ x ∈ o, IntKind.i64.wrap x = x) :
    (∀ I, Res1 w I B (.fr 3 1 (rows cInt o)) v (headOf v).toList) ∧ (headOf v).toList.Nodup ∧ ∀ g ∈ (headOf v).toList, B ≤ g ∧ g < w.heap.size := by
  refine ⟨fun I => .fr _ _ _ _ (o.map (.int .i64)) (by rw [rows_eq, List.length_map]; exact h) (by rw [rows_eq]; exact repIs_ints1 hx) (fun x hx => by rw [rows_eq] at hx; obtain ⟨y, -, rfl⟩ := List.mem_map.1 hx; rfl), ?_, ?_⟩
  · cases headOf v <;> simp
  · obtain ⟨-, ⟨rfl, hn⟩ | ⟨g, cap, cur, rfl, hb, hg, r⟩⟩ := h
    · intro g hg; cases hg
    · intro k hk
      obtain rfl : k = g := by simpa [headOf] using hk
      exact ⟨hb, (Array.getElem?_eq_some_iff.1 hg).1⟩
theorem lic_rep {w w' : World} {I : Nat → Prop} {v : Value} {o : List Int} {n : Int} {b : Bool} (h : OwnI w' w.heap.size v o) (hx : ∀ x ∈ o, IntKind.i64.wrap x = x) (hn : IntKind.i64.wrap n = n) :
    RepR I w.heap.size w' (lic 3 1 cInt (o, n, b)) (.tuple #[v, .int .i64 n, .bool b]) ((headOf v).toList ++ ([] ++ ([] ++ []))) := by
  obtain ⟨h1, h2, h3⟩ := own_res h hx
  refine ⟨by simpa using h2, fun g hg => h3 g (by simpa using hg), .tup (.cons (h1 _) (.cons (.imm (.int _ _ hn)) (.cons (.imm (.bool _)) .nil)))⟩
theorem lb_rep {w w' : World} {I : Nat → Prop} {v : Value} {o : List Int} {b : Bool} (h : OwnI w' w.heap.size v o) (hx : ∀ x ∈ o, IntKind.i64.wrap x = x) :
    RepR I w.heap.size w' (lb 3 1 cInt (o, b)) (.tuple #[v, .bool b]) ((headOf v).toList ++ ([] ++ [])) := by
  obtain ⟨h1, h2, h3⟩ := own_res h hx
  exact ⟨by simpa using h2, fun g hg => h3 g (by simpa using hg), .tup (.cons (h1 _) (.cons (.imm (.bool _)) .nil))⟩
theorem mach_args {w : World} {I : Nat → Prop} {m : CMach} {r : List PV} {vs : List Value} (h : All2 (RepArg w I) (.agg (cMachine m) :: r) vs) : ∃ us, vs = .agg #[.int .i64 m.1, .int .i64 m.2.1, .int .i64 m.2.2] :: us ∧ All2 (RepArg w I) r us ∧ IntKind.i64.wrap m.1 = m.1 ∧ IntKind.i64.wrap m.2.1 = m.2.1 ∧ IntKind.i64.wrap m.2.2 = m.2.2 := by
  cases h with
  | cons h t =>
    cases h with
    | one h => cases h
    | agg _ cs h =>
      cases h with
      | cons h1 h => cases h with
        | cons h2 h => cases h with
          | cons h3 h => cases h; cases h1 with
            | int _ _ a1 => cases h2 with
              | int _ _ a2 => cases h3 with
                | int _ _ a3 => exact ⟨_, rfl, t, a1, a2, a3⟩
theorem one_args {w : World} {I : Nat → Prop} {p : PV} {r : List PV} {vs : List Value} (hp : ∀ cs, p ≠ .agg cs) (h : All2 (RepArg w I) (p :: r) vs) : ∃ u us, vs = u :: us ∧ All2 (RepArg w I) r us ∧ RepI w I p u := by
  cases h with
  | cons h t =>
    cases h with
    | one h => exact ⟨_, _, rfl, t, h⟩
    | agg cs _ _ => exact absurd rfl (hp cs)
theorem nil_args {w : World} {I : Nat → Prop} {vs : List Value} (h : All2 (RepArg w I) [] vs) : vs = [] := by cases h; rfl
theorem diff_wrap {l : List Casting} (hl : okCs l = true) {o : List Int} (h : Diff l.length o) : ∀ x ∈ o, IntKind.i64.wrap x = x := fun x hx => by have := h.2 x hx; have := okCs_len hl; exact wrap64 (by omega) (by omega)
theorem mostAns_wrap (m : CMach) (l : List Casting) (minutes : Int) : ∀ x ∈ (mostAns m l minutes).1, IntKind.i64.wrap x = x := by
  unfold mostAns
  split
  · rename_i h
    simp only [Bool.and_eq_true] at h
    exact diff_wrap h.2.1 (mostF_spec (by have := inB_spec h.2.2; omega)).1
  · intro x hx; cases hx
theorem MostCastings_ok (m : CMach) (l : List Casting) (minutes : Int) : OkA Try.prog 14 [.agg (cMachine m), .isl 2 (rows cCasting l), .int .i64 minutes] (· = lb 3 1 cInt (mostAns m l minutes)) := by
  refine ⟨⟨_, Try.func14, rfl, rfl⟩, fun w I vs hI hargs => ?_⟩
  obtain ⟨us, rfl, h2, a1, a2, a3⟩ := mach_args hargs
  obtain ⟨vl, us, rfl, h3, hv⟩ := one_args (fun cs e => by cases e) h2
  obtain ⟨vn, us, rfl, h4, hn⟩ := one_args (fun cs e => by cases e) h3
  obtain rfl := nil_args h4
  cases hn with
  | int _ _ a4 =>
    refine (most_walk m l minutes a1 a2 a3 a4 vl w I hI hv).mono ?_
    rintro e w' ⟨v, rfl, hb, ho⟩
    exact ⟨_, lb 3 1 cInt (mostAns m l minutes), _, rfl, rfl, hb, lb_rep ho (mostAns_wrap m l minutes)⟩
theorem bestAns_wrap (m : CMach) (l : List Casting) : (∀ x ∈ (bestAns m l).1, IntKind.i64.wrap x = x) ∧ IntKind.i64.wrap (bestAns m l).2.1 = (bestAns m l).2.1 := by
  unfold bestAns
  split
  · rename_i h
    simp only [Bool.and_eq_true] at h
    obtain ⟨h1, h2, h3, -⟩ := bestO_spec h.1 (okAll_of h.2)
    refine ⟨diff_wrap h.2 h1, ?_⟩
    show IntKind.i64.wrap (bestO m l).2 = (bestO m l).2
    rw [h3]
    have hask : askB m l (bestO m l).1 = true := by rw [askB, h.1, h.2, fineB_diff.2 h1]; rfl
    have h5 : 0 ≤ timeF m l (bestO m l).1 ∧ timeF m l (bestO m l).1 ≤ 56000000 := by
      rw [timeF, lastG_last]
      cases e : (endsG m l m.1 0 (bestO m l).1).getLast? with
      | none => simp
      | some x => exact (ends_fits hask).2.1 x (List.mem_of_getLast? e)
    exact wrap64 (by omega) (by omega)
  · exact ⟨(fun x hx => by cases hx), rfl⟩
theorem BestCastOrder_ok (m : CMach) (l : List Casting) : OkA Try.prog 16 [.agg (cMachine m), .isl 2 (rows cCasting l)] (· = lic 3 1 cInt (bestAns m l)) := by
  refine ⟨⟨_, Try.func16, rfl, rfl⟩, fun w I vs hI hargs => ?_⟩
  obtain ⟨us, rfl, h2, a1, a2, a3⟩ := mach_args hargs
  obtain ⟨vl, us, rfl, h3, hv⟩ := one_args (fun cs e => by cases e) h2
  obtain rfl := nil_args h3
  refine (best_walk m l a1 a2 a3 vl w I hI hv).mono ?_
  rintro e w' ⟨v, rfl, hb, ho⟩
  obtain ⟨h1, h2⟩ := bestAns_wrap m l
  exact ⟨_, lic 3 1 cInt (bestAns m l), _, rfl, rfl, hb, lic_rep ho h1 h2⟩

end Go.Proofs.Ytjmjepdlclehoaa.Ai
