/- impl.leastOrder: its closure and the walk over all orders, for whatever cost. -/
import Derived.Test.YtjmjepdlclehoaaBest2
import Derived.Test.YtjmjepdlclehoaaLeastLaw
import Derived.Test.YtjmjepdlclehoaaBestP
namespace Go.Proofs.Ytjmjepdlclehoaa.Ai
open Go Go.Proofs Go.RowKit
set_option linter.unusedSimpArgs false
set_option linter.unusedVariables false

/-- Boxes of a number and of a cost's function, and what the cost needs. -/
structure LeastEnv (B0 bn bc n : Nat) (fc : FuncId) (capc : Array Value) (E : World → Prop) (w : World) : Prop where
  nb : w.heap[bn]? = some (.cells #[.int .i64 (n : Int)] 3 (0, 0))
  cb : w.heap[bc]? = some (.cells #[.func (.func fc) #[] capc] 75 (0, 0))
  env : E w
  b0 : B0 ≤ w.heap.size
  bn0 : bn < B0
  bc0 : bc < B0
theorem LeastEnv.upd {B0 bn bc n : Nat} {fc : FuncId} {capc : Array Value} {E : World → Prop} {S : Nat → Prop} {w w' : World} (hE : ∀ (w w' : World) (S : Nat → Prop), E w → Upd S w w' → (∀ k, S k → B0 ≤ k) → E w') (h : LeastEnv B0 bn bc n fc capc E w) (hu : Upd S w w') (hS : ∀ k, S k → B0 ≤ k) : LeastEnv B0 bn bc n fc capc E w' := by
  obtain ⟨h1, h2, h3, h4, h5, h6⟩ := h
  refine ⟨?_, ?_, hE _ _ S h3 hu hS, Nat.le_trans h4 hu.size, h5, h6⟩
  · rw [hu.block _ (by omega) fun e => by have := hS _ e; omega]; exact h1
  · rw [hu.block _ (by omega) fun e => by have := hS _ e; omega]; exact h2

set_option maxHeartbeats 4000000 in
set_option maxRecDepth 1000000 in
theorem least_clo {B0 bb bs bn bc n : Nat} {fc : FuncId} {capc : Array Value} {E : World → Prop} {C : List Int → Int} (hen : ∀ (args : Array Value) (w : World), (callFunc fc args).run Try.prog w = .ok (.enter fc args) w)
    (hE : ∀ (w w' : World) (S : Nat → Prop), E w → Upd S w w' → (∀ k, S k → B0 ≤ k) → E w')
    (hcost : ∀ (w : World) (o : List Int) (v : Value) (B : Nat), E w → OwnI w B v o → Diff n o → o.length = n → Calls Try.prog fc (#[v] ++ capc) w fun e w' => e = .returned (.int .i64 (C o)) ∧ Below w.heap.size w w')
    (w : World) (a : List Int × Int) (o : List Int) (v : Value) (hf : Found B0 bb bs w a) (he : LeastEnv B0 bn bc n fc capc E w) (B : Nat) (hB : B0 ≤ B) (hbb : bb < B) (hbs : bs < B) (hv : OwnI w B v o) (hd : Diff n o) :
    Calls Try.prog 147 (#[v] ++ #[.pointer (some ⟨bn, 0, none⟩), .pointer (some ⟨bc, 0, none⟩), .pointer (some ⟨bs, 0, none⟩), .pointer (some ⟨bb, 0, none⟩)]) w
      fun e w' => e = .returned (.tuple #[]) ∧ (Found B0 bb bs w' (leastStep C n a o) ∧ LeastEnv B0 bn bc n fc capc E w') ∧ Upd (fun k => k = bb ∨ k = bs) w w' := by
  have hap : ∀ k, k = bb ∨ k = bs → B0 ≤ k := by
    rintro k (rfl | rfl)
    · exact hf.bb0
    · exact hf.bs0
  have hlen := diff_len n o hd
  have hA : ¬ o.length < n → Calls Try.prog fc (#[v] ++ capc) w fun e w' => e = .returned (.int .i64 (C o)) ∧ Below w.heap.size w w' := fun h => hcost w o v B he.env hv hd (by omega)
  obtain ⟨ka, kc, rfl⟩ := hv.shape
  have c2 := cell_of_one he.nb
  have c3 := cell_of_one he.cb
  have hup : ∀ w1, Below w.heap.size w w1 → LeastEnv B0 bn bc n fc capc E w1 := fun w1 b1 => he.upd hE (Upd.of (S := fun _ => False) b1) fun _ e => e.elim
  have hNo : ∀ w1, Below w.heap.size w w1 → leastStep C n a o = a → (Found B0 bb bs w1 (leastStep C n a o) ∧ LeastEnv B0 bn bc n fc capc E w1) ∧ Upd (fun k => k = bb ∨ k = bs) w w1 := fun w1 b1 e => by
    rw [e]; exact ⟨⟨hf.below b1, hup w1 b1⟩, Upd.of b1⟩
  have hYes : ∀ w1, Below w.heap.size w w1 → leastStep C n a o = (o, C o) → (Found B0 bb bs ((w1.setCell ⟨bb, 0, none⟩ (.slice ka o.length kc)).setCell ⟨bs, 0, none⟩ (.int .i64 (C o))) (leastStep C n a o) ∧ LeastEnv B0 bn bc n fc capc E ((w1.setCell ⟨bb, 0, none⟩ (.slice ka o.length kc)).setCell ⟨bs, 0, none⟩ (.int .i64 (C o)))) ∧ Upd (fun k => k = bb ∨ k = bs) w ((w1.setCell ⟨bb, 0, none⟩ (.slice ka o.length kc)).setCell ⟨bs, 0, none⟩ (.int .i64 (C o))) := fun w1 b1 e => by
    rw [e]
    obtain ⟨s1, s2, -, -⟩ := (hf.below b1).store (hv.below b1) hB hbb hbs (C o)
    exact ⟨⟨s1, (hup w1 b1).upd hE s2 hap⟩, (Upd.of b1).trans s2⟩
  by_cases hlt : o.length < n
  · clear hA
    go_enter Try.func147, Try.ntmps147
    go_wp2
    all_goals try (exfalso; omega)
    first | go_end0 | ((try simp only [Exit.inBlock, Exit.then]); refine bodyPost_ret (results_none rfl _ _ _) rfl ?_)
    exact ⟨rfl, hNo _ (Below.refl _ _) (by rw [leastStep, if_pos hlt])⟩
  · have hA' := hA hlt
    clear hA
    generalize hcq : C o = cq at *
    by_cases h0 : a.2 < 0
    · go_enter Try.func147, Try.ntmps147
      go_wp2_with (go_at_fn fc; go_must (refine hA'.mono ?_; rintro e w1 ⟨rfl, b1⟩; have f1 := hf.below b1; have c3 := cell_of_one f1.least; obtain ⟨vb, g1, g2, g3⟩ := f1.best; have c4 := cell_of_one g1; have c5 := free_of_one g1; obtain ⟨-, -, c6, c7⟩ := f1.store (hv.below b1) hB hbb hbs cq))
      all_goals try (exfalso; omega)
      go_end0
      exact ⟨rfl, hYes _ b1 (by rw [leastStep, if_neg hlt, if_pos (.inl h0), hcq])⟩
    · by_cases h2 : cq < a.2
      · go_enter Try.func147, Try.ntmps147
        go_wp2_with (go_at_fn fc; go_must (refine hA'.mono ?_; rintro e w1 ⟨rfl, b1⟩; have f1 := hf.below b1; have c3 := cell_of_one f1.least; obtain ⟨vb, g1, g2, g3⟩ := f1.best; have c4 := cell_of_one g1; have c5 := free_of_one g1; obtain ⟨-, -, c6, c7⟩ := f1.store (hv.below b1) hB hbb hbs cq))
        all_goals try (exfalso; omega)
        go_end0
        exact ⟨rfl, hYes _ b1 (by rw [leastStep, if_neg hlt, if_pos (.inr (by omega)), hcq])⟩
      · go_enter Try.func147, Try.ntmps147
        go_wp2_with (go_at_fn fc; go_must (refine hA'.mono ?_; rintro e w1 ⟨rfl, b1⟩; have f1 := hf.below b1; have c3 := cell_of_one f1.least))
        all_goals try (exfalso; omega)
        go_end0
        exact ⟨rfl, hNo _ b1 (by rw [leastStep, if_neg hlt, if_neg (by omega)])⟩

theorem least_each {B0 bb bs bn bc n : Nat} {fc : FuncId} {capc : Array Value} {E : World → Prop} {C : List Int → Int} (hn : n ≤ 100) (hen : ∀ (args : Array Value) (w : World), (callFunc fc args).run Try.prog w = .ok (.enter fc args) w)
    (hE : ∀ (w w' : World) (S : Nat → Prop), E w → Upd S w w' → (∀ k, S k → B0 ≤ k) → E w')
    (hcost : ∀ (w : World) (o : List Int) (v : Value) (B : Nat), E w → OwnI w B v o → Diff n o → o.length = n → Calls Try.prog fc (#[v] ++ capc) w fun e w' => e = .returned (.int .i64 (C o)) ∧ Below w.heap.size w w')
    (w : World) (v : Value) (hf : Found B0 bb bs w ([], -1)) (he : LeastEnv B0 bn bc n fc capc E w) (B : Nat) (hB : B0 ≤ B) (hbb : bb < B) (hbs : bs < B) (hw : B ≤ w.heap.size) (hv : OwnI w B v []) :
    Calls Try.prog 75 #[.int .i64 (n : Int), v, .func (.func 147) #[] #[.pointer (some ⟨bn, 0, none⟩), .pointer (some ⟨bc, 0, none⟩), .pointer (some ⟨bs, 0, none⟩), .pointer (some ⟨bb, 0, none⟩)]] w
      fun e w' => e = .returned (.tuple #[]) ∧ (Found B0 bb bs w' (leastF C n) ∧ LeastEnv B0 bn bc n fc capc E w') ∧ Upd (fun k => k = bb ∨ k = bs) w w' :=
  each_walk n hn _ (enters_eq Try.func147 rfl rfl) _ B (fun k => k = bb ∨ k = bs) (fun w a => Found B0 bb bs w a ∧ LeastEnv B0 bn bc n fc capc E w) (leastStep C n) (fun k hk => by omega)
    (fun w w' a h hb => ⟨h.1.below hb, h.2.upd hE (Upd.of (S := fun _ => False) hb) fun _ e => e.elim⟩)
    (fun w a o v hi hB2 hv hd => least_clo hen hE hcost w a o v hi.1 hi.2 B hB hbb hbs hv hd) n [] ([], -1) w v (by simp) (diff_nil _) ⟨hf, he⟩ hw hv

/- The contracts of impl.leastOrder, impl.LeastWashing, impl.LeastDelay. -/

set_option maxHeartbeats 4000000 in
set_option maxRecDepth 1000000 in
theorem leastOrder_walk {Bq n : Nat} {fc : FuncId} {capc : Array Value} {E : World → Prop} {C : List Int → Int} (hn : n ≤ 100) (hen : ∀ (args : Array Value) (w : World), (callFunc fc args).run Try.prog w = .ok (.enter fc args) w)
    (hE : ∀ (w w' : World) (S : Nat → Prop), E w → Upd S w w' → (∀ k, S k → Bq ≤ k) → E w')
    (hcost : ∀ (w : World) (o : List Int) (v : Value) (B : Nat), E w → OwnI w B v o → Diff n o → o.length = n → Calls Try.prog fc (#[v] ++ capc) w fun e w' => e = .returned (.int .i64 (C o)) ∧ Below w.heap.size w w')
    (w : World) (hq : Bq ≤ w.heap.size) (hEw : E w) :
    Calls Try.prog 110 #[.int .i64 (n : Int), .func (.func fc) #[] capc] w fun e w' => ∃ v, e = .returned (.tuple #[v, .int .i64 (leastF C n).2]) ∧ Below w.heap.size w w' ∧ OwnI w' w.heap.size v (leastF C n).1 := by
  have hmf : ∀ (fn : Fn) (first cap : Array Value) (w : World), (Instr.makeFunc fn first cap).run Try.prog w = .ok (.func fn first cap) w := fun _ _ _ _ => rfl
  have hsf := fun (a : Addr) (c : Array Value) (w : World) => run_store Try.prog w a (.func (.func fc) #[] c) .plain rfl
  have q1 := alloc_below w (.cells #[.int .i64 (n : Int)] 3)
  have s1 : (w.alloc (.cells #[.int .i64 (n : Int)] 3)).heap.size = w.heap.size + 1 := by simp
  have q2 := alloc_below (w.alloc (.cells #[.int .i64 (n : Int)] 3)) (.cells #[.func (.func fc) #[] capc] 75)
  have s2 : ((w.alloc (.cells #[.int .i64 (n : Int)] 3)).alloc (.cells #[.func (.func fc) #[] capc] 75)).heap.size = w.heap.size + 1 + 1 := by simp
  have b2 := q1.trans (q2.mono q1.size)
  have e1 : ((w.alloc (.cells #[.int .i64 (n : Int)] 3)).alloc (.cells #[.func (.func fc) #[] capc] 75)).heap[w.heap.size]? = some (.cells #[.int .i64 (n : Int)] 3 (0, 0)) := by
    rw [q2.block _ (by omega)]; exact heap_alloc_new w _
  have e2 : ((w.alloc (.cells #[.int .i64 (n : Int)] 3)).alloc (.cells #[.func (.func fc) #[] capc] 75)).heap[w.heap.size + 1]? = some (.cells #[.func (.func fc) #[] capc] 75 (0, 0)) := by
    rw [← s1]; exact heap_alloc_new _ _
  have hE2 : ∀ (w w' : World) (S : Nat → Prop), E w → Upd S w w' → (∀ k, S k → (n0 : Nat) → n0 = 0 → Bq ≤ k) → E w' := fun w w' S h hu hS => hE w w' S h hu fun k hk => hS k hk 0 rfl
  have le2 : LeastEnv (w.heap.size + 2) w.heap.size (w.heap.size + 1) n fc capc E ((w.alloc (.cells #[.int .i64 (n : Int)] 3)).alloc (.cells #[.func (.func fc) #[] capc] 75)) :=
    ⟨e1, e2, hE _ _ (fun _ => False) hEw (Upd.of b2) (fun _ e => e.elim), by omega, by omega, by omega⟩
  have hE3 : ∀ (w1 w' : World) (S : Nat → Prop), E w1 → Upd S w1 w' → (∀ k, S k → w.heap.size + 2 ≤ k) → E w' := fun w1 w' S h hu hS => hE w1 w' S h hu fun k hk => by have := hS k hk; omega
  have hb0 : w.heap.size + 2 ≤ ((w.alloc (.cells #[.int .i64 (n : Int)] 3)).alloc (.cells #[.func (.func fc) #[] capc] 75)).heap.size := by omega
  obtain ⟨g1, g2, g3⟩ := found_ready hb0
  obtain ⟨g4, g5, g6, g7⟩ := found_ready2 hb0
  have k3 := le2.upd hE3 (Upd.of (S := fun _ => False) g2) fun _ e => e.elim
  have k5 := le2.upd hE3 (Upd.of (S := fun _ => False) g5) fun _ e => e.elim
  have k4 := cell_of_one k3.nb
  rw [s2] at k4 g4 g6 g7 k5 g5
  go_enter Try.func110, Try.ntmps110
  go_wp2_with (go_at_call 75; go_must (refine (least_each hn hen hE3 hcost _ _ g4 k5 (w.heap.size + 5) (by omega) (by omega) (by omega) (by omega) g7).mono ?_; rintro e w9 ⟨rfl, ⟨i9, -⟩, u9⟩; obtain ⟨vb, h9, o9, -⟩ := i9.best; have n9 := cell_of_one h9; have m9 := cell_of_one i9.least))
  go_region
  all_goals (try go_wp2)
  go_ret2
  refine ⟨vb, rfl, ((b2.trans (g5.mono (by omega))).trans (u9.below (B := w.heap.size) (by omega) fun k hk => by omega)).drew, (o9.low (by omega)).below (Below.refl _ _).drew⟩

/-! ### Washing and delay -/
structure PressEnv (B1 bp bi bl : Nat) (p : Press) (ink : Int) (l : List PressJob) (vw vl : Value) (w : World) : Prop where
  pb : w.heap[bp]? = some (.cells #[.int .i64 p.1, .int .i64 p.2.1, .int .i64 p.2.2.1, vw] 56 (0, 0))
  ib : w.heap[bi]? = some (.cells #[.int .i64 ink] 3 (0, 0))
  lb : w.heap[bl]? = some (.cells #[vl] 57 (0, 0))
  wash : RepI w (fun k => k < B1) (.isl 1 (rows cInt p.2.2.2)) vw
  row : RepI w (fun k => k < B1) (.isl 3 (rows cPressJob l)) vl
  lt : bp < B1 ∧ bi < B1 ∧ bl < B1 ∧ B1 ≤ w.heap.size
theorem PressEnv.upd {B1 bp bi bl : Nat} {p : Press} {ink : Int} {l : List PressJob} {vw vl : Value} (w w' : World) (S : Nat → Prop) (h : PressEnv B1 bp bi bl p ink l vw vl w) (hu : Upd S w w') (hS : ∀ k, S k → B1 ≤ k) : PressEnv B1 bp bi bl p ink l vw vl w' := by
  obtain ⟨h1, h2, h3, h4, h5, h6⟩ := h
  have kp : ∀ k, k < B1 → w'.heap[k]? = w.heap[k]? := fun k hk => hu.block k (by omega) fun e => by have := hS k e; omega
  exact ⟨by rw [kp _ h6.1]; exact h1, by rw [kp _ h6.2.1]; exact h2, by rw [kp _ h6.2.2.1]; exact h3, h4.mono fun g hg => ⟨hg, kp g hg⟩, h5.mono fun g hg => ⟨hg, kp g hg⟩, h6.1, h6.2.1, h6.2.2.1, Nat.le_trans h6.2.2.2 hu.size⟩
theorem calls_li {P : Program} {w : World} {I : Nat → Prop} {f : FuncId} {args : List PV} {e : TypeId} {l : List Int × Int} (h : OkA P f args (· = li e 1 cInt l)) {vs : List Value} (hI : InR w I) (ha : All2 (RepArg w I) args vs) :
    Calls P f vs.toArray w fun en w' => ∃ v, en = .returned (.tuple #[v, .int .i64 l.2]) ∧ Below w.heap.size w w' := by
  refine (h.2 w I vs hI ha).mono ?_
  rintro en w' ⟨v, r, gs, rfl, rfl, hb, -, -, hr⟩
  unfold li at hr
  cases hr with
  | one hr => cases hr with
    | imm hr => cases hr
  | tup hr =>
    cases hr with
    | cons h1 h2 => cases h2 with
      | cons h2 h3 => cases h3; cases h2 with
        | imm h2 => cases h2; exact ⟨_, rfl, hb⟩
theorem press_args {p : Press} {ink : Int} {l : List PressJob} {B1 bp bi bl : Nat} {vw vl v : Value} {w : World} {B : Nat} {o : List Int} (hwk : workB p ink l = true) (h : PressEnv B1 bp bi bl p ink l vw vl w) (hv : OwnI w B v o) (hd : Diff l.length o) :
    All2 (RepArg w (fun k => k < w.heap.size)) [.agg (cPress p), .int .i64 ink, .isl 3 (rows cPressJob l), .isl 1 (rows cInt o)] [.agg #[.int .i64 p.1, .int .i64 p.2.1, .int .i64 p.2.2.1, vw], .int .i64 ink, vl, v] := by
  obtain ⟨k1, k2, k3⟩ := workB_spec hwk
  have := okJobs_len7 k3
  exact All2.cons (press_arg k1 (h.wash.mono fun g hg => ⟨Nat.lt_of_lt_of_le hg h.lt.2.2.2, rfl⟩)) (All2.cons (.one (.int _ _ (wrap64 (by omega) (by omega)))) (All2.cons (.one (h.row.mono fun g hg => ⟨Nat.lt_of_lt_of_le hg h.lt.2.2.2, rfl⟩)) (All2.cons (.one (hv.rep (diff_wrapN (by omega) hd))) .nil)))
set_option maxHeartbeats 4000000 in
set_option maxRecDepth 1000000 in
theorem washing_clo {p : Press} {ink : Int} {l : List PressJob} {B1 bp bi bl : Nat} {vw vl : Value} (hwk : workB p ink l = true) (w : World) (o : List Int) (v : Value) (B : Nat) (h : PressEnv B1 bp bi bl p ink l vw vl w) (hv : OwnI w B v o) (hd : Diff l.length o) (hl : o.length = l.length) :
    Calls Try.prog 111 (#[v] ++ #[.pointer (some ⟨bp, 0, none⟩), .pointer (some ⟨bi, 0, none⟩), .pointer (some ⟨bl, 0, none⟩)]) w fun e w' => e = .returned (.int .i64 (washP p l ink o)) ∧ Below w.heap.size w w' := by
  have hA := press_args hwk h hv hd
  have h1 := h.pb
  have c2 := cell_of_one h.ib
  have c3 := cell_of_one h.lb
  have m0 : w.cell? ⟨bp, 0, none⟩ = some (.int .i64 p.1) := by simp [World.cell?, h1]
  have m1 : w.cell? ⟨bp, 1, none⟩ = some (.int .i64 p.2.1) := by simp [World.cell?, h1]
  have m2 : w.cell? ⟨bp, 2, none⟩ = some (.int .i64 p.2.2.1) := by simp [World.cell?, h1]
  have m3 : w.cell? ⟨bp, 3, none⟩ = some vw := by simp [World.cell?, h1]
  have hR := calls_li (run_ok p ink l o hwk (fineB_diff.2 hd)) (inr_all w) hA
  have hD := calls_int (delay_ok p ink l o hwk (fineB_diff.2 hd)) (inr_all w) hA
  go_enter Try.func111, Try.ntmps111
  go_wp2_with (first | (go_at_call 101; go_must (refine hR.mono ?_; rintro e w1 ⟨u, rfl, b1⟩)) | (go_at_call 107; go_must (refine hD.mono ?_; rintro e w1 ⟨rfl, b1⟩)))
  go_ret
  exact ⟨rfl, b1⟩

set_option maxHeartbeats 4000000 in
set_option maxRecDepth 1000000 in
theorem delaying_clo {p : Press} {ink : Int} {l : List PressJob} {B1 bp bi bl : Nat} {vw vl : Value} (hwk : workB p ink l = true) (w : World) (o : List Int) (v : Value) (B : Nat) (h : PressEnv B1 bp bi bl p ink l vw vl w) (hv : OwnI w B v o) (hd : Diff l.length o) (hl : o.length = l.length) :
    Calls Try.prog 114 (#[v] ++ #[.pointer (some ⟨bp, 0, none⟩), .pointer (some ⟨bi, 0, none⟩), .pointer (some ⟨bl, 0, none⟩)]) w fun e w' => e = .returned (.int .i64 (delayP p l ink o)) ∧ Below w.heap.size w w' := by
  have hA := press_args hwk h hv hd
  have h1 := h.pb
  have c2 := cell_of_one h.ib
  have c3 := cell_of_one h.lb
  have m0 : w.cell? ⟨bp, 0, none⟩ = some (.int .i64 p.1) := by simp [World.cell?, h1]
  have m1 : w.cell? ⟨bp, 1, none⟩ = some (.int .i64 p.2.1) := by simp [World.cell?, h1]
  have m2 : w.cell? ⟨bp, 2, none⟩ = some (.int .i64 p.2.2.1) := by simp [World.cell?, h1]
  have m3 : w.cell? ⟨bp, 3, none⟩ = some vw := by simp [World.cell?, h1]
  have hR := calls_li (run_ok p ink l o hwk (fineB_diff.2 hd)) (inr_all w) hA
  have hD := calls_int (delay_ok p ink l o hwk (fineB_diff.2 hd)) (inr_all w) hA
  go_enter Try.func114, Try.ntmps114
  go_wp2_with (first | (go_at_call 101; go_must (refine hR.mono ?_; rintro e w1 ⟨u, rfl, b1⟩)) | (go_at_call 107; go_must (refine hD.mono ?_; rintro e w1 ⟨rfl, b1⟩)))
  go_ret
  exact ⟨rfl, b1⟩

/- The contracts of impl.LeastWashing and impl.LeastDelay. -/

noncomputable def leastPA (C : List Int → Int) (ok : Bool) (n : Nat) : List Int × Int × Bool := if ok then ((leastF C n).1, (leastF C n).2, true) else ([], 0, false)
theorem leastPA_wrap {p : Press} {l : List PressJob} {ink : Int} {C : List Int → Int} (delay : Bool) (hC : C = costP p l ink delay) : (∀ x ∈ (leastPA C (workB p ink l) l.length).1, IntKind.i64.wrap x = x) ∧ IntKind.i64.wrap (leastPA C (workB p ink l) l.length).2.1 = (leastPA C (workB p ink l) l.length).2.1 := by
  subst hC
  unfold leastPA
  split
  · rename_i h
    obtain ⟨k1, k2, k3⟩ := workB_spec h
    obtain ⟨f1, f2, f3, -⟩ := leastF_spec (n := l.length) (costP_cost l ink delay k1)
    have hbd := costP_bound (delay := delay) h f1
    have := okJobs_len7 k3
    refine ⟨diff_wrapN (by omega) f1, ?_⟩
    show IntKind.i64.wrap (leastF (costP p l ink delay) l.length).2 = _
    rw [f3]; exact wrap64 (by omega) (by omega)
  · exact ⟨(fun x hx => by cases hx), rfl⟩
set_option maxHeartbeats 4000000 in
set_option maxRecDepth 1000000 in
theorem washing_walk (p : Press) (ink : Int) (l : List PressJob) (a1 : IntKind.i64.wrap p.1 = p.1) (a2 : IntKind.i64.wrap p.2.1 = p.2.1) (a3 : IntKind.i64.wrap p.2.2.1 = p.2.2.1) (a4 : IntKind.i64.wrap ink = ink) (vw vl : Value) (w : World) (I : Nat → Prop) (hI : InR w I) (hvw : RepI w I (.isl 1 (rows cInt p.2.2.2)) vw) (hv : RepI w I (.isl 3 (rows cPressJob l)) vl) :
    Calls Try.prog 43 #[.agg #[.int .i64 p.1, .int .i64 p.2.1, .int .i64 p.2.2.1, vw], .int .i64 ink, vl] w fun e w' => ∃ v, e = .returned (.tuple #[v, .int .i64 (leastPA (washP p l ink) (workB p ink l) l.length).2.1, .bool (leastPA (washP p l ink) (workB p ink l) l.length).2.2]) ∧ Below w.heap.size w w' ∧ OwnI w' w.heap.size v (leastPA (washP p l ink) (workB p ink l) l.length).1 := by
  obtain ⟨vA, vc, rfl⟩ := isl_shape hv
  rw [rows_eq, List.length_map] at hv ⊢
  have hmf : ∀ (fn : Fn) (first cap : Array Value) (w : World), (Instr.makeFunc fn first cap).run Try.prog w = .ok (.func fn first cap) w := fun _ _ _ _ => rfl
  let W1 : World := w.alloc (.cells #[.int .i64 p.1, .int .i64 p.2.1, .int .i64 p.2.2.1, vw] 56)
  let W2 : World := W1.alloc (.cells #[.int .i64 ink] 3)
  let W3 : World := W2.alloc (.cells #[.slice vA l.length vc] 57)
  have s1 : W1.heap.size = w.heap.size + 1 := by simp [W1]
  have s2 : W2.heap.size = w.heap.size + 2 := by simp [W2, s1]
  have hsz : W3.heap.size = w.heap.size + 3 := by simp [W3, s2]
  have q1 : Below w.heap.size w W1 := (Below.refl _ _).alloc (Nat.le_refl _) _
  have q2 : Below W1.heap.size W1 W2 := (Below.refl _ _).alloc (Nat.le_refl _) _
  have q3 : Below W2.heap.size W2 W3 := (Below.refl _ _).alloc (Nat.le_refl _) _
  have b3 : Below w.heap.size w W3 := (q1.trans (q2.mono q1.size)).trans (q3.mono (by omega))
  have e1 : W3.heap[w.heap.size]? = some (.cells #[.int .i64 p.1, .int .i64 p.2.1, .int .i64 p.2.2.1, vw] 56 (0, 0)) := by
    rw [q3.block _ (by omega), q2.block _ (by omega)]; exact heap_alloc_new w _
  have e2 : W3.heap[w.heap.size + 1]? = some (.cells #[.int .i64 ink] 3 (0, 0)) := by
    rw [q3.block _ (by omega), ← s1]; exact heap_alloc_new W1 _
  have e3 : W3.heap[w.heap.size + 1 + 1]? = some (.cells #[.slice vA l.length vc] 57 (0, 0)) := by
    rw [show w.heap.size + 1 + 1 = W2.heap.size by omega]; exact heap_alloc_new W2 _
  have hvw' : RepI w (fun k => k < w.heap.size) (.isl 1 (rows cInt p.2.2.2)) vw := hvw.mono fun g hg => ⟨hI.1 g hg, rfl⟩
  have hv' : RepI w (fun k => k < w.heap.size) (.isl 3 (rows cPressJob l)) (.slice vA l.length vc) := by rw [rows_eq]; exact hv.mono fun g hg => ⟨hI.1 g hg, rfl⟩
  have K : ∀ W : World, Below W3.heap.size W3 W → PressEnv (w.heap.size + 3) w.heap.size (w.heap.size + 1) (w.heap.size + 1 + 1) p ink l vw (.slice vA l.length vc) W ∧ W.cell? ⟨w.heap.size + 1 + 1, 0, none⟩ = some (.slice vA l.length vc) := by
    intro W hW
    have d : Below w.heap.size w W := b3.trans (hW.mono b3.size)
    have a1 := (hW.block w.heap.size (by omega)).trans e1
    have a2 := (hW.block (w.heap.size + 1) (by omega)).trans e2
    have a3 := (hW.block (w.heap.size + 1 + 1) (by omega)).trans e3
    exact ⟨⟨a1, a2, a3, hvw'.mono fun g hg => ⟨by omega, d.block g hg⟩, hv'.mono fun g hg => ⟨by omega, d.block g hg⟩, by omega, by omega, by omega, by have := hW.size; omega⟩, cell_of_one a3⟩
  obtain ⟨kE, kc⟩ := K W3 (Below.refl _ _)
  have hA := calls_bool (isPressWork_ok p ink l) (inr_all W3) (vs := [.agg #[.int .i64 p.1, .int .i64 p.2.1, .int .i64 p.2.2.1, vw], .int .i64 ink, .slice vA l.length vc])
    (All2.cons (.agg (cPress p) [.int .i64 p.1, .int .i64 p.2.1, .int .i64 p.2.2.1, vw] (.cons (.int _ _ a1) (.cons (.int _ _ a2) (.cons (.int _ _ a3) (.cons (kE.wash.mono fun g hg => ⟨Nat.lt_of_lt_of_le hg kE.lt.2.2.2, rfl⟩) .nil)))))
      (All2.cons (.one (.int _ _ a4)) (All2.cons (.one (kE.row.mono fun g hg => ⟨Nat.lt_of_lt_of_le hg kE.lt.2.2.2, rfl⟩)) .nil)))
  cases hW : workB p ink l
  · rw [hW] at hA
    have ha : leastPA (washP p l ink) false l.length = ([], 0, false) := rfl
    go_enter Try.func43, Try.ntmps43
    go_wp2_with (go_at_call 109; refine hA.mono ?_; rintro e w4 ⟨rfl, b4⟩)
    go_ret3
    rw [ha]
    have c4 := b3.trans (b4.mono b3.size)
    exact ⟨_, rfl, c4.alloc c4.size _, own_new _ c4.size⟩
  · rw [hW] at hA
    obtain ⟨k1, k2, k3⟩ := workB_spec hW
    have hl7 := okJobs_len7 k3
    have ha : leastPA (washP p l ink) true l.length = ((leastF (washP p l ink) l.length).1, (leastF (washP p l ink) l.length).2, true) := rfl
    have hLO := fun (W : World) (hE : PressEnv (w.heap.size + 3) w.heap.size (w.heap.size + 1) (w.heap.size + 1 + 1) p ink l vw (.slice vA l.length vc) W) => leastOrder_walk (C := washP p l ink) (n := l.length) (by omega) (enters_eq Try.func111 rfl rfl) PressEnv.upd (fun w o v B h hv hd hl => washing_clo hW w o v B h hv hd hl) W hE.lt.2.2.2 hE
    go_enter Try.func43, Try.ntmps43
    go_wp2_with (first | (go_at_call 109; go_must (refine hA.mono ?_; rintro e w4 ⟨rfl, b4⟩; obtain ⟨j1, j2⟩ := K w4 b4; have c4 := b3.trans (b4.mono b3.size))) | (go_at_call 110; go_must (refine (hLO _ j1).mono ?_; rintro e w5 ⟨v, rfl, b5, o5⟩)))
    go_ret3
    rw [ha]
    exact ⟨v, rfl, c4.trans (b5.mono c4.size), o5.low c4.size⟩
theorem LeastWashing_ok (p : Press) (ink : Int) (l : List PressJob) : OkA Try.prog 43 [.agg (cPress p), .int .i64 ink, .isl 3 (rows cPressJob l)] (· = lic 3 1 cInt (leastPA (washP p l ink) (workB p ink l) l.length)) := by
  refine ⟨⟨_, Try.func43, rfl, rfl⟩, fun w I vs hI hargs => ?_⟩
  have hw : ∃ vw us, vs = (Value.agg #[.int .i64 p.1, .int .i64 p.2.1, .int .i64 p.2.2.1, vw]) :: us ∧ All2 (RepArg w I) [.int .i64 ink, .isl 3 (rows cPressJob l)] us ∧ RepI w I (.isl 1 (rows cInt p.2.2.2)) vw ∧ IntKind.i64.wrap p.1 = p.1 ∧ IntKind.i64.wrap p.2.1 = p.2.1 ∧ IntKind.i64.wrap p.2.2.1 = p.2.2.1 := by
    cases hargs with
    | cons h t =>
      cases h with
      | one h => cases h
      | agg _ cs h =>
        cases h with
        | cons h1 h => cases h with
          | cons h2 h => cases h with
            | cons h3 h => cases h with
              | cons h4 h => cases h; cases h1 with
                | int _ _ a1 => cases h2 with
                  | int _ _ a2 => cases h3 with
                    | int _ _ a3 => exact ⟨_, _, rfl, t, h4, a1, a2, a3⟩
  obtain ⟨vw, us, rfl, h2, hvw, a1, a2, a3⟩ := hw
  obtain ⟨vi, us, rfl, h3, hvi⟩ := one_args (fun cs e => by cases e) h2
  obtain ⟨vl, us, rfl, h4, hvl⟩ := one_args (fun cs e => by cases e) h3
  obtain rfl := nil_args h4
  cases hvi with
  | int _ _ a4 =>
    refine (washing_walk p ink l a1 a2 a3 a4 vw vl w I hI hvw hvl).mono ?_
    rintro e w' ⟨v, rfl, hb, ho⟩
    obtain ⟨h1, h2⟩ := leastPA_wrap (p := p) (l := l) (ink := ink) (C := washP p l ink) false rfl
    exact ⟨_, lic 3 1 cInt (leastPA (washP p l ink) (workB p ink l) l.length), _, rfl, rfl, hb, lic_rep ho h1 h2⟩

set_option maxHeartbeats 4000000 in
set_option maxRecDepth 1000000 in
theorem delaying_walk (p : Press) (ink : Int) (l : List PressJob) (a1 : IntKind.i64.wrap p.1 = p.1) (a2 : IntKind.i64.wrap p.2.1 = p.2.1) (a3 : IntKind.i64.wrap p.2.2.1 = p.2.2.1) (a4 : IntKind.i64.wrap ink = ink) (vw vl : Value) (w : World) (I : Nat → Prop) (hI : InR w I) (hvw : RepI w I (.isl 1 (rows cInt p.2.2.2)) vw) (hv : RepI w I (.isl 3 (rows cPressJob l)) vl) :
    Calls Try.prog 45 #[.agg #[.int .i64 p.1, .int .i64 p.2.1, .int .i64 p.2.2.1, vw], .int .i64 ink, vl] w fun e w' => ∃ v, e = .returned (.tuple #[v, .int .i64 (leastPA (delayP p l ink) (workB p ink l) l.length).2.1, .bool (leastPA (delayP p l ink) (workB p ink l) l.length).2.2]) ∧ Below w.heap.size w w' ∧ OwnI w' w.heap.size v (leastPA (delayP p l ink) (workB p ink l) l.length).1 := by
  obtain ⟨vA, vc, rfl⟩ := isl_shape hv
  rw [rows_eq, List.length_map] at hv ⊢
  have hmf : ∀ (fn : Fn) (first cap : Array Value) (w : World), (Instr.makeFunc fn first cap).run Try.prog w = .ok (.func fn first cap) w := fun _ _ _ _ => rfl
  let W1 : World := w.alloc (.cells #[.int .i64 p.1, .int .i64 p.2.1, .int .i64 p.2.2.1, vw] 56)
  let W2 : World := W1.alloc (.cells #[.int .i64 ink] 3)
  let W3 : World := W2.alloc (.cells #[.slice vA l.length vc] 57)
  have s1 : W1.heap.size = w.heap.size + 1 := by simp [W1]
  have s2 : W2.heap.size = w.heap.size + 2 := by simp [W2, s1]
  have hsz : W3.heap.size = w.heap.size + 3 := by simp [W3, s2]
  have q1 : Below w.heap.size w W1 := (Below.refl _ _).alloc (Nat.le_refl _) _
  have q2 : Below W1.heap.size W1 W2 := (Below.refl _ _).alloc (Nat.le_refl _) _
  have q3 : Below W2.heap.size W2 W3 := (Below.refl _ _).alloc (Nat.le_refl _) _
  have b3 : Below w.heap.size w W3 := (q1.trans (q2.mono q1.size)).trans (q3.mono (by omega))
  have e1 : W3.heap[w.heap.size]? = some (.cells #[.int .i64 p.1, .int .i64 p.2.1, .int .i64 p.2.2.1, vw] 56 (0, 0)) := by
    rw [q3.block _ (by omega), q2.block _ (by omega)]; exact heap_alloc_new w _
  have e2 : W3.heap[w.heap.size + 1]? = some (.cells #[.int .i64 ink] 3 (0, 0)) := by
    rw [q3.block _ (by omega), ← s1]; exact heap_alloc_new W1 _
  have e3 : W3.heap[w.heap.size + 1 + 1]? = some (.cells #[.slice vA l.length vc] 57 (0, 0)) := by
    rw [show w.heap.size + 1 + 1 = W2.heap.size by omega]; exact heap_alloc_new W2 _
  have hvw' : RepI w (fun k => k < w.heap.size) (.isl 1 (rows cInt p.2.2.2)) vw := hvw.mono fun g hg => ⟨hI.1 g hg, rfl⟩
  have hv' : RepI w (fun k => k < w.heap.size) (.isl 3 (rows cPressJob l)) (.slice vA l.length vc) := by rw [rows_eq]; exact hv.mono fun g hg => ⟨hI.1 g hg, rfl⟩
  have K : ∀ W : World, Below W3.heap.size W3 W → PressEnv (w.heap.size + 3) w.heap.size (w.heap.size + 1) (w.heap.size + 1 + 1) p ink l vw (.slice vA l.length vc) W ∧ W.cell? ⟨w.heap.size + 1 + 1, 0, none⟩ = some (.slice vA l.length vc) := by
    intro W hW
    have d : Below w.heap.size w W := b3.trans (hW.mono b3.size)
    have a1 := (hW.block w.heap.size (by omega)).trans e1
    have a2 := (hW.block (w.heap.size + 1) (by omega)).trans e2
    have a3 := (hW.block (w.heap.size + 1 + 1) (by omega)).trans e3
    exact ⟨⟨a1, a2, a3, hvw'.mono fun g hg => ⟨by omega, d.block g hg⟩, hv'.mono fun g hg => ⟨by omega, d.block g hg⟩, by omega, by omega, by omega, by have := hW.size; omega⟩, cell_of_one a3⟩
  obtain ⟨kE, kc⟩ := K W3 (Below.refl _ _)
  have hA := calls_bool (isPressWork_ok p ink l) (inr_all W3) (vs := [.agg #[.int .i64 p.1, .int .i64 p.2.1, .int .i64 p.2.2.1, vw], .int .i64 ink, .slice vA l.length vc])
    (All2.cons (.agg (cPress p) [.int .i64 p.1, .int .i64 p.2.1, .int .i64 p.2.2.1, vw] (.cons (.int _ _ a1) (.cons (.int _ _ a2) (.cons (.int _ _ a3) (.cons (kE.wash.mono fun g hg => ⟨Nat.lt_of_lt_of_le hg kE.lt.2.2.2, rfl⟩) .nil)))))
      (All2.cons (.one (.int _ _ a4)) (All2.cons (.one (kE.row.mono fun g hg => ⟨Nat.lt_of_lt_of_le hg kE.lt.2.2.2, rfl⟩)) .nil)))
  cases hW : workB p ink l
  · rw [hW] at hA
    have ha : leastPA (delayP p l ink) false l.length = ([], 0, false) := rfl
    go_enter Try.func45, Try.ntmps45
    go_wp2_with (go_at_call 109; refine hA.mono ?_; rintro e w4 ⟨rfl, b4⟩)
    go_ret3
    rw [ha]
    have c4 := b3.trans (b4.mono b3.size)
    exact ⟨_, rfl, c4.alloc c4.size _, own_new _ c4.size⟩
  · rw [hW] at hA
    obtain ⟨k1, k2, k3⟩ := workB_spec hW
    have hl7 := okJobs_len7 k3
    have ha : leastPA (delayP p l ink) true l.length = ((leastF (delayP p l ink) l.length).1, (leastF (delayP p l ink) l.length).2, true) := rfl
    have hLO := fun (W : World) (hE : PressEnv (w.heap.size + 3) w.heap.size (w.heap.size + 1) (w.heap.size + 1 + 1) p ink l vw (.slice vA l.length vc) W) => leastOrder_walk (C := delayP p l ink) (n := l.length) (by omega) (enters_eq Try.func114 rfl rfl) PressEnv.upd (fun w o v B h hv hd hl => delaying_clo hW w o v B h hv hd hl) W hE.lt.2.2.2 hE
    go_enter Try.func45, Try.ntmps45
    go_wp2_with (first | (go_at_call 109; go_must (refine hA.mono ?_; rintro e w4 ⟨rfl, b4⟩; obtain ⟨j1, j2⟩ := K w4 b4; have c4 := b3.trans (b4.mono b3.size))) | (go_at_call 110; go_must (refine (hLO _ j1).mono ?_; rintro e w5 ⟨v, rfl, b5, o5⟩)))
    go_ret3
    rw [ha]
    exact ⟨v, rfl, c4.trans (b5.mono c4.size), o5.low c4.size⟩
theorem LeastDelay_ok (p : Press) (ink : Int) (l : List PressJob) : OkA Try.prog 45 [.agg (cPress p), .int .i64 ink, .isl 3 (rows cPressJob l)] (· = lic 3 1 cInt (leastPA (delayP p l ink) (workB p ink l) l.length)) := by
  refine ⟨⟨_, Try.func45, rfl, rfl⟩, fun w I vs hI hargs => ?_⟩
  have hw : ∃ vw us, vs = (Value.agg #[.int .i64 p.1, .int .i64 p.2.1, .int .i64 p.2.2.1, vw]) :: us ∧ All2 (RepArg w I) [.int .i64 ink, .isl 3 (rows cPressJob l)] us ∧ RepI w I (.isl 1 (rows cInt p.2.2.2)) vw ∧ IntKind.i64.wrap p.1 = p.1 ∧ IntKind.i64.wrap p.2.1 = p.2.1 ∧ IntKind.i64.wrap p.2.2.1 = p.2.2.1 := by
    cases hargs with
    | cons h t =>
      cases h with
      | one h => cases h
      | agg _ cs h =>
        cases h with
        | cons h1 h => cases h with
          | cons h2 h => cases h with
            | cons h3 h => cases h with
              | cons h4 h => cases h; cases h1 with
                | int _ _ a1 => cases h2 with
                  | int _ _ a2 => cases h3 with
                    | int _ _ a3 => exact ⟨_, _, rfl, t, h4, a1, a2, a3⟩
  obtain ⟨vw, us, rfl, h2, hvw, a1, a2, a3⟩ := hw
  obtain ⟨vi, us, rfl, h3, hvi⟩ := one_args (fun cs e => by cases e) h2
  obtain ⟨vl, us, rfl, h4, hvl⟩ := one_args (fun cs e => by cases e) h3
  obtain rfl := nil_args h4
  cases hvi with
  | int _ _ a4 =>
    refine (delaying_walk p ink l a1 a2 a3 a4 vw vl w I hI hvw hvl).mono ?_
    rintro e w' ⟨v, rfl, hb, ho⟩
    obtain ⟨h1, h2⟩ := leastPA_wrap (p := p) (l := l) (ink := ink) (C := delayP p l ink) true rfl
    exact ⟨_, lic 3 1 cInt (leastPA (delayP p l ink) (workB p ink l) l.length), _, rfl, rfl, hb, lic_rep ho h1 h2⟩

end Go.Proofs.Ytjmjepdlclehoaa.Ai
