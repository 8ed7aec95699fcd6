/- Long bodies, part by part. -/
import Derived.Test.YtmlojdpfpccgoaaAiRules
import Derived.Test.YtmlojdpfpccgoaaSetDraw
namespace Go.Proofs.Ytmlojdpfpccgoaa.Ai
open Go Go.RowKit Go.Proofs
set_option linter.unusedSectionVars false
set_option maxRecDepth 10000
set_option maxHeartbeats 4000000
set_option linter.unusedVariables false

/-- The first k statements of a body, and those behind. -/
def front : Nat → Code → Code
  | k + 1, .seq a b => .seq a (front k b)
  | _, _ => .skip
def rest : Nat → Code → Code
  | k + 1, .seq a b => rest k b
  | _, c => c

section
variable {P : Program} {G : Env} {κ : Ctx} {X Y : Req → (PV → Prop) → Prop} {L : Code → (Ex → St → Prop) → St → Prop}

/-- What stands at a cut, as at a loop's head. -/
def Cut {α : Type} (nt : Nat) (keep : List Nat) (own : List Hold) (tb : α → List (Nat × PV)) (hp : α → Heap) (I : α → Prop) (s' : St) : Prop :=
  headOk s' own = true ∧ ∃ a, Ai.norm keep own s' = St.at nt (tb a) (hp a) ∧ I a

theorem W_front (m : Mach P G κ X Y L) {E : St → Prop} {Q : Ex → St → Prop} : ∀ (k : Nat) (c : Code) (s : St),
    (∀ (η : Own) (s : St) (a : Act) (w : World), Sim κ η s a w → E s → (rest k c).wp P (Post κ Q) a w) →
    code X L G (front k c) (fun e s' => match e with | .normal => E s' | .exit i => Q (.exit i) s' | .ret => Q .ret s') s → W P κ c Q s := by
  have := m.z
  have hX := m.X
  have hL := m.L
  subst hX hL
  intro k
  induction k with
  | zero =>
    intro c s hE hc η a w hs
    cases c <;> exact hE η s a w hs hc
  | succ k ih =>
    intro c s hE hc η a w hs
    cases c
    case seq x y =>
      have hx : code (std false P) (W P κ) G x (fun e s' => match e with
        | .normal => code (std false P) (W P κ) G (front k y) (fun e s' => match e with | .normal => E s' | .exit i => Q (.exit i) s' | .ret => Q .ret s') s'
        | .exit j => Q (.exit j) s'
        | .ret => Q .ret s') s := hc
      refine wp_seq (Go.wp_mono (code_sound m.hG m.hF x _ _ hx η a w hs) fun e a' w' hq => ?_)
      cases e with
      | normal =>
        obtain ⟨η', s', hs', hq⟩ := hq
        exact ih y s' hE hq η' a' w' hs'
      | exit i => exact hq
      | ret => exact hq
      | goto l => exact hq.elim
      | panic ch => exact hq.elim
      | outgrown => exact hq.elim
    all_goals exact hE η s a w hs hc

/-- **A cut**: the first k statements, then those behind, from what is kept. -/
theorem W_cut {α : Type} (m : Mach P G κ X Y L) {Q : Ex → St → Prop} {c : Code} {s : St} (k nt : Nat) (keep : List Nat) (own : List Hold) (tb : α → List (Nat × PV)) (hp : α → Heap) (I : α → Prop)
    (first : ∀ E : St → Prop, (∀ s' a, headOk s' own = true → Ai.norm keep own s' = St.at nt (tb a) (hp a) → I a → E s') →
      code X L G (front k c) (fun e s' => match e with | .normal => E s' | .exit i => Q (.exit i) s' | .ret => Q .ret s') s)
    (second : ∀ a, I a → W P κ (rest k c) Q (St.at nt (tb a) (hp a))) : W P κ c Q s := by
  have := m.z
  refine W_front m (E := Cut nt keep own tb hp I) k c s ?_ (first _ fun s' a h1 h2 h3 => ⟨h1, a, h2, h3⟩)
  rintro η s a w hs ⟨hk, a0, e1, h3⟩
  simp only [headOk, Bool.and_eq_true] at hk
  have hs' := hs.norm keep hk.1 (recvOk_spec hk.2)
  rw [e1] at hs'
  exact second a0 h3 _ a w hs'

/-- The last part. -/
theorem W_last (m : Mach P G κ X Y L) {Q : Ex → St → Prop} {c : Code} {s : St} (h : code X L G c Q s) : W P κ c Q s := by
  have := m.z
  rw [m.X, m.L] at h
  exact code_sound m.hG m.hF c Q s h

theorem fn_introW (hG : EnvOk P G) (hF : FieldsOk P G) (hm : P.follows .mixedOrders = true) {f : FuncId} {fn : Func} (hf : P.funcs[f]? = some fn) (hn : (fn.name == "runtime.NumGoroutine") = false) {args : List PV} {R : PV → Prop} {c : Code} (hc : fn.body = some c)
    (h : ∀ κ X Y L Q, Mach P G κ X Y L → (∀ r, R r → Q r) → W P κ c (EndsIn (post G fn.results.toList Q)) (start fn.ntmps args [])) : OkA P f args R :=
  OkA_introW hG hF hf hn hc fun κ hz => h κ _ _ _ R ⟨hG, hF, hm, hz, rfl, rfl, rfl⟩ fun _ x => x
end

/- The law FnMisputs: its body returns true. -/
theorem lost_len {b : List Box} {s : Sett} {c : List (List UInt8)} {n : List Int} {o : Bool} (h : (c, n, o) = lostA b s) : c.length = n.length := by
  unfold lostA at h
  split at h <;> (simp only [Prod.mk.injEq] at h; rw [h.1, h.2.1]; simp)
theorem diff_at {a b : List Box} (hl : a.length = b.length) {i : Nat} {n : Int} {x y : Box} (h : (diffL a b)[i]? = some n) (hx : a[i]? = some x) (hy : b[i]? = some y) : n = y.2.2.2 - x.2.2.2 := by
  have := nth_diff hl i
  rwa [nth_some h, cnt_some hx, cnt_some hy] at this
theorem types_two {l m : List Box} {s : List Slip} {t u : Int} {p q : Bool} (h : (m, true) = mendAns l s) (h1 : (t, p) = typesA l) (h2 : (u, q) = typesA m) : p = true ∧ q = true ∧ t = u := by
  obtain ⟨a, b, c⟩ := mend_types h
  rw [typesA, if_pos a] at h1
  rw [typesA, if_pos b] at h2
  obtain ⟨rfl, rfl⟩ := Prod.mk.inj h1
  obtain ⟨rfl, rfl⟩ := Prod.mk.inj h2
  exact ⟨rfl, rfl, c.symm⟩
structure DiffF (a b : List Box) (d : List Int) : Prop where
  le : a.length = b.length
  eq : d = diffL a b
  ln : d.length = a.length
  sf : SumFits d
  ca : caseB a = true
  cb : caseB b = true
theorem diff_facts {a b : List Box} {d : List Int} (h : (d, true) = diffAns a b) : DiffF a b d := by
  obtain ⟨h1, h2⟩ := diffAns_spec h
  obtain ⟨ha, hb, hc, hl⟩ := alikeB_spec h1
  have dl : d.length = a.length := by rw [h2, diffL, diffT_len]
  have cl := case_len ha
  exact ⟨hl, h2, dl, sumfits_of 9999 (fun z hz => diff_mem ha hb z (by rw [← h2]; exact hz)) (by omega), ha, hb⟩
theorem codesB_len {a b : List Box} (h : codesB a = codesB b) : a.length = b.length := by
  have := congrArg List.length h
  simpa [codesB] using this
theorem code_at {a b : List Box} {i : Nat} {x y : Box} (h : codesB a = codesB b) (hx : a[i]? = some x) (hy : b[i]? = some y) : x.1 = y.1 := by
  have := congrArg (fun l : List (List UInt8) => l[i]?) h
  simp only [codesB, List.getElem?_map, hx, hy, Option.map_some] at this
  exact Option.some.inj this
theorem qTexts_ok (l : List (List UInt8))  : OkA Try.prog 72 [.isl 1 (rows cStr l), .isl 1 (rows cStr l)] (· = .bool (true)) :=
  fn_intro envOk fieldsOk mixed Try.func72 rfl fun κ X Y L Q m hQ => by
    conv => cbv
    refine r_lenR m.sX fun n1 hn1 mn1 => ?_
    conv => cbv
    refine r_lenR m.sX fun n2 hn2 mn2 => ?_
    conv => cbv
    refine r_neqF m.sX (by first | omega | rfl) ?_
    conv => cbv
    refine r_lenR m.sX fun n3 hn3 mn3 => ?_
    conv => cbv
    refine r_loopF (α := Int) m 26 [0, 1, 12, 13] [] (fun σ => [(0, .isl 1 (rows cStr l)), (1, .isl 1 (rows cStr l)), (12, .int .i64 n3), (13, .int .i64 σ)]) (fun σ => [])
      (fun σ => (0 ≤ σ) ∧ (σ ≤ n3)) (fun σ => (n3 - σ).toNat) 0 ?_ ?_ ?_ ?_
    · cbv
    · cbv
    · exact ⟨(by (try dsimp only); first | omega | (simp only [List.length_nil]; omega) | (simp only [List.length_cons, List.length_nil]; omega)), (by (try dsimp only); first | omega | (simp only [List.length_nil]; omega) | (simp only [List.length_cons, List.length_nil]; omega))⟩
    rintro i1 ⟨lo1, hi1⟩ E hE F hF
    conv => cbv
    refine r_lss m.sX (fun h2 => ?_) (fun h2 => ?_) <;> conv => cbv
    · refine r_draw m (by kernel_rfl) ?_
      conv => cbv
      refine r_index m.sY (by omega) (by omega) fun x1 hx1 => ?_
      conv => cbv
      have mx1 := get_mem hx1
      have dx1 := drop_cons hx1
      have kx1 := take_snoc hx1
      have jx1 : (i1 + 1).toNat = Int.toNat i1 + 1 := by omega
      refine r_index m.sY (by omega) (by omega) fun x2 hx2 => ?_
      conv => cbv
      have mx2 := get_mem hx2
      have dx2 := drop_cons hx2
      have kx2 := take_snoc hx2
      have jx2 : (i1 + 1).toNat = Int.toNat i1 + 1 := by omega
      obtain rfl : x1 = x2 := Option.some.inj (hx1.symm.trans hx2)
      refine r_sneqF m.sY (by first | omega | rfl) ?_
      conv => cbv
      refine r_addf m.sX (by omega) (by omega) fun r1 hr1 => ?_
      conv => cbv
      try have tr1 : Int.toNat r1 = Int.toNat i1 + 1 := by omega
      refine hE _ r1 ?_ ?_ ⟨(by (try dsimp only); first | omega | (simp only [List.length_nil]; omega) | (simp only [List.length_cons, List.length_nil]; omega)), (by (try dsimp only); first | omega | (simp only [List.length_nil]; omega) | (simp only [List.length_cons, List.length_nil]; omega))⟩ (by first | omega | (dsimp only; omega))
      · cbv
      · cbv
    · have dz_i1 := drop_end (xs := l) (i := Int.toNat i1) (by omega)
      have tz_i1 := take_end (xs := l) (i := Int.toNat i1) (by omega)
      refine hF _ _ ?_
      conv => cbv
      exact hQ _ (congrArg PV.bool (by first | rfl | omega | (simp [*]; done) | (subst_vars; simp [*]; done)))   -- leaf 1

theorem qBoxes_ok (l : List Box)  : OkA Try.prog 67 [.isl 4 (rows cBox l), .isl 4 (rows cBox l)] (· = .bool (true)) :=
  fn_intro envOk fieldsOk mixed Try.func67 rfl fun κ X Y L Q m hQ => by
    conv => cbv
    refine r_lenR m.sX fun n1 hn1 mn1 => ?_
    conv => cbv
    refine r_lenR m.sX fun n2 hn2 mn2 => ?_
    conv => cbv
    refine r_neqF m.sX (by first | omega | rfl) ?_
    conv => cbv
    refine r_lenR m.sX fun n3 hn3 mn3 => ?_
    conv => cbv
    refine r_loopF (α := Int) m 26 [0, 1, 12, 13] [] (fun σ => [(0, .isl 4 (rows cBox l)), (1, .isl 4 (rows cBox l)), (12, .int .i64 n3), (13, .int .i64 σ)]) (fun σ => [])
      (fun σ => (0 ≤ σ) ∧ (σ ≤ n3)) (fun σ => (n3 - σ).toNat) 0 ?_ ?_ ?_ ?_
    · cbv
    · cbv
    · exact ⟨(by (try dsimp only); first | omega | (simp only [List.length_nil]; omega) | (simp only [List.length_cons, List.length_nil]; omega)), (by (try dsimp only); first | omega | (simp only [List.length_nil]; omega) | (simp only [List.length_cons, List.length_nil]; omega))⟩
    rintro i1 ⟨lo1, hi1⟩ E hE F hF
    conv => cbv
    refine r_lss m.sX (fun h2 => ?_) (fun h2 => ?_) <;> conv => cbv
    · refine r_draw m (by kernel_rfl) ?_
      conv => cbv
      refine r_index m.sY (by omega) (by omega) fun v hx1A => ?_
      obtain ⟨x1A, x1B, x1C, x1D⟩ := v
      conv => cbv
      have hx1 := hx1A
      have mx1 := get_mem hx1
      have dx1 := drop_cons hx1
      have kx1 := take_snoc hx1
      have jx1 : (i1 + 1).toNat = Int.toNat i1 + 1 := by omega
      refine r_index m.sY (by omega) (by omega) fun v hx2A => ?_
      obtain ⟨x2A, x2B, x2C, x2D⟩ := v
      conv => cbv
      have hx2 := hx2A
      have mx2 := get_mem hx2
      have dx2 := drop_cons hx2
      have kx2 := take_snoc hx2
      have jx2 : (i1 + 1).toNat = Int.toNat i1 + 1 := by omega
      obtain ⟨rfl, rfl, rfl, rfl⟩ : x1A = x2A ∧ x1B = x2B ∧ x1C = x2C ∧ x1D = x2D := by have := Option.some.inj (hx1.symm.trans hx2); simpa using this
      refine r_aeq_same [.str [], .int .i64 0, .int .i64 0, .int .i64 0] m.sY (by kernel_rfl) rfl ?_
      conv => cbv
      refine r_addf m.sX (by omega) (by omega) fun r1 hr1 => ?_
      conv => cbv
      try have tr1 : Int.toNat r1 = Int.toNat i1 + 1 := by omega
      refine hE _ r1 ?_ ?_ ⟨(by (try dsimp only); first | omega | (simp only [List.length_nil]; omega) | (simp only [List.length_cons, List.length_nil]; omega)), (by (try dsimp only); first | omega | (simp only [List.length_nil]; omega) | (simp only [List.length_cons, List.length_nil]; omega))⟩ (by first | omega | (dsimp only; omega))
      · cbv
      · cbv
    · have dz_i1 := drop_end (xs := l) (i := Int.toNat i1) (by omega)
      have tz_i1 := take_end (xs := l) (i := Int.toNat i1) (by omega)
      refine hF _ _ ?_
      conv => cbv
      exact hQ _ (congrArg PV.bool (by first | rfl | omega | (simp [*]; done) | (subst_vars; simp [*]; done)))   -- leaf 1

theorem qMisputs_ok (l : List Slip)  : OkA Try.prog 62 [.isl 3 (rows cMisput l), .isl 3 (rows cMisput l)] (· = .bool (true)) :=
  fn_intro envOk fieldsOk mixed Try.func62 rfl fun κ X Y L Q m hQ => by
    conv => cbv
    refine r_lenR m.sX fun n1 hn1 mn1 => ?_
    conv => cbv
    refine r_lenR m.sX fun n2 hn2 mn2 => ?_
    conv => cbv
    refine r_neqF m.sX (by first | omega | rfl) ?_
    conv => cbv
    refine r_lenR m.sX fun n3 hn3 mn3 => ?_
    conv => cbv
    refine r_loopF (α := Int) m 26 [0, 1, 12, 13] [] (fun σ => [(0, .isl 3 (rows cMisput l)), (1, .isl 3 (rows cMisput l)), (12, .int .i64 n3), (13, .int .i64 σ)]) (fun σ => [])
      (fun σ => (0 ≤ σ) ∧ (σ ≤ n3)) (fun σ => (n3 - σ).toNat) 0 ?_ ?_ ?_ ?_
    · cbv
    · cbv
    · exact ⟨(by (try dsimp only); first | omega | (simp only [List.length_nil]; omega) | (simp only [List.length_cons, List.length_nil]; omega)), (by (try dsimp only); first | omega | (simp only [List.length_nil]; omega) | (simp only [List.length_cons, List.length_nil]; omega))⟩
    rintro i1 ⟨lo1, hi1⟩ E hE F hF
    conv => cbv
    refine r_lss m.sX (fun h2 => ?_) (fun h2 => ?_) <;> conv => cbv
    · refine r_draw m (by kernel_rfl) ?_
      conv => cbv
      refine r_index m.sY (by omega) (by omega) fun v hx1A => ?_
      obtain ⟨x1A, x1B, x1C⟩ := v
      conv => cbv
      have hx1 := hx1A
      have mx1 := get_mem hx1
      have dx1 := drop_cons hx1
      have kx1 := take_snoc hx1
      have jx1 : (i1 + 1).toNat = Int.toNat i1 + 1 := by omega
      refine r_index m.sY (by omega) (by omega) fun v hx2A => ?_
      obtain ⟨x2A, x2B, x2C⟩ := v
      conv => cbv
      have hx2 := hx2A
      have mx2 := get_mem hx2
      have dx2 := drop_cons hx2
      have kx2 := take_snoc hx2
      have jx2 : (i1 + 1).toNat = Int.toNat i1 + 1 := by omega
      obtain ⟨rfl, rfl, rfl⟩ : x1A = x2A ∧ x1B = x2B ∧ x1C = x2C := by have := Option.some.inj (hx1.symm.trans hx2); simpa using this
      refine r_aeq_same [.str [], .str [], .int .i64 0] m.sY (by kernel_rfl) rfl ?_
      conv => cbv
      refine r_addf m.sX (by omega) (by omega) fun r1 hr1 => ?_
      conv => cbv
      try have tr1 : Int.toNat r1 = Int.toNat i1 + 1 := by omega
      refine hE _ r1 ?_ ?_ ⟨(by (try dsimp only); first | omega | (simp only [List.length_nil]; omega) | (simp only [List.length_cons, List.length_nil]; omega)), (by (try dsimp only); first | omega | (simp only [List.length_nil]; omega) | (simp only [List.length_cons, List.length_nil]; omega))⟩ (by first | omega | (dsimp only; omega))
      · cbv
      · cbv
    · have dz_i1 := drop_end (xs := l) (i := Int.toNat i1) (by omega)
      have tz_i1 := take_end (xs := l) (i := Int.toNat i1) (by omega)
      refine hF _ _ ?_
      conv => cbv
      exact hQ _ (congrArg PV.bool (by first | rfl | omega | (simp [*]; done) | (subst_vars; simp [*]; done)))   -- leaf 1

theorem qStock_ok (a : List Box) (b : List Box) (hc : codesB a = codesB b) (hn : ∀ j, cnt a j = cnt b j) (hl : a.length = b.length) : OkA Try.prog 68 [.isl 4 (rows cBox a), .isl 4 (rows cBox b)] (· = .bool (true)) :=
  fn_intro envOk fieldsOk mixed Try.func68 rfl fun κ X Y L Q m hQ => by
    conv => cbv
    refine r_lenR m.sX fun n1 hn1 mn1 => ?_
    conv => cbv
    refine r_lenR m.sX fun n2 hn2 mn2 => ?_
    conv => cbv
    refine r_neq m.sX (fun h1 => ?_) (fun h1 => ?_) <;> conv => cbv
    · exact hQ _ (congrArg PV.bool (by omega))   -- leaf 1
    · refine r_lenR m.sX fun n3 hn3 mn3 => ?_
      conv => cbv
      refine r_loopF (α := Int) m 41 [0, 1, 12, 13] [] (fun σ => [(0, .isl 4 (rows cBox a)), (1, .isl 4 (rows cBox b)), (12, .int .i64 n3), (13, .int .i64 σ)]) (fun σ => [])
        (fun σ => (0 ≤ σ) ∧ (σ ≤ n3)) (fun σ => (n3 - σ).toNat) 0 ?_ ?_ ?_ ?_
      · cbv
      · cbv
      · exact ⟨(by (try dsimp only); first | omega | (simp only [List.length_nil]; omega) | (simp only [List.length_cons, List.length_nil]; omega)), (by (try dsimp only); first | omega | (simp only [List.length_nil]; omega) | (simp only [List.length_cons, List.length_nil]; omega))⟩
      rintro i1 ⟨lo1, hi1⟩ E hE F hF
      conv => cbv
      refine r_lss m.sX (fun h2 => ?_) (fun h2 => ?_) <;> conv => cbv
      · refine r_draw m (by kernel_rfl) ?_
        conv => cbv
        refine r_index m.sY (by omega) (by omega) fun v hx1A => ?_
        obtain ⟨x1A, x1B, x1C, x1D⟩ := v
        conv => cbv
        have hx1 := hx1A
        have mx1 := get_mem hx1
        have dx1 := drop_cons hx1
        have kx1 := take_snoc hx1
        have jx1 : (i1 + 1).toNat = Int.toNat i1 + 1 := by omega
        refine r_index m.sY (by omega) (by omega) fun v hx2A => ?_
        obtain ⟨x2A, x2B, x2C, x2D⟩ := v
        conv => cbv
        have hx2 := hx2A
        have mx2 := get_mem hx2
        have dx2 := drop_cons hx2
        have kx2 := take_snoc hx2
        have jx2 : (i1 + 1).toNat = Int.toNat i1 + 1 := by omega
        refine r_sneq m.sY (fun h3 => ?_) (fun h3 => ?_) <;> conv => cbv
        · refine hF _ _ ?_
          conv => cbv
          exact hQ _ (congrArg PV.bool (by exact absurd (code_at hc hx1 hx2) h3))   -- leaf 2
        · refine r_index m.sY (by omega) (by omega) fun v hx3A => ?_
          obtain ⟨x3A, x3B, x3C, x3D⟩ := v
          conv => cbv
          have hx3 := hx3A
          have mx3 := get_mem hx3
          have dx3 := drop_cons hx3
          have kx3 := take_snoc hx3
          have jx3 : (i1 + 1).toNat = Int.toNat i1 + 1 := by omega
          obtain ⟨rfl, rfl, rfl, rfl⟩ : x1A = x3A ∧ x1B = x3B ∧ x1C = x3C ∧ x1D = x3D := by have := Option.some.inj (hx1.symm.trans hx3); simpa using this
          refine r_index m.sY (by omega) (by omega) fun v hx4A => ?_
          obtain ⟨x4A, x4B, x4C, x4D⟩ := v
          conv => cbv
          have hx4 := hx4A
          have mx4 := get_mem hx4
          have dx4 := drop_cons hx4
          have kx4 := take_snoc hx4
          have jx4 : (i1 + 1).toNat = Int.toNat i1 + 1 := by omega
          obtain ⟨rfl, rfl, rfl, rfl⟩ : x2A = x4A ∧ x2B = x4B ∧ x2C = x4C ∧ x2D = x4D := by have := Option.some.inj (hx2.symm.trans hx4); simpa using this
          refine r_neq m.sY (fun h4 => ?_) (fun h4 => ?_) <;> conv => cbv
          · refine hF _ _ ?_
            conv => cbv
            exact hQ _ (congrArg PV.bool (by exact absurd (by have z := hn i1.toNat; rw [cnt_some hx1, cnt_some hx2] at z; exact z) h4))   -- leaf 3
          · refine r_addf m.sX (by omega) (by omega) fun r1 hr1 => ?_
            conv => cbv
            try have tr1 : Int.toNat r1 = Int.toNat i1 + 1 := by omega
            refine hE _ r1 ?_ ?_ ⟨(by (try dsimp only); first | omega | (simp only [List.length_nil]; omega) | (simp only [List.length_cons, List.length_nil]; omega)), (by (try dsimp only); first | omega | (simp only [List.length_nil]; omega) | (simp only [List.length_cons, List.length_nil]; omega))⟩ (by first | omega | (dsimp only; omega))
            · cbv
            · cbv
      · have dz_i1 := drop_end (xs := a) (i := Int.toNat i1) (by omega)
        have tz_i1 := take_end (xs := a) (i := Int.toNat i1) (by omega)
        refine hF _ _ ?_
        conv => cbv
        exact hQ _ (congrArg PV.bool (by rfl))   -- leaf 4

noncomputable abbrev midMisputs (more : List Int) : List (Nat × PV) := [(1, .isl 1 (rows cU8 more))]

section
variable {κ : Ctx} {X Y : Req → (PV → Prop) → Prop} {L : Code → (Ex → St → Prop) → St → Prop} {Q : PV → Prop}

theorem misputs_part1 (m : Mach Try.prog G κ X Y L) (hQ : ∀ r, r = PV.bool true → Q r) (code more : List Int) (hf : ∀ x ∈ code, 0 ≤ x ∧ x ≤ 255) (E0 : St → Prop)
    (hE0 : ∀ (s' : St) (a : Unit), headOk s' [] = true → Ai.norm [1] [] s' = St.at 270 (midMisputs more) [] → (more.length : Int) ≤ 9223372036854775807 → E0 s') :
    Ai.code X L G (front 10 (Try.f6.body.getD .skip)) (fun e s' => match e with | .normal => E0 s' | .exit i => EndsIn (post G Try.f6.results.toList Q) (.exit i) s' | .ret => EndsIn (post G Try.f6.results.toList Q) .ret s') (start 270 [.isl 1 (rows cU8 code), .isl 1 (rows cU8 more)] []) := by
  conv => cbv
  refine r_lenR m.sX fun n1 hn1 mn1 => ?_
  conv => cbv
  refine r_lenR m.sX fun n2 hn2 mn2 => ?_
  conv => cbv
  refine r_add m.sX fun r1 hr1 => ?_
  conv => cbv
  refine r_gtr m.sX (fun h1 => ?_) (fun h1 => ?_) <;> conv => cbv
  · exact hQ _ (congrArg PV.bool (by first | rfl | omega | (simp [*]; done) | (subst_vars; simp [*]; done)))   -- leaf 1
  · have h : CurIn code := ⟨by omega, hf⟩
    have hmr : (more.length : Int) ≤ 9223372036854775807 := by omega
    refine r_callE m.sX ((drawFindSlips_ok code h).iceE) ?_
    rintro _ ⟨_, ⟨a, b, rfl⟩, rfl⟩
    conv => cbv
    refine r_callF (lbI 3 cMisput) m.sX ((FindSlips_ok a b).ice) fun v hs_ => ?_
    obtain ⟨s_, ok⟩ := v
    conv => cbv
    refine r_callF (lbI 3 cMisput) m.sX ((specFindSlips_ok a b).ice) fun y1 hy1 => ?_
    obtain rfl := hs_.trans hy1.symm
    clear hy1
    conv => cbv
    refine r_callF (lbI 1 cInt) m.sX ((CaseDifference_ok a b).ice) fun v hd => ?_
    obtain ⟨d, one⟩ := v
    conv => cbv
    refine r_callF (lbI 1 cInt) m.sX ((specCaseDifference_ok a b).ice) fun y2 hy2 => ?_
    obtain rfl := hd.trans hy2.symm
    clear hy2
    conv => cbv
    rcases Bool.eq_false_or_eq_true ok with rfl | rfl <;> conv => cbv
    · refine r_callBT m.sX (qMisputs_ok s_) (by first | rfl | omega | assumption | exact decide_eq_true rfl | (subst_vars; omega)) ?_   -- h2
      conv => cbv
      obtain rfl : one = true := by exact (find_diff hs_ hd).1
      conv => cbv
      refine r_callBT m.sX (qInts_ok d d) (by first | rfl | omega | assumption | exact decide_eq_true rfl | (subst_vars; omega)) ?_   -- h3
      conv => cbv
      refine r_lenR m.sX fun n3 hn3 mn3 => ?_
      conv => cbv
      have DF := diff_facts hd
      have D1 := DF.le; have D2 := DF.ln; have D3 := DF.sf
      refine r_loopF (α := Int) m 270 [1, 5, 6, 7, 8, 9, 13, 104, 105, 106] [] (fun σ => [(1, .isl 1 (rows cU8 more)), (5, .isl 4 (rows cBox a)), (6, .isl 4 (rows cBox b)), (7, .isl 3 (rows cMisput s_)), (8, .bool true), (9, .isl 3 (rows cMisput s_)), (13, .isl 1 (rows cInt d)), (104, .isl 1 (rows cInt d)), (105, .int .i64 n3), (106, .int .i64 σ)]) (fun σ => [])
        (fun σ => (0 ≤ σ) ∧ (σ ≤ n3)) (fun σ => (n3 - σ).toNat) 0 ?_ ?_ ?_ ?_
      · cbv
      · cbv
      · exact ⟨(by (try dsimp only); first | omega | (simp only [List.length_nil]; omega) | (simp only [List.length_cons, List.length_nil]; omega)), (by (try dsimp only); first | omega | (simp only [List.length_nil]; omega) | (simp only [List.length_cons, List.length_nil]; omega))⟩
      rintro i1 ⟨lo1, hi1⟩ E hE F hF
      conv => cbv
      refine r_lss m.sX (fun h4 => ?_) (fun h4 => ?_) <;> conv => cbv
      · refine r_index m.sX (by omega) (by omega) fun n hn => ?_
        conv => cbv
        have mn := get_mem hn
        have dn := drop_cons hn
        have kn := take_snoc hn
        have jn : (i1 + 1).toNat = Int.toNat i1 + 1 := by omega
        have vn := nth_some hn
        refine r_draw m (by kernel_rfl) ?_
        conv => cbv
        refine r_index m.sY (by omega) (by omega) fun v hx1A => ?_
        obtain ⟨x1A, x1B, x1C, x1D⟩ := v
        conv => cbv
        have hx1 := hx1A
        have mx1 := get_mem hx1
        have dx1 := drop_cons hx1
        have kx1 := take_snoc hx1
        have jx1 : (i1 + 1).toNat = Int.toNat i1 + 1 := by omega
        have bx := okBox_cnt (case_box DF.cb mx1)
        try dsimp only at bx
        refine r_index m.sY (by omega) (by omega) fun v hx2A => ?_
        obtain ⟨x2A, x2B, x2C, x2D⟩ := v
        conv => cbv
        have hx2 := hx2A
        have mx2 := get_mem hx2
        have dx2 := drop_cons hx2
        have kx2 := take_snoc hx2
        have jx2 : (i1 + 1).toNat = Int.toNat i1 + 1 := by omega
        have bx2 := okBox_cnt (case_box DF.ca mx2)
        try dsimp only at bx2
        refine r_subf m.sY (by omega) (by omega) fun r2 hr2 => ?_
        conv => cbv
        have nd2 := diff_at D1 (by rw [← DF.eq]; exact hn) hx2 hx1
        try dsimp only at nd2
        refine r_neqF m.sY ((by first | rfl | omega | assumption | exact decide_eq_true rfl | (subst_vars; omega))) ?_
        conv => cbv
        refine r_addf m.sX (by omega) (by omega) fun r3 hr3 => ?_
        conv => cbv
        try have tr3 : Int.toNat r3 = Int.toNat i1 + 1 := by omega
        refine hE _ r3 ?_ ?_ ⟨(by (try dsimp only); first | omega | (simp only [List.length_nil]; omega) | (simp only [List.length_cons, List.length_nil]; omega)), (by (try dsimp only); first | omega | (simp only [List.length_nil]; omega) | (simp only [List.length_cons, List.length_nil]; omega))⟩ (by first | omega | (dsimp only; omega))
        · cbv
        · cbv
      · have dz_i1 := drop_end (xs := d) (i := Int.toNat i1) (by omega)
        have tz_i1 := take_end (xs := d) (i := Int.toNat i1) (by omega)
        refine hF _ _ ?_
        conv => cbv
        refine r_callF (PV.int .i64) m.sX (qSum_ok d (by first | rfl | assumption | omega | (simp only [List.length_append, List.length_cons, List.length_nil] at *; omega))) fun r4 hr4 => ?_
        conv => cbv
        try dsimp only at hr4
        have FD := (find_diff hs_ hd).2
        try dsimp only at FD
        refine r_neqF m.sX ((by first | rfl | omega | assumption | exact decide_eq_true rfl | (subst_vars; omega))) ?_
        conv => cbv
        refine r_callF (lbI 4 cBox) m.sX ((MendSlips_ok b s_).ice) fun v hm_ => ?_
        obtain ⟨m_, three⟩ := v
        conv => cbv
        try dsimp only at hm_
        refine r_callF (lbI 4 cBox) m.sX ((specMendSlips_ok b s_).ice) fun y3 hy3 => ?_
        obtain rfl := hm_.trans hy3.symm
        clear hy3
        conv => cbv
        rcases Bool.eq_false_or_eq_true three with rfl | rfl <;> conv => cbv
        · obtain ⟨MF1, MF2⟩ := mend_found hs_ hm_
          have MF3 := codesB_len MF1
          try dsimp only at MF3
          refine r_callBT m.sX (qBoxes_ok m_) (by first | rfl | omega | assumption | exact decide_eq_true rfl | (subst_vars; omega)) ?_   -- h7
          conv => cbv
          refine r_callBT m.sX (qStock_ok m_ a (by first | rfl | assumption | omega | (simp only [List.length_append, List.length_cons, List.length_nil] at *; omega)) (by first | rfl | assumption | omega | (simp only [List.length_append, List.length_cons, List.length_nil] at *; omega)) (by first | rfl | assumption | omega | (simp only [List.length_append, List.length_cons, List.length_nil] at *; omega))) (by first | rfl | omega | assumption | exact decide_eq_true rfl | (subst_vars; omega)) ?_   -- h8
          conv => cbv
          refine r_lenR m.sX fun n4 hn4 mn4 => ?_
          conv => cbv
          refine r_loopF (α := Int) m 270 [1, 159, 160, 161] [] (fun σ => [(1, .isl 1 (rows cU8 more)), (159, .isl 3 (rows cMisput s_)), (160, .int .i64 n4), (161, .int .i64 σ)]) (fun σ => [])
            (fun σ => (0 ≤ σ) ∧ (σ ≤ n4)) (fun σ => (n4 - σ).toNat) 0 ?_ ?_ ?_ ?_
          · cbv
          · cbv
          · exact ⟨(by (try dsimp only); first | omega | (simp only [List.length_nil]; omega) | (simp only [List.length_cons, List.length_nil]; omega)), (by (try dsimp only); first | omega | (simp only [List.length_nil]; omega) | (simp only [List.length_cons, List.length_nil]; omega))⟩
          rintro i2 ⟨lo2, hi2⟩ E hE F hF
          conv => cbv
          refine r_lss m.sX (fun h9 => ?_) (fun h9 => ?_) <;> conv => cbv
          · refine r_index m.sX (by omega) (by omega) fun v hxA => ?_
            obtain ⟨xA, xB, xC⟩ := v
            conv => cbv
            have hx := hxA
            have mx := get_mem hx
            have dx := drop_cons hx
            have kx := take_snoc hx
            have jx : (i2 + 1).toNat = Int.toNat i2 + 1 := by omega
            have SO := slips_ok hs_ _ mx
            try dsimp only at SO
            refine r_seqlF m.sX ((by exact SO.1)) ?_
            conv => cbv
            refine r_lssF m.sX ((by first | rfl | omega | assumption | exact decide_eq_true rfl | (subst_vars; omega))) ?_
            conv => cbv
            refine r_gtrF m.sX ((by first | rfl | omega | assumption | exact decide_eq_true rfl | (subst_vars; omega))) ?_
            conv => cbv
            refine r_addf m.sX (by omega) (by omega) fun r5 hr5 => ?_
            conv => cbv
            try have tr5 : Int.toNat r5 = Int.toNat i2 + 1 := by omega
            refine hE _ r5 ?_ ?_ ⟨(by (try dsimp only); first | omega | (simp only [List.length_nil]; omega) | (simp only [List.length_cons, List.length_nil]; omega)), (by (try dsimp only); first | omega | (simp only [List.length_nil]; omega) | (simp only [List.length_cons, List.length_nil]; omega))⟩ (by first | omega | (dsimp only; omega))
            · cbv
            · cbv
          · have dz_i2 := drop_end (xs := s_) (i := Int.toNat i2) (by omega)
            have tz_i2 := take_end (xs := s_) (i := Int.toNat i2) (by omega)
            refine hF _ _ ?_
            conv => cbv
            exact hE0 _ () (by cbv) (by cbv) hmr
        · refine r_callBT m.sX (qBoxes_ok m_) (by first | rfl | omega | assumption | exact decide_eq_true rfl | (subst_vars; omega)) ?_   -- h13
          conv => cbv
          refine r_lenR m.sX fun n5 hn5 mn5 => ?_
          conv => cbv
          refine r_loopF (α := Int) m 270 [1, 159, 160, 161] [] (fun σ => [(1, .isl 1 (rows cU8 more)), (159, .isl 3 (rows cMisput s_)), (160, .int .i64 n5), (161, .int .i64 σ)]) (fun σ => [])
            (fun σ => (0 ≤ σ) ∧ (σ ≤ n5)) (fun σ => (n5 - σ).toNat) 0 ?_ ?_ ?_ ?_
          · cbv
          · cbv
          · exact ⟨(by (try dsimp only); first | omega | (simp only [List.length_nil]; omega) | (simp only [List.length_cons, List.length_nil]; omega)), (by (try dsimp only); first | omega | (simp only [List.length_nil]; omega) | (simp only [List.length_cons, List.length_nil]; omega))⟩
          rintro i3 ⟨lo3, hi3⟩ E hE F hF
          conv => cbv
          refine r_lss m.sX (fun h14 => ?_) (fun h14 => ?_) <;> conv => cbv
          · refine r_index m.sX (by omega) (by omega) fun v hx_2A => ?_
            obtain ⟨x_2A, x_2B, x_2C⟩ := v
            conv => cbv
            have hx_2 := hx_2A
            have mx_2 := get_mem hx_2
            have dx_2 := drop_cons hx_2
            have kx_2 := take_snoc hx_2
            have jx_2 : (i3 + 1).toNat = Int.toNat i3 + 1 := by omega
            have SO := slips_ok hs_ _ mx_2
            try dsimp only at SO
            refine r_seqlF m.sX ((by exact SO.1)) ?_
            conv => cbv
            refine r_lssF m.sX ((by first | rfl | omega | assumption | exact decide_eq_true rfl | (subst_vars; omega))) ?_
            conv => cbv
            refine r_gtrF m.sX ((by first | rfl | omega | assumption | exact decide_eq_true rfl | (subst_vars; omega))) ?_
            conv => cbv
            refine r_addf m.sX (by omega) (by omega) fun r6 hr6 => ?_
            conv => cbv
            try have tr6 : Int.toNat r6 = Int.toNat i3 + 1 := by omega
            refine hE _ r6 ?_ ?_ ⟨(by (try dsimp only); first | omega | (simp only [List.length_nil]; omega) | (simp only [List.length_cons, List.length_nil]; omega)), (by (try dsimp only); first | omega | (simp only [List.length_nil]; omega) | (simp only [List.length_cons, List.length_nil]; omega))⟩ (by first | omega | (dsimp only; omega))
            · cbv
            · cbv
          · have dz_i3 := drop_end (xs := s_) (i := Int.toNat i3) (by omega)
            have tz_i3 := take_end (xs := s_) (i := Int.toNat i3) (by omega)
            refine hF _ _ ?_
            conv => cbv
            exact hE0 _ () (by cbv) (by cbv) hmr
    · refine r_callBT m.sX (qMisputs_ok s_) (by first | rfl | omega | assumption | exact decide_eq_true rfl | (subst_vars; omega)) ?_   -- h18
      conv => cbv
      rcases Bool.eq_false_or_eq_true one with rfl | rfl <;> conv => cbv
      · refine r_callBT m.sX (qInts_ok d d) (by first | rfl | omega | assumption | exact decide_eq_true rfl | (subst_vars; omega)) ?_   -- h19
        conv => cbv
        refine r_lenR m.sX fun n6 hn6 mn6 => ?_
        conv => cbv
        have DF := diff_facts hd
        try dsimp only at DF
        have D1 := DF.le; have D2 := DF.ln; have D3 := DF.sf
        try dsimp only at D1
        refine r_loopF (α := Int) m 270 [1, 5, 6, 7, 8, 9, 13, 104, 105, 106] [] (fun σ => [(1, .isl 1 (rows cU8 more)), (5, .isl 4 (rows cBox a)), (6, .isl 4 (rows cBox b)), (7, .isl 3 (rows cMisput s_)), (8, .bool false), (9, .isl 3 (rows cMisput s_)), (13, .isl 1 (rows cInt d)), (104, .isl 1 (rows cInt d)), (105, .int .i64 n6), (106, .int .i64 σ)]) (fun σ => [])
          (fun σ => (0 ≤ σ) ∧ (σ ≤ n6)) (fun σ => (n6 - σ).toNat) 0 ?_ ?_ ?_ ?_
        · cbv
        · cbv
        · exact ⟨(by (try dsimp only); first | omega | (simp only [List.length_nil]; omega) | (simp only [List.length_cons, List.length_nil]; omega)), (by (try dsimp only); first | omega | (simp only [List.length_nil]; omega) | (simp only [List.length_cons, List.length_nil]; omega))⟩
        rintro i4 ⟨lo4, hi4⟩ E hE F hF
        conv => cbv
        refine r_lss m.sX (fun h20 => ?_) (fun h20 => ?_) <;> conv => cbv
        · refine r_index m.sX (by omega) (by omega) fun n_2 hn_2 => ?_
          conv => cbv
          have mn_2 := get_mem hn_2
          have dn_2 := drop_cons hn_2
          have kn_2 := take_snoc hn_2
          have jn_2 : (i4 + 1).toNat = Int.toNat i4 + 1 := by omega
          have vn_2 := nth_some hn_2
          refine r_draw m (by kernel_rfl) ?_
          conv => cbv
          refine r_index m.sY (by omega) (by omega) fun v hx3A => ?_
          obtain ⟨x3A, x3B, x3C, x3D⟩ := v
          conv => cbv
          have hx3 := hx3A
          have mx3 := get_mem hx3
          have dx3 := drop_cons hx3
          have kx3 := take_snoc hx3
          have jx3 : (i4 + 1).toNat = Int.toNat i4 + 1 := by omega
          have bx := okBox_cnt (case_box DF.cb mx3)
          try dsimp only at bx
          refine r_index m.sY (by omega) (by omega) fun v hx4A => ?_
          obtain ⟨x4A, x4B, x4C, x4D⟩ := v
          conv => cbv
          have hx4 := hx4A
          have mx4 := get_mem hx4
          have dx4 := drop_cons hx4
          have kx4 := take_snoc hx4
          have jx4 : (i4 + 1).toNat = Int.toNat i4 + 1 := by omega
          have bx2 := okBox_cnt (case_box DF.ca mx4)
          try dsimp only at bx2
          refine r_subf m.sY (by omega) (by omega) fun r7 hr7 => ?_
          conv => cbv
          have nd2 := diff_at D1 (by rw [← DF.eq]; exact hn_2) hx4 hx3
          try dsimp only at nd2
          refine r_neqF m.sY ((by first | rfl | omega | assumption | exact decide_eq_true rfl | (subst_vars; omega))) ?_
          conv => cbv
          refine r_addf m.sX (by omega) (by omega) fun r8 hr8 => ?_
          conv => cbv
          try have tr8 : Int.toNat r8 = Int.toNat i4 + 1 := by omega
          refine hE _ r8 ?_ ?_ ⟨(by (try dsimp only); first | omega | (simp only [List.length_nil]; omega) | (simp only [List.length_cons, List.length_nil]; omega)), (by (try dsimp only); first | omega | (simp only [List.length_nil]; omega) | (simp only [List.length_cons, List.length_nil]; omega))⟩ (by first | omega | (dsimp only; omega))
          · cbv
          · cbv
        · have dz_i4 := drop_end (xs := d) (i := Int.toNat i4) (by omega)
          have tz_i4 := take_end (xs := d) (i := Int.toNat i4) (by omega)
          refine hF _ _ ?_
          conv => cbv
          exact hE0 _ () (by cbv) (by cbv) hmr
      · refine r_callBT m.sX (qInts_ok d d) (by first | rfl | omega | assumption | exact decide_eq_true rfl | (subst_vars; omega)) ?_   -- h22
        conv => cbv
        exact hE0 _ () (by cbv) (by cbv) hmr

theorem misputs_part2 (m : Mach Try.prog G κ X Y L) (hQ : ∀ r, r = PV.bool true → Q r) (more : List Int) (h : CurIn more) :
    Ai.code X L G (rest 10 (Try.f6.body.getD .skip)) (EndsIn (post G Try.f6.results.toList Q)) (St.at 270 (midMisputs more) []) := by
  conv => cbv
  refine r_callE m.sX ((drawMendSlips_ok more h).iceE) ?_
  rintro _ ⟨_, ⟨l, x, rfl⟩, rfl⟩
  conv => cbv
  refine r_callF (lbI 4 cBox) m.sX ((MendSlips_ok l x).ice) fun v hm_ => ?_
  obtain ⟨m_, three⟩ := v
  conv => cbv
  refine r_callF (lbI 4 cBox) m.sX ((specMendSlips_ok l x).ice) fun y1 hy1 => ?_
  obtain rfl := hm_.trans hy1.symm
  clear hy1
  conv => cbv
  refine r_callE m.sX ((drawLostTypes_ok more h).iceE) ?_
  rintro _ ⟨_, ⟨before, ⟨afterA, afterB⟩, rfl⟩, rfl⟩
  conv => cbv
  refine r_callF llbI m.sX (LostTypes_ok before (afterA, afterB)) fun v hc => ?_
  obtain ⟨c, n, five⟩ := v
  conv => cbv
  try dsimp only at hc
  have LL := lost_len hc
  try dsimp only at LL
  refine r_callF llbI m.sX (specLostTypes_ok before (afterA, afterB)) fun y2 hy2 => ?_
  obtain rfl := hc.trans hy2.symm
  clear hy2
  conv => cbv
  rcases Bool.eq_false_or_eq_true three with rfl | rfl <;> conv => cbv
  · refine r_callBT m.sX (qBoxes_ok m_) (by first | rfl | omega | assumption | exact decide_eq_true rfl | (subst_vars; omega)) ?_   -- h1
    conv => cbv
    rcases Bool.eq_false_or_eq_true five with rfl | rfl <;> conv => cbv
    · refine r_callBT m.sX (qTexts_ok c) (by first | rfl | omega | assumption | exact decide_eq_true rfl | (subst_vars; omega)) ?_   -- h2
      conv => cbv
      refine r_callBT m.sX (qInts_ok n n) (by first | rfl | omega | assumption | exact decide_eq_true rfl | (subst_vars; omega)) ?_   -- h3
      conv => cbv
      refine r_lenR m.sX fun n1 hn1 mn1 => ?_
      conv => cbv
      refine r_lenR m.sX fun n2 hn2 mn2 => ?_
      conv => cbv
      refine r_neqF m.sX ((by first | rfl | omega | assumption | exact decide_eq_true rfl | (subst_vars; omega))) ?_
      conv => cbv
      refine r_callF ib m.sX (TypesIn_ok l) fun v hfirst => ?_
      obtain ⟨first, is⟩ := v
      conv => cbv
      try dsimp only at hfirst
      refine r_callF ib m.sX (TypesIn_ok m_) fun v hsecond => ?_
      obtain ⟨second, was⟩ := v
      conv => cbv
      try dsimp only at hsecond
      obtain ⟨T1, T2, T3⟩ := types_two hm_ hfirst hsecond
      obtain rfl : is = true := by first | rfl | omega | assumption | exact decide_eq_true rfl | (subst_vars; omega)
      conv => cbv
      obtain rfl : was = true := by first | rfl | omega | assumption | exact decide_eq_true rfl | (subst_vars; omega)
      conv => cbv
      refine r_eqlT m.sX ((by first | rfl | omega | assumption | exact decide_eq_true rfl | (subst_vars; omega))) ?_
      conv => cbv
      exact hQ _ (congrArg PV.bool (by first | rfl | omega | (simp [*]; done) | (subst_vars; simp [*]; done)))   -- leaf 2
    · refine r_callBT m.sX (qTexts_ok c) (by first | rfl | omega | assumption | exact decide_eq_true rfl | (subst_vars; omega)) ?_   -- h6
      conv => cbv
      refine r_callBT m.sX (qInts_ok n n) (by first | rfl | omega | assumption | exact decide_eq_true rfl | (subst_vars; omega)) ?_   -- h7
      conv => cbv
      refine r_lenR m.sX fun n3 hn3 mn3 => ?_
      conv => cbv
      refine r_lenR m.sX fun n4 hn4 mn4 => ?_
      conv => cbv
      refine r_neqF m.sX ((by first | rfl | omega | assumption | exact decide_eq_true rfl | (subst_vars; omega))) ?_
      conv => cbv
      refine r_callF ib m.sX (TypesIn_ok l) fun v hfirst_2 => ?_
      obtain ⟨first_2, is_2⟩ := v
      conv => cbv
      try dsimp only at hfirst_2
      refine r_callF ib m.sX (TypesIn_ok m_) fun v hsecond_2 => ?_
      obtain ⟨second_2, was_2⟩ := v
      conv => cbv
      try dsimp only at hsecond_2
      obtain ⟨T1, T2, T3⟩ := types_two hm_ hfirst_2 hsecond_2
      obtain rfl : is_2 = true := by first | rfl | omega | assumption | exact decide_eq_true rfl | (subst_vars; omega)
      conv => cbv
      obtain rfl : was_2 = true := by first | rfl | omega | assumption | exact decide_eq_true rfl | (subst_vars; omega)
      conv => cbv
      refine r_eqlT m.sX ((by first | rfl | omega | assumption | exact decide_eq_true rfl | (subst_vars; omega))) ?_
      conv => cbv
      exact hQ _ (congrArg PV.bool (by first | rfl | omega | (simp [*]; done) | (subst_vars; simp [*]; done)))   -- leaf 3
  · refine r_callBT m.sX (qBoxes_ok m_) (by first | rfl | omega | assumption | exact decide_eq_true rfl | (subst_vars; omega)) ?_   -- h10
    conv => cbv
    rcases Bool.eq_false_or_eq_true five with rfl | rfl <;> conv => cbv
    · refine r_callBT m.sX (qTexts_ok c) (by first | rfl | omega | assumption | exact decide_eq_true rfl | (subst_vars; omega)) ?_   -- h11
      conv => cbv
      refine r_callBT m.sX (qInts_ok n n) (by first | rfl | omega | assumption | exact decide_eq_true rfl | (subst_vars; omega)) ?_   -- h12
      conv => cbv
      refine r_lenR m.sX fun n5 hn5 mn5 => ?_
      conv => cbv
      refine r_lenR m.sX fun n6 hn6 mn6 => ?_
      conv => cbv
      refine r_neqF m.sX ((by first | rfl | omega | assumption | exact decide_eq_true rfl | (subst_vars; omega))) ?_
      conv => cbv
      exact hQ _ (congrArg PV.bool (by first | rfl | omega | (simp [*]; done) | (subst_vars; simp [*]; done)))   -- leaf 4
    · refine r_callBT m.sX (qTexts_ok c) (by first | rfl | omega | assumption | exact decide_eq_true rfl | (subst_vars; omega)) ?_   -- h14
      conv => cbv
      refine r_callBT m.sX (qInts_ok n n) (by first | rfl | omega | assumption | exact decide_eq_true rfl | (subst_vars; omega)) ?_   -- h15
      conv => cbv
      refine r_lenR m.sX fun n7 hn7 mn7 => ?_
      conv => cbv
      refine r_lenR m.sX fun n8 hn8 mn8 => ?_
      conv => cbv
      refine r_neqF m.sX ((by first | rfl | omega | assumption | exact decide_eq_true rfl | (subst_vars; omega))) ?_
      conv => cbv
      exact hQ _ (congrArg PV.bool (by first | rfl | omega | (simp [*]; done) | (subst_vars; simp [*]; done)))   -- leaf 5

end

theorem lawMisputs_ok (code more : List Int) (hf : ∀ x ∈ code, 0 ≤ x ∧ x ≤ 255) (hg : ∀ x ∈ more, 0 ≤ x ∧ x ≤ 255) : OkA Try.prog 6 [.isl 1 (rows cU8 code), .isl 1 (rows cU8 more)] (· = .bool true) :=
  fn_introW envOk fieldsOk mixed Try.func6 rfl (c := Try.f6.body.getD .skip) rfl fun κ X Y L Q m hQ =>
    W_cut m 10 270 [1] [] (fun _ : Unit => midMisputs more) (fun _ => []) (fun _ => (more.length : Int) ≤ 9223372036854775807) (misputs_part1 m hQ code more hf) fun _ hl =>
    W_last m (misputs_part2 m hQ more ⟨hl, hg⟩)


end Go.Proofs.Ytmlojdpfpccgoaa.Ai
