/- Long bodies, part by part. -/
import Derived.Test.YtbamclepgabciaaDoorAiRules
import Derived.Test.YtbamclepgabciaaDoorGal
import Derived.Test.YtbamclepgabciaaDoorPageDraw
namespace Go.Proofs.YtbamclepgabciaaDoor.Ai
open Go Go.RowKit Go.Proofs
set_option linter.unusedSectionVars false
set_option linter.unusedVariables false
set_option linter.unusedSimpArgs false
set_option maxRecDepth 10000
set_option maxHeartbeats 4000000

/-- The first k statements of a body, and those behind. -/
def front : Nat → Code → Code
  | k + 1, .seq a b => .seq a (front k b)
  | _, _ => .skip
def rest : Nat → Code → Code
  | k + 1, .seq a b => rest k b
  | _, c => c

section
variable {P : Program} {G : Env} {κ : Ctx} {X Y : Req → (PV → Prop) → Prop} {L : Code → (Ex → St → Prop) → St → Prop}

/-- What stands at a cut, as at a loop's head. -/
def Cut {α : Type} (nt : Nat) (keep : List Nat) (own : List Hold) (tb : α → List (Nat × PV)) (hp : α → Heap) (I : α → Prop) (s' : St) : Prop :=
  headOk s' own = true ∧ ∃ a, Ai.norm keep own s' = St.at nt (tb a) (hp a) ∧ I a

theorem W_front (m : Mach P G κ X Y L) {E : St → Prop} {Q : Ex → St → Prop} : ∀ (k : Nat) (c : Code) (s : St),
    (∀ (η : Own) (s : St) (a : Act) (w : World), Sim κ η s a w → E s → (rest k c).wp P (Post κ Q) a w) →
    code X L G (front k c) (fun e s' => match e with | .normal => E s' | .exit i => Q (.exit i) s' | .ret => Q .ret s') s → W P κ c Q s := by
  have := m.z
  have hX := m.X
  have hL := m.L
  subst hX hL
  intro k
  induction k with
  | zero =>
    intro c s hE hc η a w hs
    cases c <;> exact hE η s a w hs hc
  | succ k ih =>
    intro c s hE hc η a w hs
    cases c
    case seq x y =>
      have hx : code (std false P) (W P κ) G x (fun e s' => match e with
        | .normal => code (std false P) (W P κ) G (front k y) (fun e s' => match e with | .normal => E s' | .exit i => Q (.exit i) s' | .ret => Q .ret s') s'
        | .exit j => Q (.exit j) s'
        | .ret => Q .ret s') s := hc
      refine wp_seq (Go.wp_mono (code_sound m.hG m.hF x _ _ hx η a w hs) fun e a' w' hq => ?_)
      cases e with
      | normal =>
        obtain ⟨η', s', hs', hq⟩ := hq
        exact ih y s' hE hq η' a' w' hs'
      | exit i => exact hq
      | ret => exact hq
      | goto l => exact hq.elim
      | panic ch => exact hq.elim
      | outgrown => exact hq.elim
    all_goals exact hE η s a w hs hc

/-- **A cut**: the first k statements, then those behind, from what is kept. -/
theorem W_cut {α : Type} (m : Mach P G κ X Y L) {Q : Ex → St → Prop} {c : Code} {s : St} (k nt : Nat) (keep : List Nat) (own : List Hold) (tb : α → List (Nat × PV)) (hp : α → Heap) (I : α → Prop)
    (first : ∀ E : St → Prop, (∀ s' a, headOk s' own = true → Ai.norm keep own s' = St.at nt (tb a) (hp a) → I a → E s') →
      code X L G (front k c) (fun e s' => match e with | .normal => E s' | .exit i => Q (.exit i) s' | .ret => Q .ret s') s)
    (second : ∀ a, I a → W P κ (rest k c) Q (St.at nt (tb a) (hp a))) : W P κ c Q s := by
  have := m.z
  refine W_front m (E := Cut nt keep own tb hp I) k c s ?_ (first _ fun s' a h1 h2 h3 => ⟨h1, a, h2, h3⟩)
  rintro η s a w hs ⟨hk, a0, e1, h3⟩
  simp only [headOk, Bool.and_eq_true] at hk
  have hs' := hs.norm keep hk.1 (recvOk_spec hk.2)
  rw [e1] at hs'
  exact second a0 h3 _ a w hs'

/-- The last part. -/
theorem W_last (m : Mach P G κ X Y L) {Q : Ex → St → Prop} {c : Code} {s : St} (h : code X L G c Q s) : W P κ c Q s := by
  have := m.z
  rw [m.X, m.L] at h
  exact code_sound m.hG m.hF c Q s h

theorem fn_introW (hG : EnvOk P G) (hF : FieldsOk P G) (hm : P.follows .mixedOrders = true) {f : FuncId} {fn : Func} (hf : P.funcs[f]? = some fn) (hn : (fn.name == "runtime.NumGoroutine") = false) {args : List PV} {R : PV → Prop} {c : Code} (hc : fn.body = some c)
    (h : ∀ κ X Y L Q, Mach P G κ X Y L → (∀ r, R r → Q r) → W P κ c (EndsIn (post G fn.results.toList Q)) (start fn.ntmps args [])) : OkA P f args R :=
  OkA_introW hG hF hf hn hc fun κ hz => h κ _ _ _ R ⟨hG, hF, hm, hz, rfl, rfl, rfl⟩ fun _ x => x
end

/- Contracts of what the law on pages draws. -/
theorem cPageDepth2_ok (code : List Int) (b0 t0 : Int)  (h : CurIn code) (h0 : 0 ≤ b0) (hk : b0 ≤ 899999999999980000)  : OkM Tryd.prog 68 (cCur code b0 t0) [] (fun r cs => ∃ (q : Int), r = .int .i64 q ∧ CurTo code b0 20 cs ∧ (39 ≤ q ∧ q ≤ 2001)) :=
  fnM_intro envOk fieldsOk mixed Tryd.func68 rfl fun κ X Y L Q m hQ => by
    conv => cbv
    refine r_mcall m.sX (cAmong_ok code b0 t0 ([45, 39, 2001]) (by simp) h (by omega) (by omega)) ?_
    rintro _ _ ⟨q1, rfl, ⟨a1, s1, rfl, ea1, fa1⟩, bq1⟩
    simp only [List.mem_cons, List.not_mem_nil, or_false] at bq1
    conv => cbv
    refine r_mcall m.sX (cAmong_ok code a1 s1 ([40, 50, 60, 64, 100, 2000, q1]) (by simp) h (by omega) (by omega)) ?_
    rintro _ _ ⟨q2, rfl, ⟨a2, s2, rfl, ea2, fa2⟩, bq2⟩
    simp only [List.mem_cons, List.not_mem_nil, or_false] at bq2
    conv => cbv
    exact hQ (.int .i64 q2) (cCur code a2 s2) ⟨q2, rfl, ⟨a2, s2, rfl, by omega, by omega⟩, (by first | omega | assumption | (simp; done) | (simp [*]; done) | (simp at *; omega))⟩   -- leaf 1

theorem cPageDepth2_ex (code : List Int) (b0 t0 : Int) : ∃ r cs, (∃ (q : Int), r = PV.int .i64 q ∧ CurTo code b0 20 cs ∧ (39 ≤ q ∧ q ≤ 2001)) :=
  ⟨_, _, 50, rfl, ⟨b0, t0, rfl, by omega, by omega⟩, (by first | omega | simp)⟩

theorem drawLeadsFor_ok (code : List Int) (h : CurIn code) : OkA Tryd.prog 18 [.isl 1 (rows cU8 code)] (fun r => ∃ (q1 : List SLine) (q2 : Int), r = .tup [.fr 35 3 (rows cSetLine q1), .int .i64 q2] ∧ ((q1.length : Int) ≤ 41) ∧ (∀ x ∈ q1, (-1 ≤ x.1 ∧ x.1 ≤ 100) ∧ (-1 ≤ x.2.1 ∧ x.2.1 ≤ 100) ∧ (-2 ≤ x.2.2 ∧ x.2.2 ≤ 100)) ∧ (-100 ≤ q2 ∧ q2 ≤ 10000)) :=
  fn_intro envOk fieldsOk mixed Tryd.func18 rfl fun κ X Y L Q m hQ => by
    conv => cbv
    refine r_mcall m.sX (cGalley_ok code 0 0 h (by omega) (by omega)) ?_
    rintro _ _ ⟨l, rfl, ⟨a1, s1, rfl, ea1, fa1⟩, bl_1, bl_2⟩
    have hp2 : ∀ x ∈ l, -1000 ≤ x.2.2 ∧ x.2.2 ≤ 1000 := fun x hx => by have := bl_2 x hx; omega
    conv => cbv
    refine .inl (r_callBO m.sX ((pgGood_ok l (by first | rfl | assumption | omega | (simp only [List.length_append, List.length_cons, List.length_nil] at *; omega)) (by first | rfl | assumption | omega | (simp only [List.length_append, List.length_cons, List.length_nil] at *; omega))).ok flat_bool) (fun h1 => ?_) (fun h1 => ?_)) <;> conv => cbv
    · have os := (okGal_spec h1).1
      have db := deepS_bound os
      refine r_mcall m.sX (cOne_ok code a1 s1 2 h (by omega) (by omega)) ?_
      rintro _ _ ⟨q1, rfl, ⟨a2, s2, rfl, ea2, fa2⟩⟩
      conv => cbv
      rcases Bool.eq_false_or_eq_true q1 with rfl | rfl <;> conv => cbv
      · refine .inl (r_callFO intPV m.sX ((pgDeep_ok l (by first | rfl | assumption | omega | (simp only [List.length_append, List.length_cons, List.length_nil] at *; omega)) (by first | rfl | assumption | omega | (simp only [List.length_append, List.length_cons, List.length_nil] at *; omega))).ok flat_int) fun r1 hr1 => ?_)
        conv => cbv
        refine r_mcall m.sX (cPick_ok code a2 s2 12 h (by omega) (by omega)) ?_
        rintro _ _ ⟨q2, rfl, ⟨a3, s3, rfl, ea3, fa3⟩, bq2, cq2, dq2⟩
        conv => cbv
        refine r_addf m.sX (by omega) (by omega) fun r2 hr2 => ?_
        conv => cbv
        refine r_subf m.sX (by omega) (by omega) fun r3 hr3 => ?_
        conv => cbv
        exact hQ (.tup [.fr 35 3 (rows cSetLine l), .int .i64 r3]) ⟨l, r3, rfl, (by first | omega | assumption | (simp; done) | (simp [*]; done) | (simp at *; omega)), (by first | omega | assumption | (simp; done) | (simp [*]; done) | (simp at *; omega)), (by first | omega | assumption | (simp; done) | (simp [*]; done) | (simp at *; omega))⟩   -- leaf 1
      · refine r_mcall m.sX (cPageDepth2_ok code a2 s2 h (by omega) (by omega)) ?_
        rintro _ _ ⟨q3, rfl, ⟨a4, s4, rfl, ea4, fa4⟩, bq3_1⟩
        conv => cbv
        exact hQ (.tup [.fr 35 3 (rows cSetLine l), .int .i64 q3]) ⟨l, q3, rfl, (by first | omega | assumption | (simp; done) | (simp [*]; done) | (simp at *; omega)), (by first | omega | assumption | (simp; done) | (simp [*]; done) | (simp at *; omega)), (by first | omega | assumption | (simp; done) | (simp [*]; done) | (simp at *; omega))⟩   -- leaf 2
    · refine r_mcall m.sX (cPageDepth2_ok code a1 s1 h (by omega) (by omega)) ?_
      rintro _ _ ⟨q4, rfl, ⟨a5, s5, rfl, ea5, fa5⟩, bq4_1⟩
      conv => cbv
      exact hQ (.tup [.fr 35 3 (rows cSetLine l), .int .i64 q4]) ⟨l, q4, rfl, (by first | omega | assumption | (simp; done) | (simp [*]; done) | (simp at *; omega)), (by first | omega | assumption | (simp; done) | (simp [*]; done) | (simp at *; omega)), (by first | omega | assumption | (simp; done) | (simp [*]; done) | (simp at *; omega))⟩   -- leaf 3

theorem drawIsGalley_ok (code : List Int) (h : CurIn code) : OkA Tryd.prog 23 [.isl 1 (rows cU8 code)] (fun r => ∃ (q : List SLine), r = .fr 35 3 (rows cSetLine q) ∧ ((q.length : Int) ≤ 41) ∧ (∀ x ∈ q, (-1 ≤ x.1 ∧ x.1 ≤ 100) ∧ (-1 ≤ x.2.1 ∧ x.2.1 ≤ 100) ∧ (-2 ≤ x.2.2 ∧ x.2.2 ≤ 100))) :=
  fn_intro envOk fieldsOk mixed Tryd.func23 rfl fun κ X Y L Q m hQ => by
    conv => cbv
    refine r_mcall m.sX (cGalley_ok code 0 0 h (by omega) (by omega)) ?_
    rintro _ _ ⟨q1, rfl, ⟨a1, s1, rfl, ea1, fa1⟩, bq1_1, bq1_2⟩
    conv => cbv
    exact hQ (.fr 35 3 (rows cSetLine q1)) ⟨q1, rfl, (by first | omega | assumption | (simp; done) | (simp [*]; done) | (simp at *; omega)), (by first | omega | assumption | (simp; done) | (simp [*]; done) | (simp at *; omega))⟩   -- leaf 1


/- The law FnPages: its body returns true. -/
theorem pgs_ok {l : List SLine} {d n : Int} {b : Bool} (h : (n, b) = pagesF l d) : okPg l d = b ∧ (b = true → n = grd d 0 l) := by
  unfold pagesF at h
  split at h <;> simp_all
theorem dep_both {l : List SLine} {c w : List Int} {b : Bool} (h : (w, b) = depF l c) : okEnds l c = b ∧ (b = true → w = deepsL l 0 c) := by
  unfold depF at h
  split at h <;> simp_all
theorem txt_ok {l : List SLine} {s : List UInt8} {b : Bool} (h : (s, b) = textF l) : okGal l = b := by
  unfold textF at h
  split at h <;> simp_all
noncomputable abbrev midPages (more : List Int) : List (Nat × PV) := [(1, .isl 1 (rows cU8 more))]

section
variable {κ : Ctx} {X Y : Req → (PV → Prop) → Prop} {L : Code → (Ex → St → Prop) → St → Prop} {Q : PV → Prop}

theorem pages_part1 (m : Mach Tryd.prog G κ X Y L) (hQ : ∀ r, r = PV.bool true → Q r) (code more : List Int) (hf : ∀ x ∈ code, 0 ≤ x ∧ x ≤ 255) (E0 : St → Prop)
    (hE0 : ∀ (s' : St) (a : Unit), headOk s' [] = true → Ai.norm [1] [] s' = St.at 262 (midPages more) [] → (more.length : Int) ≤ 9223372036854775807 → E0 s') :
    Ai.code X L G (front 9 (Tryd.f3.body.getD .skip)) (fun e s' => match e with | .normal => E0 s' | .exit i => EndsIn (post G Tryd.f3.results.toList Q) (.exit i) s' | .ret => EndsIn (post G Tryd.f3.results.toList Q) .ret s') (start 262 [.isl 1 (rows cU8 code), .isl 1 (rows cU8 more)] []) := by
  conv => cbv
  refine r_lenR m.sX fun n1 hn1 mn1 => ?_
  conv => cbv
  refine r_lenR m.sX fun n2 hn2 mn2 => ?_
  conv => cbv
  refine r_add m.sX fun r1 hr1 => ?_
  conv => cbv
  refine r_gtr m.sX (fun h1 => ?_) (fun h1 => ?_) <;> conv => cbv
  · exact hQ _ (congrArg PV.bool (by first | rfl | omega | (simp [*]; done) | (subst_vars; simp [*]; done)))   -- leaf 1
  · have h : CurIn code := ⟨by omega, hf⟩
    have hmr : (more.length : Int) ≤ 9223372036854775807 := by omega
    refine r_callE m.sX ((drawPageFill_ok code h).iceE) ?_
    rintro _ ⟨_, ⟨l, depth, rfl, bl_1, bl_2⟩, rfl⟩
    have hp1 : ∀ x ∈ l, -1000 ≤ x.2.2 ∧ x.2.2 ≤ 1000 := fun x hx => by have := bl_2 x hx; omega
    have hs1 : ∀ x ∈ l, -100000 ≤ x.1 + x.2.1 ∧ x.1 + x.2.1 ≤ 100000 := fun x hx => by have := bl_2 x hx; omega
    have hl1 : (l.length : Int) ≤ 1000 := by omega
    conv => cbv
    refine r_callF (lbI 1 cInt) m.sX ((PageFill_ok l depth (by first | rfl | assumption | omega | (simp only [List.length_append, List.length_cons, List.length_nil] at *; omega)) (by first | rfl | assumption | omega | (simp only [List.length_append, List.length_cons, List.length_nil] at *; omega)) (by first | rfl | assumption | omega | (simp only [List.length_append, List.length_cons, List.length_nil] at *; omega))).ice) fun v hf => ?_
    obtain ⟨f, ok⟩ := v
    conv => cbv
    have o1 := fill_ok hf
    refine r_callF (lbI 1 cInt) m.sX ((specPageFill_ok l depth (by first | rfl | assumption | omega | (simp only [List.length_append, List.length_cons, List.length_nil] at *; omega)) (by first | rfl | assumption | omega | (simp only [List.length_append, List.length_cons, List.length_nil] at *; omega)) (by first | rfl | assumption | omega | (simp only [List.length_append, List.length_cons, List.length_nil] at *; omega))).ice) fun y1 hy1 => ?_
    obtain rfl := hf.trans hy1.symm
    clear hy1
    conv => cbv
    refine r_callF ib m.sX (PagesOfGalley_ok l depth (by first | rfl | assumption | omega | (simp only [List.length_append, List.length_cons, List.length_nil] at *; omega)) (by first | rfl | assumption | omega | (simp only [List.length_append, List.length_cons, List.length_nil] at *; omega)) (by first | rfl | assumption | omega | (simp only [List.length_append, List.length_cons, List.length_nil] at *; omega))) fun v hn => ?_
    obtain ⟨n, one⟩ := v
    conv => cbv
    have o2 := pgs_ok hn
    refine r_callF ib m.sX (specPagesOfGalley_ok l depth (by first | rfl | assumption | omega | (simp only [List.length_append, List.length_cons, List.length_nil] at *; omega)) (by first | rfl | assumption | omega | (simp only [List.length_append, List.length_cons, List.length_nil] at *; omega)) (by first | rfl | assumption | omega | (simp only [List.length_append, List.length_cons, List.length_nil] at *; omega))) fun y2 hy2 => ?_
    obtain rfl := hn.trans hy2.symm
    clear hy2
    conv => cbv
    rcases Bool.eq_false_or_eq_true ok with rfl | rfl <;> conv => cbv
    · have FF := fill_facts o1.1
      rw [← o1.2 rfl] at FF
      obtain ⟨os, oh, ol, od, og⟩ := okPg_spec o1.1
      refine r_callBT m.sX (qInts_ok f f) (by first | assumption | exact decide_eq_true rfl | (simp [*]; done) | omega) ?_   -- h2
      conv => cbv
      obtain rfl : one = true := by exact o2.1.symm.trans o1.1
      conv => cbv
      refine r_neqF m.sX (by first | omega | rfl) ?_
      conv => cbv
      refine r_callBT m.sX (IsGalley_ok l (by first | rfl | assumption | omega | (simp only [List.length_append, List.length_cons, List.length_nil] at *; omega)) (by first | rfl | assumption | omega | (simp only [List.length_append, List.length_cons, List.length_nil] at *; omega))) (by first | assumption | exact decide_eq_true rfl | (simp [*]; done) | omega) ?_   -- h4
      conv => cbv
      refine r_callF (lbI 1 cInt) m.sX ((PageDepths_ok l f (by first | rfl | assumption | omega | (simp only [List.length_append, List.length_cons, List.length_nil] at *; omega)) (by first | rfl | assumption | omega | (simp only [List.length_append, List.length_cons, List.length_nil] at *; omega))).ice) fun v hd => ?_
      obtain ⟨d, three⟩ := v
      conv => cbv
      have o3 := dep_both hd
      refine r_callF (lbI 1 cInt) m.sX ((specPageDepths_ok l f (by first | rfl | assumption | omega | (simp only [List.length_append, List.length_cons, List.length_nil] at *; omega)) (by first | rfl | assumption | omega | (simp only [List.length_append, List.length_cons, List.length_nil] at *; omega))).ice) fun y3 hy3 => ?_
      obtain rfl := hd.trans hy3.symm
      clear hy3
      conv => cbv
      obtain rfl : three = true := by exact o3.1.symm.trans FF.1
      conv => cbv
      have dv := o3.2 rfl
      have dl : d.length = f.length := by rw [dv, deepsL_length]
      have nl : (f.length : Int) = n := by rw [o1.2 rfl, fillL_length, o2.2 rfl]
      have sf : SumFits d := sumfits_of 4000 (fun z hz => by have := FF.2.2.2.2.2.1 z (by rw [← dv]; exact hz); omega) (by have := FF.2.2.2.2.2.2; omega)
      refine r_callBT m.sX (qInts_ok d d) (by first | assumption | exact decide_eq_true rfl | (simp [*]; done) | omega) ?_   -- h5
      conv => cbv
      refine r_lenR m.sX fun n3 hn3 mn3 => ?_
      conv => cbv
      refine r_neqF m.sX (by first | omega | rfl) ?_
      conv => cbv
      refine r_lenR m.sX fun n4 hn4 mn4 => ?_
      conv => cbv
      refine r_subf m.sX (by omega) (by omega) fun r2 hr2 => ?_
      conv => cbv
      refine r_index m.sX (by omega) (by omega) fun x1 hx1 => ?_
      conv => cbv
      have mx1 := get_mem hx1
      have vx1 := nth_some hx1
      have ex1 : x1 = l.length := by rw [← vx1, show Int.toNat r2 = f.length - 1 by omega]; exact FF.2.2.2.1
      refine r_lenR m.sX fun n5 hn5 mn5 => ?_
      conv => cbv
      refine r_neqF m.sX (by first | omega | rfl) ?_
      conv => cbv
      refine r_lenR m.sX fun n6 hn6 mn6 => ?_
      conv => cbv
      refine r_loopF (α := Int × Int) m 262 [1, 6, 17, 19, 147, 148, 149] [] (fun σ => [(1, .isl 1 (rows cU8 more)), (6, .int .i64 depth), (17, .isl 1 (rows cInt d)), (19, .int .i64 σ.1), (147, .isl 3 (rows cSetLine l)), (148, .int .i64 n6), (149, .int .i64 σ.2)]) (fun σ => [])
        (fun σ => (0 ≤ σ.2) ∧ (σ.2 ≤ n6) ∧ (σ.1 = deepS (l.take σ.2.toNat)) ∧ (0 ≤ σ.1 ∧ σ.1 ≤ 100 * σ.2)) (fun σ => (n6 - σ.2).toNat) (0, 0) ?_ ?_ ?_ ?_
      · cbv
      · cbv
      · exact ⟨(by (try dsimp only); first | omega | (simp only [List.length_nil]; omega) | (simp only [List.length_cons, List.length_nil]; omega)), (by (try dsimp only); first | omega | (simp only [List.length_nil]; omega) | (simp only [List.length_cons, List.length_nil]; omega)), (by (try dsimp only) <;> first | omega | rfl | (simp [*]; done)), (by (try dsimp only) <;> first | omega | rfl | (simp [*]; done))⟩
      rintro ⟨all, i1⟩ ⟨lo1, hi1, q, b⟩ E hE F hF
      dsimp only at lo1 hi1 q b
      conv => cbv
      refine r_lss m.sX (fun h8 => ?_) (fun h8 => ?_) <;> conv => cbv
      · refine r_index m.sX (by omega) (by omega) fun v hxA => ?_
        obtain ⟨xA, xB, xC⟩ := v
        conv => cbv
        have hx := hxA
        have mx := get_mem hx
        have dx := drop_cons hx
        have kx := take_snoc hx
        have jx : (i1 + 1).toNat = Int.toNat i1 + 1 := by omega
        have ox := okS_spec (os _ mx)
        try dsimp only at ox
        refine r_addf m.sX (by omega) (by omega) fun r3 hr3 => ?_
        conv => cbv
        refine r_addf m.sX (by omega) (by omega) fun all_2 hall_2 => ?_
        conv => cbv
        refine r_addf m.sX (by omega) (by omega) fun r4 hr4 => ?_
        conv => cbv
        try have tr4 : Int.toNat r4 = Int.toNat i1 + 1 := by omega
        refine hE _ (all_2, r4) ?_ ?_ ⟨(by (try dsimp only); first | omega | (simp only [List.length_nil]; omega) | (simp only [List.length_cons, List.length_nil]; omega)), (by (try dsimp only); first | omega | (simp only [List.length_nil]; omega) | (simp only [List.length_cons, List.length_nil]; omega)), (by (try dsimp only) <;> (rw [hall_2, q, tr4, deepS_take hx, hr3])), (by (try dsimp only) <;> first | omega | rfl | (simp [*]; done) | (rw [b]; simp [*]; done))⟩ (by first | omega | (dsimp only; omega))
        · cbv
        · cbv
      · have dz_i1 := drop_end (xs := l) (i := Int.toNat i1) (by omega)
        have tz_i1 := take_end (xs := l) (i := Int.toNat i1) (by omega)
        refine hF _ _ ?_
        conv => cbv
        refine r_lenR m.sX fun n7 hn7 mn7 => ?_
        conv => cbv
        refine r_loopF (α := Int) m 262 [1, 6, 17, 19, 161, 162, 163] [] (fun σ => [(1, .isl 1 (rows cU8 more)), (6, .int .i64 depth), (17, .isl 1 (rows cInt d)), (19, .int .i64 all), (161, .isl 1 (rows cInt d)), (162, .int .i64 n7), (163, .int .i64 σ)]) (fun σ => [])
          (fun σ => (0 ≤ σ) ∧ (σ ≤ n7)) (fun σ => (n7 - σ).toNat) 0 ?_ ?_ ?_ ?_
        · cbv
        · cbv
        · exact ⟨(by (try dsimp only); first | omega | (simp only [List.length_nil]; omega) | (simp only [List.length_cons, List.length_nil]; omega)), (by (try dsimp only); first | omega | (simp only [List.length_nil]; omega) | (simp only [List.length_cons, List.length_nil]; omega))⟩
        rintro i2 ⟨lo2, hi2⟩ E hE F hF
        conv => cbv
        refine r_lss m.sX (fun h9 => ?_) (fun h9 => ?_) <;> conv => cbv
        · refine r_index m.sX (by omega) (by omega) fun x_2 hx_2 => ?_
          conv => cbv
          have mx_2 := get_mem hx_2
          have dx_2 := drop_cons hx_2
          have kx_2 := take_snoc hx_2
          have jx_2 : (i2 + 1).toNat = Int.toNat i2 + 1 := by omega
          have vx_2 := nth_some hx_2
          have xb := FF.2.1 x_2 (by rw [← dv]; exact mx_2)
          try dsimp only at xb
          refine r_gtrF m.sX (by first | omega | rfl) ?_
          conv => cbv
          refine r_addf m.sX (by omega) (by omega) fun r5 hr5 => ?_
          conv => cbv
          try have tr5 : Int.toNat r5 = Int.toNat i2 + 1 := by omega
          refine hE _ r5 ?_ ?_ ⟨(by (try dsimp only); first | omega | (simp only [List.length_nil]; omega) | (simp only [List.length_cons, List.length_nil]; omega)), (by (try dsimp only); first | omega | (simp only [List.length_nil]; omega) | (simp only [List.length_cons, List.length_nil]; omega))⟩ (by first | omega | (dsimp only; omega))
          · cbv
          · cbv
        · have dz_i2 := drop_end (xs := d) (i := Int.toNat i2) (by omega)
          have tz_i2 := take_end (xs := d) (i := Int.toNat i2) (by omega)
          refine hF _ _ ?_
          conv => cbv
          refine r_callF (PV.int .i64) m.sX (qSum_ok d (by first | rfl | assumption | omega | (simp only [List.length_append, List.length_cons, List.length_nil] at *; omega))) fun r6 hr6 => ?_
          conv => cbv
          try dsimp only at hr6
          refine r_neqF m.sX ((by rw [hr6, dv, FF.2.2.1, q, tz_i1])) ?_
          conv => cbv
          exact hE0 _ () (by cbv) (by cbv) hmr
    · refine r_callBT m.sX (qInts_ok f f) (by first | assumption | exact decide_eq_true rfl | (simp [*]; done) | omega) ?_   -- h12
      conv => cbv
      obtain rfl : one = false := by exact o2.1.symm.trans o1.1
      conv => cbv
      refine r_neqF m.sX (by first | omega | rfl) ?_
      conv => cbv
      exact hE0 _ () (by cbv) (by cbv) hmr

theorem pages_part2 (m : Mach Tryd.prog G κ X Y L) (hQ : ∀ r, r = PV.bool true → Q r) (more : List Int) (h : CurIn more) :
    Ai.code X L G (rest 9 (Tryd.f3.body.getD .skip)) (EndsIn (post G Tryd.f3.results.toList Q)) (St.at 262 (midPages more) []) := by
  conv => cbv
  refine r_callE m.sX ((drawLeadsFor_ok more h).iceE) ?_
  rintro _ ⟨_, ⟨u, deep, rfl, bu_1, bu_2, bu_3⟩, rfl⟩
  have hp2 : ∀ x ∈ u, -1000 ≤ x.2.2 ∧ x.2.2 ≤ 1000 := fun x hx => by have := bu_2 x hx; omega
  have hs2 : ∀ x ∈ u, -100000 ≤ x.1 + x.2.1 ∧ x.1 + x.2.1 ≤ 100000 := fun x hx => by have := bu_2 x hx; omega
  have hl2 : (u.length : Int) ≤ 1000 := by omega
  conv => cbv
  refine r_callF (lbI 1 cInt) m.sX ((LeadsFor_ok u deep (by first | rfl | assumption | omega | (simp only [List.length_append, List.length_cons, List.length_nil] at *; omega)) (by first | rfl | assumption | omega | (simp only [List.length_append, List.length_cons, List.length_nil] at *; omega)) (by first | rfl | assumption | omega | (simp only [List.length_append, List.length_cons, List.length_nil] at *; omega)) (by first | rfl | assumption | omega | (simp only [List.length_append, List.length_cons, List.length_nil] at *; omega))).ice) fun v hx => ?_
  obtain ⟨x, three⟩ := v
  conv => cbv
  refine r_callF (lbI 1 cInt) m.sX ((specLeadsFor_ok u deep (by first | rfl | assumption | omega | (simp only [List.length_append, List.length_cons, List.length_nil] at *; omega)) (by first | rfl | assumption | omega | (simp only [List.length_append, List.length_cons, List.length_nil] at *; omega)) (by first | rfl | assumption | omega | (simp only [List.length_append, List.length_cons, List.length_nil] at *; omega)) (by first | rfl | assumption | omega | (simp only [List.length_append, List.length_cons, List.length_nil] at *; omega))).ice) fun y1 hy1 => ?_
  obtain rfl := hx.trans hy1.symm
  clear hy1
  conv => cbv
  rcases Bool.eq_false_or_eq_true three with rfl | rfl <;> conv => cbv
  · have LS := leadsF_spec hx
    obtain ⟨os2, oh2, ol2, od2, og2⟩ := okPg_spec LS.1
    have db2 := deepS_bound os2
    have LS3 := LS.2.2.1
    have LS4 := LS.2.2.2.1
    have sf2 : SumFits x := sumfits_of 2001 (fun z hz => by have := LS.2.2.2.2 z hz; omega) (by omega)
    refine r_callBT m.sX (qInts_ok x x) (by first | assumption | exact decide_eq_true rfl | (simp [*]; done) | omega) ?_   -- h1
    conv => cbv
    refine r_callF (PV.int .i64) m.sX (qSum_ok x (by first | rfl | assumption | omega | (simp only [List.length_append, List.length_cons, List.length_nil] at *; omega))) fun all hall => ?_
    conv => cbv
    refine r_lenR m.sX fun n1 hn1 mn1 => ?_
    conv => cbv
    refine r_loopF (α := Int × Int) m 262 [1, 24, 25, 28, 30, 204, 205, 206] [] (fun σ => [(1, .isl 1 (rows cU8 more)), (24, .isl 3 (rows cSetLine u)), (25, .int .i64 deep), (28, .isl 1 (rows cInt x)), (30, .int .i64 σ.1), (204, .isl 3 (rows cSetLine u)), (205, .int .i64 n1), (206, .int .i64 σ.2)]) (fun σ => [])
      (fun σ => (0 ≤ σ.2) ∧ (σ.2 ≤ n1) ∧ (σ.1 = x.sum + deepS (u.take σ.2.toNat)) ∧ (x.sum ≤ σ.1 ∧ σ.1 ≤ x.sum + 100 * σ.2)) (fun σ => (n1 - σ.2).toNat) (all, 0) ?_ ?_ ?_ ?_
    · cbv
    · cbv
    · exact ⟨(by (try dsimp only); first | omega | (simp only [List.length_nil]; omega) | (simp only [List.length_cons, List.length_nil]; omega)), (by (try dsimp only); first | omega | (simp only [List.length_nil]; omega) | (simp only [List.length_cons, List.length_nil]; omega)), (by (try dsimp only) <;> (rw [hall]; simp [deepS])), (by (try dsimp only) <;> first | omega | rfl | (simp [*]; done))⟩
    rintro ⟨all_2, i1⟩ ⟨lo3, hi3, q, b⟩ E hE F hF
    dsimp only at lo3 hi3 q b
    conv => cbv
    refine r_lss m.sX (fun h2 => ?_) (fun h2 => ?_) <;> conv => cbv
    · refine r_index m.sX (by omega) (by omega) fun v hyA => ?_
      obtain ⟨yA, yB, yC⟩ := v
      conv => cbv
      have hy := hyA
      have my := get_mem hy
      have dy := drop_cons hy
      have ky := take_snoc hy
      have jy : (i1 + 1).toNat = Int.toNat i1 + 1 := by omega
      have oy := okS_spec (os2 _ my)
      try dsimp only at oy
      refine r_addf m.sX (by omega) (by omega) fun r1 hr1 => ?_
      conv => cbv
      refine r_addf m.sX (by omega) (by omega) fun all_3 hall_3 => ?_
      conv => cbv
      refine r_addf m.sX (by omega) (by omega) fun r2 hr2 => ?_
      conv => cbv
      try have tr2 : Int.toNat r2 = Int.toNat i1 + 1 := by omega
      refine hE _ (all_3, r2) ?_ ?_ ⟨(by (try dsimp only); first | omega | (simp only [List.length_nil]; omega) | (simp only [List.length_cons, List.length_nil]; omega)), (by (try dsimp only); first | omega | (simp only [List.length_nil]; omega) | (simp only [List.length_cons, List.length_nil]; omega)), (by (try dsimp only) <;> (rw [hall_3, q, tr2, deepS_take hy, hr1]; (try dsimp only); omega)), (by (try dsimp only) <;> first | omega | rfl | (simp [*]; done) | (rw [b]; simp [*]; done))⟩ (by first | omega | (dsimp only; omega))
      · cbv
      · cbv
    · have dz_i1 := drop_end (xs := u) (i := Int.toNat i1) (by omega)
      have tz_i1 := take_end (xs := u) (i := Int.toNat i1) (by omega)
      refine hF _ _ ?_
      conv => cbv
      refine r_neqF m.sX ((by rw [q, tz_i1]; exact LS4)) ?_
      conv => cbv
      refine r_lenR m.sX fun n2 hn2 mn2 => ?_
      conv => cbv
      refine r_lenR m.sX fun n3 hn3 mn3 => ?_
      conv => cbv
      refine r_subf m.sX (by omega) (by omega) fun r3 hr3 => ?_
      conv => cbv
      refine r_neqF m.sX (by first | omega | rfl) ?_
      conv => cbv
      refine r_callF sb m.sX (GalleyText_ok u (by first | rfl | assumption | omega | (simp only [List.length_append, List.length_cons, List.length_nil] at *; omega)) (by first | rfl | assumption | omega | (simp only [List.length_append, List.length_cons, List.length_nil] at *; omega))) fun v ht => ?_
      obtain ⟨t, five⟩ := v
      conv => cbv
      try dsimp only at ht
      have o5 := txt_ok ht
      try dsimp only at o5
      refine r_callF sb m.sX (specGalleyText_ok u (by first | rfl | assumption | omega | (simp only [List.length_append, List.length_cons, List.length_nil] at *; omega)) (by first | rfl | assumption | omega | (simp only [List.length_append, List.length_cons, List.length_nil] at *; omega))) fun y2 hy2 => ?_
      obtain rfl := ht.trans hy2.symm
      clear hy2
      conv => cbv
      refine r_callE m.sX ((drawIsGalley_ok more h).iceE) ?_
      rintro _ ⟨_, ⟨g, rfl, bg_1, bg_2⟩, rfl⟩
      have hpg : ∀ x ∈ g, -1000 ≤ x.2.2 ∧ x.2.2 ≤ 1000 := fun x hx => by have := bg_2 x hx; omega
      conv => cbv
      rcases Bool.eq_false_or_eq_true five with rfl | rfl <;> conv => cbv
      · refine r_seqlT m.sX (by first | omega | rfl) ?_
        conv => cbv
        refine r_callBT m.sX (IsGalley_ok u (by first | rfl | assumption | omega | (simp only [List.length_append, List.length_cons, List.length_nil] at *; omega)) (by first | rfl | assumption | omega | (simp only [List.length_append, List.length_cons, List.length_nil] at *; omega))) (by first | assumption | exact decide_eq_true rfl | (simp [*]; done) | omega) ?_   -- h6
        conv => cbv
        refine r_callB m.sX (IsGalley_ok g (by first | rfl | assumption | omega | (simp only [List.length_append, List.length_cons, List.length_nil] at *; omega)) (by first | rfl | assumption | omega | (simp only [List.length_append, List.length_cons, List.length_nil] at *; omega))) (fun h7 => ?_) (fun h7 => ?_) <;> conv => cbv
        · refine r_callBT m.sX (specIsGalley_ok g (by first | rfl | assumption | omega | (simp only [List.length_append, List.length_cons, List.length_nil] at *; omega)) (by first | rfl | assumption | omega | (simp only [List.length_append, List.length_cons, List.length_nil] at *; omega))) h7 ?_
          conv => cbv
          exact hQ _ (congrArg PV.bool (by first | rfl | omega | (simp [*]; done) | (subst_vars; simp [*]; done) | (rw [q]; simp [*]; done) | (rw [b]; simp [*]; done)))   -- leaf 2
        · refine r_callBF m.sX (specIsGalley_ok g (by first | rfl | assumption | omega | (simp only [List.length_append, List.length_cons, List.length_nil] at *; omega)) (by first | rfl | assumption | omega | (simp only [List.length_append, List.length_cons, List.length_nil] at *; omega))) h7 ?_
          conv => cbv
          exact hQ _ (congrArg PV.bool (by first | rfl | omega | (simp [*]; done) | (subst_vars; simp [*]; done) | (rw [q]; simp [*]; done) | (rw [b]; simp [*]; done)))   -- leaf 3
      · refine r_seqlT m.sX (by first | omega | rfl) ?_
        conv => cbv
        refine r_callBF m.sX (IsGalley_ok u (by first | rfl | assumption | omega | (simp only [List.length_append, List.length_cons, List.length_nil] at *; omega)) (by first | rfl | assumption | omega | (simp only [List.length_append, List.length_cons, List.length_nil] at *; omega))) (by first | assumption | exact decide_eq_true rfl | (simp [*]; done) | omega) ?_   -- h9
        conv => cbv
        refine r_callB m.sX (IsGalley_ok g (by first | rfl | assumption | omega | (simp only [List.length_append, List.length_cons, List.length_nil] at *; omega)) (by first | rfl | assumption | omega | (simp only [List.length_append, List.length_cons, List.length_nil] at *; omega))) (fun h10 => ?_) (fun h10 => ?_) <;> conv => cbv
        · refine r_callBT m.sX (specIsGalley_ok g (by first | rfl | assumption | omega | (simp only [List.length_append, List.length_cons, List.length_nil] at *; omega)) (by first | rfl | assumption | omega | (simp only [List.length_append, List.length_cons, List.length_nil] at *; omega))) h10 ?_
          conv => cbv
          exact hQ _ (congrArg PV.bool (by first | rfl | omega | (simp [*]; done) | (subst_vars; simp [*]; done) | (rw [q]; simp [*]; done) | (rw [b]; simp [*]; done)))   -- leaf 4
        · refine r_callBF m.sX (specIsGalley_ok g (by first | rfl | assumption | omega | (simp only [List.length_append, List.length_cons, List.length_nil] at *; omega)) (by first | rfl | assumption | omega | (simp only [List.length_append, List.length_cons, List.length_nil] at *; omega))) h10 ?_
          conv => cbv
          exact hQ _ (congrArg PV.bool (by first | rfl | omega | (simp [*]; done) | (subst_vars; simp [*]; done) | (rw [q]; simp [*]; done) | (rw [b]; simp [*]; done)))   -- leaf 5
  · refine r_callBT m.sX (qInts_ok x x) (by first | assumption | exact decide_eq_true rfl | (simp [*]; done) | omega) ?_   -- h11
    conv => cbv
    refine r_callF sb m.sX (GalleyText_ok u (by first | rfl | assumption | omega | (simp only [List.length_append, List.length_cons, List.length_nil] at *; omega)) (by first | rfl | assumption | omega | (simp only [List.length_append, List.length_cons, List.length_nil] at *; omega))) fun v ht_2 => ?_
    obtain ⟨t_2, five_2⟩ := v
    conv => cbv
    try dsimp only at ht_2
    have o5 := txt_ok ht_2
    try dsimp only at o5
    refine r_callF sb m.sX (specGalleyText_ok u (by first | rfl | assumption | omega | (simp only [List.length_append, List.length_cons, List.length_nil] at *; omega)) (by first | rfl | assumption | omega | (simp only [List.length_append, List.length_cons, List.length_nil] at *; omega))) fun y3 hy3 => ?_
    obtain rfl := ht_2.trans hy3.symm
    clear hy3
    conv => cbv
    refine r_callE m.sX ((drawIsGalley_ok more h).iceE) ?_
    rintro _ ⟨_, ⟨g_2, rfl, bg_2_1, bg_2_2⟩, rfl⟩
    have hpg : ∀ x ∈ g_2, -1000 ≤ x.2.2 ∧ x.2.2 ≤ 1000 := fun x hx => by have := bg_2_2 x hx; omega
    conv => cbv
    rcases Bool.eq_false_or_eq_true five_2 with rfl | rfl <;> conv => cbv
    · refine r_seqlT m.sX (by first | omega | rfl) ?_
      conv => cbv
      refine r_callBT m.sX (IsGalley_ok u (by first | rfl | assumption | omega | (simp only [List.length_append, List.length_cons, List.length_nil] at *; omega)) (by first | rfl | assumption | omega | (simp only [List.length_append, List.length_cons, List.length_nil] at *; omega))) (by first | assumption | exact decide_eq_true rfl | (simp [*]; done) | omega) ?_   -- h13
      conv => cbv
      refine r_callB m.sX (IsGalley_ok g_2 (by first | rfl | assumption | omega | (simp only [List.length_append, List.length_cons, List.length_nil] at *; omega)) (by first | rfl | assumption | omega | (simp only [List.length_append, List.length_cons, List.length_nil] at *; omega))) (fun h14 => ?_) (fun h14 => ?_) <;> conv => cbv
      · refine r_callBT m.sX (specIsGalley_ok g_2 (by first | rfl | assumption | omega | (simp only [List.length_append, List.length_cons, List.length_nil] at *; omega)) (by first | rfl | assumption | omega | (simp only [List.length_append, List.length_cons, List.length_nil] at *; omega))) h14 ?_
        conv => cbv
        exact hQ _ (congrArg PV.bool (by first | rfl | omega | (simp [*]; done) | (subst_vars; simp [*]; done)))   -- leaf 6
      · refine r_callBF m.sX (specIsGalley_ok g_2 (by first | rfl | assumption | omega | (simp only [List.length_append, List.length_cons, List.length_nil] at *; omega)) (by first | rfl | assumption | omega | (simp only [List.length_append, List.length_cons, List.length_nil] at *; omega))) h14 ?_
        conv => cbv
        exact hQ _ (congrArg PV.bool (by first | rfl | omega | (simp [*]; done) | (subst_vars; simp [*]; done)))   -- leaf 7
    · refine r_seqlT m.sX (by first | omega | rfl) ?_
      conv => cbv
      refine r_callBF m.sX (IsGalley_ok u (by first | rfl | assumption | omega | (simp only [List.length_append, List.length_cons, List.length_nil] at *; omega)) (by first | rfl | assumption | omega | (simp only [List.length_append, List.length_cons, List.length_nil] at *; omega))) (by first | assumption | exact decide_eq_true rfl | (simp [*]; done) | omega) ?_   -- h16
      conv => cbv
      refine r_callB m.sX (IsGalley_ok g_2 (by first | rfl | assumption | omega | (simp only [List.length_append, List.length_cons, List.length_nil] at *; omega)) (by first | rfl | assumption | omega | (simp only [List.length_append, List.length_cons, List.length_nil] at *; omega))) (fun h17 => ?_) (fun h17 => ?_) <;> conv => cbv
      · refine r_callBT m.sX (specIsGalley_ok g_2 (by first | rfl | assumption | omega | (simp only [List.length_append, List.length_cons, List.length_nil] at *; omega)) (by first | rfl | assumption | omega | (simp only [List.length_append, List.length_cons, List.length_nil] at *; omega))) h17 ?_
        conv => cbv
        exact hQ _ (congrArg PV.bool (by first | rfl | omega | (simp [*]; done) | (subst_vars; simp [*]; done)))   -- leaf 8
      · refine r_callBF m.sX (specIsGalley_ok g_2 (by first | rfl | assumption | omega | (simp only [List.length_append, List.length_cons, List.length_nil] at *; omega)) (by first | rfl | assumption | omega | (simp only [List.length_append, List.length_cons, List.length_nil] at *; omega))) h17 ?_
        conv => cbv
        exact hQ _ (congrArg PV.bool (by first | rfl | omega | (simp [*]; done) | (subst_vars; simp [*]; done)))   -- leaf 9

end

theorem lawPages_ok (code more : List Int) (hf : ∀ x ∈ code, 0 ≤ x ∧ x ≤ 255) (hg : ∀ x ∈ more, 0 ≤ x ∧ x ≤ 255) : OkA Tryd.prog 3 [.isl 1 (rows cU8 code), .isl 1 (rows cU8 more)] (· = .bool true) :=
  fn_introW envOk fieldsOk mixed Tryd.func3 rfl (c := Tryd.f3.body.getD .skip) rfl fun κ X Y L Q m hQ =>
    W_cut m 9 262 [1] [] (fun _ : Unit => midPages more) (fun _ => []) (fun _ => (more.length : Int) ≤ 9223372036854775807) (pages_part1 m hQ code more hf) fun _ hl =>
    W_last m (pages_part2 m hQ more ⟨hl, hg⟩)


end Go.Proofs.YtbamclepgabciaaDoor.Ai
