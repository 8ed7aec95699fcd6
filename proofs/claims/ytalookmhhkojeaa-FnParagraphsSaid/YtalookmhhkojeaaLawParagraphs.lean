/- Long bodies, part by part. -/
import Derived.Test.YtalookmhhkojeaaAiRules
import Derived.Test.YtalookmhhkojeaaParagDraw
import Derived.Test.YtalookmhhkojeaaLit
namespace Go.Proofs.Ytalookmhhkojeaa.Ai
open Go Go.RowKit Go.Proofs
set_option linter.unusedSectionVars false
set_option linter.unusedVariables false
set_option linter.unusedSimpArgs false
set_option maxRecDepth 10000
set_option maxHeartbeats 4000000

/-- The first k statements of a body, and those behind. -/
def front : Nat → Code → Code
  | k + 1, .seq a b => .seq a (front k b)
  | _, _ => .skip
def rest : Nat → Code → Code
  | k + 1, .seq a b => rest k b
  | _, c => c

section
variable {P : Program} {G : Env} {κ : Ctx} {X Y : Req → (PV → Prop) → Prop} {L : Code → (Ex → St → Prop) → St → Prop}

/-- What stands at a cut, as at a loop's head. -/
def Cut {α : Type} (nt : Nat) (keep : List Nat) (own : List Hold) (tb : α → List (Nat × PV)) (hp : α → Heap) (I : α → Prop) (s' : St) : Prop :=
  headOk s' own = true ∧ ∃ a, Ai.norm keep own s' = St.at nt (tb a) (hp a) ∧ I a

theorem W_front (m : Mach P G κ X Y L) {E : St → Prop} {Q : Ex → St → Prop} : ∀ (k : Nat) (c : Code) (s : St),
    (∀ (η : Own) (s : St) (a : Act) (w : World), Sim κ η s a w → E s → (rest k c).wp P (Post κ Q) a w) →
    code X L G (front k c) (fun e s' => match e with | .normal => E s' | .exit i => Q (.exit i) s' | .ret => Q .ret s') s → W P κ c Q s := by
  have := m.z
  have hX := m.X
  have hL := m.L
  subst hX hL
  intro k
  induction k with
  | zero =>
    intro c s hE hc η a w hs
    cases c <;> exact hE η s a w hs hc
  | succ k ih =>
    intro c s hE hc η a w hs
    cases c
    case seq x y =>
      have hx : code (std false P) (W P κ) G x (fun e s' => match e with
        | .normal => code (std false P) (W P κ) G (front k y) (fun e s' => match e with | .normal => E s' | .exit i => Q (.exit i) s' | .ret => Q .ret s') s'
        | .exit j => Q (.exit j) s'
        | .ret => Q .ret s') s := hc
      refine wp_seq (Go.wp_mono (code_sound m.hG m.hF x _ _ hx η a w hs) fun e a' w' hq => ?_)
      cases e with
      | normal =>
        obtain ⟨η', s', hs', hq⟩ := hq
        exact ih y s' hE hq η' a' w' hs'
      | exit i => exact hq
      | ret => exact hq
      | goto l => exact hq.elim
      | panic ch => exact hq.elim
      | outgrown => exact hq.elim
    all_goals exact hE η s a w hs hc

/-- **A cut**: the first k statements, then those behind, from what is kept. -/
theorem W_cut {α : Type} (m : Mach P G κ X Y L) {Q : Ex → St → Prop} {c : Code} {s : St} (k nt : Nat) (keep : List Nat) (own : List Hold) (tb : α → List (Nat × PV)) (hp : α → Heap) (I : α → Prop)
    (first : ∀ E : St → Prop, (∀ s' a, headOk s' own = true → Ai.norm keep own s' = St.at nt (tb a) (hp a) → I a → E s') →
      code X L G (front k c) (fun e s' => match e with | .normal => E s' | .exit i => Q (.exit i) s' | .ret => Q .ret s') s)
    (second : ∀ a, I a → W P κ (rest k c) Q (St.at nt (tb a) (hp a))) : W P κ c Q s := by
  have := m.z
  refine W_front m (E := Cut nt keep own tb hp I) k c s ?_ (first _ fun s' a h1 h2 h3 => ⟨h1, a, h2, h3⟩)
  rintro η s a w hs ⟨hk, a0, e1, h3⟩
  simp only [headOk, Bool.and_eq_true] at hk
  have hs' := hs.norm keep hk.1 (recvOk_spec hk.2)
  rw [e1] at hs'
  exact second a0 h3 _ a w hs'

/-- The last part. -/
theorem W_last (m : Mach P G κ X Y L) {Q : Ex → St → Prop} {c : Code} {s : St} (h : code X L G c Q s) : W P κ c Q s := by
  have := m.z
  rw [m.X, m.L] at h
  exact code_sound m.hG m.hF c Q s h

theorem fn_introW (hG : EnvOk P G) (hF : FieldsOk P G) (hm : P.follows .mixedOrders = true) {f : FuncId} {fn : Func} (hf : P.funcs[f]? = some fn) (hn : (fn.name == "runtime.NumGoroutine") = false) {args : List PV} {R : PV → Prop} {c : Code} (hc : fn.body = some c)
    (h : ∀ κ X Y L Q, Mach P G κ X Y L → (∀ r, R r → Q r) → W P κ c (EndsIn (post G fn.results.toList Q)) (start fn.ntmps args [])) : OkA P f args R :=
  OkA_introW hG hF hf hn hc fun κ hz => h κ _ _ _ R ⟨hG, hF, hm, hz, rfl, rfl, rfl⟩ fun _ x => x
end

/- The law FnParagraphs: its body returns true. -/
section
variable {ws : List Int} {r : JRule} {m : Int}
theorem pl_one {b : List Int} {n : Int} (hb : (b, n, true) = bestPA ws r m (-1)) : askP ws r m = true ∧ 0 ≤ pC ws r m (-1) 0 ∧ b = pB ws r m (-1) 0 ∧ n = pC ws r m (-1) 0 := by
  unfold bestPA at hb
  split at hb
  · rename_i h
    exact ⟨h.1, h.2, (Prod.mk.inj hb).1, (Prod.mk.inj (Prod.mk.inj hb).2).1⟩
  · cases (Prod.mk.inj (Prod.mk.inj hb).2).2
theorem pl_ok {b bs : List Int} {n c : Int} {one : Bool} (hc : (c, true) = costPA ws r m bs) (hb : (b, n, one) = bestPA ws r m (-1)) : one = true ∧ n ≤ c := by
  unfold costPA at hc
  split at hc
  · rename_i h
    rw [Bool.and_eq_true] at h
    split at hc
    · rename_i c' hp
      obtain rfl := (Prod.mk.inj hc).1
      obtain ⟨f1, f2⟩ := (para_facts (r := r) (m := m) (askP_in h.1).para).least bs _ h.2 hp
      unfold bestPA at hb
      rw [if_pos ⟨h.1, f1⟩] at hb
      refine ⟨(Prod.mk.inj (Prod.mk.inj hb).2).2, ?_⟩
      rw [(Prod.mk.inj (Prod.mk.inj hb).2).1]
      exact f2
    · cases (Prod.mk.inj hc).2
  · cases (Prod.mk.inj hc).2
theorem pl_three {b : List Int} {n k : Int} {three : Bool} (hb : (b, n, true) = bestPA ws r m (-1)) (hk : (k, three) = countPA ws r m) : three = true ∧ 0 < k := by
  obtain ⟨a1, a2, -, -⟩ := pl_one hb
  unfold countPA at hk
  rw [if_pos a1] at hk
  refine ⟨(Prod.mk.inj hk).2, ?_⟩
  rw [(Prod.mk.inj hk).1]
  exact (para_facts (r := r) (m := m) (askP_in a1).para).ways.2 a2
theorem pl_five {b : List Int} {n f : Int} {five : Bool} (hb : (b, n, true) = bestPA ws r m (-1)) (hf : (f, five) = fewPA ws r m) : five = true ∧ f ≤ b.length + 1 := by
  obtain ⟨a1, a2, a3, -⟩ := pl_one hb
  have pf := para_facts (r := r) (m := m) (askP_in a1).para
  unfold fewPA at hf
  rw [if_pos a1] at hf
  split at hf
  · rename_i k hk
    refine ⟨(Prod.mk.inj hf).2, ?_⟩
    have := (pf.few1 k hk).1
    rw [(Prod.mk.inj hf).1, a3]
    show (k : Int) ≤ ((pB ws r m (-1) 0).length : Int) + 1
    unfold pB
    omega
  · rename_i hk
    have := pf.few.2 a2
    rw [hk] at this
    cases this
theorem pl_own {b : List Int} {n c : Int} {seven : Bool} (hb : (b, n, true) = bestPA ws r m (-1)) (hc : (c, seven) = costPA ws r m b) : seven = true ∧ c = n := by
  obtain ⟨a1, a2, a3, a4⟩ := pl_one hb
  obtain ⟨u, p, -⟩ := (para_facts (r := r) (m := m) (askP_in a1).para).best (-1) (.inr rfl) a2
  unfold costPA at hc
  rw [a1, Bool.true_and, a3, if_pos (up_rising _ 0 none (fun x e => by cases e) u), p] at hc
  exact ⟨(Prod.mk.inj hc).2, (Prod.mk.inj hc).1.trans a4.symm⟩
theorem pl_lines {b : List Int} {n : Int} {ls : List (List Int)} {eight : Bool} (hb : (b, n, true) = bestPA ws r m (-1)) (hl : (ls, eight) = linesPA ws b) : eight = true ∧ (ls.length : Int) = b.length + 1 ∧ (ls.map fun l => (l.length : Int)).sum = ws.length := by
  obtain ⟨a1, a2, a3, a4⟩ := pl_one hb
  have hp := (askP_in a1).para
  obtain ⟨u, p, -⟩ := (para_facts (r := r) (m := m) hp).best (-1) (.inr rfl) a2
  unfold linesPA at hl
  rw [hp, Bool.true_and, a3, if_pos (up_rising _ 0 none (fun x e => by cases e) u)] at hl
  obtain ⟨rfl, e8⟩ := Prod.mk.inj hl
  refine ⟨e8, ?_, ?_⟩
  · rw [linesP_length, a3]; rfl
  · rw [linesP_sum _ 0 (Nat.zero_le _) u]; simp
theorem pl_none {b : List Int} {n f : Int} {five : Bool} (hb : (b, n, false) = bestPA ws r m (-1)) (hf : (f, five) = fewPA ws r m) : five = false := by
  unfold bestPA at hb
  split at hb
  · cases (Prod.mk.inj (Prod.mk.inj hb).2).2
  · rename_i hn
    unfold fewPA at hf
    split at hf
    · rename_i ha
      split at hf
      · rename_i k hk
        exact absurd ⟨ha, (para_facts (r := r) (m := m) (askP_in ha).para).few.1 (by rw [hk]; rfl)⟩ hn
      · exact (Prod.mk.inj hf).2
    · exact (Prod.mk.inj hf).2
theorem pl_zero {b : List Int} {n k : Int} (hb : (b, n, false) = bestPA ws r m (-1)) (hk : (k, true) = countPA ws r m) : ¬ 0 < k := by
  unfold bestPA at hb
  split at hb
  · cases (Prod.mk.inj (Prod.mk.inj hb).2).2
  · rename_i hn
    unfold countPA at hk
    split at hk
    · rename_i ha
      rw [(Prod.mk.inj hk).1]
      exact fun h => hn ⟨ha, (para_facts (r := r) (m := m) (askP_in ha).para).ways.1 h⟩
    · cases (Prod.mk.inj hk).2
theorem sum_take_le {l : List (List Int)} : ∀ (i : Nat), 0 ≤ ((l.take i).map fun x => (x.length : Int)).sum ∧ ((l.take i).map fun x => (x.length : Int)).sum ≤ (l.map fun x => (x.length : Int)).sum := by
  induction l with
  | nil => intro i; simp
  | cons a t ih =>
    intro i
    cases i with
    | zero =>
      have := (ih t.length).1
      rw [List.take_of_length_le (Nat.le_refl _)] at this
      simp only [List.take_zero, List.map_nil, List.sum_nil, List.map_cons, List.sum_cons]
      omega
    | succ j =>
      have := ih j
      simp only [List.take_succ_cons, List.map_cons, List.sum_cons]
      omega
theorem lens_step {l : List (List Int)} {i : Nat} {x : List Int} (h : l[i]? = some x) : ((l.take (i + 1)).map fun x => (x.length : Int)).sum = ((l.take i).map fun x => (x.length : Int)).sum + x.length := by
  rw [List.take_add_one, h, List.map_append, List.sum_append]
  simp
end
theorem qLists_ok (a : List (List Int)) (b : List (List Int))  : OkA Try.prog 34 [.isl 1 (rows (cSl 1 cInt) a), .isl 1 (rows (cSl 1 cInt) b)] (· = .bool (decide (a = b))) :=
  fn_intro envOk fieldsOk mixed Try.func34 rfl fun κ X Y L Q m hQ => by
    conv => cbv
    refine r_lenR m.sX fun n1 hn1 mn1 => ?_
    conv => cbv
    refine r_lenR m.sX fun n2 hn2 mn2 => ?_
    conv => cbv
    refine r_neq m.sX (fun h1 => ?_) (fun h1 => ?_) <;> conv => cbv
    · exact hQ _ (congrArg PV.bool (by exact (decide_eq_false fun e => by rw [e] at hn1; omega).symm))   -- leaf 1
    · refine r_lenR m.sX fun n3 hn3 mn3 => ?_
      conv => cbv
      refine r_loopF (α := Int) m 27 [0, 1, 12, 13] [] (fun σ => [(0, .isl 1 (rows (cSl 1 cInt) a)), (1, .isl 1 (rows (cSl 1 cInt) b)), (12, .int .i64 n3), (13, .int .i64 σ)]) (fun σ => [])
        (fun σ => (0 ≤ σ) ∧ (σ ≤ n3) ∧ (a.take σ.toNat = b.take σ.toNat)) (fun σ => (n3 - σ).toNat) 0 ?_ ?_ ?_ ?_
      · cbv
      · cbv
      · exact ⟨(by (try dsimp only); first | omega | (simp only [List.length_nil]; omega) | (simp only [List.length_cons, List.length_nil]; omega)), (by (try dsimp only); first | omega | (simp only [List.length_nil]; omega) | (simp only [List.length_cons, List.length_nil]; omega)), (by (try dsimp only) <;> first | omega | rfl | (simp [*]; done))⟩
      rintro i1 ⟨lo1, hi1, q⟩ E hE F hF
      conv => cbv
      refine r_lss m.sX (fun h2 => ?_) (fun h2 => ?_) <;> conv => cbv
      · refine r_draw m (by kernel_rfl) ?_
        conv => cbv
        refine r_index m.sY (by omega) (by omega) fun x1 hx1 => ?_
        conv => cbv
        have mx1 := get_mem hx1
        have dx1 := drop_cons hx1
        have kx1 := take_snoc hx1
        have jx1 : (i1 + 1).toNat = Int.toNat i1 + 1 := by omega
        refine r_index m.sY (by omega) (by omega) fun x2 hx2 => ?_
        conv => cbv
        have mx2 := get_mem hx2
        have dx2 := drop_cons hx2
        have kx2 := take_snoc hx2
        have jx2 : (i1 + 1).toNat = Int.toNat i1 + 1 := by omega
        refine r_callBS m.sY (qInts_ok x1 x2) (fun h3 => ?_) (fun h3 => ?_) <;> conv => cbv
        · refine r_addf m.sX (by omega) (by omega) fun r1 hr1 => ?_
          conv => cbv
          try have tr1 : Int.toNat r1 = Int.toNat i1 + 1 := by omega
          refine hE _ r1 ?_ ?_ ⟨(by (try dsimp only); first | omega | (simp only [List.length_nil]; omega) | (simp only [List.length_cons, List.length_nil]; omega)), (by (try dsimp only); first | omega | (simp only [List.length_nil]; omega) | (simp only [List.length_cons, List.length_nil]; omega)), (by (try dsimp only) <;> (rw [tr1, kx1, kx2, q, show x1 = x2 from of_decide_eq_true h3]))⟩ (by first | omega | (dsimp only; omega))
          · cbv
          · cbv
        · refine hF _ _ ?_
          conv => cbv
          exact hQ _ (congrArg PV.bool (by exact (decide_eq_false fun e => by rw [e] at hx1; exact (of_decide_eq_false h3) (Option.some.inj (hx1.symm.trans hx2))).symm))   -- leaf 2
      · have dz_i1 := drop_end (xs := a) (i := Int.toNat i1) (by omega)
        have tz_i1 := take_end (xs := a) (i := Int.toNat i1) (by omega)
        refine hF _ _ ?_
        conv => cbv
        exact hQ _ (congrArg PV.bool (by exact (decide_eq_true (eq_of_takes (by omega) q (by omega))).symm))   -- leaf 3

noncomputable abbrev midParagraphs (more : List Int) : List (Nat × PV) := [(1, .isl 1 (rows cU8 more))]

section
variable {κ : Ctx} {X Y : Req → (PV → Prop) → Prop} {L : Code → (Ex → St → Prop) → St → Prop} {Q : PV → Prop}

theorem paragraphs_part1 (m : Mach Try.prog G κ X Y L) (hQ : ∀ r, r = PV.bool true → Q r) (code more : List Int) (hf : ∀ x ∈ code, 0 ≤ x ∧ x ≤ 255) (E0 : St → Prop)
    (hE0 : ∀ (s' : St) (a : Unit), headOk s' [] = true → Ai.norm [1] [] s' = St.at 263 (midParagraphs more) [] → (more.length : Int) ≤ 9223372036854775807 → E0 s') :
    Ai.code X L G (front 13 (Try.f4.body.getD .skip)) (fun e s' => match e with | .normal => E0 s' | .exit i => EndsIn (post G Try.f4.results.toList Q) (.exit i) s' | .ret => EndsIn (post G Try.f4.results.toList Q) .ret s') (start 263 [.isl 1 (rows cU8 code), .isl 1 (rows cU8 more)] []) := by
  conv => cbv
  refine r_lenR m.sX fun n1 hn1 mn1 => ?_
  conv => cbv
  refine r_lenR m.sX fun n2 hn2 mn2 => ?_
  conv => cbv
  refine r_add m.sX fun r1 hr1 => ?_
  conv => cbv
  refine r_gtr m.sX (fun h1 => ?_) (fun h1 => ?_) <;> conv => cbv
  · exact hQ _ (congrArg PV.bool (by first | rfl | omega | (simp [*]; done) | (subst_vars; simp [*]; done)))   -- leaf 1
  · have h : CurIn code := ⟨by omega, hf⟩
    have hmr : (more.length : Int) ≤ 9223372036854775807 := by omega
    refine r_callE m.sX ((drawCostOfBreaks_ok code h).iceE) ?_
    rintro _ ⟨_, ⟨words, ⟨rA, rB, rC⟩, measure, breaks, rfl, bwords_1⟩, rfl⟩
    conv => cbv
    refine r_callF ib m.sX (CostOfBreaks_ok words (rA, rB, rC) measure breaks) fun v hc => ?_
    obtain ⟨c, ok⟩ := v
    conv => cbv
    try dsimp only at hc
    refine r_callF ib m.sX (specCostOfBreaks_ok words (rA, rB, rC) measure breaks) fun y1 hy1 => ?_
    obtain rfl := hc.trans hy1.symm
    clear hy1
    conv => cbv
    refine r_callF (licI 1 cInt) m.sX ((BestBreaks_ok words (rA, rB, rC) measure).ice) fun v hb => ?_
    obtain ⟨b, n, one⟩ := v
    conv => cbv
    try dsimp only at hb
    refine r_callF (licI 1 cInt) m.sX (specBestBreaks_ok words (rA, rB, rC) measure) fun y2 hy2 => ?_
    obtain rfl := hb.trans hy2.symm
    clear hy2
    conv => cbv
    refine r_callF ib m.sX (CountBreaks_ok words (rA, rB, rC) measure) fun v hk => ?_
    obtain ⟨k, three⟩ := v
    conv => cbv
    try dsimp only at hk
    refine r_callF ib m.sX (specCountBreaks_ok words (rA, rB, rC) measure) fun y3 hy3 => ?_
    obtain rfl := hk.trans hy3.symm
    clear hy3
    conv => cbv
    refine r_callF ib m.sX (FewestLines_ok words (rA, rB, rC) measure) fun v hf => ?_
    obtain ⟨f, five⟩ := v
    conv => cbv
    try dsimp only at hf
    refine r_callF ib m.sX (specFewestLines_ok words (rA, rB, rC) measure) fun y4 hy4 => ?_
    obtain rfl := hf.trans hy4.symm
    clear hy4
    conv => cbv
    rcases Bool.eq_false_or_eq_true ok with rfl | rfl <;> conv => cbv
    · refine r_neqF m.sX ((by first | rfl | omega | assumption | exact decide_eq_true rfl | (have u := (pl_three hb hk).2; omega) | (have u := (pl_ok hc hb).2; omega) | (have u := pl_zero hb hk; omega) | (have u := (pl_five hb hf).2; omega) | (simp [*]; done))) ?_
      conv => cbv
      obtain rfl : one = true := by exact (pl_ok hc hb).1
      conv => cbv
      refine r_callBT m.sX (qInts_ok b b) (by first | rfl | omega | assumption | exact decide_eq_true rfl | (have u := (pl_three hb hk).2; omega) | (have u := (pl_ok hc hb).2; omega) | (have u := pl_zero hb hk; omega) | (have u := (pl_five hb hf).2; omega) | (simp [*]; done)) ?_   -- h3
      conv => cbv
      refine r_neqF m.sX ((by first | rfl | omega | assumption | exact decide_eq_true rfl | (have u := (pl_three hb hk).2; omega) | (have u := (pl_ok hc hb).2; omega) | (have u := pl_zero hb hk; omega) | (have u := (pl_five hb hf).2; omega) | (simp [*]; done))) ?_
      conv => cbv
      obtain rfl : three = true := by first | exact (pl_three hb hk).1
      conv => cbv
      refine r_neqF m.sX ((by first | rfl | omega | assumption | exact decide_eq_true rfl | (have u := (pl_three hb hk).2; omega) | (have u := (pl_ok hc hb).2; omega) | (have u := pl_zero hb hk; omega) | (have u := (pl_five hb hf).2; omega) | (simp [*]; done))) ?_
      conv => cbv
      obtain rfl : five = true := by first | exact (pl_five hb hf).1 | exact pl_none hb hf
      conv => cbv
      refine r_neqF m.sX ((by first | rfl | omega | assumption | exact decide_eq_true rfl | (have u := (pl_three hb hk).2; omega) | (have u := (pl_ok hc hb).2; omega) | (have u := pl_zero hb hk; omega) | (have u := (pl_five hb hf).2; omega) | (simp [*]; done))) ?_
      conv => cbv
      refine r_gtrT m.sX ((by first | rfl | omega | assumption | exact decide_eq_true rfl | (have u := (pl_three hb hk).2; omega) | (have u := (pl_ok hc hb).2; omega) | (have u := pl_zero hb hk; omega) | (have u := (pl_five hb hf).2; omega) | (simp [*]; done))) ?_
      conv => cbv
      refine r_lssF m.sX ((by first | rfl | omega | assumption | exact decide_eq_true rfl | (have u := (pl_three hb hk).2; omega) | (have u := (pl_ok hc hb).2; omega) | (have u := pl_zero hb hk; omega) | (have u := (pl_five hb hf).2; omega) | (simp [*]; done))) ?_
      conv => cbv
      refine r_callF ib m.sX (CostOfBreaks_ok words (rA, rB, rC) measure b) fun v hown => ?_
      obtain ⟨own, seven⟩ := v
      conv => cbv
      try dsimp only at hown
      have u6 := (pl_own hb hown).2
      try dsimp only at u6
      refine r_callF (lbI 1 (cSl 1 cInt)) m.sX ((LinesOfBreaks_ok words b).ice) fun v hlines => ?_
      obtain ⟨lines, eight⟩ := v
      conv => cbv
      try dsimp only at hlines
      obtain ⟨-, u7, u8⟩ := pl_lines hb hlines
      obtain rfl : seven = true := by exact (pl_own hb hown).1
      conv => cbv
      refine r_neqF m.sX ((by first | rfl | omega | assumption | exact decide_eq_true rfl | (have u := (pl_three hb hk).2; omega) | (have u := (pl_ok hc hb).2; omega) | (have u := pl_zero hb hk; omega) | (have u := (pl_five hb hf).2; omega) | (simp [*]; done))) ?_
      conv => cbv
      obtain rfl : eight = true := by exact (pl_lines hb hlines).1
      conv => cbv
      refine r_lenR m.sX fun n3 hn3 mn3 => ?_
      conv => cbv
      refine r_lenR m.sX fun n4 hn4 mn4 => ?_
      conv => cbv
      refine r_addf m.sX (by omega) (by omega) fun r2 hr2 => ?_
      conv => cbv
      refine r_neqF m.sX ((by first | rfl | omega | assumption | exact decide_eq_true rfl | (have u := (pl_three hb hk).2; omega) | (have u := (pl_ok hc hb).2; omega) | (have u := pl_zero hb hk; omega) | (have u := (pl_five hb hf).2; omega) | (simp [*]; done))) ?_
      conv => cbv
      refine r_lenR m.sX fun n5 hn5 mn5 => ?_
      conv => cbv
      refine r_gtrF m.sX ((by first | rfl | omega | assumption | exact decide_eq_true rfl | (have u := (pl_three hb hk).2; omega) | (have u := (pl_ok hc hb).2; omega) | (have u := pl_zero hb hk; omega) | (have u := (pl_five hb hf).2; omega) | (simp [*]; done))) ?_
      conv => cbv
      refine r_lenR m.sX fun n6 hn6 mn6 => ?_
      conv => cbv
      refine r_loopF (α := Int × Int) m 263 [1, 5, 31, 223, 224, 225] [] (fun σ => [(1, .isl 1 (rows cU8 more)), (5, .isl 1 (rows cInt words)), (31, .int .i64 σ.1), (223, .isl 1 (rows (cSl 1 cInt) lines)), (224, .int .i64 n6), (225, .int .i64 σ.2)]) (fun σ => [])
        (fun σ => (0 ≤ σ.2) ∧ (σ.2 ≤ n6) ∧ (σ.1 = ((lines.take σ.2.toNat).map fun x => (x.length : Int)).sum)) (fun σ => (n6 - σ.2).toNat) (0, 0) ?_ ?_ ?_ ?_
      · cbv
      · cbv
      · exact ⟨(by (try dsimp only); first | omega | (simp only [List.length_nil]; omega) | (simp only [List.length_cons, List.length_nil]; omega)), (by (try dsimp only); first | omega | (simp only [List.length_nil]; omega) | (simp only [List.length_cons, List.length_nil]; omega)), (by (try dsimp only) <;> first | omega | rfl | (simp [*]; done))⟩
      rintro ⟨sum, i1⟩ ⟨lo1, hi1, sq⟩ E hE F hF
      dsimp only at lo1 hi1 sq
      have sb := sum_take_le (l := lines) (i1.toNat + 1)
      try dsimp only at sb
      conv => cbv
      refine r_lss m.sX (fun h12 => ?_) (fun h12 => ?_) <;> conv => cbv
      · refine r_index m.sX (by omega) (by omega) fun l hl => ?_
        conv => cbv
        have ml := get_mem hl
        have dl := drop_cons hl
        have kl := take_snoc hl
        have jl : (i1 + 1).toNat = Int.toNat i1 + 1 := by omega
        rw [lens_step hl] at sb
        refine r_lenR m.sX fun n7 hn7 mn7 => ?_
        conv => cbv
        refine r_addf m.sX (by omega) (by omega) fun sum_2 hsum_2 => ?_
        conv => cbv
        refine r_addf m.sX (by omega) (by omega) fun r3 hr3 => ?_
        conv => cbv
        try have tr3 : Int.toNat r3 = Int.toNat i1 + 1 := by omega
        refine hE _ (sum_2, r3) ?_ ?_ ⟨(by (try dsimp only); first | omega | (simp only [List.length_nil]; omega) | (simp only [List.length_cons, List.length_nil]; omega)), (by (try dsimp only); first | omega | (simp only [List.length_nil]; omega) | (simp only [List.length_cons, List.length_nil]; omega)), (by (try dsimp only) <;> (rw [tr3, lens_step hl]; omega))⟩ (by first | omega | (dsimp only; omega))
        · cbv
        · cbv
      · have u9 : sum = ((lines.map fun x => (x.length : Int)).sum) := by rw [sq, List.take_of_length_le (by omega)]
        have dz_i1 := drop_end (xs := lines) (i := Int.toNat i1) (by omega)
        have tz_i1 := take_end (xs := lines) (i := Int.toNat i1) (by omega)
        refine hF _ _ ?_
        conv => cbv
        refine r_lenR m.sX fun n8 hn8 mn8 => ?_
        conv => cbv
        refine r_neqF m.sX ((by first | rfl | omega | assumption | exact decide_eq_true rfl | (have u := (pl_three hb hk).2; omega) | (have u := (pl_ok hc hb).2; omega) | (have u := pl_zero hb hk; omega) | (have u := (pl_five hb hf).2; omega) | (simp [*]; done))) ?_
        conv => cbv
        exact hE0 _ () (by cbv) (by cbv) hmr
    · refine r_neqF m.sX ((by first | rfl | omega | assumption | exact decide_eq_true rfl | (have u := (pl_three hb hk).2; omega) | (have u := (pl_ok hc hb).2; omega) | (have u := pl_zero hb hk; omega) | (have u := (pl_five hb hf).2; omega) | (simp [*]; done))) ?_
      conv => cbv
      rcases Bool.eq_false_or_eq_true one with rfl | rfl <;> conv => cbv
      · refine r_callBT m.sX (qInts_ok b b) (by first | rfl | omega | assumption | exact decide_eq_true rfl | (have u := (pl_three hb hk).2; omega) | (have u := (pl_ok hc hb).2; omega) | (have u := pl_zero hb hk; omega) | (have u := (pl_five hb hf).2; omega) | (simp [*]; done)) ?_   -- h15
        conv => cbv
        refine r_neqF m.sX ((by first | rfl | omega | assumption | exact decide_eq_true rfl | (have u := (pl_three hb hk).2; omega) | (have u := (pl_ok hc hb).2; omega) | (have u := pl_zero hb hk; omega) | (have u := (pl_five hb hf).2; omega) | (simp [*]; done))) ?_
        conv => cbv
        obtain rfl : three = true := by first | exact (pl_three hb hk).1
        conv => cbv
        refine r_neqF m.sX ((by first | rfl | omega | assumption | exact decide_eq_true rfl | (have u := (pl_three hb hk).2; omega) | (have u := (pl_ok hc hb).2; omega) | (have u := pl_zero hb hk; omega) | (have u := (pl_five hb hf).2; omega) | (simp [*]; done))) ?_
        conv => cbv
        obtain rfl : five = true := by first | exact (pl_five hb hf).1 | exact pl_none hb hf
        conv => cbv
        refine r_neqF m.sX ((by first | rfl | omega | assumption | exact decide_eq_true rfl | (have u := (pl_three hb hk).2; omega) | (have u := (pl_ok hc hb).2; omega) | (have u := pl_zero hb hk; omega) | (have u := (pl_five hb hf).2; omega) | (simp [*]; done))) ?_
        conv => cbv
        refine r_gtrT m.sX ((by first | rfl | omega | assumption | exact decide_eq_true rfl | (have u := (pl_three hb hk).2; omega) | (have u := (pl_ok hc hb).2; omega) | (have u := pl_zero hb hk; omega) | (have u := (pl_five hb hf).2; omega) | (simp [*]; done))) ?_
        conv => cbv
        refine r_callF ib m.sX (CostOfBreaks_ok words (rA, rB, rC) measure b) fun v hown_2 => ?_
        obtain ⟨own_2, seven_2⟩ := v
        conv => cbv
        try dsimp only at hown_2
        have u6 := (pl_own hb hown_2).2
        try dsimp only at u6
        refine r_callF (lbI 1 (cSl 1 cInt)) m.sX ((LinesOfBreaks_ok words b).ice) fun v hlines_2 => ?_
        obtain ⟨lines_2, eight_2⟩ := v
        conv => cbv
        try dsimp only at hlines_2
        obtain ⟨-, u7, u8⟩ := pl_lines hb hlines_2
        obtain rfl : seven_2 = true := by exact (pl_own hb hown_2).1
        conv => cbv
        refine r_neqF m.sX ((by first | rfl | omega | assumption | exact decide_eq_true rfl | (have u := (pl_three hb hk).2; omega) | (have u := (pl_ok hc hb).2; omega) | (have u := pl_zero hb hk; omega) | (have u := (pl_five hb hf).2; omega) | (simp [*]; done))) ?_
        conv => cbv
        obtain rfl : eight_2 = true := by exact (pl_lines hb hlines_2).1
        conv => cbv
        refine r_lenR m.sX fun n9 hn9 mn9 => ?_
        conv => cbv
        refine r_lenR m.sX fun n10 hn10 mn10 => ?_
        conv => cbv
        refine r_addf m.sX (by omega) (by omega) fun r4 hr4 => ?_
        conv => cbv
        refine r_neqF m.sX ((by first | rfl | omega | assumption | exact decide_eq_true rfl | (have u := (pl_three hb hk).2; omega) | (have u := (pl_ok hc hb).2; omega) | (have u := pl_zero hb hk; omega) | (have u := (pl_five hb hf).2; omega) | (simp [*]; done))) ?_
        conv => cbv
        refine r_lenR m.sX fun n11 hn11 mn11 => ?_
        conv => cbv
        refine r_gtrF m.sX ((by first | rfl | omega | assumption | exact decide_eq_true rfl | (have u := (pl_three hb hk).2; omega) | (have u := (pl_ok hc hb).2; omega) | (have u := pl_zero hb hk; omega) | (have u := (pl_five hb hf).2; omega) | (simp [*]; done))) ?_
        conv => cbv
        refine r_lenR m.sX fun n12 hn12 mn12 => ?_
        conv => cbv
        refine r_loopF (α := Int × Int) m 263 [1, 5, 31, 223, 224, 225] [] (fun σ => [(1, .isl 1 (rows cU8 more)), (5, .isl 1 (rows cInt words)), (31, .int .i64 σ.1), (223, .isl 1 (rows (cSl 1 cInt) lines_2)), (224, .int .i64 n12), (225, .int .i64 σ.2)]) (fun σ => [])
          (fun σ => (0 ≤ σ.2) ∧ (σ.2 ≤ n12) ∧ (σ.1 = ((lines_2.take σ.2.toNat).map fun x => (x.length : Int)).sum)) (fun σ => (n12 - σ.2).toNat) (0, 0) ?_ ?_ ?_ ?_
        · cbv
        · cbv
        · exact ⟨(by (try dsimp only); first | omega | (simp only [List.length_nil]; omega) | (simp only [List.length_cons, List.length_nil]; omega)), (by (try dsimp only); first | omega | (simp only [List.length_nil]; omega) | (simp only [List.length_cons, List.length_nil]; omega)), (by (try dsimp only) <;> first | omega | rfl | (simp [*]; done))⟩
        rintro ⟨sum_3, i2⟩ ⟨lo2, hi2, sq⟩ E hE F hF
        dsimp only at lo2 hi2 sq
        have sb := sum_take_le (l := lines_2) (i2.toNat + 1)
        try dsimp only at sb
        conv => cbv
        refine r_lss m.sX (fun h23 => ?_) (fun h23 => ?_) <;> conv => cbv
        · refine r_index m.sX (by omega) (by omega) fun l_2 hl_2 => ?_
          conv => cbv
          have ml_2 := get_mem hl_2
          have dl_2 := drop_cons hl_2
          have kl_2 := take_snoc hl_2
          have jl_2 : (i2 + 1).toNat = Int.toNat i2 + 1 := by omega
          rw [lens_step hl_2] at sb
          refine r_lenR m.sX fun n13 hn13 mn13 => ?_
          conv => cbv
          refine r_addf m.sX (by omega) (by omega) fun sum_4 hsum_4 => ?_
          conv => cbv
          refine r_addf m.sX (by omega) (by omega) fun r5 hr5 => ?_
          conv => cbv
          try have tr5 : Int.toNat r5 = Int.toNat i2 + 1 := by omega
          refine hE _ (sum_4, r5) ?_ ?_ ⟨(by (try dsimp only); first | omega | (simp only [List.length_nil]; omega) | (simp only [List.length_cons, List.length_nil]; omega)), (by (try dsimp only); first | omega | (simp only [List.length_nil]; omega) | (simp only [List.length_cons, List.length_nil]; omega)), (by (try dsimp only) <;> (rw [tr5, lens_step hl_2]; omega))⟩ (by first | omega | (dsimp only; omega))
          · cbv
          · cbv
        · have u9 : sum_3 = ((lines_2.map fun x => (x.length : Int)).sum) := by rw [sq, List.take_of_length_le (by omega)]
          have dz_i2 := drop_end (xs := lines_2) (i := Int.toNat i2) (by omega)
          have tz_i2 := take_end (xs := lines_2) (i := Int.toNat i2) (by omega)
          refine hF _ _ ?_
          conv => cbv
          refine r_lenR m.sX fun n14 hn14 mn14 => ?_
          conv => cbv
          refine r_neqF m.sX ((by first | rfl | omega | assumption | exact decide_eq_true rfl | (have u := (pl_three hb hk).2; omega) | (have u := (pl_ok hc hb).2; omega) | (have u := pl_zero hb hk; omega) | (have u := (pl_five hb hf).2; omega) | (simp [*]; done))) ?_
          conv => cbv
          exact hE0 _ () (by cbv) (by cbv) hmr
      · refine r_callBT m.sX (qInts_ok b b) (by first | rfl | omega | assumption | exact decide_eq_true rfl | (have u := (pl_three hb hk).2; omega) | (have u := (pl_ok hc hb).2; omega) | (have u := pl_zero hb hk; omega) | (have u := (pl_five hb hf).2; omega) | (simp [*]; done)) ?_   -- h25
        conv => cbv
        refine r_neqF m.sX ((by first | rfl | omega | assumption | exact decide_eq_true rfl | (have u := (pl_three hb hk).2; omega) | (have u := (pl_ok hc hb).2; omega) | (have u := pl_zero hb hk; omega) | (have u := (pl_five hb hf).2; omega) | (simp [*]; done))) ?_
        conv => cbv
        rcases Bool.eq_false_or_eq_true three with rfl | rfl <;> conv => cbv
        · refine r_neqF m.sX ((by first | rfl | omega | assumption | exact decide_eq_true rfl | (have u := (pl_three hb hk).2; omega) | (have u := (pl_ok hc hb).2; omega) | (have u := pl_zero hb hk; omega) | (have u := (pl_five hb hf).2; omega) | (simp [*]; done))) ?_
          conv => cbv
          obtain rfl : five = false := by first | exact (pl_five hb hf).1 | exact pl_none hb hf
          conv => cbv
          refine r_neqF m.sX ((by first | rfl | omega | assumption | exact decide_eq_true rfl | (have u := (pl_three hb hk).2; omega) | (have u := (pl_ok hc hb).2; omega) | (have u := pl_zero hb hk; omega) | (have u := (pl_five hb hf).2; omega) | (simp [*]; done))) ?_
          conv => cbv
          refine r_gtrF m.sX ((by first | rfl | omega | assumption | exact decide_eq_true rfl | (have u := (pl_three hb hk).2; omega) | (have u := (pl_ok hc hb).2; omega) | (have u := pl_zero hb hk; omega) | (have u := (pl_five hb hf).2; omega) | (simp [*]; done))) ?_
          conv => cbv
          exact hE0 _ () (by cbv) (by cbv) hmr
        · refine r_neqF m.sX ((by first | rfl | omega | assumption | exact decide_eq_true rfl | (have u := (pl_three hb hk).2; omega) | (have u := (pl_ok hc hb).2; omega) | (have u := pl_zero hb hk; omega) | (have u := (pl_five hb hf).2; omega) | (simp [*]; done))) ?_
          conv => cbv
          obtain rfl : five = false := by first | exact (pl_five hb hf).1 | exact pl_none hb hf
          conv => cbv
          refine r_neqF m.sX ((by first | rfl | omega | assumption | exact decide_eq_true rfl | (have u := (pl_three hb hk).2; omega) | (have u := (pl_ok hc hb).2; omega) | (have u := pl_zero hb hk; omega) | (have u := (pl_five hb hf).2; omega) | (simp [*]; done))) ?_
          conv => cbv
          exact hE0 _ () (by cbv) (by cbv) hmr

theorem paragraphs_part2 (m : Mach Try.prog G κ X Y L) (hQ : ∀ r, r = PV.bool true → Q r) (more : List Int) (h : CurIn more) :
    Ai.code X L G (rest 13 (Try.f4.body.getD .skip)) (EndsIn (post G Try.f4.results.toList Q)) (St.at 263 (midParagraphs more) []) := by
  conv => cbv
  refine r_callE m.sX ((drawLinesOfBreaks_ok more h).iceE) ?_
  rintro _ ⟨_, ⟨u, x, rfl, bu_1⟩, rfl⟩
  conv => cbv
  refine r_callF (lbI 1 (cSl 1 cInt)) m.sX ((LinesOfBreaks_ok u x).ice) fun v hl => ?_
  obtain ⟨l, seven⟩ := v
  conv => cbv
  refine r_callF (lbI 1 (cSl 1 cInt)) m.sX ((specLinesOfBreaks_ok u x).ice) fun y1 hy1 => ?_
  obtain rfl := hl.trans hy1.symm
  clear hy1
  conv => cbv
  rcases Bool.eq_false_or_eq_true seven with rfl | rfl <;> conv => cbv
  · refine r_callBT m.sX (qLists_ok l l) (by first | rfl | omega | assumption | exact decide_eq_true rfl | (have u := (pl_three hb hk).2; omega) | (have u := (pl_ok hc hb).2; omega) | (have u := pl_zero hb hk; omega) | (have u := (pl_five hb hf).2; omega) | (simp [*]; done)) ?_   -- h1
    conv => cbv
    exact hQ _ (congrArg PV.bool (by first | rfl | omega | (simp [*]; done) | (subst_vars; simp [*]; done)))   -- leaf 2
  · refine r_callBT m.sX (qLists_ok l l) (by first | rfl | omega | assumption | exact decide_eq_true rfl | (have u := (pl_three hb hk).2; omega) | (have u := (pl_ok hc hb).2; omega) | (have u := pl_zero hb hk; omega) | (have u := (pl_five hb hf).2; omega) | (simp [*]; done)) ?_   -- h2
    conv => cbv
    exact hQ _ (congrArg PV.bool (by first | rfl | omega | (simp [*]; done) | (subst_vars; simp [*]; done)))   -- leaf 3

end

theorem lawParagraphs_ok (code more : List Int) (hf : ∀ x ∈ code, 0 ≤ x ∧ x ≤ 255) (hg : ∀ x ∈ more, 0 ≤ x ∧ x ≤ 255) : OkA Try.prog 4 [.isl 1 (rows cU8 code), .isl 1 (rows cU8 more)] (· = .bool true) :=
  fn_introW envOk fieldsOk mixed Try.func4 rfl (c := Try.f4.body.getD .skip) rfl fun κ X Y L Q m hQ =>
    W_cut m 13 263 [1] [] (fun _ : Unit => midParagraphs more) (fun _ => []) (fun _ => (more.length : Int) ≤ 9223372036854775807) (paragraphs_part1 m hQ code more hf) fun _ hl =>
    W_last m (paragraphs_part2 m hQ more ⟨hl, hg⟩)


end Go.Proofs.Ytalookmhhkojeaa.Ai
