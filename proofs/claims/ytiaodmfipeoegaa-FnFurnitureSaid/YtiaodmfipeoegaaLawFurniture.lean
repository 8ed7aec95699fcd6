/- Long bodies, part by part. -/
import Derived.Test.YtiaodmfipeoegaaAiRules
import Derived.Test.YtiaodmfipeoegaaFurnDraw
import Derived.Test.YtiaodmfipeoegaaFurnEnd
import Derived.Test.YtiaodmfipeoegaaSidesK
namespace Go.Proofs.Ytiaodmfipeoegaa.Ai
open Go Go.RowKit Go.Proofs
set_option linter.unusedSectionVars false
set_option linter.unusedVariables false
set_option linter.unusedSimpArgs false
set_option maxRecDepth 10000
set_option maxHeartbeats 4000000

/-- The first k statements of a body, and those behind. -/
def front : Nat → Code → Code
  | k + 1, .seq a b => .seq a (front k b)
  | _, _ => .skip
def rest : Nat → Code → Code
  | k + 1, .seq a b => rest k b
  | _, c => c

section
variable {P : Program} {G : Env} {κ : Ctx} {X Y : Req → (PV → Prop) → Prop} {L : Code → (Ex → St → Prop) → St → Prop}

/-- What stands at a cut, as at a loop's head. -/
def Cut {α : Type} (nt : Nat) (keep : List Nat) (own : List Hold) (tb : α → List (Nat × PV)) (hp : α → Heap) (I : α → Prop) (s' : St) : Prop :=
  headOk s' own = true ∧ ∃ a, Ai.norm keep own s' = St.at nt (tb a) (hp a) ∧ I a

theorem W_front (m : Mach P G κ X Y L) {E : St → Prop} {Q : Ex → St → Prop} : ∀ (k : Nat) (c : Code) (s : St),
    (∀ (η : Own) (s : St) (a : Act) (w : World), Sim κ η s a w → E s → (rest k c).wp P (Post κ Q) a w) →
    code X L G (front k c) (fun e s' => match e with | .normal => E s' | .exit i => Q (.exit i) s' | .ret => Q .ret s') s → W P κ c Q s := by
  have := m.z
  have hX := m.X
  have hL := m.L
  subst hX hL
  intro k
  induction k with
  | zero =>
    intro c s hE hc η a w hs
    cases c <;> exact hE η s a w hs hc
  | succ k ih =>
    intro c s hE hc η a w hs
    cases c
    case seq x y =>
      have hx : code (std false P) (W P κ) G x (fun e s' => match e with
        | .normal => code (std false P) (W P κ) G (front k y) (fun e s' => match e with | .normal => E s' | .exit i => Q (.exit i) s' | .ret => Q .ret s') s'
        | .exit j => Q (.exit j) s'
        | .ret => Q .ret s') s := hc
      refine wp_seq (Go.wp_mono (code_sound m.hG m.hF x _ _ hx η a w hs) fun e a' w' hq => ?_)
      cases e with
      | normal =>
        obtain ⟨η', s', hs', hq⟩ := hq
        exact ih y s' hE hq η' a' w' hs'
      | exit i => exact hq
      | ret => exact hq
      | goto l => exact hq.elim
      | panic ch => exact hq.elim
      | outgrown => exact hq.elim
    all_goals exact hE η s a w hs hc

/-- **A cut**: the first k statements, then those behind, from what is kept. -/
theorem W_cut {α : Type} (m : Mach P G κ X Y L) {Q : Ex → St → Prop} {c : Code} {s : St} (k nt : Nat) (keep : List Nat) (own : List Hold) (tb : α → List (Nat × PV)) (hp : α → Heap) (I : α → Prop)
    (first : ∀ E : St → Prop, (∀ s' a, headOk s' own = true → Ai.norm keep own s' = St.at nt (tb a) (hp a) → I a → E s') →
      code X L G (front k c) (fun e s' => match e with | .normal => E s' | .exit i => Q (.exit i) s' | .ret => Q .ret s') s)
    (second : ∀ a, I a → W P κ (rest k c) Q (St.at nt (tb a) (hp a))) : W P κ c Q s := by
  have := m.z
  refine W_front m (E := Cut nt keep own tb hp I) k c s ?_ (first _ fun s' a h1 h2 h3 => ⟨h1, a, h2, h3⟩)
  rintro η s a w hs ⟨hk, a0, e1, h3⟩
  simp only [headOk, Bool.and_eq_true] at hk
  have hs' := hs.norm keep hk.1 (recvOk_spec hk.2)
  rw [e1] at hs'
  exact second a0 h3 _ a w hs'

/-- The last part. -/
theorem W_last (m : Mach P G κ X Y L) {Q : Ex → St → Prop} {c : Code} {s : St} (h : code X L G c Q s) : W P κ c Q s := by
  have := m.z
  rw [m.X, m.L] at h
  exact code_sound m.hG m.hF c Q s h

theorem fn_introW (hG : EnvOk P G) (hF : FieldsOk P G) (hm : P.follows .mixedOrders = true) {f : FuncId} {fn : Func} (hf : P.funcs[f]? = some fn) (hn : (fn.name == "runtime.NumGoroutine") = false) {args : List PV} {R : PV → Prop} {c : Code} (hc : fn.body = some c)
    (h : ∀ κ X Y L Q, Mach P G κ X Y L → (∀ r, R r → Q r) → W P κ c (EndsIn (post G fn.results.toList Q)) (start fn.ntmps args [])) : OkA P f args R :=
  OkA_introW hG hF hf hn hc fun κ hz => h κ _ _ _ R ⟨hG, hF, hm, hz, rfl, rfl, rfl⟩ fun _ x => x
end

/- The law FnFurniture: its body returns true. -/
theorem fillC_bnd {w h : Int} {ps : List Piece} {f : List Plc} {b : Bool} (e : (f, b) = fillC w h ps) : ∀ p ∈ f, p.2.1 ≤ 1000000 ∧ p.2.2.1 ≤ 1000000 := fun p hp => by
  unfold fillC at e
  split at e
  · rename_i hc
    obtain ⟨bw, bh, hok⟩ := okCh_spec hc
    obtain ⟨W, rfl⟩ : ∃ W : Nat, w = W := ⟨w.toNat, by omega⟩
    obtain ⟨H, rfl⟩ : ∃ H : Nat, h = H := ⟨h.toNat, by omega⟩
    by_cases ha : areaF ps = (W : Int) * H
    · rw [fill_first (pl := List.replicate ps.length (0, 0, 0, false)) (by simp) ha] at e
      split at e
      · rw [(Prod.mk.inj e).1] at hp
        have hs := fillI_small (W := W) (H := H) ⟨by omega, by omega⟩ ⟨by omega, by omega⟩ (okPs_spec hok).2 9 noG (List.replicate ps.length false) (List.replicate ps.length (0, 0, 0, false)) (fun p hp => by rw [List.eq_of_mem_replicate hp]; exact ⟨by decide, by decide, by decide⟩) p hp
        obtain ⟨-, h1, h2⟩ := hs
        omega
      · rw [(Prod.mk.inj e).1] at hp; cases hp
    · rw [firstA_area ha] at e; rw [(Prod.mk.inj e).1] at hp; cases hp
  · rw [(Prod.mk.inj e).1] at hp; cases hp
theorem area_ok3 {ps : List Piece} {n : Int} {b : Bool} (e : (n, b) = areaA ps) : okPs ps = b := by
  unfold areaA at e
  split at e
  · rename_i h; rw [h, (Prod.mk.inj e).2]
  · rename_i h; rw [(Prod.mk.inj e).2]; simpa using h
theorem furn_yes {w h y a : Int} {ps : List Piece} {f : List Plc} {one three : Bool} (hf : (f, true) = fillC w h ps) (hy : (y, one) = whyA w h ps) (ha : (a, three) = areaA ps) :
    (one = true ∧ y = 0 ∧ three = true ∧ okPs ps = true) ∧ (a = w * h ∧ f.length = ps.length) ∧ (fillA w h ps f = (true, true) ∧ frA w h ps f = (0, true)) ∧ (1 ≤ w ∧ w ≤ 8) ∧ (1 ≤ h ∧ h ≤ 8) := by
  unfold fillC at hf
  split at hf
  · rename_i hc
    obtain ⟨bw, bh, hok⟩ := okCh_spec hc
    obtain ⟨e1, e2, G, e3, e4⟩ := first_law hc hf
    obtain ⟨-, K2, K3, -⟩ := chase_law G e3
    rw [whyA, if_pos hc, if_pos (by rw [← hf])] at hy
    unfold areaA at ha
    rw [if_pos hok] at ha
    rw [e4] at K2 K3
    refine ⟨⟨(Prod.mk.inj hy).2, (Prod.mk.inj hy).1, (Prod.mk.inj ha).2, hok⟩, ⟨by rw [(Prod.mk.inj ha).1, e1], e2⟩, ⟨?_, K2⟩, bw, bh⟩
    rw [K3, decide_eq_true e2]; rfl
  · cases (Prod.mk.inj hf).2
theorem furn_no {w h y a : Int} {ps : List Piece} {f : List Plc} {three : Bool} (hf : (f, false) = fillC w h ps) (hy : (y, true) = whyA w h ps) (ha : (a, three) = areaA ps) :
    (three = true ∧ okPs ps = true) ∧ (¬ y = 0 ∧ (y = 1 → ¬ a = w * h) ∧ (¬ y = 1 → a = w * h)) ∧ (1 ≤ w ∧ w ≤ 8) ∧ (1 ≤ h ∧ h ≤ 8) := by
  unfold whyA at hy
  split at hy
  · rename_i hc
    obtain ⟨bw, bh, hok⟩ := okCh_spec hc
    rw [fillC, if_pos hc] at hf
    rw [if_neg (by rw [← hf]; exact Bool.false_ne_true)] at hy
    unfold areaA at ha
    rw [if_pos hok] at ha
    have ea := (Prod.mk.inj ha).1
    refine ⟨⟨(Prod.mk.inj ha).2, hok⟩, ?_, bw, bh⟩
    split at hy
    · rename_i hn
      have ey := (Prod.mk.inj hy).1
      exact ⟨by omega, fun _ => by rw [ea]; exact hn, fun h => absurd ey h⟩
    · rename_i hn
      have hn : areaF ps = w * h := by
        by_cases hq : areaF ps = w * h
        · exact hq
        · exact absurd hq hn
      split at hy
      · have ey := (Prod.mk.inj hy).1
        exact ⟨by omega, fun h => by omega, fun _ => by rw [ea]; exact hn⟩
      · have ey := (Prod.mk.inj hy).1
        exact ⟨by omega, fun h => by omega, fun _ => by rw [ea]; exact hn⟩
  · cases (Prod.mk.inj hy).2
theorem sides_law {u : List Piece} {most : Int} {l : List Int} (e : (l, true) = sidesA u most) : Ris l ∧ (∀ n ∈ l, 0 ≤ n ∧ n ≤ most) ∧ (0 : Int) ∈ l := by
  unfold sidesA at e
  split at e
  · rename_i hc
    have mb := inB_spec hc.2
    rw [(Prod.mk.inj e).1]
    refine ⟨(ris_range _).filter _, fun n hn => ?_, ?_⟩
    · obtain ⟨k, hk, rfl⟩ := List.mem_map.1 (List.mem_filter.1 hn).1
      have := List.mem_range.1 hk
      omega
    · rw [List.mem_filter]
      refine ⟨List.mem_map.2 ⟨0, List.mem_range.2 (by omega), rfl⟩, ?_⟩
      have := reach_null (ps := u) u.length (Nat.le_refl _)
      unfold reachS at this; rw [List.take_length] at this; exact this
  · cases (Prod.mk.inj e).2
theorem sides_none {u : List Piece} {most : Int} {l : List Int} (e : (l, false) = sidesA u most) : l = [] := by
  unfold sidesA at e
  split at e
  · cases (Prod.mk.inj e).2
  · exact (Prod.mk.inj e).1
theorem ris_at {l : List Int} (h : Ris l) {i j : Nat} {x y : Int} (hx : l[i]? = some x) (hy : l[j]? = some y) (hij : i < j) : x < y := by
  obtain ⟨hi, rfl⟩ := List.getElem?_eq_some_iff.1 hx
  obtain ⟨hj, rfl⟩ := List.getElem?_eq_some_iff.1 hy
  exact List.pairwise_iff_getElem.1 h i j hi hj hij
theorem qHas_ok (l : List Int) (n : Int)  : OkA Try.prog 31 [.isl 1 (rows cInt l), .int .i64 n] (· = .bool (decide (n ∈ l))) :=
  fn_intro envOk fieldsOk mixed Try.func31 rfl fun κ X Y L Q m hQ => by
    conv => cbv
    refine r_lenR m.sX fun n1 hn1 mn1 => ?_
    conv => cbv
    refine r_loopF (α := Int) m 17 [1, 7, 8, 9] [] (fun σ => [(1, .int .i64 n), (7, .isl 1 (rows cInt l)), (8, .int .i64 n1), (9, .int .i64 σ)]) (fun σ => [])
      (fun σ => (0 ≤ σ) ∧ (σ ≤ n1) ∧ (decide (n ∈ l) = decide (n ∈ l.drop σ.toNat))) (fun σ => (n1 - σ).toNat) 0 ?_ ?_ ?_ ?_
    · cbv
    · cbv
    · exact ⟨(by (try dsimp only); first | omega | (simp only [List.length_nil]; omega) | (simp only [List.length_cons, List.length_nil]; omega)), (by (try dsimp only); first | omega | (simp only [List.length_nil]; omega) | (simp only [List.length_cons, List.length_nil]; omega)), (by (try dsimp only) <;> first | omega | rfl | (simp [*]; done))⟩
    rintro i1 ⟨lo1, hi1, q⟩ E hE F hF
    conv => cbv
    refine r_lss m.sX (fun h1 => ?_) (fun h1 => ?_) <;> conv => cbv
    · refine r_index m.sX (by omega) (by omega) fun x hx => ?_
      conv => cbv
      have mx := get_mem hx
      have dx := drop_cons hx
      have kx := take_snoc hx
      have jx : (i1 + 1).toNat = Int.toNat i1 + 1 := by omega
      have vx := nth_some hx
      refine r_eql m.sX (fun h2 => ?_) (fun h2 => ?_) <;> conv => cbv
      · refine hF _ _ ?_
        conv => cbv
        exact hQ _ (congrArg PV.bool (by rw [q]; simp [*]))   -- leaf 1
      · refine r_addf m.sX (by omega) (by omega) fun r1 hr1 => ?_
        conv => cbv
        try have tr1 : Int.toNat r1 = Int.toNat i1 + 1 := by omega
        refine hE _ r1 ?_ ?_ ⟨(by (try dsimp only); first | omega | (simp only [List.length_nil]; omega) | (simp only [List.length_cons, List.length_nil]; omega)), (by (try dsimp only); first | omega | (simp only [List.length_nil]; omega) | (simp only [List.length_cons, List.length_nil]; omega)), (by (try dsimp only) <;> (rw [q, dx, tr1]; simp [Ne.symm h2]))⟩ (by first | omega | (dsimp only; omega))
        · cbv
        · cbv
    · have dz_i1 := drop_end (xs := l) (i := Int.toNat i1) (by omega)
      have tz_i1 := take_end (xs := l) (i := Int.toNat i1) (by omega)
      refine hF _ _ ?_
      conv => cbv
      exact hQ _ (congrArg PV.bool (by rw [q]; simp [*]))   -- leaf 2

noncomputable abbrev midFurniture (more : List Int) : List (Nat × PV) := [(1, .isl 1 (rows cU8 more))]

section
variable {κ : Ctx} {X Y : Req → (PV → Prop) → Prop} {L : Code → (Ex → St → Prop) → St → Prop} {Q : PV → Prop}

theorem furniture_part1 (m : Mach Try.prog G κ X Y L) (hQ : ∀ r, r = PV.bool true → Q r) (code more : List Int) (hf : ∀ x ∈ code, 0 ≤ x ∧ x ≤ 255) (E0 : St → Prop)
    (hE0 : ∀ (s' : St) (a : Unit), headOk s' [] = true → Ai.norm [1] [] s' = St.at 249 (midFurniture more) [] → (more.length : Int) ≤ 9223372036854775807 → E0 s') :
    Ai.code X L G (front 12 (Try.f4.body.getD .skip)) (fun e s' => match e with | .normal => E0 s' | .exit i => EndsIn (post G Try.f4.results.toList Q) (.exit i) s' | .ret => EndsIn (post G Try.f4.results.toList Q) .ret s') (start 249 [.isl 1 (rows cU8 code), .isl 1 (rows cU8 more)] []) := by
  conv => cbv
  refine r_lenR m.sX fun n1 hn1 mn1 => ?_
  conv => cbv
  refine r_lenR m.sX fun n2 hn2 mn2 => ?_
  conv => cbv
  refine r_add m.sX fun r1 hr1 => ?_
  conv => cbv
  refine r_gtr m.sX (fun h1 => ?_) (fun h1 => ?_) <;> conv => cbv
  · exact hQ _ (congrArg PV.bool (by first | rfl | omega | (simp [*]; done) | (subst_vars; simp [*]; done)))   -- leaf 1
  · have h : CurIn code := ⟨by omega, hf⟩
    have hmr : (more.length : Int) ≤ 9223372036854775807 := by omega
    refine r_callE m.sX ((drawFillChase_ok code h).iceE) ?_
    rintro _ ⟨_, ⟨w, h_, pieces, rfl, bw_1⟩, rfl⟩
    conv => cbv
    refine r_callF (lbI 4 cPlaced) m.sX (FillChase_ok w h_ pieces) fun v hf => ?_
    obtain ⟨f, ok⟩ := v
    conv => cbv
    refine r_callF (lbI 4 cPlaced) m.sX ((specFillChase_ok w h_ pieces).ice) fun y1 hy1 => ?_
    obtain rfl := hf.trans hy1.symm
    clear hy1
    conv => cbv
    refine r_callF ib m.sX (WhyNotFilled_ok w h_ pieces) fun v hy => ?_
    obtain ⟨y, one⟩ := v
    conv => cbv
    refine r_callF ib m.sX (specWhyNotFilled_ok w h_ pieces) fun y2 hy2 => ?_
    obtain rfl := hy.trans hy2.symm
    clear hy2
    conv => cbv
    refine r_callF ib m.sX (PieceArea_ok pieces) fun v ha => ?_
    obtain ⟨a, three⟩ := v
    conv => cbv
    refine r_callF ib m.sX (specPieceArea_ok pieces) fun y3 hy3 => ?_
    obtain rfl := ha.trans hy3.symm
    clear hy3
    conv => cbv
    rcases Bool.eq_false_or_eq_true ok with rfl | rfl <;> conv => cbv
    · obtain ⟨⟨f1, f2, f3, f4⟩, ⟨f5, f6⟩, ⟨f7, f8⟩, cw, ch⟩ := furn_yes hf hy ha
      have mb := mul_bound (a := w) (A := 8) (b := h_) (B := 8) (by omega) (by omega) (by omega) (by omega)
      have bf := fillC_bnd hf
      refine r_callBT m.sX (qPlaced_ok f f) (by first | assumption | exact decide_eq_true rfl | (simp [*]; done) | omega) ?_   -- h2
      conv => cbv
      obtain rfl : one = true := by first | assumption | (simp [*]; done) | omega
      conv => cbv
      first | obtain ⟨⟨f3, f4⟩, ⟨f0, f1, f2⟩, cw, ch⟩ := furn_no hf hy ha | skip
      have mb := mul_bound (a := w) (A := 8) (b := h_) (B := 8) (by omega) (by omega) (by omega) (by omega)
      refine r_neqF m.sX (by first | omega | rfl) ?_
      conv => cbv
      obtain rfl : three = true := by first | assumption | (simp [*]; done) | omega
      conv => cbv
      refine r_neqF m.sX (by first | omega | rfl) ?_
      conv => cbv
      refine r_eqlT m.sX (by first | omega | rfl) ?_
      conv => cbv
      refine r_callBT m.sX (ArePieces_ok pieces) (by first | assumption | exact decide_eq_true rfl | (simp [*]; done) | omega) ?_   -- h6
      conv => cbv
      refine r_eql m.sX (fun h7 => ?_) (fun h7 => ?_) <;> conv => cbv
      · exfalso; omega
      · refine r_mulf m.sX (by first | omega | (subst_vars; omega)) (by first | omega | (subst_vars; omega)) fun r2 hr2 => ?_
        conv => cbv
        refine r_neqF m.sX (by first | omega | rfl) ?_
        conv => cbv
        refine r_callF bb m.sX (IsFilled_ok w h_ pieces f (by first | rfl | assumption | omega | (simp only [List.length_append, List.length_cons, List.length_nil] at *; omega))) fun v hfilled => ?_
        obtain ⟨filled, five⟩ := v
        conv => cbv
        refine r_callF ib m.sX (FreePlaces_ok w h_ pieces f (by first | rfl | assumption | omega | (simp only [List.length_append, List.length_cons, List.length_nil] at *; omega))) fun v hfree => ?_
        obtain ⟨free, six⟩ := v
        conv => cbv
        have f9 := (Prod.mk.inj (hfree.trans f8)).1
        obtain rfl : five = true := by exact (Prod.mk.inj (hfilled.trans f7)).2
        conv => cbv
        obtain rfl : filled = true := by exact (Prod.mk.inj (hfilled.trans f7)).1
        conv => cbv
        obtain rfl : six = true := by exact (Prod.mk.inj (hfree.trans f8)).2
        conv => cbv
        refine r_neqF m.sX (by first | omega | rfl) ?_
        conv => cbv
        refine r_lenR m.sX fun n3 hn3 mn3 => ?_
        conv => cbv
        refine r_lenR m.sX fun n4 hn4 mn4 => ?_
        conv => cbv
        refine r_neqF m.sX (by first | omega | rfl) ?_
        conv => cbv
        refine r_mulf m.sX (by first | omega | (subst_vars; omega)) (by first | omega | (subst_vars; omega)) fun r3 hr3 => ?_
        conv => cbv
        refine r_neqF m.sX (by first | omega | rfl) ?_
        conv => cbv
        exact hE0 _ () (by cbv) (by cbv) hmr
    · refine r_callBT m.sX (qPlaced_ok f f) (by first | assumption | exact decide_eq_true rfl | (simp [*]; done) | omega) ?_   -- h12
      conv => cbv
      rcases Bool.eq_false_or_eq_true one with rfl | rfl <;> conv => cbv
      · first | obtain ⟨⟨f3, f4⟩, ⟨f0, f1, f2⟩, cw, ch⟩ := furn_no hf hy ha | skip
        have mb := mul_bound (a := w) (A := 8) (b := h_) (B := 8) (by omega) (by omega) (by omega) (by omega)
        refine r_neqF m.sX (by first | omega | rfl) ?_
        conv => cbv
        obtain rfl : three = true := by first | assumption | (simp [*]; done) | omega
        conv => cbv
        refine r_neqF m.sX (by first | omega | rfl) ?_
        conv => cbv
        refine r_eqlF m.sX (by first | omega | rfl) ?_
        conv => cbv
        refine r_callBT m.sX (ArePieces_ok pieces) (by first | assumption | exact decide_eq_true rfl | (simp [*]; done) | omega) ?_   -- h16
        conv => cbv
        refine r_eql m.sX (fun h17 => ?_) (fun h17 => ?_) <;> conv => cbv
        · refine r_mulf m.sX (by first | omega | (subst_vars; omega)) (by first | omega | (subst_vars; omega)) fun r4 hr4 => ?_
          conv => cbv
          refine r_neqT m.sX (by first | omega | rfl) ?_
          conv => cbv
          exact hE0 _ () (by cbv) (by cbv) hmr
        · refine r_mulf m.sX (by first | omega | (subst_vars; omega)) (by first | omega | (subst_vars; omega)) fun r5 hr5 => ?_
          conv => cbv
          refine r_neqF m.sX (by first | omega | rfl) ?_
          conv => cbv
          exact hE0 _ () (by cbv) (by cbv) hmr
      · have f4 := area_ok3 ha
        refine r_neqF m.sX (by first | omega | rfl) ?_
        conv => cbv
        rcases Bool.eq_false_or_eq_true three with rfl | rfl <;> conv => cbv
        · refine r_neqF m.sX (by first | omega | rfl) ?_
          conv => cbv
          refine r_callBT m.sX (ArePieces_ok pieces) (by first | assumption | exact decide_eq_true rfl | (simp [*]; done) | omega) ?_   -- h22
          conv => cbv
          exact hE0 _ () (by cbv) (by cbv) hmr
        · refine r_neqF m.sX (by first | omega | rfl) ?_
          conv => cbv
          refine r_callBF m.sX (ArePieces_ok pieces) (by first | assumption | exact decide_eq_true rfl | (simp [*]; done) | omega) ?_   -- h24
          conv => cbv
          exact hE0 _ () (by cbv) (by cbv) hmr

theorem furniture_part2 (m : Mach Try.prog G κ X Y L) (hQ : ∀ r, r = PV.bool true → Q r) (more : List Int) (h : CurIn more) :
    Ai.code X L G (rest 12 (Try.f4.body.getD .skip)) (EndsIn (post G Try.f4.results.toList Q)) (St.at 249 (midFurniture more) []) := by
  conv => cbv
  refine r_callE m.sX ((drawSidesOf_ok more h).iceE) ?_
  rintro _ ⟨_, ⟨u, most, rfl, bu_1⟩, rfl⟩
  conv => cbv
  refine r_callF (lbI 1 cInt) m.sX (SidesOf_ok u most) fun v hs_ => ?_
  obtain ⟨s_, five⟩ := v
  conv => cbv
  refine r_callF (lbI 1 cInt) m.sX ((specSidesOf_ok u most).ice) fun y1 hy1 => ?_
  obtain rfl := hs_.trans hy1.symm
  clear hy1
  conv => cbv
  rcases Bool.eq_false_or_eq_true five with rfl | rfl <;> conv => cbv
  · obtain ⟨q1, q2, q3⟩ := sides_law hs_
    refine r_callBT m.sX (qInts_ok s_ s_) (by first | assumption | exact decide_eq_true rfl | (simp [*]; done) | omega) ?_   -- h1
    conv => cbv
    refine r_lenR m.sX fun n1 hn1 mn1 => ?_
    conv => cbv
    refine r_loopF (α := Int) m 249 [25, 27, 28, 215, 216, 217] [] (fun σ => [(25, .int .i64 most), (27, .bool true), (28, .isl 1 (rows cInt s_)), (215, .isl 1 (rows cInt s_)), (216, .int .i64 n1), (217, .int .i64 σ)]) (fun σ => [])
      (fun σ => (0 ≤ σ) ∧ (σ ≤ n1)) (fun σ => (n1 - σ).toNat) 0 ?_ ?_ ?_ ?_
    · cbv
    · cbv
    · exact ⟨(by (try dsimp only); first | omega | (simp only [List.length_nil]; omega) | (simp only [List.length_cons, List.length_nil]; omega)), (by (try dsimp only); first | omega | (simp only [List.length_nil]; omega) | (simp only [List.length_cons, List.length_nil]; omega))⟩
    rintro i1 ⟨lo1, hi1⟩ E hE F hF
    conv => cbv
    refine r_lss m.sX (fun h2 => ?_) (fun h2 => ?_) <;> conv => cbv
    · refine r_index m.sX (by omega) (by omega) fun n hn => ?_
      conv => cbv
      have mn := get_mem hn
      have dn := drop_cons hn
      have kn := take_snoc hn
      have jn : (i1 + 1).toNat = Int.toNat i1 + 1 := by omega
      have vn := nth_some hn
      have nb := q2 n (List.mem_of_getElem? hn)
      refine r_lssF m.sX (by first | omega | rfl) ?_
      conv => cbv
      refine r_gtrF m.sX (by first | omega | rfl) ?_
      conv => cbv
      refine r_gtr m.sX (fun h5 => ?_) (fun h5 => ?_) <;> conv => cbv
      · refine r_subf m.sX (by omega) (by omega) fun r1 hr1 => ?_
        conv => cbv
        refine r_index m.sX (by omega) (by omega) fun x1 hx1 => ?_
        conv => cbv
        have mx1 := get_mem hx1
        have vx1 := nth_some hx1
        have xb := ris_at q1 hx1 hn (by omega)
        refine r_geqF m.sX (by first | omega | rfl) ?_
        conv => cbv
        refine r_addf m.sX (by omega) (by omega) fun r2 hr2 => ?_
        conv => cbv
        try have tr2 : Int.toNat r2 = Int.toNat i1 + 1 := by omega
        refine hE _ r2 ?_ ?_ ⟨(by (try dsimp only); first | omega | (simp only [List.length_nil]; omega) | (simp only [List.length_cons, List.length_nil]; omega)), (by (try dsimp only); first | omega | (simp only [List.length_nil]; omega) | (simp only [List.length_cons, List.length_nil]; omega))⟩ (by first | omega | (dsimp only; omega))
        · cbv
        · cbv
      · refine r_addf m.sX (by omega) (by omega) fun r3 hr3 => ?_
        conv => cbv
        try have tr3 : Int.toNat r3 = Int.toNat i1 + 1 := by omega
        refine hE _ r3 ?_ ?_ ⟨(by (try dsimp only); first | omega | (simp only [List.length_nil]; omega) | (simp only [List.length_cons, List.length_nil]; omega)), (by (try dsimp only); first | omega | (simp only [List.length_nil]; omega) | (simp only [List.length_cons, List.length_nil]; omega))⟩ (by first | omega | (dsimp only; omega))
        · cbv
        · cbv
    · have dz_i1 := drop_end (xs := s_) (i := Int.toNat i1) (by omega)
      have tz_i1 := take_end (xs := s_) (i := Int.toNat i1) (by omega)
      refine hF _ _ ?_
      conv => cbv
      refine r_callBT m.sX (qHas_ok s_ 0) (by first | assumption | exact decide_eq_true rfl | (simp [*]; done) | omega) ?_   -- h7
      conv => cbv
      exact hQ _ (congrArg PV.bool (by first | rfl | omega | (simp [*]; done) | (subst_vars; simp [*]; done)))   -- leaf 2
  · have q0 := sides_none hs_
    refine r_callBT m.sX (qInts_ok s_ s_) (by first | assumption | exact decide_eq_true rfl | (simp [*]; done) | omega) ?_   -- h8
    conv => cbv
    refine r_lenR m.sX fun n2 hn2 mn2 => ?_
    conv => cbv
    refine r_loopF (α := Int) m 249 [25, 27, 28, 215, 216, 217] [] (fun σ => [(25, .int .i64 most), (27, .bool false), (28, .isl 1 (rows cInt s_)), (215, .isl 1 (rows cInt s_)), (216, .int .i64 n2), (217, .int .i64 σ)]) (fun σ => [])
      (fun σ => (0 ≤ σ) ∧ (σ ≤ n2)) (fun σ => (n2 - σ).toNat) 0 ?_ ?_ ?_ ?_
    · cbv
    · cbv
    · exact ⟨(by (try dsimp only); first | omega | (simp only [List.length_nil]; omega) | (simp only [List.length_cons, List.length_nil]; omega)), (by (try dsimp only); first | omega | (simp only [List.length_nil]; omega) | (simp only [List.length_cons, List.length_nil]; omega))⟩
    rintro i2 ⟨lo2, hi2⟩ E hE F hF
    conv => cbv
    refine r_lss m.sX (fun h9 => ?_) (fun h9 => ?_) <;> conv => cbv
    · exfalso; have e0 : s_.length = 0 := (congrArg List.length q0).trans rfl; omega
    · have dz_i2 := drop_end (xs := s_) (i := Int.toNat i2) (by omega)
      have tz_i2 := take_end (xs := s_) (i := Int.toNat i2) (by omega)
      refine hF _ _ ?_
      conv => cbv
      exact hQ _ (congrArg PV.bool (by first | rfl | omega | (simp [*]; done) | (subst_vars; simp [*]; done)))   -- leaf 3

end

theorem lawFurniture_ok (code more : List Int) (hf : ∀ x ∈ code, 0 ≤ x ∧ x ≤ 255) (hg : ∀ x ∈ more, 0 ≤ x ∧ x ≤ 255) : OkA Try.prog 4 [.isl 1 (rows cU8 code), .isl 1 (rows cU8 more)] (· = .bool true) :=
  fn_introW envOk fieldsOk mixed Try.func4 rfl (c := Try.f4.body.getD .skip) rfl fun κ X Y L Q m hQ =>
    W_cut m 12 249 [1] [] (fun _ : Unit => midFurniture more) (fun _ => []) (fun _ => (more.length : Int) ≤ 9223372036854775807) (furniture_part1 m hQ code more hf) fun _ hl =>
    W_last m (furniture_part2 m hQ more ⟨hl, hg⟩)


end Go.Proofs.Ytiaodmfipeoegaa.Ai
