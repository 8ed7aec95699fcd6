/- Contracts of functions out of the abstract machine; loops; what is kept at a loop's head. -/
import Derived.Test.YtngefbdedbbplaaAiCode
set_option linter.unusedSectionVars false
namespace Go.Proofs.Ytngefbdedbbplaa.Ai
open Go Go.RowKit
set_option linter.unusedVariables false
set_option linter.unusedSimpArgs false

section
variable {P : Program} {G : Env}

theorem Kept.below {κ : Ctx} {w : World} (h : Kept κ w) {T : Nat} (h0 : κ.w0.heap.size ≤ κ.B) (h1 : T ≤ κ.B) (h2 : ∀ g, κ.M g → T ≤ g) : Below T κ.w0 w :=
  ⟨h.os, h.tape, h.output, Nat.le_trans h0 h.size, fun k hk => h.block k (Nat.lt_of_lt_of_le hk h1) fun hm => absurd (h2 k hm) (Nat.not_le.2 hk)⟩

/-- What ends a function's body. -/
def EndsIn (Q : St → Prop) : Ex → St → Prop
  | .exit _, _ => False
  | _, s => Q s

def fnW (G : Env) (P : Program) (κ : Ctx) (fn : Func) (args : List PV) (h : Heap) (Q : St → Prop) : Prop :=
  match fn.body with
  | some c => code (std false P) (W P κ) G c (EndsIn Q) (start fn.ntmps args h)
  | none => False

theorem start_rep {w : World} {κ : Ctx} {η : Own} {args : List PV} {vs : List Value} (h : All2 (Rep w (imm κ η w) η) args vs) (n : Nat) (H : Heap) :
    All2 (Rep w (imm κ η w) η) (start n args H).T (vs.toArray ++ Array.replicate (n - vs.toArray.size) Go.undef).toList := by
  have hl := h.length
  simp only [start, Array.toList_append, Array.toList_replicate, List.size_toArray]
  rw [hl]
  exact h.app (All2.rep (.of1 .skip) _)

/-- The contract of a function: its body, run by the abstract machine. -/
theorem OkA_introWO (ow : Bool) (hG : EnvOk P G) (hF : FieldsOk P G) {f : FuncId} {fn : Func} (hf : P.funcs[f]? = some fn) (hn : (fn.name == "runtime.NumGoroutine") = false) {args : List PV} {Q : PV → Prop}
    {c : Code} (hc : fn.body = some c) (h : ∀ κ : Ctx, NoZ κ → W P κ c (EndsIn (postW ow G fn.results.toList Q)) (start fn.ntmps args [])) : OkA P f args Q := by
  refine ⟨⟨fn, hf, hn, by simp [hc]⟩, fun w I vs hI0 hargs => ?_⟩
  obtain ⟨hI, T, hT, hgood⟩ := hI0
  let κ : Ctx := { B := w.heap.size, M := fun _ => False, w0 := w, I := I }
  have hz : NoZ κ := ⟨fun _ h => h, fun _ _ => rfl, T, hT, (fun _ h => h.elim), fun w' hk => hgood.on (hk.below (Nat.le_refl _) hT fun _ h => h.elim)⟩
  let η : Own := ⟨fun _ => 0, fun _ => none⟩
  have himm : ∀ g, I g → imm κ η w g := fun g hg => ⟨hI g hg, ⟨.inl hg, fun h => h⟩, fun id x hx => by cases hx⟩
  have hrep : All2 (Rep w (imm κ η w) η) args vs := hargs.mono fun p v hp => by
    cases hp with
    | one hp => exact .of (hp.weak himm)
    | agg cs vs hp => exact .one (.agg cs vs (RepIs.rep1 (hp.weak himm)))
  have hw := h κ hz
  have hsim : Sim κ η (start fn.ntmps args []) { tmps := vs.toArray ++ Array.replicate (fn.ntmps - vs.toArray.size) Go.undef, defers := [] } w :=
    ⟨start_rep hrep _ _, rfl, fun id => ⟨rfl, rfl⟩, fun id id' x x' g hx => by (cases hx), fun id => SubRep.none fun _ => rfl, ⟨rfl, rfl, rfl, Nat.le_refl _, fun _ _ _ => rfl⟩⟩
  refine calls_of_wp hf hc (Go.wp_mono (hw η _ w hsim) fun e a' w' hq => ?_)
  have fin : ∀ η' s', Sim κ η' s' a' w' → postW ow G fn.results.toList Q s' → a'.defers = [] ∧ ∃ v, (results fn a'.tmps).run P w' = .ok v w' ∧
      ∃ v0 r gs, Ending.returned v = .returned v0 ∧ Q r ∧ Below w.heap.size w w' ∧ RepR (fun g => (true = true ∧ I g) ∨ w.heap.size ≤ g) w.heap.size w' r v0 gs := by
    intro η' s' hs hp
    unfold postW at hp
    split at hp
    case h_2 => exact hp.elim
    rename_i vs' s2 hall
    obtain ⟨v, gs, η2, hres, hle, hI2, hnd, hgs, hgB, hR, -⟩ := all_sound hG hs hall
    have hBM : ∀ g, κ.B ≤ g ∨ κ.M g → w.heap.size ≤ g := fun g h => h.elim id False.elim
    refine ⟨hs.defers, v, hres, v, oneRes vs', gs, rfl, hp, ⟨hs.kept.os, hs.kept.tape, hs.kept.output, hs.kept.size, fun k hk => hs.kept.block k hk (fun h => h)⟩, hnd, fun g hg => ⟨hBM g (hgB g hg), (hgs g hg).1⟩, ?_⟩
    have hIm : ∀ g, imm κ η2 w' g → (((true = true ∧ I g) ∨ w.heap.size ≤ g) ∧ g < w'.heap.size ∧ g ∉ gs ∧ (w.heap.size ≤ g → plain w' g)) := fun g hg => by
      refine ⟨?_, hg.1, fun hm => (hgs g hm).2 hg, fun hle => ?_⟩
      · rcases hg.2.1.1 with h1 | h1
        · exact .inl ⟨rfl, h1⟩
        · exact .inr (hBM g h1.1)
      · rcases hg.2.1.1 with h1 | h1
        · exact absurd (hI g h1) (Nat.not_lt.2 hle)
        · exact h1.2
    exact (hR.mono hIm).up fun g hg => hBM g (hgB g hg)
  cases e with
  | normal => obtain ⟨η', s', hs, hp⟩ := hq; exact fin η' s' hs hp
  | ret => obtain ⟨η', s', hs, hp⟩ := hq; exact fin η' s' hs hp
  | exit i => obtain ⟨η', s', hs, hp⟩ := hq; exact hp.elim
  | goto l => exact hq.elim
  | panic ch => exact hq.elim
  | outgrown => exact hq.elim

theorem OkA_introW (hG : EnvOk P G) (hF : FieldsOk P G) {f : FuncId} {fn : Func} (hf : P.funcs[f]? = some fn) (hn : (fn.name == "runtime.NumGoroutine") = false) {args : List PV} {Q : PV → Prop}
    {c : Code} (hc : fn.body = some c) (h : ∀ κ : Ctx, NoZ κ → W P κ c (EndsIn (post G fn.results.toList Q)) (start fn.ntmps args [])) : OkA P f args Q := OkA_introWO false hG hF hf hn hc h

theorem OkA_introO (ow : Bool) (hG : EnvOk P G) (hF : FieldsOk P G) {f : FuncId} {fn : Func} (hf : P.funcs[f]? = some fn) (hn : (fn.name == "runtime.NumGoroutine") = false) {args : List PV} {Q : PV → Prop}
    (h : ∀ κ : Ctx, NoZ κ → fnW G P κ fn args [] (postW ow G fn.results.toList Q)) (hb : fn.body.isSome = true) : OkA P f args Q := by
  obtain ⟨c, hc⟩ := Option.isSome_iff_exists.1 hb
  refine OkA_introWO ow hG hF hf hn hc fun κ hz => ?_
  have hw := h κ hz
  unfold fnW at hw
  rw [hc] at hw
  exact code_sound hG hF c _ _ hw

theorem OkA_intro (hG : EnvOk P G) (hF : FieldsOk P G) {f : FuncId} {fn : Func} (hf : P.funcs[f]? = some fn) (hn : (fn.name == "runtime.NumGoroutine") = false) {args : List PV} {Q : PV → Prop}
    (h : ∀ κ : Ctx, NoZ κ → fnW G P κ fn args [] (post G fn.results.toList Q)) (hb : fn.body.isSome = true) : OkA P f args Q := OkA_introO false hG hF hf hn h hb

/-- The contract of a method that writes its receiver. -/
theorem OkM_intro (hG : EnvOk P G) (hF : FieldsOk P G) {f : FuncId} {fn : Func} (hf : P.funcs[f]? = some fn) (hn : (fn.name == "runtime.NumGoroutine") = false) {cs args : List PV} {Q : PV → List PV → Prop}
    (h : ∀ κ : Ctx, NoZ κ → fnW G P κ fn (.optr 1 0 0 0 0 :: args) [(1, 0, .box cs)] (postM G fn.results.toList Q)) (hb : fn.body.isSome = true) : OkM P f cs args Q := by
  obtain ⟨c, hc⟩ := Option.isSome_iff_exists.1 hb
  refine ⟨⟨fn, hf, hn, by simp [hc]⟩, fun w g arr e I vs hI0 hg hcs hargs => ?_⟩
  obtain ⟨hI, T, hT, hTg, hgood⟩ := hI0
  let κ : Ctx := { B := w.heap.size, M := (· = g), w0 := w, I := I, lent := fun id => if id = 1 then some (.pointer (some ⟨g, 0, none⟩)) else none }
  have hz : NoZ κ := ⟨fun _ h => h, fun id h => if_neg (by omega), T, hT, (fun x (hx : x = g) => hx ▸ hTg), fun w' hk => hgood.on (hk.below (Nat.le_refl _) hT fun x (hx : x = g) => hx ▸ hTg)⟩
  let η : Own := ⟨fun _ => 0, fun id => if id = .o 1 then some (.pointer (some ⟨g, 0, none⟩)) else none⟩
  have hval : ∀ (id : Key) x, η.val id = some x → id = .o 1 ∧ x = .pointer (some ⟨g, 0, none⟩) := fun id x hx => by
    simp only [η] at hx
    split at hx
    · rename_i e; exact ⟨e, (Option.some.inj hx).symm⟩
    · cases hx
  have himm : ∀ x, I x → imm κ η w x := fun x hx => ⟨(hI x hx).1, ⟨.inl hx, fun h => h⟩, fun id v hv he => by
    obtain ⟨_, rfl⟩ := hval id v hv
    exact (hI x hx).2 (Option.some.inj he).symm⟩
  have hrep : All2 (Rep w (imm κ η w) η) (.optr 1 0 0 0 0 :: args) (.pointer (some ⟨g, 0, none⟩) :: vs) := .cons (.of1 (.optr 1 0 0 0 0 _ (Nat.le_refl _) fun _ x hx => by
      obtain ⟨_, rfl⟩ := hval (.o 1) x hx
      exact ⟨g, rfl, rfl⟩)) (hargs.mono fun p v hp => by
    cases hp with
    | one hp => exact .of (hp.weak himm)
    | agg cs vs hp => exact .one (.agg cs vs (RepIs.rep1 (hp.weak himm))))
  have hw := h κ hz
  unfold fnW at hw
  rw [hc] at hw
  simp only at hw
  have hsim : Sim κ η (start fn.ntmps (.optr 1 0 0 0 0 :: args) [(1, 0, .box cs)]) { tmps := (.pointer (some ⟨g, 0, none⟩) :: vs).toArray ++ Array.replicate (fn.ntmps - (.pointer (some ⟨g, 0, none⟩) :: vs).toArray.size) Go.undef, defers := [] } w := by
    refine ⟨start_rep hrep _ _, rfl, fun id => ?_, fun id id' x x' k hx hx' _ _ => by rw [(hval id x hx).1, (hval id' x' hx').1], fun id => SubRep.none fun p => by simp [η], ⟨rfl, rfl, rfl, Nat.le_refl _, fun _ _ _ => rfl⟩⟩
    simp only [start, Heap.get]
    by_cases e1 : 1 = id
    · subst e1
      rw [if_pos rfl]
      exact ⟨rfl, g, arr, e, by simp [η], hg, RepIs.rep1 (hcs.weak himm), fun k hk => .inr (by obtain rfl := Option.some.inj hk; rfl), fun u hu _ => by have hu : (if (1 : Nat) = 1 then some (Value.pointer (some ⟨g, 0, none⟩)) else none) = some u := hu; rw [if_pos rfl] at hu; exact Option.some.inj hu⟩
    · rw [if_neg e1]
      exact ⟨rfl, by simp [η, Ne.symm e1]⟩
  refine calls_of_wp hf hc (Go.wp_mono (code_sound hG hF c _ _ hw η _ w hsim) fun en a' w' hq => ?_)
  have fin : ∀ η' s', Sim κ η' s' a' w' → postM G fn.results.toList Q s' → a'.defers = [] ∧ ∃ v, (results fn a'.tmps).run P w' = .ok v w' ∧
      ∃ v0 r gs cs' arr' e', Ending.returned v = .returned v0 ∧ Q r cs' ∧ Kept { B := w.heap.size, M := (· = g), w0 := w } w' ∧ RepR (fun x => I x ∨ w.heap.size ≤ x) w.heap.size w' r v0 gs ∧
        w'.heap[g]? = some (.cells arr' e' (0, 0)) ∧ RepIs w' (fun x => (I x ∨ w.heap.size ≤ x) ∧ x < w'.heap.size ∧ x ∉ gs ∧ (w.heap.size ≤ x → plain w' x)) cs' arr'.toList := by
    intro η' s' hs hp
    unfold postM at hp
    split at hp
    case h_2 => exact hp.elim
    rename_i cs1 h1
    have hob := hs.heap 1
    rw [h1] at hob
    obtain ⟨hcur, g1, arr1, e1, hval1, hh1, hr1, hB1⟩ := hob
    -- the box is still the receiver's
    have hg1 : g1 = g := by
      have := hB1.same (.pointer (some ⟨g, 0, none⟩)) rfl rfl
      simpa using this
    subst hg1
    split at hp
    case h_2 => exact hp.elim
    rename_i cs2 s1 h2
    split at hp
    case h_2 => exact hp.elim
    rename_i vs' s2 hall
    obtain ⟨η1, hs1, hcs2, hle1, hI1⟩ := toPures_sound hs hr1 h2
    obtain ⟨v, gs, η2, hres, hle, hI2, hnd, hgs, hgB, hR, hbx⟩ := all_sound hG hs1 hall
    obtain ⟨⟨_, g3, _, _, hval3, _, _, hB3⟩, hgs3⟩ := hbx 1 0 cs1 (toPures_box h2 h1)
    have hg3 : g3 = g1 := by
      have := hB3.same (.pointer (some ⟨g1, 0, none⟩)) rfl rfl
      simpa using this
    subst hg3
    have hnM : ∀ x, imm κ η2 w' x → x ≠ g3 := fun x hx e => hx.2.2 (.o 1) _ hval3 (by rw [e]; rfl)
    have hgM : ∀ x ∈ gs, w.heap.size ≤ x := fun x hx => (hgB x hx).elim id fun e => absurd (by rw [show x = g3 from e]; rfl) (hgs3 x hx _ hval3)
    have hIm : ∀ x, imm κ η2 w' x → ((I x ∨ w.heap.size ≤ x) ∧ x < w'.heap.size ∧ x ∉ gs ∧ (w.heap.size ≤ x → plain w' x)) := fun x hx => ⟨hx.2.1.1.imp id fun h => h.1.elim id fun e => absurd e (hnM x hx), hx.1, fun hm => (hgs x hm).2 hx, fun hle => by
      rcases hx.2.1.1 with h1 | h1
      · exact absurd (hI x h1).1 (Nat.not_lt.2 hle)
      · exact h1.2⟩
    refine ⟨hs.defers, v, hres, v, oneRes vs', gs, cs2, arr1, e1, rfl, hp, ⟨hs.kept.os, hs.kept.tape, hs.kept.output, hs.kept.size, hs.kept.block⟩, ⟨hnd, fun x hx => ⟨hgM x hx, (hgs x hx).1⟩, ?_⟩, hh1, hcs2.weak fun x hx => hIm x (hI2 x hx)⟩
    exact (hR.mono hIm).up hgM
  cases en with
  | normal => obtain ⟨η', s', hs, hp⟩ := hq; exact fin η' s' hs hp
  | ret => obtain ⟨η', s', hs, hp⟩ := hq; exact fin η' s' hs hp
  | exit i => obtain ⟨η', s', hs, hp⟩ := hq; exact hp.elim
  | goto l => exact hq.elim
  | panic ch => exact hq.elim
  | outgrown => exact hq.elim
end
end Go.Proofs.Ytngefbdedbbplaa.Ai
