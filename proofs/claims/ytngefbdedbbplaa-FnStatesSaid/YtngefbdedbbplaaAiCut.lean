/- Long bodies, part by part. -/
import Derived.Test.YtngefbdedbbplaaAiRules
set_option linter.unusedSectionVars false
namespace Go.Proofs.Ytngefbdedbbplaa.Ai
open Go Go.RowKit
set_option linter.unusedVariables false
set_option linter.unusedSimpArgs false

/-- The first k statements of a body, and those behind. -/
def front : Nat → Code → Code
  | k + 1, .seq a b => .seq a (front k b)
  | _, _ => .skip
def rest : Nat → Code → Code
  | k + 1, .seq a b => rest k b
  | _, c => c

section
variable {P : Program} {G : Env} {κ : Ctx} {X Y : Req → (PV → Prop) → Prop} {L : Code → (Ex → St → Prop) → St → Prop}

/-- What stands at a cut, as at a loop's head. -/
def Cut {α : Type} (nt : Nat) (keep : List Nat) (own : List Hold) (tb : α → List (Nat × PV)) (hp : α → Heap) (I : α → Prop) (s' : St) : Prop :=
  headOk s' own = true ∧ ∃ a, Ai.norm keep own s' = St.at nt (tb a) (hp a) ∧ I a

theorem W_front (m : Mach P G κ X Y L) {E : St → Prop} {Q : Ex → St → Prop} : ∀ (k : Nat) (c : Code) (s : St),
    (∀ (η : Own) (s : St) (a : Act) (w : World), Sim κ η s a w → E s → (rest k c).wp P (Post κ Q) a w) →
    code X L G (front k c) (fun e s' => match e with | .normal => E s' | .exit i => Q (.exit i) s' | .ret => Q .ret s') s → W P κ c Q s := by
  have := m.z
  have hX := m.X
  have hL := m.L
  subst hX hL
  intro k
  induction k with
  | zero =>
    intro c s hE hc η a w hs
    cases c <;> exact hE η s a w hs hc
  | succ k ih =>
    intro c s hE hc η a w hs
    cases c
    case seq x y =>
      have hx : code (std false P) (W P κ) G x (fun e s' => match e with
        | .normal => code (std false P) (W P κ) G (front k y) (fun e s' => match e with | .normal => E s' | .exit i => Q (.exit i) s' | .ret => Q .ret s') s'
        | .exit j => Q (.exit j) s'
        | .ret => Q .ret s') s := hc
      refine wp_seq (Go.wp_mono (code_sound m.hG m.hF x _ _ hx η a w hs) fun e a' w' hq => ?_)
      cases e with
      | normal =>
        obtain ⟨η', s', hs', hq⟩ := hq
        exact ih y s' hE hq η' a' w' hs'
      | exit i => exact hq
      | ret => exact hq
      | goto l => exact hq.elim
      | panic ch => exact hq.elim
      | outgrown => exact hq.elim
    all_goals exact hE η s a w hs hc

/-- **A cut**: the first k statements, then those behind, from what is kept. -/
theorem W_cut {α : Type} (m : Mach P G κ X Y L) {Q : Ex → St → Prop} {c : Code} {s : St} (k nt : Nat) (keep : List Nat) (own : List Hold) (tb : α → List (Nat × PV)) (hp : α → Heap) (I : α → Prop)
    (first : ∀ E : St → Prop, (∀ s' a, headOk s' own = true → Ai.norm keep own s' = St.at nt (tb a) (hp a) → I a → E s') →
      code X L G (front k c) (fun e s' => match e with | .normal => E s' | .exit i => Q (.exit i) s' | .ret => Q .ret s') s)
    (second : ∀ a, I a → W P κ (rest k c) Q (St.at nt (tb a) (hp a))) : W P κ c Q s := by
  have := m.z
  refine W_front m (E := Cut nt keep own tb hp I) k c s ?_ (first _ fun s' a h1 h2 h3 => ⟨h1, a, h2, h3⟩)
  rintro η s a w hs ⟨hk, a0, e1, h3⟩
  simp only [headOk, Bool.and_eq_true] at hk
  have hs' := hs.norm keep hk.1 (recvOk_spec hk.2)
  rw [e1] at hs'
  exact second a0 h3 _ a w hs'

/-- The last part. -/
theorem W_last (m : Mach P G κ X Y L) {Q : Ex → St → Prop} {c : Code} {s : St} (h : code X L G c Q s) : W P κ c Q s := by
  have := m.z
  rw [m.X, m.L] at h
  exact code_sound m.hG m.hF c Q s h

theorem fn_introW (hG : EnvOk P G) (hF : FieldsOk P G) (hm : P.follows .mixedOrders = true) {f : FuncId} {fn : Func} (hf : P.funcs[f]? = some fn) (hn : (fn.name == "runtime.NumGoroutine") = false) {args : List PV} {R : PV → Prop} {c : Code} (hc : fn.body = some c)
    (h : ∀ κ X Y L Q, Mach P G κ X Y L → (∀ r, R r → Q r) → W P κ c (EndsIn (post G fn.results.toList Q)) (start fn.ntmps args [])) : OkA P f args R :=
  OkA_introW hG hF hf hn hc fun κ hz => h κ _ _ _ R ⟨hG, hF, hm, hz, rfl, rfl, rfl⟩ fun _ x => x
end
end Go.Proofs.Ytngefbdedbbplaa.Ai
