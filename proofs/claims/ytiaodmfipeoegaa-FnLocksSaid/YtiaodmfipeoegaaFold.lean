/- Code that is walked with some regions left folded: ahead of them the state may be changed. -/
import Derived.Test.YtiaodmfipeoegaaFreeze
set_option linter.unusedSectionVars false
set_option linter.unusedVariables false
set_option maxHeartbeats 1000000
namespace Go.Proofs.Ytiaodmfipeoegaa.Ai
open Go Go.RowKit
set_option linter.unusedSimpArgs false
section
variable (X : Req → (PV → Prop) → Prop) (L : Code → (Ex → St → Prop) → St → Prop) (G : Env)
def codeF (ids : List Nat) : Code → (Ex → St → Prop) → St → Prop
  | .skip, Q, s => Q .normal s
  | .region id os draw, Q, s => if draw || ids.contains id then L (.region id os draw) Q s else ops X G os.toList os.toList s (Q .normal)
  | .seq a b, Q, s => codeF ids a (fun e s' => match e with
      | .normal => codeF ids b Q s'
      | .exit j => Q (.exit j) s'
      | .ret => Q .ret s') s
  | .cond c a b, Q, s => match s.ev c with
    | .bool t => if t then codeF ids a Q s else codeF ids b Q s
    | _ => False
  | .block id b, Q, s => codeF ids b (fun e s' => match e with
      | .normal => Q .normal s'
      | .exit j => if j = id then Q .normal s' else Q (.exit j) s'
      | .ret => Q .ret s') s
  | .loop b, Q, s => L (.loop b) Q s
  | .exit id, Q, s => Q (.exit id) s
  | .ret, Q, s => Q .ret s
  | _, _, _ => False
end
section
variable {P : Program} {G : Env} {κ : Ctx}
theorem codeF_sound (ids : List Nat) [NoZ κ] (hG : EnvOk P G) (hF : FieldsOk P G) : ∀ (c : Code) (Q : Ex → St → Prop) (s : St), codeF (std false P) (W P κ) G ids c Q s → W P κ c Q s := by
  intro c
  induction c with
  | skip => exact fun Q s hc η a w h => wp_skip ⟨η, s, h, hc⟩
  | region id os draw =>
    intro Q s hc η a w h
    simp only [codeF] at hc
    split at hc
    · exact hc η a w h
    · rename_i hd
      have hd' : draw = false := by simp only [Bool.or_eq_true, not_or] at hd; simpa using hd.1
      subst hd'
      have := ops_sound (Q' := Post κ Q) hG hF os.toList (fun a w ⟨η, s, hs, hK⟩ => ⟨η, s, hs, hK⟩) os.toList η s a w h hc
      refine wp_region_list ?_
      simpa using this
  | seq x y ihx ihy =>
    intro Q s hc η a w h
    simp only [codeF] at hc
    refine wp_seq (Go.wp_mono (ihx _ s hc η a w h) fun e a' w' hq => ?_)
    cases e with
    | normal => obtain ⟨η', s', hs', hc'⟩ := hq; exact ihy Q s' hc' η' a' w' hs'
    | exit i => obtain ⟨η', s', hs', hc'⟩ := hq; exact ⟨η', s', hs', hc'⟩
    | ret => obtain ⟨η', s', hs', hc'⟩ := hq; exact ⟨η', s', hs', hc'⟩
    | goto l => exact hq.elim
    | panic ch => exact hq.elim
    | outgrown => exact hq.elim
  | cond c x y ihx ihy =>
    intro Q s hc η a w h
    simp only [codeF] at hc
    split at hc
    case h_2 => exact hc.elim
    rename_i t ht
    have hr := h.ev c
    rw [ht] at hr
    refine wp_cond (t := t) hr.bool ?_
    cases t
    · exact ihy Q s (by simpa using hc) η a w h
    · exact ihx Q s (by simpa using hc) η a w h
  | block id b ih =>
    intro Q s hc η a w h
    simp only [codeF] at hc
    refine wp_block (Go.wp_mono (ih _ s hc η a w h) fun e a' w' hq => ?_)
    cases e with
    | normal => exact hq
    | exit i =>
      obtain ⟨η', s', hs', hc'⟩ := hq
      simp only at hc'
      simp only [Exit.inBlock]
      split at hc'
      · rename_i e
        rw [if_pos e]
        exact ⟨η', s', hs', hc'⟩
      · rename_i e
        rw [if_neg e]
        exact ⟨η', s', hs', hc'⟩
    | ret => exact hq
    | goto l => exact hq.elim
    | panic ch => exact hq.elim
    | outgrown => exact hq.elim
  | loop b ih => exact fun Q s hc => hc
  | exit id => exact fun Q s hc η a w h => wp_exit ⟨η, s, h, hc⟩
  | ret => exact fun Q s hc η a w h => wp_ret ⟨η, s, h, hc⟩
  | rangeFunc => exact fun Q s hc => hc.elim
  | scope => exact fun Q s hc => hc.elim
  | label => exact fun Q s hc => hc.elim
  | goto => exact fun Q s hc => hc.elim
  | refuse => exact fun Q s hc => hc.elim
theorem OkM_introW (hG : EnvOk P G) (hF : FieldsOk P G) {f : FuncId} {fn : Func} (hf : P.funcs[f]? = some fn) (hn : (fn.name == "runtime.NumGoroutine") = false) {cs args : List PV} {Q : PV → List PV → Prop} {c : Code} (hc : fn.body = some c)
    (h : ∀ κ : Ctx, NoZ κ → W P κ c (EndsIn (postM G fn.results.toList Q)) (start fn.ntmps (.optr 1 0 0 0 0 :: args) [(1, 0, .box cs)])) : OkM P f cs args Q := by
  refine ⟨⟨fn, hf, hn, by simp [hc]⟩, fun w g arr e I vs hI0 hg hcs hargs => ?_⟩
  obtain ⟨hI, T, hT, hTg, hgood⟩ := hI0
  let κ : Ctx := { B := w.heap.size, M := (· = g), w0 := w, I := I, lent := fun id => if id = 1 then some (.pointer (some ⟨g, 0, none⟩)) else none }
  have hz : NoZ κ := ⟨fun _ h => h, fun id h => if_neg (by omega), T, hT, (fun x (hx : x = g) => hx ▸ hTg), fun w' hk => hgood.on (hk.below (Nat.le_refl _) hT fun x (hx : x = g) => hx ▸ hTg)⟩
  let η : Own := ⟨fun _ => 0, fun id => if id = .o 1 then some (.pointer (some ⟨g, 0, none⟩)) else none⟩
  have hval : ∀ (id : Key) x, η.val id = some x → id = .o 1 ∧ x = .pointer (some ⟨g, 0, none⟩) := fun id x hx => by
    simp only [η] at hx
    split at hx
    · rename_i e; exact ⟨e, (Option.some.inj hx).symm⟩
    · cases hx
  have himm : ∀ x, I x → imm κ η w x := fun x hx => ⟨(hI x hx).1, ⟨.inl hx, fun h => h⟩, fun id v hv he => by
    obtain ⟨_, rfl⟩ := hval id v hv
    exact (hI x hx).2 (Option.some.inj he).symm⟩
  have hrep : All2 (Rep w (imm κ η w) η) (.optr 1 0 0 0 0 :: args) (.pointer (some ⟨g, 0, none⟩) :: vs) := .cons (.of1 (.optr 1 0 0 0 0 _ (Nat.le_refl _) fun _ x hx => by
      obtain ⟨_, rfl⟩ := hval (.o 1) x hx
      exact ⟨g, rfl, rfl⟩)) (hargs.mono fun p v hp => by
    cases hp with
    | one hp => exact .of (hp.weak himm)
    | agg cs vs hp => exact .one (.agg cs vs (RepIs.rep1 (hp.weak himm))))
  have hw := h κ hz
  have hsim : Sim κ η (start fn.ntmps (.optr 1 0 0 0 0 :: args) [(1, 0, .box cs)]) { tmps := (.pointer (some ⟨g, 0, none⟩) :: vs).toArray ++ Array.replicate (fn.ntmps - (.pointer (some ⟨g, 0, none⟩) :: vs).toArray.size) Go.undef, defers := [] } w := by
    refine ⟨start_rep hrep _ _, rfl, fun id => ?_, fun id id' x x' k hx hx' _ _ => by rw [(hval id x hx).1, (hval id' x' hx').1], fun id => SubRep.none fun p => by simp [η], ⟨rfl, rfl, rfl, Nat.le_refl _, fun _ _ _ => rfl⟩⟩
    simp only [start, Heap.get]
    by_cases e1 : 1 = id
    · subst e1
      rw [if_pos rfl]
      exact ⟨rfl, g, arr, e, by simp [η], hg, RepIs.rep1 (hcs.weak himm), fun k hk => .inr (by obtain rfl := Option.some.inj hk; rfl), fun u hu _ => by have hu : (if (1 : Nat) = 1 then some (Value.pointer (some ⟨g, 0, none⟩)) else none) = some u := hu; rw [if_pos rfl] at hu; exact Option.some.inj hu⟩
    · rw [if_neg e1]
      exact ⟨rfl, by simp [η, Ne.symm e1]⟩
  refine calls_of_wp hf hc (Go.wp_mono (hw η _ w hsim) fun en a' w' hq => ?_)
  have fin : ∀ η' s', Sim κ η' s' a' w' → postM G fn.results.toList Q s' → a'.defers = [] ∧ ∃ v, (results fn a'.tmps).run P w' = .ok v w' ∧
      ∃ v0 r gs cs' arr' e', Ending.returned v = .returned v0 ∧ Q r cs' ∧ Kept { B := w.heap.size, M := (· = g), w0 := w } w' ∧ RepR (fun x => I x ∨ w.heap.size ≤ x) w.heap.size w' r v0 gs ∧
        w'.heap[g]? = some (.cells arr' e' (0, 0)) ∧ RepIs w' (fun x => (I x ∨ w.heap.size ≤ x) ∧ x < w'.heap.size ∧ x ∉ gs ∧ (w.heap.size ≤ x → plain w' x)) cs' arr'.toList := by
    intro η' s' hs hp
    unfold postM at hp
    split at hp
    case h_2 => exact hp.elim
    rename_i cs1 h1
    have hob := hs.heap 1
    rw [h1] at hob
    obtain ⟨hcur, g1, arr1, e1, hval1, hh1, hr1, hB1⟩ := hob
    -- the box is still the receiver's
    have hg1 : g1 = g := by
      have := hB1.same (.pointer (some ⟨g, 0, none⟩)) rfl rfl
      simpa using this
    subst hg1
    split at hp
    case h_2 => exact hp.elim
    rename_i cs2 s1 h2
    split at hp
    case h_2 => exact hp.elim
    rename_i vs' s2 hall
    obtain ⟨η1, hs1, hcs2, hle1, hI1⟩ := toPures_sound hs hr1 h2
    obtain ⟨v, gs, η2, hres, hle, hI2, hnd, hgs, hgB, hR, hbx⟩ := all_sound hG hs1 hall
    obtain ⟨⟨_, g3, _, _, hval3, _, _, hB3⟩, hgs3⟩ := hbx 1 0 cs1 (toPures_box h2 h1)
    have hg3 : g3 = g1 := by
      have := hB3.same (.pointer (some ⟨g1, 0, none⟩)) rfl rfl
      simpa using this
    subst hg3
    have hnM : ∀ x, imm κ η2 w' x → x ≠ g3 := fun x hx e => hx.2.2 (.o 1) _ hval3 (by rw [e]; rfl)
    have hgM : ∀ x ∈ gs, w.heap.size ≤ x := fun x hx => (hgB x hx).elim id fun e => absurd (by rw [show x = g3 from e]; rfl) (hgs3 x hx _ hval3)
    have hIm : ∀ x, imm κ η2 w' x → ((I x ∨ w.heap.size ≤ x) ∧ x < w'.heap.size ∧ x ∉ gs ∧ (w.heap.size ≤ x → plain w' x)) := fun x hx => ⟨hx.2.1.1.imp id fun h => h.1.elim id fun e => absurd e (hnM x hx), hx.1, fun hm => (hgs x hm).2 hx, fun hle => by
      rcases hx.2.1.1 with h1 | h1
      · exact absurd (hI x h1).1 (Nat.not_lt.2 hle)
      · exact h1.2⟩
    refine ⟨hs.defers, v, hres, v, oneRes vs', gs, cs2, arr1, e1, rfl, hp, ⟨hs.kept.os, hs.kept.tape, hs.kept.output, hs.kept.size, hs.kept.block⟩, ⟨hnd, fun x hx => ⟨hgM x hx, (hgs x hx).1⟩, ?_⟩, hh1, hcs2.weak fun x hx => hIm x (hI2 x hx)⟩
    exact (hR.mono hIm).up hgM
  cases en with
  | normal => obtain ⟨η', s', hs, hp⟩ := hq; exact fin η' s' hs hp
  | ret => obtain ⟨η', s', hs, hp⟩ := hq; exact fin η' s' hs hp
  | exit i => obtain ⟨η', s', hs, hp⟩ := hq; exact hp.elim
  | goto l => exact hq.elim
  | panic ch => exact hq.elim
  | outgrown => exact hq.elim
variable {X Y : Req → (PV → Prop) → Prop} {L : Code → (Ex → St → Prop) → St → Prop}
theorem fnM_introF (ids : List Nat) (hG : EnvOk P G) (hF : FieldsOk P G) (hm : P.follows .mixedOrders = true) {f : FuncId} {fn : Func} (hf : P.funcs[f]? = some fn) (hn : (fn.name == "runtime.NumGoroutine") = false) {cs args : List PV} {R : PV → List PV → Prop} {c : Code} (hc : fn.body = some c)
    (h : ∀ κ X Y L Q, Mach P G κ X Y L → (∀ r c, R r c → Q r c) → codeF X L G ids c (EndsIn (postM G fn.results.toList Q)) (start fn.ntmps (.optr 1 0 0 0 0 :: args) [(1, 0, .box cs)])) : OkM P f cs args R :=
  OkM_introW hG hF hf hn hc fun κ hz => have := hz; codeF_sound ids hG hF c _ _ (h κ _ _ _ R ⟨hG, hF, hm, hz, rfl, rfl, rfl⟩ fun _ _ x => x)
theorem r_region {id : Nat} {os : Array Oper} {Q : Ex → St → Prop} {s : St} (h : Mach P G κ X Y L) (H : ops X G os.toList os.toList s (Q .normal)) : L (.region id os false) Q s := by
  have := h.z
  rw [h.L]
  rw [h.X] at H
  refine code_sound h.hG h.hF _ Q s ?_
  simp only [code]
  exact H
end
end Go.Proofs.Ytiaodmfipeoegaa.Ai
