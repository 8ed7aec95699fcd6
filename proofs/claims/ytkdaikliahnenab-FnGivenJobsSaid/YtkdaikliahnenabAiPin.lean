/- Levels: laws that write into what they have handed to the functions. Each part runs in a frame of its own; slices stand in their slots with their concrete values. -/
import Derived.Test.YtkdaikliahnenabAiCut
import Derived.Test.YtkdaikliahnenabAiIce
set_option linter.unusedSectionVars false
set_option linter.unusedVariables false
namespace Go.Proofs.Ytkdaikliahnenab.Ai
open Go Go.RowKit

/-- The body ends with 'true' in slot r. -/
def QT (r : Nat) : Ex → St → Prop
  | .exit _, _ => False
  | _, s => s.T.getD r .undef = .bool true

/-- A frame that lies within κ0's. -/
structure Lv (κ κ0 : Ctx) : Prop where
  kept : Kept κ0 κ.w0
  B : κ0.B ≤ κ.B
  M : ∀ g, ¬ κ.M g
  I : ∀ g, g < κ.B → κ.I g
  size : κ.B = κ.w0.heap.size

def lvl (w : World) : Ctx := { B := w.heap.size, M := fun _ => False, w0 := w, I := fun g => g < w.heap.size }
instance (w : World) : NoZ (lvl w) := ⟨fun _ h => h⟩
theorem lv_of {κ0 : Ctx} {w : World} (hk : Kept κ0 w) : Lv (lvl w) κ0 := ⟨hk, hk.size, fun _ h => h, fun _ h => h, rfl⟩

section
variable {P : Program} {G : Env} {κ κ0 : Ctx} {X Y : Req → (PV → Prop) → Prop} {L : Code → (Ex → St → Prop) → St → Prop} {η : Own} {s : St} {a : Act} {w : World} {r : Nat} {c : Code}

theorem Mach.level (m : Mach P G κ X Y L) (w : World) : Mach P G (lvl w) X Y (W P (lvl w)) := ⟨m.hG, m.hF, m.hm, inferInstance, m.X, m.Y, rfl⟩

theorem reps_undef {I : Nat → Prop} : ∀ (l : List Value), All2 (Rep w I η) (List.replicate l.length PV.undef) l
  | [] => .nil
  | _ :: r => .cons (.of1 (.undef _)) (reps_undef r)

theorem kept_up (hl : Lv κ κ0) (h : Kept κ w) : Kept κ0 w :=
  ⟨h.os.trans hl.kept.os, h.tape.trans hl.kept.tape, h.output.trans hl.kept.output, Nat.le_trans hl.B h.size, fun k hk hm => (h.block k (Nat.lt_of_lt_of_le hk hl.B) (hl.M k)).trans (hl.kept.block k hk hm)⟩

theorem Post_up (hl : Lv κ κ0) {e : Exit} (h : Post κ (QT r) e a w) : Post κ0 (QT r) e a w := by
  have fin : ∀ η s, Sim κ η s a w → s.T.getD r .undef = .bool true → ∃ η' s', Sim κ0 η' s' a w ∧ s'.T.getD r .undef = .bool true := by
    intro η s hs hq
    have hlen := hs.tmps.length
    have hr : r < s.T.length := by
      rcases Nat.lt_or_ge r s.T.length with h | h
      · exact h
      · simp [List.getD, List.getElem?_eq_none h] at hq
    have ht : s.T[r]? = some (.bool true) := by
      rw [List.getElem?_eq_getElem hr]
      simp only [List.getD, List.getElem?_eq_getElem hr, Option.getD_some] at hq
      rw [hq]
    obtain ⟨c, hc, hrep⟩ := hs.tmps.get ht
    have hb := hrep.bool
    subst hb
    refine ⟨⟨fun _ => 0, fun _ => none⟩, ⟨(List.replicate a.tmps.toList.length PV.undef).set r (.bool true), []⟩, ⟨?_, hs.defers, fun id => ⟨rfl, rfl⟩, fun id id' x x' g hx => by (cases hx), fun id => SubRep.none fun _ => rfl, kept_up hl hs.kept⟩, ?_⟩
    · have h2 := (reps_undef (w := w) (I := imm κ0 ⟨fun _ => 0, fun _ => none⟩ w) (η := ⟨fun _ => 0, fun _ => none⟩) a.tmps.toList).set r (repBool true)
      have e : a.tmps.toList.set r (.bool true) = a.tmps.toList := by
        apply List.ext_getElem?
        intro i
        rw [List.getElem?_set]
        split
        · rename_i e
          subst e
          split
          · exact hc.symm
          · rename_i h; exact (List.getElem?_eq_none (by simpa using h)).symm
        · rfl
      rw [e] at h2
      exact h2
    · rw [hlen] at hr
      have hr' : r < a.tmps.size := by simpa using hr
      simp [List.getD, List.getElem?_set, hr']
  cases e with
  | normal => obtain ⟨η, s, hs, hq⟩ := h; exact fin η s hs hq
  | ret => obtain ⟨η, s, hs, hq⟩ := h; exact fin η s hs hq
  | exit i => obtain ⟨η, s, hs, hq⟩ := h; exact hq.elim
  | goto l => exact h.elim
  | panic ch => exact h.elim
  | outgrown => exact h.elim

/-- The rest of a body, from a state within the frame κ; what it keeps is told of κ0. -/
def W2 (P : Program) (κ κ0 : Ctx) (c : Code) (r : Nat) (s : St) : Prop := ∀ η a w, Sim κ η s a w → c.wp P (Post κ0 (QT r)) a w

theorem W2_front (m : Mach P G κ X Y L) (hl : Lv κ κ0) {E : St → Prop} : ∀ (k : Nat) (c : Code) (s : St),
    (∀ (η : Own) (s : St) (a : Act) (w : World), Sim κ η s a w → E s → (rest k c).wp P (Post κ0 (QT r)) a w) →
    code X L G (front k c) (fun e s' => match e with | .normal => E s' | .exit i => QT r (.exit i) s' | .ret => QT r .ret s') s → W2 P κ κ0 c r s := by
  have := m.z
  have hX := m.X
  have hL := m.L
  subst hX hL
  intro k
  induction k with
  | zero =>
    intro c s hE hc η a w hs
    cases c <;> exact hE η s a w hs hc
  | succ k ih =>
    intro c s hE hc η a w hs
    cases c
    case seq x y =>
      have hx : code (std false P) (W P κ) G x (fun e s' => match e with
        | .normal => code (std false P) (W P κ) G (front k y) (fun e s' => match e with | .normal => E s' | .exit i => QT r (.exit i) s' | .ret => QT r .ret s') s'
        | .exit j => QT r (.exit j) s'
        | .ret => QT r .ret s') s := hc
      refine wp_seq (Go.wp_mono (code_sound m.hG m.hF x _ _ hx η a w hs) fun e a' w' hq => ?_)
      cases e with
      | normal =>
        obtain ⟨η', s', hs', hq⟩ := hq
        exact ih y s' hE hq η' a' w' hs'
      | exit i => exact Post_up (e := .exit i) hl hq
      | ret => exact Post_up (e := .ret) hl hq
      | goto l => exact hq.elim
      | panic ch => exact hq.elim
      | outgrown => exact hq.elim
    all_goals exact hE η s a w hs hc

/-- **A cut** within a level: no own objects are kept. -/
theorem W2_cut {α : Type} (m : Mach P G κ X Y L) (hl : Lv κ κ0) (k nt : Nat) (keep : List Nat) (tb : α → List (Nat × PV)) (I : α → Prop)
    (first : ∀ E : St → Prop, (∀ s' a, headOk s' [] = true → Ai.norm keep [] s' = St.at nt (tb a) [] → I a → E s') →
      code X L G (front k c) (fun e s' => match e with | .normal => E s' | .exit i => QT r (.exit i) s' | .ret => QT r .ret s') s)
    (second : ∀ a, I a → W2 P κ κ0 (rest k c) r (St.at nt (tb a) [])) : W2 P κ κ0 c r s := by
  have := m.z
  refine W2_front m hl (E := Cut nt keep [] tb (fun _ => []) I) k c s ?_ (first _ fun s' a h1 h2 h3 => ⟨h1, a, h2, h3⟩)
  rintro η s a w hs ⟨hk, a0, e1, h3⟩
  simp only [headOk, Bool.and_eq_true] at hk
  have hs' := hs.norm keep hk.1 fun k hm id ver cs hr _ => recvOk_spec hk.2 k hm id ver hr
  rw [e1] at hs'
  exact second a0 h3 _ a w hs'

theorem W2_last (m : Mach P G κ X Y L) (hl : Lv κ κ0) (h : code X L G c (QT r) s) : W2 P κ κ0 c r s := by
  have := m.z
  rw [m.X, m.L] at h
  exact fun η a w hs => Go.wp_mono (code_sound m.hG m.hF c (QT r) s h η a w hs) fun e a' w' hq => Post_up hl hq

/-- What a function's body owes, out of a level's answer. -/
theorem W_of2 {Q : PV → Prop} (h : ∀ η a w, Sim κ η s a w → c.wp P (Post κ (QT r)) a w) (hQ : Q (.bool true)) : W P κ c (EndsIn (post G [.tmp r] Q)) s := fun η a w hs => Go.wp_mono (h η a w hs) fun e a' w' hq => by
  have fin : ∀ s : St, s.T.getD r .undef = .bool true → post G [.tmp r] Q s := fun s e => by
    simp only [post, resAll, resVars, resVar, e, resPure, resOwn, PV.pure, if_true, oneRes]
    exact hQ
  cases e with
  | normal => obtain ⟨η, s, hs, hq⟩ := hq; exact ⟨η, s, hs, fin s hq⟩
  | ret => obtain ⟨η, s, hs, hq⟩ := hq; exact ⟨η, s, hs, fin s hq⟩
  | exit i => obtain ⟨η, s, hs, hq⟩ := hq; exact hq.elim
  | goto l => exact hq.elim
  | panic ch => exact hq.elim
  | outgrown => exact hq.elim

/-! ### Slices get their concrete values -/
def pin1 (vs : Nat → Value) (i : Nat) : PV → PV
  | .isl sz es => .isv (vs i) sz es
  | .bool b => .bool b
  | .int k n => .int k n
  | .str s => .str s
  | .skip => .skip
  | _ => .undef

/-- What is known of a slice with its value. -/
def PinAt (w : World) (D : Nat → Prop) (sz : Nat) (es : List (List PV)) (v : Value) : Prop := RepI w D (.isl sz es) v

theorem Rep.fresh {κ' : Ctx} {η' : Own} {w' : World} {p : PV} {v : Value} (h : Rep w (imm κ η w) η p v) (hI : ∀ g, imm κ η w g → imm κ' η' w' g ∧ w'.heap[g]? = w.heap[g]?) (hη : η.le η') : Rep w' (imm κ' η' w') η' p v := h.mono hI hη

/-- From a state without own objects to a level. -/
theorem Sim.level (h : Sim κ η s a w) (hH : s.H = []) {w' : World} (hb : Below w.heap.size w w') : Sim (lvl w') η s a w' := by
  have hnone : ∀ k : Key, η.val k = none := fun k => by
    cases k with
    | o id => have := h.heap id; rw [hH] at this; exact this.2
    | n id p =>
      cases e : η.val (.n id p) with
      | none => rfl
      | some v =>
        obtain ⟨es, e', sz', es', hb', _⟩ := h.sub id p v e
        rw [hH] at hb'
        cases hb'
  have hI : ∀ g, imm κ η w g → imm (lvl w') η w' g ∧ w'.heap[g]? = w.heap[g]? := fun g hg =>
    ⟨⟨Nat.lt_of_lt_of_le hg.1 hb.size, ⟨.inl (Nat.lt_of_lt_of_le hg.1 hb.size), fun x => x⟩, fun k x hx => by rw [hnone k] at hx; cases hx⟩, hb.block g hg.1⟩
  refine ⟨h.tmps.mono fun _ _ x => x.mono hI η.le_refl, h.defers, fun id => ?_, fun id id' x x' g hx => by (rw [hnone id] at hx; cases hx), fun id => SubRep.none fun p => hnone _, ⟨rfl, rfl, rfl, Nat.le_refl _, fun _ _ _ => rfl⟩⟩
  have := h.heap id
  rw [hH] at this ⊢
  exact this

/-- The first level: all slices get their values. -/
theorem W2_pin (m : Mach P G κ X Y L) (hH : s.H = [])
    (k : ∀ (κ1 : Ctx) (L1 : Code → (Ex → St → Prop) → St → Prop) (m1 : Mach P G κ1 X Y L1) (hl : Lv κ1 κ) (vs : Nat → Value)
      (hv : ∀ t sz es, s.T.getD t .undef = .isl sz es → RepI κ1.w0 (fun g => g < κ1.B) (.isl sz es) (vs t)), W2 P κ1 κ c r ⟨mapAt (pin1 vs) 0 s.T, []⟩) :
    ∀ η a w, Sim κ η s a w → c.wp P (Post κ (QT r)) a w := by
  intro η a w hs
  have hl := hs.level hH (w' := w) ⟨rfl, rfl, rfl, Nat.le_refl _, fun _ _ => rfl⟩
  have hT : ∀ t, Rep w (imm (lvl w) η w) η (s.T.getD t .undef) (a.tmps.getD t Go.undef) := hl.tmp
  refine k (lvl w) _ (m.level w) (lv_of hs.kept) (fun t => a.tmps.getD t Go.undef) (fun t sz es e => ?_) η a w ⟨?_, hl.defers, ?_, hl.apart, ?_, hl.kept⟩
  · have := hT t
    rw [e] at this
    exact (this.invI rfl).weak fun g hg => hg.1
  · refine mapAt_rep 0 hl.tmps fun j p v hp hv hr => ?_
    rw [Nat.zero_add]
    have e : a.tmps.getD j Go.undef = v := by simp [Array.getD_eq_getD_getElem?, ← Array.getElem?_toList, hv]
    cases p with
    | isl sz es =>
      show Rep _ _ _ (.isv (a.tmps.getD j Go.undef) sz es) v
      rw [e]
      exact .of1 (.isv v sz es (hr.invI rfl))
    | bool b => exact hr
    | int k n => exact hr
    | str s => exact hr
    | skip => exact hr
    | _ => exact .of1 (.undef _)
  · intro id
    have := hl.heap id
    rw [hH] at this
    exact this
  · intro id
    have := hl.sub id
    rw [hH] at this
    exact this

/-! ### Moves that keep a slice's value -/
def rawOp (o : Oper) (s : St) : Option St :=
  match o.guard with
  | some _ => none
  | none => match o.op with
    | .move (.tmp x) | .assign (.tmp x) => some (s.put o.dst (s.T.getD x .undef))
    | .move (.const v) | .assign (.const v) => some (s.put o.dst (ofConst v))
    | .extract (.tmp x) i => match s.T.getD x .undef with
      | .tup vs => match vs[i]? with
        | some v => some (s.put o.dst v)
        | none => none
      | _ => none
    | _ => none
def rawOps : List Oper → St → Option St
  | [], s => some s
  | o :: r, s => match rawOp o s with
    | some s' => rawOps r s'
    | none => none

theorem rawOp_sound {o : Oper} {s' : St} {Q' : Exit → Act → World → Prop} (h : Sim κ η s a w) (he : rawOp o s = some s') : o.guard = none ∧ o.wp P a w (fun a' w' => w' = w ∧ Sim κ η s' a' w) Q' := by
  unfold rawOp at he
  split at he
  case h_1 => cases he
  rename_i hg
  refine ⟨hg, ?_⟩
  have fin : ∀ (c : Value) (p : PV), (execOp a.eval o).run P w = .ok (.value c) w → Rep w (imm κ η w) η p c → s.put o.dst p = s' → o.wp P a w (fun a' w' => w' = w ∧ Sim κ η s' a' w) Q' := fun c p h1 h2 h3 => by
    unfold Oper.wp
    rw [h1]
    exact ⟨rfl, h3 ▸ h.put o.dst h2⟩
  have mv : ∀ x : Nat, (o.op = .move (.tmp x) ∨ o.op = .assign (.tmp x)) → s.put o.dst (s.T.getD x .undef) = s' → o.wp P a w (fun a' w' => w' = w ∧ Sim κ η s' a' w) Q' := fun x ho e => by
    refine fin (a.tmps.getD x Go.undef) _ ?_ (h.tmp x) e
    rcases ho with e | e <;> simp [execOp, e, Act.eval]
  have cs : ∀ v : Value, (o.op = .move (.const v) ∨ o.op = .assign (.const v)) → s.put o.dst (ofConst v) = s' → o.wp P a w (fun a' w' => w' = w ∧ Sim κ η s' a' w) Q' := fun v ho e => by
    refine fin v _ ?_ (h.ev (.const v)) e
    rcases ho with e | e <;> simp [execOp, e, Act.eval]
  split at he
  · rename_i x ho; exact mv x (.inl ho) (Option.some.inj he)
  · rename_i x ho; exact mv x (.inr ho) (Option.some.inj he)
  · rename_i v ho; exact cs v (.inl ho) (Option.some.inj he)
  · rename_i v ho; exact cs v (.inr ho) (Option.some.inj he)
  · rename_i x i ho
    split at he
    case h_2 => cases he
    rename_i vs hx
    split at he
    case h_2 => cases he
    rename_i p hp
    have hr := h.tmp x
    rw [hx] at hr
    obtain ⟨l, hc, hall⟩ := hr.tup_
    obtain ⟨c, hcl, hrc⟩ := hall.get hp
    refine fin c p ?_ (.one hrc) (Option.some.inj he)
    have he' : a.eval (.tmp x) = .tuple l.toArray := hc
    simp [execOp, ho, he', Instr.extract, hcl]
  · cases he

theorem rawOps_sound {ops : Array Oper} {Q : Exit → Act → World → Prop} {s' : St} (l : List Oper) : ∀ {s : St} {a : Act}, Sim κ η s a w → rawOps l s = some s' → (∀ a', Sim κ η s' a' w → Q .normal a' w) → wpList P ops Q l a w := by
  induction l with
  | nil =>
    intro s a h he hQ
    unfold wpList
    obtain rfl := Option.some.inj he
    exact hQ a h
  | cons o l ih =>
    intro s a h he hQ
    unfold rawOps at he
    split at he
    case h_2 => cases he
    rename_i s1 h1
    unfold wpList
    obtain ⟨hg, hw⟩ := rawOp_sound (P := P) (Q' := Q) h h1
    rw [if_pos (by simp [Region.wanted, hg])]
    refine .inl (Oper.wp_mono ?_ hw)
    rintro a1 w1 ⟨rfl, hs1⟩
    exact ih hs1 he hQ

theorem rawOps_then {ops : Array Oper} {Q : Exit → Act → World → Prop} {s1 : St} {tail : List Oper} (l : List Oper) : ∀ {s : St} {a : Act}, Sim κ η s a w → rawOps l s = some s1 → (∀ a', Sim κ η s1 a' w → wpList P ops Q tail a' w) → wpList P ops Q (l ++ tail) a w := by
  induction l with
  | nil =>
    intro s a h he hQ
    obtain rfl := Option.some.inj he
    exact hQ a h
  | cons o l ih =>
    intro s a h he hQ
    unfold rawOps at he
    split at he
    case h_2 => cases he
    rename_i s2 h1
    show wpList P ops Q (o :: (l ++ tail)) a w
    unfold wpList
    obtain ⟨hg, hw⟩ := rawOp_sound (P := P) (Q' := Q) h h1
    rw [if_pos (by simp [Region.wanted, hg])]
    refine .inl (Oper.wp_mono ?_ hw)
    rintro a1 w1 ⟨rfl, hs1⟩
    exact ih hs1 he hQ

theorem rawOps_H : ∀ (l : List Oper) {s s1 : St}, s.H = [] → rawOps l s = some s1 → s1.H = [] := by
  intro l
  induction l with
  | nil => intro s s1 hh he; obtain rfl := Option.some.inj he; exact hh
  | cons o l ih =>
    intro s s1 hh he
    unfold rawOps at he
    split at he
    case h_2 => cases he
    rename_i s2 h2
    refine ih ?_ he
    unfold rawOp at h2
    have hput : ∀ (d : Option Nat) (p : PV), (s.put d p).H = s.H := fun d p => by cases d <;> rfl
    split at h2
    · cases h2
    · split at h2
      · rw [← Option.some.inj h2, hput, hh]
      · rw [← Option.some.inj h2, hput, hh]
      · rw [← Option.some.inj h2, hput, hh]
      · rw [← Option.some.inj h2, hput, hh]
      · split at h2
        · split at h2
          · rw [← Option.some.inj h2, hput, hh]
          · cases h2
        · cases h2
      · cases h2

theorem Sim.noVal (h : Sim κ η s a w) (hH : s.H = []) (kk : Key) : η.val kk = none := by
  cases kk with
  | o id => have := h.heap id; rw [hH] at this; exact this.2
  | n id p =>
    cases e : η.val (.n id p) with
    | none => rfl
    | some v' =>
      obtain ⟨es, e', sz', es', hb', _⟩ := h.sub id p v' e
      rw [hH] at hb'
      cases hb'

/-- What is kept: named slots. -/
def keepT (ks : List Nat) (i : Nat) (p : PV) : PV := if memB i ks then p else .undef
theorem Sim.keepT (h : Sim κ η s a w) (hH : s.H = []) (ks : List Nat) : Sim κ η ⟨mapAt (Ai.keepT ks) 0 s.T, []⟩ a w := by
  refine ⟨?_, h.defers, fun id => ?_, h.apart, fun id => ?_, h.kept⟩
  · refine mapAt_rep 0 h.tmps fun j p u hp hu hr => ?_
    unfold Ai.keepT
    split
    · exact hr
    · exact .of1 (.undef _)
  · have := h.heap id
    rw [hH] at this
    exact this
  · have := h.sub id
    rw [hH] at this
    exact this

/-! ### A call whose answer lies in new blocks -/
/-- An answer's slice gets its value. -/
inductive PinR (w : World) (D : Nat → Prop) : PV → PV → Value → Prop
  | isl (sz : Nat) (es : List (List PV)) (v : Value) (h : RepI w D (.isl sz es) v) : PinR w D (.isl sz es) (.isv v sz es) v
  | pair (sz : Nat) (es : List (List PV)) (b : Bool) (v : Value) (h : RepI w D (.isl sz es) v) : PinR w D (.tup [.isl sz es, .bool b]) (.tup [.isv v sz es, .bool b]) (.tuple #[v, .bool b])
  | triple (sz : Nat) (es : List (List PV)) (k : IntKind) (n : Int) (b : Bool) (v : Value) (h : RepI w D (.isl sz es) v) (hn : k.wrap n = n) : PinR w D (.tup [.isl sz es, .int k n, .bool b]) (.tup [.isv v sz es, .int k n, .bool b]) (.tuple #[v, .int k n, .bool b])

theorem PinR.rep {D I : Nat → Prop} {p q : PV} {v : Value} (h : PinR w D p q v) (hD : ∀ g, D g → I g) : Rep w I η q v := by
  cases h with
  | isl sz es v h => exact .of1 (.isv v sz es (h.weak hD))
  | pair sz es b v h => exact .tup _ [v, .bool b] (.cons (.one (.isv v sz es (h.weak hD))) (.cons (.one (.imm (.bool b))) .nil))
  | triple sz es k n b v h hn => exact .tup _ [v, .int k n, .bool b] (.cons (.one (.isv v sz es (h.weak hD))) (.cons (.one (.imm (.int k n hn))) (.cons (.one (.imm (.bool b))) .nil)))

def newIn (κ κ' : Ctx) (g : Nat) : Prop := κ.B ≤ g ∧ g < κ'.B ∧ plain κ'.w0 g

theorem W2_call (m : Mach P G κ X Y L) (hl : Lv κ κ0) {c0 : Code} {id : Nat} {ops : Array Oper} {o1 : Oper} {more : List Oper} (hc : c0 = .seq (.region id ops false) c) (p : Nat) (hops : ops.toList.drop p = o1 :: more) {f : FuncId} {args : Array Operand} {ts : Array TypeId}
    (ho : o1.op = .call { callee := .value (.func f), args := args, argTypes := ts }) (hg : o1.guard = none) {b : Bool} {qs : List PV} {s1 : St} (hpre : rawOps (ops.toList.take p) s = some s1) (hlend : lends (lend s1) (evs s1 args.toList) = some (b, qs)) (hH : s.H = [])
    (ks : List Nat) {res : PV} (hok : OkG false P f qs (· = res)) (hres : (∃ sz es, res = .isl sz es) ∨ (∃ sz es b, res = .tup [.isl sz es, .bool b]) ∨ ∃ sz es k n b, res = .tup [.isl sz es, .int k n, .bool b])
    (k : ∀ (κ' : Ctx) (L' : Code → (Ex → St → Prop) → St → Prop) (m' : Mach P G κ' X Y L') (hl' : Lv κ' κ0) (hB : κ.B ≤ κ'.B) (hsame : ∀ g, g < κ.B → κ'.w0.heap[g]? = κ.w0.heap[g]?) (q : PV) (v : Value),
      PinR κ'.w0 (newIn κ κ') res q v → ∃ s', rawOps more (s1.put o1.dst q) = some s' ∧ W2 P κ' κ0 c r ⟨mapAt (keepT ks) 0 s'.T, []⟩) : W2 P κ κ0 c0 r s := by
  subst hc
  have := m.z
  intro η a0 w h0
  refine wp_seq ?_
  refine wp_region_list ?_
  rw [← List.take_append_drop p ops.toList, hops]
  refine rawOps_then _ h0 hpre fun a h => ?_
  have hH1 := rawOps_H _ hH hpre
  unfold wpList
  rw [if_pos (by simp [Region.wanted, hg])]
  refine .inl ?_
  have hlent := lends_sound h (evs_rep h args.toList) hlend
  obtain ⟨hcall, hcon⟩ := hok
  have hargs : (args.map a.eval) = (args.toList.map a.eval).toArray := by rw [← Array.toList_map, Array.toArray_toList]
  unfold Oper.wp
  rw [execOp_call ho hcall, Oper.upon_enter, hargs]
  refine (hcon w _ _ (fun g hg => hg) hlent.all).mono ?_
  rintro e w' ⟨v, r1, gs, rfl, rfl, hb, hnd, hgs, hrep⟩
  have hkept : Kept κ w' := h.kept.step hb.os hb.tape hb.output hb.size fun k hk _ => hb.block k (Nat.lt_of_lt_of_le hk h.kept.size)
  have hlv := h.level hH1 hb
  have hD : ∀ g, (((false = true ∧ g < w.heap.size) ∨ w.heap.size ≤ g) ∧ g < w'.heap.size ∧ g ∉ gs ∧ (w.heap.size ≤ g → plain w' g)) → newIn κ (lvl w') g := fun g ⟨h1, h2, _, h4⟩ => by
    have h1' : w.heap.size ≤ g := by simpa using h1
    exact ⟨Nat.le_trans h.kept.size h1', h2, h4 h1'⟩
  have hpin : ∃ q, PinR w' (newIn κ (lvl w')) r1 q v := by
    rcases hres with ⟨sz, es, rfl⟩ | ⟨sz, es, b', rfl⟩ | ⟨sz, es, kk, nn, b', rfl⟩
    · cases hrep with
      | one h1 => cases h1 with
        | imm h1 => exact ⟨_, .isl sz es v (h1.weak hD)⟩
    · cases hrep with
      | tup h1 => cases h1 with
        | cons h1 h2 => cases h2 with
          | cons h2 h3 =>
            cases h3
            cases h2 with
            | imm h2 =>
              cases h2
              cases h1 with
              | imm h1 => exact ⟨_, .pair sz es b' _ (h1.weak fun g hg => hD g (by simpa using hg))⟩
      | one h1 => cases h1 with
        | imm h1 => cases h1
    · cases hrep with
      | tup h1 => cases h1 with
        | cons h1 h2 => cases h2 with
          | cons h2 h3 => cases h3 with
            | cons h3 h4 =>
              cases h4
              cases h3 with
              | imm h3 =>
                cases h3
                cases h2 with
                | imm h2 =>
                  cases h2 with
                  | int _ _ hn =>
                    cases h1 with
                    | imm h1 => exact ⟨_, .triple sz es kk nn b' _ (h1.weak fun g hg => hD g (by simpa using hg)) hn⟩
      | one h1 => cases h1 with
        | imm h1 => cases h1
  obtain ⟨q, hq⟩ := hpin
  obtain ⟨s', hs', hk⟩ := k (lvl w') _ (m.level w') (lv_of (kept_up hl hkept)) hkept.size (fun g hg => hkept.block g hg (hl.M g)) q v hq
  have hput : Sim (lvl w') η (s1.put o1.dst q) (a.put o1.dst v) w' := hlv.put o1.dst (hq.rep fun g hg => by
    refine ⟨hg.2.1, ⟨.inl hg.2.1, fun x => x⟩, fun kk x hx => ?_⟩
    rw [h.noVal hH1 kk] at hx; cases hx)
  exact rawOps_sound more hput hs' fun a' ha' => hk η a' w' (ha'.keepT (rawOps_H more (by cases o1.dst <;> exact hH1) hs') ks)

/-! ### A call that writes into a slice -/
/-- What was there stays, but for numbers in the blocks of J. -/
structure Marked (J : Nat → Prop) (w w' : World) : Prop where
  os : w'.os = w.os
  tape : w'.tape = w.tape
  output : w'.output = w.output
  size : w'.heap.size = w.heap.size
  block : ∀ g, ¬ J g → w'.heap[g]? = w.heap[g]?

/-- A function that numbers the cells of a slice: from k on, n of them. -/
def MarkOk (P : Program) (f : FuncId) (sz : Nat) (es : List (List PV)) (n : Nat) (R : World → Value → (Nat → Prop) → Int → Prop) : Prop :=
  Callable P f ∧ ∀ (w : World) (J : Nat → Prop) (v : Value) (k : Int), RepI w J (.isl sz es) v → (∀ g, J g → g < w.heap.size ∧ plain w g) → 0 ≤ k → k + n ≤ 9000000000000000000 →
    Calls P f #[v, .int .i64 k] w fun e w' => e = .returned (.int .i64 (k + n)) ∧ Marked J w w' ∧ R w' v J k

def flatV : PV → Bool
  | .undef | .skip | .bool _ | .int _ _ | .str _ => true
  | _ => false
theorem flat_keep {I I' : Nat → Prop} {η' : Own} {w' : World} {p : PV} {v : Value} (hf : flatV p = true) (h : Rep w I η p v) : Rep w' I' η' p v := by
  cases p with
  | undef => exact .of1 (.undef _)
  | bool b => rw [h.bool]; exact .of (.bool b)
  | int k n => rw [h.int.1]; exact .of (.int k n h.int.2)
  | str s => rw [h.str.1]; exact .of (.str s h.str.2)
  | skip =>
    cases h with
    | one h => cases h with
      | one h => cases h with
        | skip => exact .of1 .skip
        | imm h => cases h
  | _ => cases hf

theorem W2_mark (m : Mach P G κ X Y L) (hl : Lv κ κ0) {c0 : Code} {id : Nat} {ops : Array Oper} {o1 : Oper} {more : List Oper} (hc : c0 = .seq (.region id ops false) c) (p : Nat) (hops : ops.toList.drop p = o1 :: more) {f : FuncId} {x y : Nat} {ts : Array TypeId}
    (ho : o1.op = .call { callee := .value (.func f), args := #[.tmp x, .tmp y], argTypes := ts }) (hg : o1.guard = none) (hH : s.H = []) {s1 : St} (hpre : rawOps (ops.toList.take p) s = some s1)
    {v : Value} {sz : Nat} {es : List (List PV)} {k : Int} (hx : s1.T.getD x .undef = .isv v sz es) (hy : s1.T.getD y .undef = .int .i64 k) {J : Nat → Prop} (hJ : RepI κ.w0 J (.isl sz es) v)
    (hJB : ∀ g, J g → κ0.B ≤ g ∧ g < κ.B ∧ plain κ.w0 g) (hk0 : 0 ≤ k) {n : Nat} (hk1 : k + n ≤ 9000000000000000000) {R : World → Value → (Nat → Prop) → Int → Prop} (hok : MarkOk P f sz es n R)
    (ks ks2 : List Nat) (hks : ∀ i ∈ ks, flatV (s1.T.getD i .undef) = true ∨ ∃ u sz es D, s1.T.getD i .undef = .isv u sz es ∧ RepI κ.w0 D (.isl sz es) u ∧ ∀ g, D g → g < κ.B ∧ ¬ J g)
    (next : ∀ (κ' : Ctx) (L' : Code → (Ex → St → Prop) → St → Prop) (m' : Mach P G κ' X Y L') (hl' : Lv κ' κ0) (hB : κ.B ≤ κ'.B) (hsame : ∀ g, g < κ.B → ¬ J g → κ'.w0.heap[g]? = κ.w0.heap[g]?), R κ'.w0 v J k →
      ∃ s', rawOps more (St.put ⟨mapAt (keepT ks) 0 s1.T, []⟩ o1.dst (.int .i64 (k + n))) = some s' ∧ W2 P κ' κ0 c r ⟨mapAt (keepT ks2) 0 s'.T, []⟩) : W2 P κ κ0 c0 r s := by
  subst hc
  have := m.z
  intro η a w h
  refine wp_seq ?_
  refine wp_region_list ?_
  rw [← List.take_append_drop p ops.toList, hops]
  refine rawOps_then _ h hpre fun a1 h1 => ?_
  unfold wpList
  rw [if_pos (by simp [Region.wanted, hg])]
  refine .inl ?_
  obtain ⟨hcall, hcon⟩ := hok
  have ex : a1.eval (.tmp x) = v := by
    have := h1.tmp x
    rw [hx] at this
    cases this with
    | one h => cases h with
      | one h => cases h with
        | isv => rfl
        | imm h => cases h
  have ey : a1.eval (.tmp y) = .int .i64 k := by
    have := h1.tmp y
    rw [hy] at this
    exact this.int.1
  have hH1 : s1.H = [] := rawOps_H _ hH hpre
  unfold Oper.wp
  rw [execOp_call ho hcall, Oper.upon_enter]
  have hargs : (#[Operand.tmp x, .tmp y].map a1.eval) = #[v, .int .i64 k] := by simp [ex, ey]
  rw [hargs]
  have hsm : ∀ g, g < κ.B → w.heap[g]? = κ.w0.heap[g]? := fun g hg => h1.kept.block g hg (hl.M g)
  have hJw : RepI w J (.isl sz es) v := hJ.mono fun g hg => ⟨hg, hsm g (hJB g hg).2.1⟩
  refine (hcon w J v k hJw (fun g hg => ⟨Nat.lt_of_lt_of_le (hJB g hg).2.1 h1.kept.size, (hJB g hg).2.2.keep (hsm g (hJB g hg).2.1)⟩) hk0 hk1).mono ?_
  rintro e w' ⟨rfl, hm, hR⟩
  have hsz : κ.B ≤ w'.heap.size := by rw [hm.size]; exact h1.kept.size
  have hkept0 : Kept κ0 w' := by
    have h0 := kept_up hl h1.kept
    exact ⟨hm.os.trans h0.os, hm.tape.trans h0.tape, hm.output.trans h0.output, by rw [hm.size]; exact h0.size, fun g hg hM => (hm.block g fun hj => by have := (hJB g hj).1; omega).trans (h0.block g hg hM)⟩
  have hnone : ∀ kk : Key, η.val kk = none := h1.noVal hH1
  obtain ⟨s', hs', hk⟩ := next (lvl w') _ (m.level w') (lv_of hkept0) hsz (fun g hg hj => (hm.block g hj).trans (hsm g hg)) hR
  have hsim : Sim (lvl w') η ⟨mapAt (keepT ks) 0 s1.T, []⟩ a1 w' := by
    refine ⟨?_, h1.defers, fun id => ?_, fun id id' x x' g hx => by (rw [hnone id] at hx; cases hx), fun id => SubRep.none fun p => hnone _, ⟨rfl, rfl, rfl, Nat.le_refl _, fun _ _ _ => rfl⟩⟩
    · refine mapAt_rep 0 h1.tmps fun j p u hp hu hr => ?_
      rw [Nat.zero_add]
      unfold keepT
      split
      · rename_i hmem
        have hT : s1.T.getD j .undef = p := by simp [List.getD, hp]
        rcases hks j (memB_spec hmem) with hf | ⟨u', sz', es', D, e1, e2, e3⟩
        · rw [hT] at hf
          exact flat_keep hf hr
        · rw [hT] at e1
          subst e1
          have hu' : u = u' := by
            cases hr with
            | one h => cases h with
              | one h => cases h with
                | isv => rfl
                | imm h => cases h
          subst hu'
          refine .of1 (.isv _ _ _ (e2.mono fun g hg => ?_))
          obtain ⟨h3, h4⟩ := e3 g hg
          refine ⟨⟨Nat.lt_of_lt_of_le h3 hsz, ⟨.inl (Nat.lt_of_lt_of_le h3 hsz), fun x => x⟩, fun kk x hx => by rw [hnone kk] at hx; cases hx⟩, ?_⟩
          exact (hm.block g h4).trans (hsm g h3)
      · exact .of1 (.undef _)
    · have := h1.heap id
      rw [hH1] at this
      exact this
  exact rawOps_sound more (hsim.put o1.dst (.of (.int .i64 (k + n) (wrap64 (by omega) (by omega))))) hs' fun a' ha' => hk η a' w' (ha'.keepT (rawOps_H more (by cases o1.dst <;> rfl) hs') ks2)

theorem W2_markX (m : Mach P G κ X Y L) (hl : Lv κ κ0) {c0 : Code} {id : Nat} {ops : Array Oper} {o1 : Oper} {more : List Oper} (hc : c0 = .seq (.region id ops false) c) (p : Nat) (hops : ops.toList.drop p = o1 :: more) {f : FuncId} {x y : Nat} {ts : Array TypeId}
    (ho : o1.op = .call { callee := .value (.func f), args := #[.tmp x, .tmp y], argTypes := ts }) (hg : o1.guard = none) (hH : s.H = []) {s1 : St} (hpre : rawOps (ops.toList.take p) s = some s1)
    {v : Value} {sz : Nat} {es : List (List PV)} {k : Int} (hx : s1.T.getD x .undef = .isv v sz es) (hy : s1.T.getD y .undef = .int .i64 k) {J : Nat → Prop} (hJ : RepI κ.w0 J (.isl sz es) v)
    (hJB : ∀ g, J g → κ0.B ≤ g ∧ g < κ.B ∧ plain κ.w0 g) (hk0 : 0 ≤ k) {n : Nat} (hk1 : k + n ≤ 9000000000000000000) {R : World → Value → (Nat → Prop) → Int → Prop} (hok : MarkOk P f sz es n R) {sz' : Nat} {es' : List (List PV)} (hRx : ∀ w J, R w v J k → RepI w J (.isl sz' es') v) (xg : Nat) (hxg : s1.T.getD xg .undef = .isv v sz es)
    (ks ks2 : List Nat) (hks : ∀ i ∈ ks, flatV (s1.T.getD i .undef) = true ∨ ∃ u sz es D, s1.T.getD i .undef = .isv u sz es ∧ RepI κ.w0 D (.isl sz es) u ∧ ∀ g, D g → g < κ.B ∧ ¬ J g)
    (next : ∀ (κ' : Ctx) (L' : Code → (Ex → St → Prop) → St → Prop) (m' : Mach P G κ' X Y L') (hl' : Lv κ' κ0) (hB : κ.B ≤ κ'.B) (hsame : ∀ g, g < κ.B → ¬ J g → κ'.w0.heap[g]? = κ.w0.heap[g]?), RepI κ'.w0 J (.isl sz' es') v →
      ∃ s', rawOps more (St.put ⟨(mapAt (keepT ks) 0 s1.T).set xg (.isv v sz' es'), []⟩ o1.dst (.int .i64 (k + n))) = some s' ∧ W2 P κ' κ0 c r ⟨mapAt (keepT ks2) 0 s'.T, []⟩) : W2 P κ κ0 c0 r s := by
  subst hc
  have := m.z
  intro η a w h
  refine wp_seq ?_
  refine wp_region_list ?_
  rw [← List.take_append_drop p ops.toList, hops]
  refine rawOps_then _ h hpre fun a1 h1 => ?_
  unfold wpList
  rw [if_pos (by simp [Region.wanted, hg])]
  refine .inl ?_
  obtain ⟨hcall, hcon⟩ := hok
  have ex : a1.eval (.tmp x) = v := by
    have := h1.tmp x
    rw [hx] at this
    cases this with
    | one h => cases h with
      | one h => cases h with
        | isv => rfl
        | imm h => cases h
  have ey : a1.eval (.tmp y) = .int .i64 k := by
    have := h1.tmp y
    rw [hy] at this
    exact this.int.1
  have hH1 : s1.H = [] := rawOps_H _ hH hpre
  unfold Oper.wp
  rw [execOp_call ho hcall, Oper.upon_enter]
  have hargs : (#[Operand.tmp x, .tmp y].map a1.eval) = #[v, .int .i64 k] := by simp [ex, ey]
  rw [hargs]
  have hsm : ∀ g, g < κ.B → w.heap[g]? = κ.w0.heap[g]? := fun g hg => h1.kept.block g hg (hl.M g)
  have hJw : RepI w J (.isl sz es) v := hJ.mono fun g hg => ⟨hg, hsm g (hJB g hg).2.1⟩
  refine (hcon w J v k hJw (fun g hg => ⟨Nat.lt_of_lt_of_le (hJB g hg).2.1 h1.kept.size, (hJB g hg).2.2.keep (hsm g (hJB g hg).2.1)⟩) hk0 hk1).mono ?_
  rintro e w' ⟨rfl, hm, hR⟩
  have hsz : κ.B ≤ w'.heap.size := by rw [hm.size]; exact h1.kept.size
  have hkept0 : Kept κ0 w' := by
    have h0 := kept_up hl h1.kept
    exact ⟨hm.os.trans h0.os, hm.tape.trans h0.tape, hm.output.trans h0.output, by rw [hm.size]; exact h0.size, fun g hg hM => (hm.block g fun hj => by have := (hJB g hj).1; omega).trans (h0.block g hg hM)⟩
  have hnone : ∀ kk : Key, η.val kk = none := h1.noVal hH1
  obtain ⟨s', hs', hk⟩ := next (lvl w') _ (m.level w') (lv_of hkept0) hsz (fun g hg hj => (hm.block g hj).trans (hsm g hg)) (hRx _ _ hR)
  have hsim : Sim (lvl w') η ⟨mapAt (keepT ks) 0 s1.T, []⟩ a1 w' := by
    refine ⟨?_, h1.defers, fun id => ?_, fun id id' x x' g hx => by (rw [hnone id] at hx; cases hx), fun id => SubRep.none fun p => hnone _, ⟨rfl, rfl, rfl, Nat.le_refl _, fun _ _ _ => rfl⟩⟩
    · refine mapAt_rep 0 h1.tmps fun j p u hp hu hr => ?_
      rw [Nat.zero_add]
      unfold keepT
      split
      · rename_i hmem
        have hT : s1.T.getD j .undef = p := by simp [List.getD, hp]
        rcases hks j (memB_spec hmem) with hf | ⟨u', sz', es', D, e1, e2, e3⟩
        · rw [hT] at hf
          exact flat_keep hf hr
        · rw [hT] at e1
          subst e1
          have hu' : u = u' := by
            cases hr with
            | one h => cases h with
              | one h => cases h with
                | isv => rfl
                | imm h => cases h
          subst hu'
          refine .of1 (.isv _ _ _ (e2.mono fun g hg => ?_))
          obtain ⟨h3, h4⟩ := e3 g hg
          refine ⟨⟨Nat.lt_of_lt_of_le h3 hsz, ⟨.inl (Nat.lt_of_lt_of_le h3 hsz), fun x => x⟩, fun kk x hx => by rw [hnone kk] at hx; cases hx⟩, ?_⟩
          exact (hm.block g h4).trans (hsm g h3)
      · exact .of1 (.undef _)
    · have := h1.heap id
      rw [hH1] at this
      exact this
  have hsim2 : Sim (lvl w') η ⟨(mapAt (keepT ks) 0 s1.T).set xg (.isv v sz' es'), []⟩ a1 w' := by
    refine ⟨?_, hsim.defers, hsim.heap, hsim.apart, hsim.sub, hsim.kept⟩
    have hrx := hRx _ _ hR
    have h2 := hsim.tmps.set xg (Rep.of1 (η := η) (Rep1.isv v sz' es' (hrx.weak (I' := imm (lvl w') η w') fun g hg => ⟨Nat.lt_of_lt_of_le (hJB g hg).2.1 hsz, ⟨.inl (Nat.lt_of_lt_of_le (hJB g hg).2.1 hsz), fun x => x⟩, fun kk x hx => by rw [hnone kk] at hx; cases hx⟩)))
    have e : a1.tmps.toList.set xg v = a1.tmps.toList := by
      apply List.ext_getElem?
      intro i
      rw [List.getElem?_set]
      split
      · rename_i e
        subst e
        split
        · rename_i hlt
          have := h1.tmp xg
          rw [hxg] at this
          have hv : a1.tmps.getD xg Go.undef = v := by
            cases this with
            | one h => cases h with
              | one h => cases h with
                | isv => rfl
                | imm h => cases h
          rw [← hv]
          simp only [Array.length_toList] at hlt
          simp [Array.getD_eq_getD_getElem?, hlt]
        · rename_i h; exact (List.getElem?_eq_none (by simpa using h)).symm
      · rfl
    rw [e] at h2
    exact h2
  exact rawOps_sound more (hsim2.put o1.dst (.of (.int .i64 (k + n) (wrap64 (by omega) (by omega))))) hs' fun a' ha' => hk η a' w' (ha'.keepT (rawOps_H more (by cases o1.dst <;> rfl) hs') ks2)

/-! ### What is known of the slices, from level to level -/
theorem low_move {w w' : World} {b : Nat} {p : PV} {v : Value} (h : RepI w (fun g => g < b) p v) (hs : ∀ g, g < b → w'.heap[g]? = w.heap[g]?) : RepI w' (fun g => g < b) p v := h.mono fun g hg => ⟨hg, hs g hg⟩
def seg (w : World) (lo hi : Nat) (g : Nat) : Prop := lo ≤ g ∧ g < hi ∧ plain w g
theorem seg_move {w w' : World} {lo hi : Nat} {p : PV} {v : Value} (h : RepI w (seg w lo hi) p v) (hs : ∀ g, lo ≤ g → g < hi → w'.heap[g]? = w.heap[g]?) : RepI w' (seg w' lo hi) p v :=
  h.mono fun g hg => ⟨⟨hg.1, hg.2.1, hg.2.2.keep (hs g hg.1 hg.2.1)⟩, hs g hg.1 hg.2.1⟩

theorem PinR.inv3 {w : World} {D : Nat → Prop} {sz : Nat} {es : List (List PV)} {k : IntKind} {n : Int} {b : Bool} {q : PV} {v : Value} (h : PinR w D (.tup [.isl sz es, .int k n, .bool b]) q v) : ∃ u, q = .tup [.isv u sz es, .int k n, .bool b] ∧ RepI w D (.isl sz es) u := by
  cases h with
  | triple _ _ _ _ _ u h => exact ⟨u, rfl, h⟩

theorem PinR.inv {w : World} {D : Nat → Prop} {sz : Nat} {es : List (List PV)} {b : Bool} {q : PV} {v : Value} (h : PinR w D (.tup [.isl sz es, .bool b]) q v) : ∃ u, q = .tup [.isv u sz es, .bool b] ∧ RepI w D (.isl sz es) u := by
  cases h with
  | pair _ _ _ u h => exact ⟨u, rfl, h⟩

end
end Go.Proofs.Ytkdaikliahnenab.Ai
