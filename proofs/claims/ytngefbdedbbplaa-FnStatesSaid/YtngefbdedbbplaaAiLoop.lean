/- Loops: what is kept at the head, and the rule. -/
import Derived.Test.YtngefbdedbbplaaAiFn
set_option linter.unusedSectionVars false
namespace Go.Proofs.Ytngefbdedbbplaa.Ai
open Go Go.RowKit
set_option linter.unusedVariables false
set_option linter.unusedSimpArgs false

section
variable {P : Program} {κ : Ctx} [NoZ κ] {η : Own} {s : St} {a : Act} {w : World}

def findHold (id : Nat) : List Hold → Option Hold
  | [] => none
  | k :: r => if k.key = id then some k else findHold id r

theorem findHold_mem {id : Nat} {k : Hold} : ∀ {own : List Hold}, findHold id own = some k → k ∈ own ∧ k.key = id
  | j :: r, h => by
    simp only [findHold] at h
    split at h
    · rename_i e
      obtain rfl := Option.some.inj h
      exact ⟨by simp, e⟩
    · obtain ⟨h1, h2⟩ := findHold_mem h
      exact ⟨by simp [h1], h2⟩

theorem norm_get (f : Hold → Body) (id : Nat) : ∀ own : List Hold, Heap.get (own.map fun k => (k.key, 0, f k)) id = (0, match findHold id own with | some k => f k | none => .dead)
  | [] => rfl
  | k :: r => by
    simp only [List.map_cons, Heap.get, findHold]
    by_cases e : k.key = id
    · simp [e]
    · simp only [if_neg e]
      exact norm_get f id r

theorem holdApart_spec {k : Hold} : ∀ {r : List Hold}, holdApart s k r = true → ∀ j ∈ r, k.key ≠ j.key ∧ ∀ i v i' v', refOf (holdVal s k) = some (i, v) → refOf (holdVal s j) = some (i', v') → i ≠ i'
  | [], _, j, hj => by cases hj
  | j' :: r, h, j, hj => by
    simp only [holdApart] at h
    split at h
    case isTrue => cases h
    rename_i hk
    have rest : holdApart s k r = true := by
      split at h
      · split at h
        · cases h
        · exact h
      · exact h
    rcases List.mem_cons.1 hj with rfl | hj
    · refine ⟨hk, fun i v i' v' h1 h2 e => ?_⟩
      rw [h1, h2] at h
      simp only [e, if_true] at h
      cases h
    · exact holdApart_spec rest j hj

theorem normOk_spec : ∀ {own : List Hold}, normOk s own = true → (∀ k ∈ own, holdOk s k = true) ∧
    (∀ k ∈ own, ∀ j ∈ own, k.key = j.key → k = j) ∧ (∀ k ∈ own, ∀ j ∈ own, ∀ i v v', refOf (holdVal s k) = some (i, v) → refOf (holdVal s j) = some (i, v') → k = j)
  | [], _ => ⟨fun k hk => by (cases hk), fun k hk => by (cases hk), fun k hk => by (cases hk)⟩
  | k :: r, h => by
    simp only [normOk, Bool.and_eq_true] at h
    obtain ⟨⟨h1, h2⟩, h3⟩ := h
    obtain ⟨k1, k2, k3⟩ := normOk_spec h3
    have hs := holdApart_spec h2
    refine ⟨fun j hj => ?_, fun j hj l hl e => ?_, fun j hj l hl i v v' e1 e2 => ?_⟩
    · rcases List.mem_cons.1 hj with rfl | hj
      · exact h1
      · exact k1 j hj
    · rcases List.mem_cons.1 hj with rfl | hj' <;> rcases List.mem_cons.1 hl with rfl | hl'
      · rfl
      · exact absurd e (hs l hl').1
      · exact absurd e.symm (hs j hj').1
      · exact k2 j hj' l hl' e
    · rcases List.mem_cons.1 hj with rfl | hj' <;> rcases List.mem_cons.1 hl with rfl | hl'
      · rfl
      · exact absurd rfl ((hs l hl').2 i v i v' e1 e2)
      · exact absurd rfl ((hs j hj').2 i v' i v e2 e1)
      · exact k3 j hj' l hl' i v v' e1 e2

/-- What a hold stands for: nothing yet, or an object that lives. -/
theorem hold_val (h : Sim κ η s a w) {k : Hold} (hk : holdOk s k = true) :
    holdVal s k = .nil ∨ ∃ id ver b x, refOf (holdVal s k) = some (id, ver) ∧ s.H.get id = (ver, b) ∧ b ≠ .dead ∧ η.val id = some x := by
  unfold holdOk at hk
  split at hk
  · rename_i ht
    exact .inl ht
  · rename_i id ver ht
    split at hk
    case h_4 => cases hk
    case h_3 =>
      rename_i v' es he
      split at hk
      case isFalse => cases hk
      rename_i ev
      subst ev
      have hob := h.heap id
      rw [he] at hob
      obtain ⟨_, g, _, _, _, hval, _⟩ := hob
      exact .inr ⟨id, v', _, _, by rw [ht]; rfl, he, by simp, hval⟩
    all_goals
      rename_i v' e sz es he
      split at hk
      case isFalse => cases hk
      rename_i ev
      subst ev
      have hob := h.heap id
      rw [he] at hob
      obtain ⟨_, v, vals, hval, _⟩ := hob
      exact .inr ⟨id, v', _, v, by rw [ht]; rfl, he, by simp, hval⟩
  · rename_i id ver sz ht
    split at hk
    case h_3 => cases hk
    · rename_i v' cs he
      split at hk
      case isFalse => cases hk
      rename_i ev
      subst ev
      have hob := h.heap id
      rw [he] at hob
      obtain ⟨_, g, arr, e, hval, _⟩ := hob
      exact .inr ⟨id, v', _, _, by rw [ht]; rfl, he, by simp, hval⟩
    · rename_i v' b pos he
      split at hk
      case isFalse => cases hk
      rename_i ev
      subst ev
      have hob := h.heap id
      rw [he] at hob
      obtain ⟨_, g, hval, _⟩ := hob
      exact .inr ⟨id, v', _, _, by rw [ht]; rfl, he, by simp, hval⟩
  · cases hk

theorem keyOf_spec {id ver key : Nat} : ∀ {own : List Hold}, keyOf s own id ver = some key → ∃ k ∈ own, refOf (holdVal s k) = some (id, ver) ∧ k.key = key
  | k :: r, h => by
    simp only [keyOf] at h
    have rest : keyOf s r id ver = some key → ∃ k' ∈ k :: r, refOf (holdVal s k') = some (id, ver) ∧ k'.key = key := fun h => by
      obtain ⟨j, h1, h2⟩ := keyOf_spec h
      exact ⟨j, by simp [h1], h2⟩
    split at h
    · rename_i i v hr
      split at h
      · rename_i e
        split at h
        · rename_i e'
          subst e e'
          exact ⟨k, by simp, hr, Option.some.inj h⟩
        · exact rest h
      · exact rest h
    · exact rest h

def heldVal (s : St) (η : Own) (k : Hold) : Option Value :=
  match refOf (holdVal s k) with
  | some (id, _) => η.val id
  | none => some (.slice none 0 0)

def Key.on : Key → Nat → Key
  | .o _, id => .o id
  | .n _ p, id => .n id p
theorem Key.on_id (k : Key) (i : Nat) : (k.on i).id = i := by cases k <;> rfl
theorem Key.on_inj {a b : Key} {i j : Nat} (h : a.on i = b.on j) (e : a.id = b.id) : a = b := by
  cases a <;> cases b <;> simp only [Key.on, Key.o.injEq, Key.n.injEq, reduceCtorEq] at h
  · exact congrArg Key.o e
  · obtain ⟨_, rfl⟩ := h; obtain rfl := (show _ = _ from e); rfl
def heldValK (s : St) (η : Own) (k : Hold) (key : Key) : Option Value :=
  match refOf (holdVal s k) with
  | some (id, _) => η.val (key.on id)
  | none => match key with
    | .o _ => some (.slice none 0 0)
    | .n _ _ => none
theorem heldValK_o (s : St) (η : Own) (k : Hold) (i : Nat) : heldValK s η k (.o i) = heldVal s η k := by
  unfold heldValK heldVal
  cases refOf (holdVal s k) <;> rfl
def normOwn (own : List Hold) (s : St) (η : Own) : Own := ⟨fun _ => 0, fun key => match findHold key.id own with | some k => heldValK s η k key | none => none⟩
theorem normOwn_some {own : List Hold} {s : St} {η : Own} {key : Key} {k : Hold} (h : findHold key.id own = some k) : (normOwn own s η).val key = heldValK s η k key := by
  simp only [normOwn, h]
theorem normOwn_none {own : List Hold} {s : St} {η : Own} {key : Key} (h : findHold key.id own = none) : (normOwn own s η).val key = none := by
  simp only [normOwn, h]

theorem findHold_in {k : Hold} : ∀ {own : List Hold}, k ∈ own → findHold k.key own ≠ none
  | [], hk => by cases hk
  | j :: r, hk => by
    intro e
    simp only [findHold] at e
    split at e
    · cases e
    · rcases List.mem_cons.1 hk with rfl | hk
      · rename_i hne; exact hne rfl
      · exact findHold_in hk e

theorem normOwn_val {own : List Hold} (hkeys : ∀ k ∈ own, ∀ j ∈ own, k.key = j.key → k = j) {k : Hold} (hm : k ∈ own) : (normOwn own s η).val k.key = heldVal s η k := by
  cases hf : findHold k.key own with
  | none => exact absurd hf (findHold_in hm)
  | some j =>
    obtain ⟨hj, hjk⟩ := findHold_mem hf
    rw [normOwn_some (key := .o k.key) hf, heldValK_o, hkeys j hj k hm hjk]

theorem ren1_rep (h : Sim κ η s a w) {own : List Hold} (hok : normOk s own = true) (hI : ∀ g, imm κ η w g → imm κ (normOwn own s η) w g) {p : PV} {c : Value} (hr : Rep1 w (imm κ η w) η p c) :
    Rep1 w (imm κ (normOwn own s η) w) (normOwn own s η) (ren1 s own p) c := by
  obtain ⟨ho, hkeys, hids⟩ := normOk_spec hok
  -- a reference that is kept is one to an object that lives
  have live : ∀ id ver key, keyOf s own id ver = some key → ∃ x, η.val id = some x ∧ ver = η.cur id ∧ (normOwn own s η).val key = some x := fun id ver key hk => by
    obtain ⟨k, hm, hrf, rfl⟩ := keyOf_spec hk
    have hval : (normOwn own s η).val k.key = heldVal s η k := normOwn_val hkeys hm
    rcases hold_val h (ho k hm) with hn | ⟨id', ver', b, x, hrf', hg, hb, hv⟩
    · rw [hn] at hrf; cases hrf
    · rw [heldVal, hrf] at hval
      rw [hrf] at hrf'
      simp only [Option.some.injEq, Prod.mk.injEq] at hrf'
      obtain ⟨rfl, rfl⟩ := hrf'
      have := (h.heap id).ver
      rw [hg] at this
      exact ⟨_, hv, this.symm, hval.trans hv⟩
  cases hr with
  | undef => exact .undef _
  | skip => exact .skip
  | isv u sz es hr => exact .isv _ sz es (hr.weak hI)
  | fno f caps vs hc =>
    simp only [ren1]
    refine .fno f _ vs (All2.mapl (fun p c x => ?_) hc)
    cases x with
    | undef => simp only [renCap, PV.pure]; exact .undef _
    | imm hr =>
      have : renCap s own p = p := by cases hr <;> simp [renCap, PV.pure]
      rw [this]
      exact .imm (hr.weak hI)
    | optr id ver sz i off c hv hc =>
      simp only [renCap]
      split
      · rename_i key hk
        obtain ⟨x, hx, hver, hval⟩ := live id ver key hk
        refine .optr _ _ _ _ _ _ (Nat.le_refl _) fun _ y hy => ?_
        rw [hval] at hy
        obtain rfl := Option.some.inj hy
        exact hc hver _ hx
      · exact .undef _
  | imm hr =>
    have hp : p.pure = true := by cases hr <;> rfl
    have : ren1 s own p = p := by
      cases hr <;> simp [ren1, PV.pure]
    rw [this]
    exact .imm (hr.weak hI)
  | osl id ver c hv hc =>
    simp only [ren1]
    split
    · rename_i key hk
      obtain ⟨x, hx, hver, hval⟩ := live id ver key hk
      refine .osl _ _ _ (Nat.le_refl _) fun _ y hy => ?_
      rw [hval] at hy
      obtain rfl := Option.some.inj hy
      exact hc hver _ hx
    · exact .undef _
  | bsl => exact .undef _
  | vsl => exact .undef _
  | bptr => exact .undef _
  | optr id ver sz i off c hv hc =>
    simp only [ren1]
    split
    · rename_i key hk
      obtain ⟨x, hx, hver, hval⟩ := live id ver key hk
      refine .optr _ _ _ _ _ _ (Nat.le_refl _) fun _ y hy => ?_
      rw [hval] at hy
      obtain rfl := Option.some.inj hy
      exact hc hver _ hx
    · exact .undef _

theorem ren_rep (h : Sim κ η s a w) {own : List Hold} (hok : normOk s own = true) (hI : ∀ g, imm κ η w g → imm κ (normOwn own s η) w g) {p : PV} {c : Value} (hr : Rep w (imm κ η w) η p c) :
    Rep w (imm κ (normOwn own s η) w) (normOwn own s η) (ren s own p) c := by
  cases hr with
  | one hr => cases hr with
    | one hr =>
      have : ren s own p = ren1 s own p := by
        cases hr with
        | imm hr => cases hr <;> rfl
        | _ => rfl
      rw [this]
      exact .of1 (ren1_rep h hok hI hr)
    | agg cs vs hr => exact .one (.agg _ _ (All2.mapl (fun p c x => ren1_rep h hok hI x) hr))
  | tup cs vs hr => exact .of1 (by simp only [ren, ren1, PV.pure]; exact .undef _)

theorem mapAt_rep {R S : PV → Value → Prop} {f : Nat → PV → PV} : ∀ {ps : List PV} {vs : List Value} (i : Nat), All2 R ps vs → (∀ j p v, ps[j]? = some p → vs[j]? = some v → R p v → S (f (i + j) p) v) → All2 S (mapAt f i ps) vs
  | _, _, _, .nil, _ => .nil
  | _, _, i, .cons p q, h => .cons (by simpa using h 0 _ _ (by simp) (by simp) p) (mapAt_rep (i + 1) q fun j p v hp hv hr => by
    have := h (j + 1) p v (by simpa using hp) (by simpa using hv) hr
    rw [show i + 1 + j = i + (j + 1) by omega]
    exact this)

theorem holdAt_spec {i c key : Nat} : ∀ {own : List Hold}, holdAt i c own = some key → ∃ k ∈ own, k.slot = i ∧ k.cell = c ∧ k.key = key
  | k :: r, h => by
    simp only [holdAt] at h
    have rest : holdAt i c r = some key → ∃ k' ∈ k :: r, k'.slot = i ∧ k'.cell = c ∧ k'.key = key := fun h => by
      obtain ⟨j, h1, h2⟩ := holdAt_spec h
      exact ⟨j, by simp [h1], h2⟩
    split at h
    · rename_i e
      split at h
      · rename_i e'
        exact ⟨k, by simp, e, e', Option.some.inj h⟩
      · exact rest h
    · exact rest h

/-- A nil slice that is held becomes an own row. -/
theorem nil_rep {own : List Hold} (hok : normOk s own = true) {I : Nat → Prop} {k : Hold} (hk : k ∈ own) (hn : holdVal s k = .nil) : Rep1 w I (normOwn own s η) (.osl k.key 0) (.slice none 0 0) := by
  obtain ⟨_, hkeys, _⟩ := normOk_spec hok
  refine .osl _ _ _ (Nat.le_refl _) fun _ y hy => ?_
  rw [normOwn_val hkeys hk, heldVal, hn] at hy
  exact Option.some.inj hy

theorem nestAt_rep (h : Sim κ η s a w) {own : List Hold} (hok : normOk s own = true) (hI : ∀ g, imm κ η w g → imm κ (normOwn own s η) w g) {slot id ver sz : Nat} {cs : List PV}
    (ht : s.T.getD slot .undef = .optr id ver sz 0 0) (hb : s.H.get id = (ver, .box cs)) {j : Nat} {p : PV} {c : Value} (hp : cs[j]? = some p) (hr : Rep1 w (imm κ η w) η p c) :
    Rep1 w (imm κ (normOwn own s η) w) (normOwn own s η) (nestAt s own slot j p) c := by
  unfold nestAt
  split
  · rename_i key hka
    obtain ⟨k, hk, hsl, hce, rfl⟩ := holdAt_spec hka
    split
    · have hn : holdVal s k = .nil := by
        unfold holdVal
        rw [hce]
        simp only
        rw [hsl, ht]
        simp [boxCell, hb, List.getD, hp]
      cases hr with
      | imm hr =>
        cases hr
        exact nil_rep hok hk hn
    · exact ren1_rep h hok hI hr
  · exact ren1_rep h hok hI hr

theorem Sim.norm (h : Sim κ η s a w) (keep : List Nat) {own : List Hold} (hok : normOk s own = true) (hrecv : ∀ k ∈ own, κ.lent k.key = none ∨ refOf (holdVal s k) = some (k.key, 0)) :
    Sim κ (normOwn own s η) (Ai.norm keep own s) a w := by
  obtain ⟨ho, hkeys, hids⟩ := normOk_spec hok
  have hvals : ∀ (id : Key) x, (normOwn own s η).val id = some x → ∃ k ∈ own, k.key = id.id ∧ heldValK s η k id = some x := fun id x hx => by
    simp only [normOwn] at hx
    split at hx
    · rename_i k hf
      obtain ⟨hk, e⟩ := findHold_mem hf
      exact ⟨k, hk, e, hx⟩
    · cases hx
  have hheld : ∀ k ∈ own, ∀ (key : Key) x g, heldValK s η k key = some x → headOf x = some g → ∃ id ver, refOf (holdVal s k) = some (id, ver) ∧ η.val (key.on id) = some x := fun k hk key x g hx he => by
    rcases hold_val h (ho k hk) with hn | ⟨id', ver', b, y, hrf, _, _, hv⟩
    · unfold heldValK at hx
      rw [hn] at hx
      cases key with
      | o i =>
        obtain rfl := Option.some.inj hx
        cases he
      | n i p => cases hx
    · unfold heldValK at hx
      rw [hrf] at hx
      exact ⟨id', ver', hrf, hx⟩
  have hI : ∀ g, imm κ η w g → imm κ (normOwn own s η) w g := fun g hg => ⟨hg.1, hg.2.1, fun id x hx he => by
    obtain ⟨k, hk, _, hx⟩ := hvals id x hx
    obtain ⟨id', ver', _, hv⟩ := hheld k hk id x g hx he
    exact hg.2.2 _ _ hv he⟩
  refine ⟨?_, h.defers, fun id => ?_, fun id id' x x' g hx hx' he he' => ?_, fun id p v hp => ?_, h.kept⟩
  · refine mapAt_rep 0 h.tmps fun j p v hp hv hr => ?_
    rw [Nat.zero_add]
    unfold normAt
    split
    · rename_i key hka
      obtain ⟨k, hk, hsl, hce, rfl⟩ := holdAt_spec hka
      split
      · have hn : holdVal s k = .nil := by
          unfold holdVal
          rw [hce]
          simp [List.getD, hsl, hp]
        have hvn := hr.nil
        rw [hvn]
        exact .of1 (nil_rep hok hk hn)
      · exact ren_rep h hok hI hr
    · split
      · exact ren_rep h hok hI hr
      · exact .of1 (.undef _)
  · simp only [Ai.norm]
    rw [norm_get]
    cases hf : findHold id own with
    | none => exact ⟨rfl, normOwn_none hf⟩
    | some k =>
      obtain ⟨hk, hkid⟩ := findHold_mem hf
      have hval : (normOwn own s η).val id = heldVal s η k := by rw [normOwn_some (key := .o id) hf, heldValK_o]
      have hsubv : ∀ p, (normOwn own s η).val (.n id p) = heldValK s η k (.n id p) := fun p => normOwn_some (key := .n id p) hf
      simp only
      have hlow' : holdVal s k = .nil → ∀ u, κ.lent id = some u → (0 : Nat) = 0 → Value.slice none 0 0 = u := fun hn u hu _ => by
        rcases hrecv k hk with e | e
        · rw [hkid] at e; rw [e] at hu; cases hu
        · rw [hn] at e; cases e
      have hside : ∀ {id' ver' : Nat} (v : Value), refOf (holdVal s k) = some (id', ver') → Side κ id' ver' v → ∀ u, κ.lent id = some u → (0 : Nat) = 0 → v = u := fun v hrf hs u hu _ => by
        rcases hrecv k hk with e | e
        · rw [hkid] at e; rw [e] at hu; cases hu
        · rw [hrf] at e
          obtain ⟨e1, e2⟩ := Prod.mk.inj (Option.some.inj e)
          exact hs.same u (by rw [e1, hkid]; exact hu) e2
      rcases hold_val h (ho k hk) with hn | ⟨id', ver', b, x, hrf, hg, hb, hv⟩
      · have : holdBody s own k = if k.e < 1000000 then .row k.e k.sz [] else .tree (k.e - 1000000) k.sz [] := by unfold holdBody; rw [hn]
        rw [this]
        split
        · exact ⟨rfl, _, [], by rw [hval, heldVal, hn]; rfl, ⟨World.ownsRow_nil w 0 k.e k.sz, (fun g hg => by cases hg), hlow' hn⟩, .nil, by simp⟩
        · exact ⟨rfl, _, [], by rw [hval, heldVal, hn]; rfl, ⟨World.ownsRow_nil w 0 (k.e - 1000000) k.sz, (fun g hg => by cases hg), hlow' hn⟩, ⟨rfl, fun p c u hp => by simp at hp⟩, by simp⟩
      · rw [heldVal, hrf] at hval
        simp only at hval
        have hnn : holdVal s k ≠ .nil := fun e => by rw [e] at hrf; cases hrf
        have hb' : holdBody s own k = (match b with | .box cs => .box (if k.cell = 0 then mapAt (nestAt s own k.slot) 0 cs else cs.map (ren1 s own)) | b => b) := by
          unfold holdBody
          split
          · rename_i e; exact absurd e hnn
          · rw [hrf]
            simp only [hg]
            cases b <;> rfl
        rw [hb']
        have hob := h.heap id'
        rw [hg] at hob
        cases b with
        | dead => exact absurd rfl hb
        | box cs =>
          obtain ⟨_, g, arr, e, h2, h3, h4, h5⟩ := hob
          refine ⟨rfl, g, arr, e, by rw [hval]; exact h2, h3, ?_, ?_⟩
          · by_cases hc : k.cell = 0
            · rw [if_pos hc]
              have hsv : ∃ sz, s.T.getD k.slot .undef = .optr id' ver' sz 0 0 ∨ s.T.getD k.slot .undef = .osl id' ver' := by
                unfold holdVal at hrf
                rw [hc] at hrf
                simp only at hrf
                unfold refOf at hrf
                split at hrf
                · rename_i e1
                  simp only [Option.some.injEq, Prod.mk.injEq] at hrf
                  obtain ⟨rfl, rfl⟩ := hrf
                  exact ⟨0, .inr e1⟩
                · rename_i e1
                  simp only [Option.some.injEq, Prod.mk.injEq] at hrf
                  obtain ⟨rfl, rfl⟩ := hrf
                  exact ⟨_, .inl e1⟩
                · cases hrf
              obtain ⟨sz, ht | ht⟩ := hsv
              · exact mapAt_rep 0 h4 fun j p v hp hv' hr => by rw [Nat.zero_add]; exact nestAt_rep h hok hI ht hg hp hr
              · -- a slice is not held by a box
                have hok' := ho k hk
                unfold holdOk holdVal at hok'
                rw [hc] at hok'
                simp only [ht, hg] at hok'
                cases hok'
            · rw [if_neg hc]
              exact All2.mapl (fun p c x => ren1_rep h hok hI x) h4
          · exact h5.re (hside _ hrf h5)
        | row e sz es =>
          obtain ⟨_, v, vals, h2, h3, h4, h5⟩ := hob
          exact ⟨rfl, v, vals, by rw [hval]; exact h2, h3.re (hside _ hrf h3.side), h4.weak hI, h5⟩
        | iter b pos =>
          obtain ⟨_, g, h2, h3, h4⟩ := hob
          exact ⟨rfl, g, by rw [hval]; exact h2, h3, h4⟩
        | map es =>
          obtain ⟨_, g, ents, clock, ks, h2, h3, h4⟩ := hob
          exact ⟨rfl, g, ents, clock, ks, by rw [hval]; exact h2, h3, h4⟩
        | tree e sz es =>
          obtain ⟨_, v, vals, h2, h3, h4, h5⟩ := hob
          refine ⟨rfl, v, vals, by rw [hval]; exact h2, h3.re (hside _ hrf h3.side), ⟨h4.1, fun p c u hp hu => ?_⟩, h5⟩
          exact (h4.2 p c u hp hu).move (by rw [hsubv]; unfold heldValK; rw [hrf]; rfl) hI
        | wild e sz es =>
          exfalso
          have hk' := ho k hk
          unfold holdOk at hk'
          generalize holdVal s k = hv0 at hk' hrf
          unfold refOf at hrf
          split at hrf
          · simp only [Option.some.injEq, Prod.mk.injEq] at hrf
            obtain ⟨rfl, rfl⟩ := hrf
            simp only [hg] at hk'
            cases hk'
          · simp only [Option.some.injEq, Prod.mk.injEq] at hrf
            obtain ⟨rfl, rfl⟩ := hrf
            simp only [hg] at hk'
            cases hk'
          · cases hrf
  · obtain ⟨k, hk, e1, hx⟩ := hvals id x hx
    obtain ⟨k', hk', e2, hx'⟩ := hvals id' x' hx'
    obtain ⟨i, v, hr, hv⟩ := hheld k hk id x g hx he
    obtain ⟨i', v', hr', hv'⟩ := hheld k' hk' id' x' g hx' he'
    have hon := h.apart _ _ _ _ g hv hv' he he'
    have hii : i = i' := by rw [← Key.on_id id i, hon, Key.on_id]
    subst hii
    have := hids k hk k' hk' i v v' hr hr'
    exact Key.on_inj hon (by rw [← e1, ← e2, this])
  · simp only [Ai.norm]
    rw [norm_get]
    cases hf : findHold id own with
    | none => rw [normOwn_none (key := .n id p) hf] at hp; cases hp
    | some k =>
      obtain ⟨hk, hkid⟩ := findHold_mem hf
      rw [normOwn_some (key := .n id p) hf] at hp
      unfold heldValK at hp
      rcases hold_val h (ho k hk) with hn | ⟨id', ver', b, x, hrf, hg, hb, hv⟩
      · rw [hn] at hp; cases hp
      · rw [hrf] at hp
        obtain ⟨es, e', sz', es', he, hpp⟩ := h.sub id' p v hp
        rw [hg] at he
        simp only at he
        have hnn : holdVal s k ≠ .nil := fun e => by rw [e] at hrf; cases hrf
        have hb' : holdBody s own k = b := by
          unfold holdBody
          split
          · rename_i e; exact absurd e hnn
          · rw [hrf]
            simp only [hg]
            rcases nest_cases he with ⟨e, sz, rfl⟩ | ⟨e, sz, rfl⟩ <;> rfl
        simp only [hb']
        exact ⟨es, e', sz', es', he, hpp⟩

def recvOk (s : St) : List Hold → Bool
  | [] => true
  | k :: r => (if k.key < 8 then if k.key = 0 then true else match refOf (holdVal s k) with
      | some (id, ver) => if id = k.key then if ver = 0 then true else false else false
      | none => false
    else true) && recvOk s r

theorem recvOk_spec [NoZ κ] : ∀ {own : List Hold}, recvOk s own = true → ∀ k ∈ own, κ.lent k.key = none ∨ refOf (holdVal s k) = some (k.key, 0)
  | j :: r, h, k, hk => by
    simp only [recvOk, Bool.and_eq_true] at h
    rcases List.mem_cons.1 hk with rfl | hk
    · have h1 := h.1
      split at h1
      · split at h1
        · rename_i e; exact .inl (NoZ.low _ (.inl e))
        · split at h1
          · rename_i id ver hr
            split at h1
            case isFalse => cases h1
            rename_i e1
            split at h1
            case isFalse => cases h1
            rename_i e2
            exact .inr (by rw [hr, e1, e2])
          · cases h1
      · exact .inl (NoZ.low _ (.inr (by omega)))
    · exact recvOk_spec h.2 k hk

/-- The state at a loop's head: what is kept of 's', and that it may be. -/
def headOk (s : St) (own : List Hold) : Bool := normOk s own && recvOk s own

/-- The rule for a loop: an invariant on normal states, with a number that falls. -/
theorem W_loop {body : Code} {Q : Ex → St → Prop} (keep : List Nat) (own : List Hold) (Inv : Nat → St → Prop) (n0 : Nat) (h0 : headOk s own = true ∧ Inv n0 (Ai.norm keep own s))
    (step : ∀ n s, Inv n s → W P κ body (fun e s' => match e with | .normal => headOk s' own = true ∧ ∃ n', n' < n ∧ Inv n' (Ai.norm keep own s') | e => Q e s') s) : W P κ (.loop body) Q s := by
  intro η a w h
  have go : ∀ {η : Own} {s : St} {a : Act} {w : World}, Sim κ η s a w → headOk s own = true → ∃ η', Sim κ η' (Ai.norm keep own s) a w := fun h hk => by
    simp only [headOk, Bool.and_eq_true] at hk
    exact ⟨_, h.norm keep hk.1 (recvOk_spec hk.2)⟩
  obtain ⟨η0, hs0⟩ := go h h0.1
  refine wp_loop_ghost (fun n a w => ∃ η s, Sim κ η s a w ∧ Inv n s) n0 ⟨η0, _, hs0, h0.2⟩ ?_
  rintro n a w ⟨η, s, hs, hI⟩
  refine Go.wp_mono (step n s hI η a w hs) fun e a' w' hq => ?_
  cases e with
  | normal =>
    obtain ⟨η', s', hs', hk, n', hlt, hI'⟩ := hq
    obtain ⟨η2, hs2⟩ := go hs' hk
    exact ⟨n', hlt, η2, _, hs2, hI'⟩
  | exit i => exact hq
  | ret => exact hq
  | goto l => exact hq.elim
  | panic ch => exact hq.elim
  | outgrown => exact hq.elim

end
end Go.Proofs.Ytngefbdedbbplaa.Ai
