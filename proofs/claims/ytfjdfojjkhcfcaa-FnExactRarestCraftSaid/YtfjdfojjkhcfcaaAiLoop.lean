/- Loops: what is kept at the head, and the rule. -/
import Derived.Test.YtfjdfojjkhcfcaaAiFn
set_option linter.unusedSectionVars false
namespace Go.Proofs.Ytfjdfojjkhcfcaa.Ai
open Go Go.RowKit

section
variable {P : Program} {κ : Ctx} [NoZ κ] {η : Own} {s : St} {a : Act} {w : World}

def findHold (id : Nat) : List Hold → Option Hold
  | [] => none
  | k :: r => if k.key = id then some k else findHold id r

theorem findHold_mem {id : Nat} {k : Hold} : ∀ {own : List Hold}, findHold id own = some k → k ∈ own ∧ k.key = id
  | j :: r, h => by
    simp only [findHold] at h
    split at h
    · rename_i e
      obtain rfl := Option.some.inj h
      exact ⟨by simp, e⟩
    · obtain ⟨h1, h2⟩ := findHold_mem h
      exact ⟨by simp [h1], h2⟩

theorem norm_get (f : Hold → Body) (id : Nat) : ∀ own : List Hold, Heap.get (own.map fun k => (k.key, 0, f k)) id = (0, match findHold id own with | some k => f k | none => .dead)
  | [] => rfl
  | k :: r => by
    simp only [List.map_cons, Heap.get, findHold]
    by_cases e : k.key = id
    · simp [e]
    · simp only [if_neg e]
      exact norm_get f id r

theorem holdApart_spec {k : Hold} : ∀ {r : List Hold}, holdApart s k r = true → ∀ j ∈ r, k.key ≠ j.key ∧ ∀ i v i' v', refOf (s.T.getD k.slot .undef) = some (i, v) → refOf (s.T.getD j.slot .undef) = some (i', v') → i ≠ i'
  | [], _, j, hj => by cases hj
  | j' :: r, h, j, hj => by
    simp only [holdApart] at h
    split at h
    case isTrue => cases h
    rename_i hk
    have rest : holdApart s k r = true := by
      split at h
      · split at h
        · cases h
        · exact h
      · exact h
    rcases List.mem_cons.1 hj with rfl | hj
    · refine ⟨hk, fun i v i' v' h1 h2 e => ?_⟩
      rw [h1, h2] at h
      simp only [e, if_true] at h
      cases h
    · exact holdApart_spec rest j hj

theorem normOk_spec : ∀ {own : List Hold}, normOk s own = true → (∀ k ∈ own, holdOk s k = true) ∧
    (∀ k ∈ own, ∀ j ∈ own, k.key = j.key → k = j) ∧ (∀ k ∈ own, ∀ j ∈ own, ∀ i v v', refOf (s.T.getD k.slot .undef) = some (i, v) → refOf (s.T.getD j.slot .undef) = some (i, v') → k = j)
  | [], _ => ⟨fun k hk => by (cases hk), fun k hk => by (cases hk), fun k hk => by (cases hk)⟩
  | k :: r, h => by
    simp only [normOk, Bool.and_eq_true] at h
    obtain ⟨⟨h1, h2⟩, h3⟩ := h
    obtain ⟨k1, k2, k3⟩ := normOk_spec h3
    have hs := holdApart_spec h2
    refine ⟨fun j hj => ?_, fun j hj l hl e => ?_, fun j hj l hl i v v' e1 e2 => ?_⟩
    · rcases List.mem_cons.1 hj with rfl | hj
      · exact h1
      · exact k1 j hj
    · rcases List.mem_cons.1 hj with rfl | hj' <;> rcases List.mem_cons.1 hl with rfl | hl'
      · rfl
      · exact absurd e (hs l hl').1
      · exact absurd e.symm (hs j hj').1
      · exact k2 j hj' l hl' e
    · rcases List.mem_cons.1 hj with rfl | hj' <;> rcases List.mem_cons.1 hl with rfl | hl'
      · rfl
      · exact absurd rfl ((hs l hl').2 i v i v' e1 e2)
      · exact absurd rfl ((hs j hj').2 i v' i v e2 e1)
      · exact k3 j hj' l hl' i v v' e1 e2

/-- The concrete value that a held slot holds. -/
theorem hold_val (h : Sim κ η s a w) {k : Hold} (hk : holdOk s k = true) :
    (s.T.getD k.slot .undef = .nil ∧ a.tmps.getD k.slot Go.undef = .slice none 0 0) ∨
      ∃ id ver b, refOf (s.T.getD k.slot .undef) = some (id, ver) ∧ s.H.get id = (ver, b) ∧ b ≠ .dead ∧ η.val id = some (a.tmps.getD k.slot Go.undef) := by
  have hr := h.ev (.tmp k.slot)
  have e1 : s.ev (.tmp k.slot) = s.T.getD k.slot .undef := rfl
  have e2 : a.eval (.tmp k.slot) = a.tmps.getD k.slot Go.undef := rfl
  rw [e1, e2] at hr
  unfold holdOk at hk
  split at hk
  · rename_i ht
    rw [ht] at hr
    exact .inl ⟨ht, hr.nil⟩
  · rename_i id ver ht
    rw [ht] at hr
    split at hk
    case h_2 => cases hk
    rename_i v' e sz es he
    split at hk
    case isFalse => cases hk
    rename_i ev
    subst ev
    obtain ⟨hval, hcur⟩ := own_value h he hr
    exact .inr ⟨id, v', _, by rw [ht]; rfl, he, (by simp), hval⟩
  · rename_i id ver sz ht
    rw [ht] at hr
    split at hk
    case h_2 => cases hk
    rename_i v' cs he
    split at hk
    case isFalse => cases hk
    rename_i ev
    subst ev
    obtain ⟨g, hc, hg⟩ := live_ptr h hr (by simp [St.live, he])
    have hob := h.heap id
    rw [he] at hob
    obtain ⟨hcur, g', arr, e, hval, _⟩ := hob
    have := hg _ hval hcur.symm
    obtain rfl := Option.some.inj this
    refine .inr ⟨id, v', _, by rw [ht]; rfl, he, (by simp), ?_⟩
    rw [hc, hval]
    simp
  · cases hk

theorem keyOf_spec {id ver key : Nat} : ∀ {own : List Hold}, keyOf s own id ver = some key → ∃ k ∈ own, refOf (s.T.getD k.slot .undef) = some (id, ver) ∧ k.key = key
  | k :: r, h => by
    simp only [keyOf] at h
    have rest : keyOf s r id ver = some key → ∃ k' ∈ k :: r, refOf (s.T.getD k'.slot .undef) = some (id, ver) ∧ k'.key = key := fun h => by
      obtain ⟨j, h1, h2⟩ := keyOf_spec h
      exact ⟨j, by simp [h1], h2⟩
    split at h
    · rename_i i v hr
      split at h
      · rename_i e
        split at h
        · rename_i e'
          subst e e'
          exact ⟨k, by simp, hr, Option.some.inj h⟩
        · exact rest h
      · exact rest h
    · exact rest h

def normOwn (own : List Hold) (a : Act) : Own := ⟨fun _ => 0, fun id => match findHold id own with | some k => some (a.tmps.getD k.slot Go.undef) | none => none⟩

theorem ren1_rep (h : Sim κ η s a w) {own : List Hold} (hok : normOk s own = true) (hI : ∀ g, imm κ η w g → imm κ (normOwn own a) w g) {p : PV} {c : Value} (hr : Rep1 w (imm κ η w) η p c) :
    Rep1 w (imm κ (normOwn own a) w) (normOwn own a) (ren1 s own p) c := by
  obtain ⟨ho, hkeys, hids⟩ := normOk_spec hok
  -- a reference that is kept is one to an object that lives
  have live : ∀ id ver key, keyOf s own id ver = some key → ∃ x, η.val id = some x ∧ ver = η.cur id ∧ (normOwn own a).val key = some x := fun id ver key hk => by
    obtain ⟨k, hm, hrf, rfl⟩ := keyOf_spec hk
    have hval : (normOwn own a).val k.key = some (a.tmps.getD k.slot Go.undef) := by
      simp only [normOwn]
      cases hf : findHold k.key own with
      | none =>
        have : ∀ own : List Hold, k ∈ own → findHold k.key own ≠ none := by
          intro own
          induction own with
          | nil => intro hk; cases hk
          | cons j r ih =>
            intro hk e
            simp only [findHold] at e
            split at e
            · cases e
            · rcases List.mem_cons.1 hk with rfl | hk
              · rename_i hne; exact hne rfl
              · exact ih hk e
        exact absurd hf (this own hm)
      | some j =>
        obtain ⟨hj, hjk⟩ := findHold_mem hf
        rw [hkeys j hj k hm hjk]
    rcases hold_val h (ho k hm) with ⟨hn, _⟩ | ⟨id', ver', b, hrf', hg, hb, hv⟩
    · rw [hn] at hrf; cases hrf
    · rw [hrf] at hrf'
      simp only [Option.some.injEq, Prod.mk.injEq] at hrf'
      obtain ⟨rfl, rfl⟩ := hrf'
      have := (h.heap id).ver
      rw [hg] at this
      exact ⟨_, hv, this.symm, hval⟩
  cases hr with
  | undef => exact .undef _
  | skip => exact .skip
  | imm hr =>
    have hp : p.pure = true := by cases hr <;> rfl
    have : ren1 s own p = p := by
      cases hr <;> simp [ren1, PV.pure]
    rw [this]
    exact .imm (hr.weak hI)
  | osl id ver c hv hc =>
    simp only [ren1]
    split
    · rename_i key hk
      obtain ⟨x, hx, hver, hval⟩ := live id ver key hk
      refine .osl _ _ _ (Nat.le_refl _) fun _ y hy => ?_
      rw [hval] at hy
      obtain rfl := Option.some.inj hy
      exact hc hver _ hx
    · exact .undef _
  | optr id ver sz i off c hv hc =>
    simp only [ren1]
    split
    · rename_i key hk
      obtain ⟨x, hx, hver, hval⟩ := live id ver key hk
      refine .optr _ _ _ _ _ _ (Nat.le_refl _) fun _ y hy => ?_
      rw [hval] at hy
      obtain rfl := Option.some.inj hy
      exact hc hver _ hx
    · exact .undef _

theorem ren_rep (h : Sim κ η s a w) {own : List Hold} (hok : normOk s own = true) (hI : ∀ g, imm κ η w g → imm κ (normOwn own a) w g) {p : PV} {c : Value} (hr : Rep w (imm κ η w) η p c) :
    Rep w (imm κ (normOwn own a) w) (normOwn own a) (ren s own p) c := by
  cases hr with
  | one hr => cases hr with
    | one hr =>
      have : ren s own p = ren1 s own p := by
        cases hr with
        | imm hr => cases hr <;> rfl
        | _ => rfl
      rw [this]
      exact .of1 (ren1_rep h hok hI hr)
    | agg cs vs hr => exact .one (.agg _ _ (All2.mapl (fun p c x => ren1_rep h hok hI x) hr))
  | tup cs vs hr => exact .of1 (by simp only [ren, ren1, PV.pure]; exact .undef _)

theorem mapAt_rep {R S : PV → Value → Prop} {f : Nat → PV → PV} : ∀ {ps : List PV} {vs : List Value} (i : Nat), All2 R ps vs → (∀ j p v, ps[j]? = some p → vs[j]? = some v → R p v → S (f (i + j) p) v) → All2 S (mapAt f i ps) vs
  | _, _, _, .nil, _ => .nil
  | _, _, i, .cons p q, h => .cons (by simpa using h 0 _ _ (by simp) (by simp) p) (mapAt_rep (i + 1) q fun j p v hp hv hr => by
    have := h (j + 1) p v (by simpa using hp) (by simpa using hv) hr
    rw [show i + 1 + j = i + (j + 1) by omega]
    exact this)

theorem holdAt_spec {i key : Nat} : ∀ {own : List Hold}, holdAt i own = some key → ∃ k ∈ own, k.slot = i ∧ k.key = key
  | k :: r, h => by
    simp only [holdAt] at h
    split at h
    · rename_i e
      exact ⟨k, by simp, e, Option.some.inj h⟩
    · obtain ⟨j, h1, h2⟩ := holdAt_spec h
      exact ⟨j, by simp [h1], h2⟩

theorem Sim.norm (h : Sim κ η s a w) (keep : List Nat) {own : List Hold} (hok : normOk s own = true) (hrecv : ∀ k ∈ own, ∀ id ver cs, refOf (s.T.getD k.slot .undef) = some (id, ver) → s.H.get id = (ver, .box cs) → (k.key = 1 ↔ id = 1)) :
    Sim κ (normOwn own a) (Ai.norm keep own s) a w := by
  obtain ⟨ho, hkeys, hids⟩ := normOk_spec hok
  have hvals : ∀ id x, (normOwn own a).val id = some x → ∃ k ∈ own, k.key = id ∧ a.tmps.getD k.slot Go.undef = x := fun id x hx => by
    simp only [normOwn] at hx
    split at hx
    · rename_i k hf
      obtain ⟨hk, e⟩ := findHold_mem hf
      exact ⟨k, hk, e, Option.some.inj hx⟩
    · cases hx
  have hI : ∀ g, imm κ η w g → imm κ (normOwn own a) w g := fun g hg => ⟨hg.1, hg.2.1, fun id x hx he => by
    obtain ⟨k, hk, _, rfl⟩ := hvals id x hx
    rcases hold_val h (ho k hk) with ⟨_, hn⟩ | ⟨id', ver', b, _, _, _, hv⟩
    · rw [hn] at he; cases he
    · exact hg.2.2 id' _ hv he⟩
  refine ⟨?_, h.defers, fun id => ?_, fun id id' x x' g hx hx' he he' => ?_, h.kept⟩
  · refine mapAt_rep 0 h.tmps fun j p v hp hv hr => ?_
    rw [Nat.zero_add]
    unfold normAt
    split
    · rename_i key hka
      obtain ⟨k, hk, hsl, hkk⟩ := holdAt_spec hka
      split
      · -- a nil slice that is held becomes an own row
        have hpn : s.T.getD k.slot .undef = .nil := by simp [List.getD, hsl, hp]
        have hvn := hr.nil
        refine .of1 (.osl _ _ _ (Nat.le_refl _) fun _ y hy => ?_)
        obtain ⟨k', hk', hkk', rfl⟩ := hvals key y hy
        rw [hkeys k' hk' k hk (by rw [hkk', hkk])]
        rw [hvn]
        have : a.tmps.getD k.slot Go.undef = v := by rw [hsl]; simp [Array.getD_eq_getD_getElem?, ← Array.getElem?_toList, hv]
        rw [this, hvn]
      · exact ren_rep h hok hI hr
    · split
      · exact ren_rep h hok hI hr
      · exact .of1 (.undef _)
  · simp only [Ai.norm]
    rw [norm_get]
    cases hf : findHold id own with
    | none => exact ⟨rfl, by simp [normOwn, hf]⟩
    | some k =>
      obtain ⟨hk, hkid⟩ := findHold_mem hf
      have hval : (normOwn own a).val id = some (a.tmps.getD k.slot Go.undef) := by simp [normOwn, hf]
      simp only
      rcases hold_val h (ho k hk) with ⟨hn, hvn⟩ | ⟨id', ver', b, hrf, hg, hb, hv⟩
      · have : holdBody s own k = .row k.e k.sz [] := by unfold holdBody; rw [hn]
        rw [this]
        exact ⟨rfl, _, [], hval, by rw [hvn]; exact World.ownsRow_nil w κ.B k.e k.sz, .nil, by simp⟩
      · have hnn : s.T.getD k.slot .undef ≠ .nil := fun e => by rw [e] at hrf; cases hrf
        have hb' : holdBody s own k = (match b with | .box cs => .box (cs.map (ren1 s own)) | b => b) := by
          unfold holdBody
          split
          · rename_i e; exact absurd e hnn
          · rw [hrf]
            simp only [hg]
            cases b <;> rfl
        rw [hb']
        have hob := h.heap id'
        rw [hg] at hob
        cases b with
        | dead => exact absurd rfl hb
        | box cs =>
          obtain ⟨_, g, arr, e, h2, h3, h4, h5⟩ := hob
          rw [h2] at hv
          refine ⟨rfl, g, arr, e, by rw [hval]; exact hv.symm, h3, All2.mapl (fun p c x => ren1_rep h hok hI x) h4, ?_⟩
          have hiff := hrecv k hk id' ver' cs hrf hg
          rw [hkid] at hiff
          by_cases e1 : id' = 1
          · rw [if_pos (hiff.2 e1)]; rwa [if_pos e1] at h5
          · rw [if_neg fun e => e1 (hiff.1 e)]; rwa [if_neg e1] at h5
        | row e sz es =>
          obtain ⟨_, v, vals, h2, h3, h4, h5⟩ := hob
          rw [h2] at hv
          exact ⟨rfl, v, vals, by rw [hval]; exact hv.symm, h3, h4.weak hI, h5⟩
  · obtain ⟨k, hk, e1, rfl⟩ := hvals id x hx
    obtain ⟨k', hk', e2, rfl⟩ := hvals id' x' hx'
    rcases hold_val h (ho k hk) with ⟨_, hn⟩ | ⟨i, v, b, hr, _, _, hv⟩
    · rw [hn] at he; cases he
    · rcases hold_val h (ho k' hk') with ⟨_, hn'⟩ | ⟨i', v', b', hr', _, _, hv'⟩
      · rw [hn'] at he'; cases he'
      · have := h.apart i i' _ _ g hv hv' he he'
        subst this
        have := hids k hk k' hk' i v v' hr hr'
        rw [← e1, ← e2, this]

def recvOk (s : St) : List Hold → Bool
  | [] => true
  | k :: r => (match refOf (s.T.getD k.slot .undef) with
    | some (id, _) => if k.key = 1 then if id = 1 then true else false else if id = 1 then false else true
    | none => true) && recvOk s r

theorem recvOk_spec : ∀ {own : List Hold}, recvOk s own = true → ∀ k ∈ own, ∀ id ver, refOf (s.T.getD k.slot .undef) = some (id, ver) → (k.key = 1 ↔ id = 1)
  | j :: r, h, k, hk, id, ver, hr => by
    simp only [recvOk, Bool.and_eq_true] at h
    rcases List.mem_cons.1 hk with rfl | hk
    · have h1 := h.1
      rw [hr] at h1
      simp only at h1
      by_cases e : k.key = 1 <;> by_cases e' : id = 1 <;> simp_all
    · exact recvOk_spec h.2 k hk id ver hr

/-- The state at a loop's head: what is kept of 's', and that it may be. -/
def headOk (s : St) (own : List Hold) : Bool := normOk s own && recvOk s own

/-- The rule for a loop: an invariant on normal states, with a number that falls. -/
theorem W_loop {body : Code} {Q : Ex → St → Prop} (keep : List Nat) (own : List Hold) (Inv : Nat → St → Prop) (n0 : Nat) (h0 : headOk s own = true ∧ Inv n0 (Ai.norm keep own s))
    (step : ∀ n s, Inv n s → W P κ body (fun e s' => match e with | .normal => headOk s' own = true ∧ ∃ n', n' < n ∧ Inv n' (Ai.norm keep own s') | e => Q e s') s) : W P κ (.loop body) Q s := by
  intro η a w h
  have go : ∀ {η : Own} {s : St} {a : Act} {w : World}, Sim κ η s a w → headOk s own = true → ∃ η', Sim κ η' (Ai.norm keep own s) a w := fun h hk => by
    simp only [headOk, Bool.and_eq_true] at hk
    exact ⟨_, h.norm keep hk.1 fun k hm id ver cs hr _ => recvOk_spec hk.2 k hm id ver hr⟩
  obtain ⟨η0, hs0⟩ := go h h0.1
  refine wp_loop_ghost (fun n a w => ∃ η s, Sim κ η s a w ∧ Inv n s) n0 ⟨η0, _, hs0, h0.2⟩ ?_
  rintro n a w ⟨η, s, hs, hI⟩
  refine Go.wp_mono (step n s hI η a w hs) fun e a' w' hq => ?_
  cases e with
  | normal =>
    obtain ⟨η', s', hs', hk, n', hlt, hI'⟩ := hq
    obtain ⟨η2, hs2⟩ := go hs' hk
    exact ⟨n', hlt, η2, _, hs2, hI'⟩
  | exit i => exact hq
  | ret => exact hq
  | goto l => exact hq.elim
  | panic ch => exact hq.elim
  | outgrown => exact hq.elim

end
end Go.Proofs.Ytfjdfojjkhcfcaa.Ai
