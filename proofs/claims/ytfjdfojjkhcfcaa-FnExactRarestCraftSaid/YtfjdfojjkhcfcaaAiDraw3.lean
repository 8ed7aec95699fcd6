/- One run in the text's order serves every order. -/
import Derived.Test.YtfjdfojjkhcfcaaAiDraw2
set_option linter.unusedSectionVars false
namespace Go.Proofs.Ytfjdfojjkhcfcaa.Ai
open Go Go.RowKit

/-- An operation with its guard. -/
def stepG (X : Req → (PV → Prop) → Prop) (G : Env) (full : List Oper) (o : Oper) (s : St) (K : St → Prop) : Prop :=
  match o.guard with
  | none => opD X G o s K
  | some (j, want) => match full[j]? with
    | some oj => match oj.dst with
      | some t => match s.T.getD t .undef with
        | .bool b => if b = want then opD X G o s K else K (s.put o.dst .skip)
        | .skip => K (s.put o.dst .skip)
        | _ => False
      | none => False
    | none => False

def opsD (X : Req → (PV → Prop) → Prop) (G : Env) (full : List Oper) : List Oper → St → (St → Prop) → Prop
  | [], s, K => K s
  | o :: r, s, K => match o.guard with
    | none => opD X G o s fun s' => opsD X G full r s' K
    | some (j, want) => match full[j]? with
      | some oj => match oj.dst with
        | some t => match s.T.getD t .undef with
          | .bool b => if b = want then opD X G o s fun s' => opsD X G full r s' K else opsD X G full r (s.put o.dst .skip) K
          | .skip => opsD X G full r (s.put o.dst .skip) K
          | _ => False
        | none => False
      | none => False

theorem ops_cons (X : Req → (PV → Prop) → Prop) (G : Env) (full : List Oper) (o : Oper) (r : List Oper) (s : St) (K : St → Prop) : opsD X G full (o :: r) s K = stepG X G full o s (fun s' => opsD X G full r s' K) := by
  simp only [opsD, stepG]
section
variable {P : Program} {G : Env} {full : List Oper}

/-- What an operation and its guard look at is the same in both states. -/
def Same (full : List Oper) (o : Oper) (s s' : St) : Prop := (∀ t ∈ o.looksAt full.toArray, s'.T.getD t .undef = s.T.getD t .undef) ∧ (hfB o = true ∨ s'.H = s.H)

theorem Same.op {o : Oper} {s s' : St} (h : Same full o s s') : SameOp o s s' := ⟨fun x hx => by
  cases x with
  | tmp t => exact h.1 t (by
      unfold Oper.looksAt
      exact List.mem_append_left _ (List.mem_filterMap.2 ⟨.tmp t, hx, rfl⟩))
  | _ => rfl, h.2⟩

theorem Same.guard {o : Oper} {s s' : St} (h : Same full o s s') {j : Nat} {want : Bool} (hg : o.guard = some (j, want)) {oj : Oper} (hj : full[j]? = some oj) {t : Nat} (ht : oj.dst = some t) : s'.T.getD t .undef = s.T.getD t .undef :=
  h.1 t (by
    unfold Oper.looksAt
    refine List.mem_append_right _ ?_
    simp only [hg, List.getElem?_toArray, hj, Option.bind_some, ht]
    simp)

theorem Same.put {o : Oper} {s : St} {d : Option Nat} (v : PV) (h : ∀ t, d = some t → t ∉ o.looksAt full.toArray) : Same full o s (s.put d v) := by
  cases d with
  | none => exact ⟨fun t _ => rfl, .inr rfl⟩
  | some d =>
    refine ⟨fun t ht => ?_, .inr rfl⟩
    have : d ≠ t := fun e => h d rfl (e ▸ ht)
    simp [St.put, List.getD, List.getElem?_set_ne this]

theorem Same.symm {o : Oper} {s s' : St} (h : Same full o s s') : Same full o s' s := ⟨fun t ht => (h.1 t ht).symm, h.2.imp id Eq.symm⟩
theorem Same.trans {o : Oper} {s s' s'' : St} (h : Same full o s s') (k : Same full o s' s'') : Same full o s s'' := ⟨fun t ht => (k.1 t ht).trans (h.1 t ht), by rcases h.2 with h' | h'; exact .inl h'; rcases k.2 with k' | k'; exact .inl k'; exact .inr (k'.trans h')⟩

/-- Determined, its guard included. -/
theorem det_step {o : Oper} (hk : kindOf G o = 1) (s : St) : (∀ K, ¬ stepG (std true P) G full o s K) ∨ ∃ u, ∀ s' K', Same full o s s' → (stepG (std true P) G full o s' K' ↔ K' (s'.put o.dst u)) := by
  have hd := det_op (P := P) hk s
  unfold stepG
  cases hg : o.guard with
  | none =>
    rcases hd with h | ⟨u, h⟩
    · exact .inl h
    · exact .inr ⟨u, fun s' K' hs => h s' K' hs.op⟩
  | some q =>
    obtain ⟨j, want⟩ := q
    simp only
    cases hj : full[j]? with
    | none => exact .inl fun K x => x
    | some oj =>
      simp only
      cases ht : oj.dst with
      | none => exact .inl fun K x => x
      | some t =>
        simp only
        have hsame : ∀ s', Same full o s s' → s'.T.getD t .undef = s.T.getD t .undef := fun s' hs => hs.guard hg hj ht
        generalize hv : s.T.getD t .undef = v at hsame
        cases v
        case bool b =>
          by_cases e : b = want
          · rcases hd with h | ⟨u, h⟩
            · exact .inl fun K x => h K (by simpa [hv, e] using x)
            · exact .inr ⟨u, fun s' K' hs => by
                rw [hsame s' hs]
                simp only [e, if_true]
                exact h s' K' hs.op⟩
          · exact .inr ⟨.skip, fun s' K' hs => by
              rw [hsame s' hs]
              simp only [e, if_false]⟩
        case skip => exact .inr ⟨.skip, fun s' K' hs => by rw [hsame s' hs]⟩
        all_goals exact .inl fun K x => by simp [hv] at x

theorem bindL_noFr (d : Nat) : ∀ (j : Nat) (vs : List PV) (s : St), (∀ v ∈ vs, noFr1 v) → bindL d j vs s = (vs, s)
  | _, [], _, _ => rfl
  | j, v :: r, s, h => by
    have hv : bindAt d (8 * d + j) s v = (v, s) := by
      have := h v (by simp)
      cases v <;> first | rfl | exact this.elim
    simp only [bindL, hv, bindL_noFr d (j + 1) r s fun x hx => h x (by simp [hx])]

theorem bind_noFr {r : PV} (h : noFr r) (s : St) (d : Option Nat) : bind s d r = s.put d r := by
  cases d with
  | none => rfl
  | some d =>
    cases r with
    | tup vs => simp only [bind, bindL_noFr d 2 vs s h]
    | fr => exact h.elim
    | _ => rfl

/-- 'o' yields any value of R, in 's' and in every state that looks the same to it. -/
structure YR (P : Program) (G : Env) (full : List Oper) (o : Oper) (R : PV → Prop) (s : St) : Prop where
  ex : ∃ v, R v
  one : kindOf G o = 1 → ∃ u, ∀ v, R v → v = u
  go : ∀ s' K', Same full o s s' → (∀ v, R v → K' (s'.put o.dst v)) → stepG (std true P) G full o s' K'

theorem Same.refl (o : Oper) (s : St) : Same full o s s := ⟨fun _ _ => rfl, .inr rfl⟩

theorem YR.same {o : Oper} {R : PV → Prop} {s s' : St} (h : YR P G full o R s) (hs : Same full o s s') : YR P G full o R s' := ⟨h.ex, h.one, fun s'' K' h' hK => h.go s'' K' (hs.trans h') hK⟩

/-- The operation itself, without its guard. -/
def YOp (P : Program) (G : Env) (o : Oper) (K : St → Prop) (s : St) (R : PV → Prop) : Prop :=
  (∃ v, R v) ∧ (∀ v, R v → K (s.put o.dst v)) ∧ ∀ s' K', SameOp o s s' → (∀ v, R v → K' (s'.put o.dst v)) → opD (std true P) G o s' K'

theorem lend1_same {s s' : St} (h : s'.H = s.H) : lend1 s' = lend1 s := by funext v; unfold lend1; rw [h]
theorem lend_same {s s' : St} (h : s'.H = s.H) : lend s' = lend s := by funext v; unfold lend; rw [lend1_same h]

theorem yop_call {o : Oper} (hk : kindOf G o = 2) {s : St} {K : St → Prop} (hK : opD (std true P) G o s K) : ∃ R, YOp P G o K s R := by
  obtain ⟨dst, opx, type, pos, after, guard⟩ := o
  cases opx <;> simp only [kindOf] at hk <;> try omega
  case slice t x lo hi mx => cases mx <;> simp only at hk <;> omega
  case call c =>
    obtain ⟨callee, args, ts⟩ := c
    have hev : ∀ s', SameOp ⟨dst, .call ⟨callee, args, ts⟩, type, pos, after, guard⟩ s s' → evs s' args.toList = evs s args.toList := fun s' h => by
      unfold evs
      refine List.map_congr_left fun x hx => h.1 x ?_
      simp only [Op.operands, Call.operands, Array.toList_append, List.mem_append]
      exact .inr hx
    cases callee with
    | invoke r m => simp only at hk; omega
    | builtin b => cases b <;> simp only at hk <;> omega
    | value f =>
      simp only at hk
      cases f <;> simp only at hk <;> try omega
      rename_i f
      have hK' : opCall (std true P) f s (evs s args.toList) dst K := hK
      unfold opCall at hK'
      split at hK'
      · exfalso
        split at hK'
        case h_2 => exact hK'
        split at hK'
        case h_2 => exact hK'
        split at hK'
        case isFalse => exact hK'
        split at hK'
        case isFalse => exact hK'
        split at hK'
        case isFalse => exact hK'
        split at hK'
        case isFalse => exact hK'
        exact absurd hK'.1 (by simp)
      · rename_i hne
        split at hK'
        case h_2 => exact hK'.elim
        rename_i own args' hlend
        have main : ∀ (b : Bool), std true P (.call f b args') (fun r => K (bind s dst r)) → (∀ s' (K' : St → Prop), s'.H = s.H → std true P (.call f b args') (fun r => K' (bind s' dst r)) → opCall (std true P) f s' (evs s args.toList) dst K') →
            ∃ R, YOp P G ⟨dst, .call ⟨.value (.func f), args, ts⟩, type, pos, after, guard⟩ K s R := fun b h1 h2 => by
          obtain ⟨Q, hok, hb, hQ⟩ := h1
          obtain ⟨hex, hno⟩ := hb rfl
          refine ⟨Q, hex, fun v hv => ?_, fun s' K' hs hK' => ?_⟩
          · rw [← bind_noFr (hno v hv)]; exact hQ v hv
          · have := h2 s' K' (hs.heap rfl) ⟨Q, hok, fun _ => ⟨hex, hno⟩, fun v hv => by show K' (bind s' dst v); rw [bind_noFr (hno v hv)]; exact hK' v hv⟩
            rw [← hev s' hs] at this
            exact this
        split at hK'
        · rename_i hb
          rcases hK' with hK' | hK'
          · refine main true hK' fun s' K' hH hc => ?_
            unfold opCall
            split
            · rename_i heq; exact absurd heq (hne _ _ _ _ _ _)
            · rw [lend_same hH, hlend]
              simp only [hb, if_true]
              exact .inl hc
          · exfalso
            split at hK'
            case h_2 => exact hK'
            exact absurd hK'.1 (by simp)
        · rename_i hb
          refine main false hK' fun s' K' hH hc => ?_
          unfold opCall
          split
          · rename_i heq; exact absurd heq (hne _ _ _ _ _ _)
          · rw [lend_same hH, hlend]
            simp only [hb]
            exact hc

/-- An operation of either kind, its guard included. -/
theorem step_R {o : Oper} (hk : kindOf G o = 1 ∨ kindOf G o = 2) {s : St} {K : St → Prop} (h : stepG (std true P) G full o s K) : ∃ R, YR P G full o R s ∧ ∀ v, R v → K (s.put o.dst v) := by
  rcases hk with hk | hk
  · rcases det_step (P := P) (full := full) hk s with hd | ⟨u, hd⟩
    · exact absurd h (hd K)
    · exact ⟨(· = u), ⟨⟨u, rfl⟩, fun _ => ⟨u, fun _ e => e⟩, fun s' K' hs hK => (hd s' K' hs).2 (hK u rfl)⟩, fun v hv => by subst hv; exact (hd s K (Same.refl o s)).1 h⟩
  · have run : (∀ s', Same full o s s' → ∀ K', opD (std true P) G o s' K' → stepG (std true P) G full o s' K') → opD (std true P) G o s K → ∃ R, YR P G full o R s ∧ ∀ v, R v → K (s.put o.dst v) := fun hr hop => by
      obtain ⟨R, h1, h2, h3⟩ := yop_call hk hop
      exact ⟨R, ⟨h1, fun e => by omega, fun s' K' hs hK => hr s' hs K' (h3 s' K' hs.op hK)⟩, h2⟩
    have skip : (∀ s', Same full o s s' → ∀ K' : St → Prop, K' (s'.put o.dst .skip) → stepG (std true P) G full o s' K') → K (s.put o.dst .skip) → ∃ R, YR P G full o R s ∧ ∀ v, R v → K (s.put o.dst v) := fun hr hop =>
      ⟨(· = .skip), ⟨⟨_, rfl⟩, fun _ => ⟨_, fun _ e => e⟩, fun s' K' hs hK => hr s' hs K' (hK _ rfl)⟩, fun v hv => by subst hv; exact hop⟩
    unfold stepG at h
    split at h
    · rename_i hg
      exact run (fun s' _ K' x => by unfold stepG; rw [hg]; exact x) h
    · rename_i j want hg
      split at h
      case h_2 => exact h.elim
      rename_i oj hj
      split at h
      case h_2 => exact h.elim
      rename_i t ht
      have hsame : ∀ s', Same full o s s' → s'.T.getD t .undef = s.T.getD t .undef := fun s' hs => hs.guard hg hj ht
      split at h
      · rename_i b hb
        split at h
        · rename_i e
          refine run (fun s' hs K' x => ?_) h
          unfold stepG
          simp only [hg, hj, ht, hsame s' hs, hb, e, if_true]
          exact x
        · rename_i e
          refine skip (fun s' hs K' x => ?_) h
          unfold stepG
          simp only [hg, hj, ht, hsame s' hs, hb, e, if_false]
          exact x
      · rename_i hb
        refine skip (fun s' hs K' x => ?_) h
        unfold stepG
        simp only [hg, hj, ht, hsame s' hs, hb]
        exact x
      · exact h.elim

/-! ### Operations that make new objects -/
def Off (d : Option Nat) (s s' : St) : Prop := ∀ t, d ≠ some t → s'.T.getD t .undef = s.T.getD t .undef

theorem toPures_pure : ∀ (l : List PV) (s : St), l.all PV.pure = true → toPures l s = some (l, s)
  | [], _, _ => rfl
  | v :: r, s, h => by
    simp only [List.all_cons, Bool.and_eq_true] at h
    have hv : toPure v s = some (v, s) := by
      have := h.1
      unfold toPure
      split
      · exact absurd this (by simp [PV.pure])
      · rw [if_pos this]
    simp only [toPures, hv, toPures_pure r s h.2]

theorem fillE_pure (sz : Nat) : ∀ (l : List (Nat × PV)) (es : List (List PV)) (s s' : St), (l.all fun p => p.2.cells.all PV.pure) = true → fillE sz l es s' = (fillE sz l es s).map fun x => (x.1, s')
  | [], _, _, _, _ => rfl
  | (i, v) :: r, es, s, s', h => by
    simp only [List.all_cons, Bool.and_eq_true] at h
    simp only [fillE, toPures_pure _ _ h.1]
    split
    · split
      · exact fillE_pure sz r _ s s' h.2
      · rfl
    · rfl

theorem put_none (s : St) (u : PV) : s.put none u = s := rfl
theorem put_put (s : St) {d : Option Nat} {e : Nat} (u v : PV) (h : d ≠ some e) : (s.put d u).put (some e) v = (s.put (some e) v).put d u := by
  cases d with
  | none => rfl
  | some d =>
    have hne : d ≠ e := fun he => h (he ▸ rfl)
    simp [St.put, List.set_comm _ _ hne]
theorem off_put (s : St) (d : Option Nat) (u : PV) : Off d s (s.put d u) := fun t ht => by
  cases d with
  | none => rfl
  | some d =>
    have : d ≠ t := fun e => ht (e ▸ rfl)
    simp [St.put, List.getD, List.getElem?_set_ne this]
theorem bind_fr_put (T : List PV) (H : Heap) {d : Option Nat} {e : Nat} (u : PV) (a b : Nat) (c : List (List PV)) (h : d ≠ some e) : bind ⟨(St.put ⟨T, H⟩ d u).T, H⟩ (some e) (.fr a b c) = (bind ⟨T, H⟩ (some e) (.fr a b c)).put d u := by
  cases d with
  | none => rfl
  | some d =>
    have hne : d ≠ e := fun he => h (he ▸ rfl)
    simp [bind, bindAt, St.put, List.set_comm _ _ hne]
theorem bind_fr_off (s : St) (H : Heap) (e : Nat) (a b : Nat) (c : List (List PV)) : Off (some e) s (bind ⟨s.T, H⟩ (some e) (.fr a b c)) := fun t ht => by
  have : e ≠ t := fun e' => ht (e' ▸ rfl)
  simp [bind, bindAt, St.put, List.getD, List.getElem?_set_ne this]

/-- Free of an operation: it neither looks at the slot nor writes it. -/
def Free (o : Oper) (d : Option Nat) : Prop := ∀ t, d = some t → (.tmp t) ∉ o.op.operands.toList ∧ o.dst ≠ some t

theorem ev_put {s : St} {d : Option Nat} {u : PV} {x : Operand} (h : ∀ t, d = some t → x ≠ .tmp t) : (s.put d u).ev x = s.ev x := by
  cases d with
  | none => rfl
  | some d =>
    cases x with
    | tmp t =>
      have : d ≠ t := fun e => h d rfl (e ▸ rfl)
      simp [St.ev, St.put, List.getD, List.getElem?_set_ne this]
    | _ => rfl

def Det3 (P : Program) (G : Env) (o : Oper) (s : St) : Prop :=
  (∀ d u K, Free o d → ¬ opD (std true P) G o (s.put d u) K) ∨ ∃ s1, Off o.dst s s1 ∧ ∀ d u K, Free o d → (opD (std true P) G o (s.put d u) K ↔ K (s1.put d u))

theorem Det3.of {o : Oper} {s : St} (r : Option St) (h0 : ∀ s1, r = some s1 → Off o.dst s s1) (h : ∀ d u K, Free o d → (opD (std true P) G o (s.put d u) K ↔ match r with | some s1 => K (s1.put d u) | none => False)) : Det3 P G o s := by
  cases r with
  | none => exact .inl fun d u K hf hk => (h d u K hf).1 hk
  | some s1 => exact .inr ⟨s1, h0 s1 rfl, h⟩

theorem fillS_put {fs : List Field} {s : St} {d : Option Nat} {u : PV} : ∀ {parts : List (Nat × Operand)} {cs : List PV}, (∀ p ∈ parts, (s.put d u).ev p.2 = s.ev p.2) → fillS G fs (s.put d u) parts cs = fillS G fs s parts cs
  | [], _, _ => rfl
  | (i, x) :: r, cs, h => by
    have hx := h (i, x) (by simp)
    have hl : (s.put d u).live = s.live := by cases d <;> rfl
    simp only at hx
    simp only [fillS, hx, hl]
    split
    · split
      · split
        · split
          · split
            · exact fillS_put fun p hp => h p (by simp [hp])
            · rfl
          · rfl
        · rfl
      · rfl
    · rfl

theorem det3 {o : Oper} (hk : kindOf G o = 3) (s : St) : Det3 P G o s := by
  obtain ⟨dst, opx, type, pos, after, guard⟩ := o
  cases opx <;> simp only [kindOf] at hk <;> try omega
  case slice t x lo hi mx => cases mx <;> simp only at hk <;> omega
  case build t parts =>
    have hp : ∀ d u, Free ⟨dst, .build t parts, type, pos, after, guard⟩ d → ∀ p ∈ parts.toList, (s.put d u).ev p.2 = s.ev p.2 := fun d u hf p hp => ev_put fun t ht e => (hf t ht).1 (by
      simp only [Op.operands, Array.toList_map]
      exact List.mem_map.2 ⟨p, hp, e⟩)
    cases h1 : G t with
    | none => exact .inl fun d u K _ hk => by simp [opD, op, h1] at hk
    | some ti =>
      cases h2 : structOf (some ti) with
      | none => exact .inl fun d u K _ hk => by simp [opD, op, h1, h2] at hk
      | some fs =>
        cases h3 : fillS G fs s parts.toList ti.zero with
        | none => exact .inl fun d u K hf hk => by simp [opD, op, h1, h2, fillS_put (hp d u hf), h3] at hk
        | some cs =>
          refine .inr ⟨s.put dst (.agg cs), off_put _ _ _, fun d u K hf => ?_⟩
          simp only [opD, op, h1, h2, fillS_put (hp d u hf), h3]
          cases dst with
          | none => exact Iff.rfl
          | some e => rw [put_put s u _ (fun e' => (hf e e').2 rfl)]
  case buildSlice t n parts =>
    have hp : ∀ d u, Free ⟨dst, .buildSlice t n parts, type, pos, after, guard⟩ d → ∀ p ∈ parts.toList, (s.put d u).ev p.2 = s.ev p.2 := fun d u hf p hp => ev_put fun t ht e => (hf t ht).1 (by
      simp only [Op.operands, Array.toList_map]
      exact List.mem_map.2 ⟨p, hp, e⟩)
    have e1 : ∀ d u, Free ⟨dst, .buildSlice t n parts, type, pos, after, guard⟩ d → parts.toList.all (fun p => ((s.put d u).ev p.2).cells.all PV.pure) = parts.toList.all (fun p => (s.ev p.2).cells.all PV.pure) := fun d u hf => by
      rw [Bool.eq_iff_iff, List.all_eq_true, List.all_eq_true]
      exact ⟨fun h p hm => by rw [← hp d u hf p hm]; exact h p hm, fun h p hm => by rw [hp d u hf p hm]; exact h p hm⟩
    have e2 : ∀ d u, Free ⟨dst, .buildSlice t n parts, type, pos, after, guard⟩ d → (parts.toList.map fun p => (p.1, (s.put d u).ev p.2)) = parts.toList.map fun p => (p.1, s.ev p.2) := fun d u hf => List.map_congr_left fun p hm => by rw [hp d u hf p hm]
    by_cases hall : parts.toList.all (fun p => (s.ev p.2).cells.all PV.pure) = true
    case neg => exact .inl fun d u K hf hk => by simp only [opD, e1 d u hf, if_neg hall] at hk
    cases dst with
    | none => exact .inl fun d u K hf hk => by simp only [opD, e1 d u hf, if_pos hall, op] at hk
    | some e =>
      cases h1 : sliceOf G t with
      | none => exact .inl fun d u K hf hk => by simp only [opD, e1 d u hf, if_pos hall, op, h1] at hk
      | some q =>
        obtain ⟨el, te⟩ := q
        by_cases h2 : te.size = 0
        · exact .inl fun d u K hf hk => by simp only [opD, e1 d u hf, if_pos hall, op, h1, if_pos h2] at hk
        by_cases h3 : n * te.size ≤ 100000
        case neg => exact .inl fun d u K hf hk => by simp only [opD, e1 d u hf, if_pos hall, op, h1, if_neg h2, if_neg h3] at hk
        have hpl : ((parts.toList.map fun p => (p.1, s.ev p.2)).all fun p => p.2.cells.all PV.pure) = true := by
          rw [List.all_map]; exact hall
        cases h4 : fillE te.size (parts.toList.map fun p => (p.1, s.ev p.2)) (List.replicate n te.zero) s with
        | none =>
          refine .inl fun d u K hf hk => ?_
          simp only [opD, e1 d u hf, if_pos hall, op, h1, if_neg h2, if_pos h3, e2 d u hf, fillE_pure _ _ _ s (s.put d u) hpl, h4, Option.map_none] at hk
        | some q =>
          obtain ⟨es, s0⟩ := q
          refine .inr ⟨bind s (some e) (.fr el te.size es), bind_fr_off s s.H e _ _ _, fun d u K hf => ?_⟩
          simp only [opD, e1 d u hf, if_pos hall, op, h1, if_neg h2, if_pos h3, e2 d u hf, fillE_pure _ _ _ s (s.put d u) hpl, h4, Option.map_some]
          have := bind_fr_put s.T s.H (d := d) (e := e) u el te.size es (fun e' => (hf e e').2 rfl)
          have e3 : (s.put d u) = ⟨(St.put ⟨s.T, s.H⟩ d u).T, s.H⟩ := by cases d <;> rfl
          rw [e3, this]
  case call c =>
    obtain ⟨callee, args, ts⟩ := c
    cases callee with
    | invoke r m => simp only at hk; omega
    | value f => simp only at hk; cases f <;> simp only at hk <;> omega
    | builtin b =>
      cases b <;> simp only at hk <;> try omega
      case append =>
        have hev : ∀ d u, Free ⟨dst, .call ⟨.builtin .append, args, ts⟩, type, pos, after, guard⟩ d → evs (s.put d u) args.toList = evs s args.toList := fun d u hf => by
          unfold evs
          refine List.map_congr_left fun x hx => ev_put fun t ht e => (hf t ht).1 ?_
          simp only [Op.operands, Call.operands, Array.toList_append, List.mem_append]
          exact .inr (e ▸ hx)
        have hH : ∀ d u, (s.put d u).H = s.H := fun d u => by cases d <;> rfl
        have hm : ∀ d u e sz y, moreOf (s.put d u) e sz y = moreOf s e sz y := fun d u e sz y => by unfold moreOf; rw [hH]
        cases dst with
        | none =>
          refine .inl fun d u K hf hk => ?_
          simp only [opD, op, hev d u hf] at hk
          split at hk
          · split at hk
            · simp only [opAppend] at hk
            · exact hk
          · exact hk
        | some e =>
          have red : ∀ d u K, Free ⟨some e, .call ⟨.builtin .append, args, ts⟩, type, pos, after, guard⟩ d → (opD (std true P) G ⟨some e, .call ⟨.builtin .append, args, ts⟩, type, pos, after, guard⟩ (s.put d u) K ↔ match evs s args.toList, ts.toList with
              | [x, y], [t, t'] => if t = t' then opAppend (std true P) G t (s.put d u) x y (some e) K else False
              | _, _ => False) := fun d u K hf => by
            simp only [opD, op, hev d u hf]
            rcases evs s args.toList with _ | ⟨x, _ | ⟨y, _ | ⟨z, r⟩⟩⟩ <;> rcases ts.toList with _ | ⟨x', _ | ⟨y', _ | ⟨z', r'⟩⟩⟩ <;> exact Iff.rfl
          have bad : (∀ d u K, Free ⟨some e, .call ⟨.builtin .append, args, ts⟩, type, pos, after, guard⟩ d → ¬ match evs s args.toList, ts.toList with
              | [x, y], [t, t'] => if t = t' then opAppend (std true P) G t (s.put d u) x y (some e) K else False
              | _, _ => False) → Det3 P G ⟨some e, .call ⟨.builtin .append, args, ts⟩, type, pos, after, guard⟩ s := fun h => .inl fun d u K hf hk => h d u K hf ((red d u K hf).1 hk)
          have fine : ∀ s1, Off (some e) s s1 → (∀ d u K, Free ⟨some e, .call ⟨.builtin .append, args, ts⟩, type, pos, after, guard⟩ d → ((match evs s args.toList, ts.toList with
              | [x, y], [t, t'] => if t = t' then opAppend (std true P) G t (s.put d u) x y (some e) K else False
              | _, _ => False) ↔ K (s1.put d u))) → Det3 P G ⟨some e, .call ⟨.builtin .append, args, ts⟩, type, pos, after, guard⟩ s := fun s1 h0 h => .inr ⟨s1, h0, fun d u K hf => (red d u K hf).trans (h d u K hf)⟩
          clear red
          revert bad fine
          split
          case h_2 => exact fun bad _ => bad fun d u K _ h => h
          rename_i x y t t' hx1 hx2
          clear hx1 hx2
          by_cases htt : t = t'
          case neg => exact fun bad _ => bad fun d u K _ h => by rw [if_neg htt] at h; exact h
          simp only [if_pos htt]
          intro bad fine
          simp only [opAppend, hm, hH] at bad fine
          cases h1 : sliceOf G t with
          | none => rw [h1] at bad; exact bad fun d u K _ h => h
          | some q =>
            obtain ⟨el, te⟩ := q
            simp only [h1] at bad fine
            by_cases h2 : te.size = 0
            · simp only [if_pos h2] at bad; exact bad fun d u K _ h => h
            simp only [if_neg h2] at bad fine
            cases h3 : moreOf s el te.size y with
            | none => simp only [h3] at bad; exact bad fun d u K _ h => h
            | some more =>
              simp only [h3] at bad fine
              cases x <;> try (simp only at bad; exact bad fun d u K _ h => h)
              · simp only [std] at bad fine
                by_cases h4 : (([] : List (List PV)).length + more.length) * te.bytes ≤ 140737488355328 ∧ ([] : List (List PV)).length + more.length ≤ sizeBound
                · refine fine (bind s (some e) (.fr el te.size ([] ++ more))) (bind_fr_off s s.H e _ _ _) fun d u K hf => ?_
                  have := bind_fr_put s.T s.H (d := d) (e := e) u el te.size ([] ++ more) (fun e' => (hf e e').2 rfl)
                  have e3 : (s.put d u) = ⟨(St.put ⟨s.T, s.H⟩ d u).T, s.H⟩ := by cases d <;> rfl
                  rw [← this, ← e3]
                  exact ⟨fun x => x.2.2, fun x => ⟨h4.1, h4.2, x⟩⟩
                · exact bad fun d u K _ x => h4 ⟨x.1, x.2.1⟩
              · rename_i id ver
                simp only at bad fine
                generalize hg : s.H.get id = q at bad fine
                obtain ⟨v', b⟩ := q
                cases b <;> (try simp only at bad fine) <;> try exact bad fun d u K _ h => h
                rename_i e' z es
                by_cases h5 : v' = ver
                case neg => simp only [if_neg h5] at bad; exact bad fun d u K _ h => h
                by_cases h6 : e' = el
                case neg => simp only [if_pos h5, if_neg h6] at bad; exact bad fun d u K _ h => h
                by_cases h7 : z = te.size
                case neg => simp only [if_pos h5, if_pos h6, if_neg h7] at bad; exact bad fun d u K _ h => h
                simp only [if_pos h5, if_pos h6, if_pos h7, std] at bad fine
                by_cases h4 : (es.length + more.length) * te.bytes ≤ 140737488355328 ∧ es.length + more.length ≤ sizeBound
                · refine fine (bind ⟨s.T, s.H.put id (ver + 1, .dead)⟩ (some e) (.fr el te.size (es ++ more))) (bind_fr_off s _ e _ _ _) fun d u K hf => ?_
                  have := bind_fr_put s.T (s.H.put id (ver + 1, .dead)) (d := d) (e := e) u el te.size (es ++ more) (fun e' => (hf e e').2 rfl)
                  have e3 : (St.put ⟨s.T, s.H.put id (ver + 1, .dead)⟩ d u).T = (s.put d u).T := by cases d <;> rfl
                  rw [e3] at this
                  rw [← this]
                  exact ⟨fun x => x.2.2, fun x => ⟨h4.1, h4.2, x⟩⟩
                · exact bad fun d u K _ x => h4 ⟨x.1, x.2.1⟩

/-- The same, its guard included. -/
theorem det_step3 {o : Oper} (hk : kindOf G o = 3) (s : St) : (∀ d u K, (∀ t, d = some t → t ∉ o.looksAt full.toArray) → (∀ t, d = some t → o.dst ≠ some t) → ¬ stepG (std true P) G full o (s.put d u) K) ∨
    ∃ s1, Off o.dst s s1 ∧ ∀ d u K, (∀ t, d = some t → t ∉ o.looksAt full.toArray) → (∀ t, d = some t → o.dst ≠ some t) → (stepG (std true P) G full o (s.put d u) K ↔ K (s1.put d u)) := by
  have hfree : ∀ d, (∀ t, d = some t → t ∉ o.looksAt full.toArray) → (∀ t, d = some t → o.dst ≠ some t) → Free o d := fun d h1 h2 t ht => ⟨fun hm => h1 t ht (by
    unfold Oper.looksAt
    exact List.mem_append_left _ (List.mem_filterMap.2 ⟨.tmp t, hm, rfl⟩)), h2 t ht⟩
  have hd := det3 (P := P) hk s
  have skip : ∃ s1, Off o.dst s s1 ∧ ∀ d u (K : St → Prop), (∀ t, d = some t → o.dst ≠ some t) → (K ((s.put d u).put o.dst .skip) ↔ K (s1.put d u)) := ⟨s.put o.dst .skip, off_put _ _ _, fun d u K h => by
    cases ho : o.dst with
    | none => exact Iff.rfl
    | some e => rw [put_put s u _ (fun e' => h e e' ho)]⟩
  unfold stepG
  cases hg : o.guard with
  | none =>
    rcases hd with h | ⟨s1, h0, h⟩
    · exact .inl fun d u K h1 h2 => h d u K (hfree d h1 h2)
    · exact .inr ⟨s1, h0, fun d u K h1 h2 => h d u K (hfree d h1 h2)⟩
  | some q =>
    obtain ⟨j, want⟩ := q
    simp only
    cases hj : full[j]? with
    | none => exact .inl fun d u K _ _ x => x
    | some oj =>
      simp only
      cases ht : oj.dst with
      | none => exact .inl fun d u K _ _ x => x
      | some t =>
        simp only
        have hsame : ∀ d u, (∀ t, d = some t → t ∉ o.looksAt full.toArray) → (s.put d u).T.getD t .undef = s.T.getD t .undef := fun d u h1 => by
          have := (Same.put (full := full) (o := o) (s := s) (d := d) u h1).guard hg hj ht
          exact this
        generalize hv : s.T.getD t .undef = v at hsame
        cases v
        case bool b =>
          by_cases e : b = want
          · rcases hd with h | ⟨s1, h0, h⟩
            · exact .inl fun d u K h1 h2 x => h d u K (hfree d h1 h2) (by rw [hsame d u h1] at x; simp only [e, if_true] at x; exact x)
            · exact .inr ⟨s1, h0, fun d u K h1 h2 => by rw [hsame d u h1]; simp only [e, if_true]; exact h d u K (hfree d h1 h2)⟩
          · obtain ⟨s1, h0, h⟩ := skip
            exact .inr ⟨s1, h0, fun d u K h1 h2 => by rw [hsame d u h1]; simp only [e, if_false]; exact h d u K h2⟩
        case skip =>
          obtain ⟨s1, h0, h⟩ := skip
          exact .inr ⟨s1, h0, fun d u K h1 h2 => by rw [hsame d u h1]; exact h d u K h2⟩
        all_goals exact .inl fun d u K h1 _ x => by rw [hsame d u h1] at x; exact x

def kindOk (G : Env) (o : Oper) : Prop := kindOf G o = 1 ∨ kindOf G o = 2 ∨ kindOf G o = 3

theorem stepG_mono {o : Oper} (hk : kindOk G o) {s : St} {K K' : St → Prop} (h : stepG (std true P) G full o s K) (hm : ∀ s', K s' → K' s') : stepG (std true P) G full o s K' := by
  rcases hk with hk | hk | hk
  · obtain ⟨R, h1, h2⟩ := step_R (.inl hk) h
    exact h1.go s K' (Same.refl o s) fun v hv => hm _ (h2 v hv)
  · obtain ⟨R, h1, h2⟩ := step_R (.inr hk) h
    exact h1.go s K' (Same.refl o s) fun v hv => hm _ (h2 v hv)
  · rcases det_step3 (P := P) (full := full) hk s with hd | ⟨s1, _, hd⟩
    · exact absurd h (hd none .undef K (fun _ e => by cases e) (fun _ e => by cases e))
    · have := hd none .undef
      exact (this K' (fun _ e => by cases e) (fun _ e => by cases e)).2 (hm _ ((this K (fun _ e => by cases e) (fun _ e => by cases e)).1 h))

/-! ### Any order -/
def qA (P : Program) (G : Env) (full : List Oper) (i : Nat) (K : St → Prop) (s : St) : Prop :=
  match full[i]? with
  | none => K s
  | some o => stepG (std true P) G full o s K

def anyA (P : Program) (G : Env) (full : List Oper) (Q : St → Prop) : Nat → Array Bool → St → Prop
  | 0, listed, s => Region.ready .any full.toArray listed = [] ∧ Q s
  | fuel + 1, listed, s => (Region.ready .any full.toArray listed = [] → Q s) ∧ ∀ i ∈ Region.ready .any full.toArray listed, qA P G full i (anyA P G full Q fuel (listed.setIfInBounds i true)) s

theorem St.put_comm (s : St) {x y : Option Nat} (v u : PV) (h : ∀ d, x = some d → y ≠ some d) : (s.put x v).put y u = (s.put y u).put x v := by
  cases x with
  | none => rfl
  | some d =>
    cases y with
    | none => rfl
    | some e =>
      have hne : d ≠ e := fun he => h d rfl (he ▸ rfl)
      simp [St.put, List.set_comm _ _ hne]

/-- Two operations of which the second may come before the first. -/
def apartA (G : Env) (full : List Oper) (x y : Oper) : Bool :=
  x.apart full.toArray y && (((kindOf G x == 1 || kindOf G y == 1) && (kindOf G x == 1 || kindOf G x == 2) && (kindOf G y == 1 || kindOf G y == 2)) || (kindOf G x == 1 && hfB x && kindOf G y == 3))

theorem anyA_put {oi oj : Oper} (hap : apartA G full oi oj = true) {R : PV → Prop} {s : St} (hy : YR P G full oi R s) {K : St → Prop}
    (h : ∀ v, R v → stepG (std true P) G full oj (s.put oi.dst v) K) : stepG (std true P) G full oj s fun s' => YR P G full oi R s' ∧ ∀ v, R v → K (s'.put oi.dst v) := by
  unfold apartA at hap
  simp only [Bool.and_eq_true, Bool.or_eq_true, beq_iff_eq] at hap
  obtain ⟨hap, hor⟩ := hap
  obtain ⟨h1, h2, h3⟩ := Oper.apart_spec hap
  have hs : ∀ v, Same full oj (s.put oi.dst v) s := fun v => (Same.put v fun t ht => h1 t ht).symm
  have keep : ∀ u, YR P G full oi R (s.put oj.dst u) := fun u => hy.same (Same.put u fun t ht => h3 t ht)
  obtain ⟨v0, hv0⟩ := hy.ex
  rcases hor with ⟨⟨hor, -⟩, hkj⟩ | ⟨⟨hk1, hhf⟩, hk3⟩
  · rcases hor with hor | hor
    · obtain ⟨u, hu⟩ := hy.one hor
      obtain ⟨R', hR', hK⟩ := step_R hkj (h v0 hv0)
      refine hR'.go s _ (hs v0) fun x hx => ⟨keep x, fun v hv => ?_⟩
      rw [hu v hv, ← hu v0 hv0, ← St.put_comm s v0 x h2]
      exact hK x hx
    · rcases det_step (P := P) (full := full) hor (s.put oi.dst v0) with hd | ⟨u, hd⟩
      · exact absurd (h v0 hv0) (hd K)
      · refine (hd s _ (hs v0)).2 ⟨keep u, fun v hv => ?_⟩
        rw [← St.put_comm s v u h2]
        exact (hd (s.put oi.dst v) K ((hs v0).trans (hs v).symm)).1 (h v hv)
  · obtain ⟨u, hu⟩ := hy.one hk1
    rcases det_step3 (P := P) (full := full) hk3 s with hd | ⟨s1, h0, hd⟩
    · exact absurd (h v0 hv0) (hd oi.dst v0 K (fun t ht => h1 t ht) fun t ht => h2 t ht)
    · refine (hd none .undef _ (fun _ e => by cases e) (fun _ e => by cases e)).2 ⟨hy.same ⟨fun t ht => h0 t fun e => h3 t e ht, .inl hhf⟩, fun v hv => ?_⟩
      rw [hu v hv, ← hu v0 hv0]
      exact (hd oi.dst v0 K (fun t ht => h1 t ht) fun t ht => h2 t ht).1 (h v0 hv0)

/-- 'j' comes up behind 'i' in every order. -/
inductive Waits (full : List Oper) : Nat → Nat → Prop
  | base {j i : Nat} {o : Oper} {e : Edge} (hj : full[j]? = some o) (he : e ∈ o.after) (hb : Region.binds .any e = true) (hi : e.on = i) : Waits full j i
  | step {j i : Nat} {o : Oper} {e : Edge} (hj : full[j]? = some o) (he : e ∈ o.after) (hb : Region.binds .any e = true) (hw : Waits full e.on i) : Waits full j i

def Closed (full : List Oper) (listed : Array Bool) : Prop := ∀ (j : Nat) (o : Oper), full[j]? = some o → listed.getD j false = true → ∀ e ∈ o.after, Region.binds .any e = true → listed.getD e.on false = true

theorem Waits.listed {listed : Array Bool} (hc : Closed full listed) {j i : Nat} (h : Waits full j i) : listed.getD j false = true → listed.getD i false = true := by
  induction h with
  | base hj he hb hi => exact fun hl => hi ▸ hc _ _ hj hl _ he hb
  | step hj he hb hw ih => exact fun hl => ih (hc _ _ hj hl _ he hb)

theorem not_listed {listed : Array Bool} {i : Nat} (h : listed.getD i true = false) : ¬ listed.getD i false = true := fun h1 => by
  rcases Nat.lt_or_ge i listed.size with h' | h'
  · simp [h'] at h h1; rw [h] at h1; cases h1
  · simp [Array.getElem?_eq_none h'] at h1

theorem Closed.set {listed : Array Bool} (hc : Closed full listed) {j : Nat} (hj : j ∈ Region.ready .any full.toArray listed) : Closed full (listed.setIfInBounds j true) := fun k o hk hl e he hb => by
  obtain ⟨hjun, oj, hoj, hall⟩ := mem_ready.1 hj
  by_cases hjk : j = k
  · subst hjk
    obtain rfl : oj = o := by
      have hoj' : full[j]? = some oj := by simpa using hoj
      rw [hk] at hoj'
      exact (Option.some.inj hoj').symm
    exact getD_set_true (hall e he hb)
  · rw [getD_set_ne false hjk] at hl
    exact getD_set_true (hc k o hk hl e he hb)

/-- **An operation that may come up now may be taken first.** -/
theorem anyA_first {Q : St → Prop} {i : Nat} {oi : Oper} (hi : full[i]? = some oi) (hkind : ∀ (j : Nat) (o : Oper), full[j]? = some o → kindOk G o) {R : PV → Prop} :
    ∀ (fuel : Nat) (listed : Array Bool) (s : St),
      (∀ j oj, full[j]? = some oj → j ≠ i → listed.getD j true = false → ¬ Waits full j i → apartA G full oi oj = true) → Closed full listed →
      i ∈ Region.ready .any full.toArray listed → YR P G full oi R s →
      (∀ v, R v → anyA P G full Q fuel (listed.setIfInBounds i true) (s.put oi.dst v)) → anyA P G full Q (fuel + 1) listed s := by
  intro fuel
  have self : ∀ {s : St} {K : St → Prop}, YR P G full oi R s → (∀ v, R v → K (s.put oi.dst v)) → qA P G full i K s := fun hy hK => by
    unfold qA
    simp only [hi]
    exact hy.go _ _ (Same.refl _ _) hK
  induction fuel with
  | zero =>
    intro listed s _ _ hr hy H
    refine ⟨fun h => (by rw [h] at hr; cases hr), fun j hj => ?_⟩
    by_cases hji : j = i
    · subst hji; exact self hy H
    · have := ready_mono hj hji
      obtain ⟨v, hv⟩ := hy.ex
      rw [(H v hv).1] at this
      cases this
  | succ fuel ih =>
    intro listed s hfree hcl hr hy H
    refine ⟨fun h => (by rw [h] at hr; cases hr), fun j hj => ?_⟩
    by_cases hji : j = i
    · subst hji; exact self hy H
    · obtain ⟨hjun, oj, hoj, hall⟩ := mem_ready.1 hj
      have hoj' : full[j]? = some oj := by simpa using hoj
      have hnot : ¬ Waits full j i := fun hw => by
        have h0 := not_listed (mem_ready.1 hr).1
        cases hw with
        | base hj' he hb hi' =>
          obtain rfl := Option.some.inj (hoj'.symm.trans hj')
          exact h0 (hi' ▸ hall _ he hb)
        | step hj' he hb hw =>
          obtain rfl := Option.some.inj (hoj'.symm.trans hj')
          exact h0 (hw.listed hcl (hall _ he hb))
      have hap := hfree j oj hoj' hji hjun hnot
      have h2 := anyA_put hap hy fun v hv => by
        have := (H v hv).2 j (ready_mono hj hji)
        unfold qA at this
        simp only [hoj'] at this
        exact this
      have hfree' : ∀ k ok, full[k]? = some ok → k ≠ i → (listed.setIfInBounds j true).getD k true = false →
          ¬ Waits full k i → apartA G full oi ok = true := fun k ok hk hki hun hno => by
        refine hfree k ok hk hki ?_ hno
        by_cases hjk : j = k
        · subst hjk; exact hjun
        · rw [getD_set_ne true hjk] at hun; exact hun
      unfold qA
      simp only [hoj']
      refine stepG_mono (hkind j oj hoj') h2 fun s' h3 => ih (listed.setIfInBounds j true) _ hfree' (hcl.set hj) (ready_mono hr (Ne.symm hji)) h3.1 fun u hu => ?_
      rw [Array.setIfInBounds_comm _ _ hji]
      exact h3.2 u hu

/-- All others wait for this one: it comes next in every order. -/
theorem anyA_only {Q : St → Prop} {i : Nat} {oi : Oper} (hi : full[i]? = some oi) (hk : kindOk G oi) (fuel : Nat) (listed : Array Bool) (s : St)
    (hfree : ∀ j oj, full[j]? = some oj → j ≠ i → listed.getD j true = false → Waits full j i) (hcl : Closed full listed)
    (hr : i ∈ Region.ready .any full.toArray listed) (H : stepG (std true P) G full oi s fun s' => anyA P G full Q fuel (listed.setIfInBounds i true) s') : anyA P G full Q (fuel + 1) listed s := by
  refine ⟨fun h => (by rw [h] at hr; cases hr), fun j hj => ?_⟩
  by_cases hji : j = i
  · subst hji
    unfold qA
    simp only [hi]
    exact H
  · exfalso
    obtain ⟨hjun, oj, hoj, hall⟩ := mem_ready.1 hj
    have hoj' : full[j]? = some oj := by simpa using hoj
    have h0 := not_listed (mem_ready.1 hr).1
    cases hfree j oj hoj' hji hjun with
    | base hj' he hb hi' =>
      obtain rfl := Option.some.inj (hoj'.symm.trans hj')
      exact h0 (hi' ▸ hall _ he hb)
    | step hj' he hb hw =>
      obtain rfl := Option.some.inj (hoj'.symm.trans hj')
      exact h0 (hw.listed hcl (hall _ he hb))

/-! ### The text's order -/
def waitsA (full : List Oper) : Nat → Nat → Nat → Bool
  | 0, _, _ => false
  | n + 1, j, i => match full[j]? with
    | none => false
    | some o => o.after.any fun e => Region.binds .any e && (e.on == i || waitsA full n e.on i)

theorem waitsA_spec : ∀ (n j i : Nat), waitsA full n j i = true → Waits full j i
  | 0, _, _, h => by simp [waitsA] at h
  | n + 1, j, i, h => by
    unfold waitsA at h
    split at h
    · cases h
    · rename_i o ho
      rw [Array.any_eq_true'] at h
      obtain ⟨e, he, h2⟩ := h
      simp only [Bool.and_eq_true, Bool.or_eq_true, beq_iff_eq] at h2
      rcases h2.2 with h3 | h3
      · exact .base ho he h2.1 h3
      · exact .step ho he h2.1 (waitsA_spec n _ _ h3)

def freeA (G : Env) (full : List Oper) (listed : Array Bool) (k : Nat) : Bool :=
  match full[k]? with
  | none => true
  | some oi => (List.range full.length).all fun j => match full[j]? with
    | none => true
    | some oj => j == k || listed.getD j true || waitsA full full.length j k || apartA G full oi oj

def lexA (G : Env) (full : List Oper) : Nat → Nat → Array Bool → Bool
  | 0, _, listed => (Region.ready .any full.toArray listed).isEmpty
  | fuel + 1, k, listed => (Region.ready .any full.toArray listed).contains k && freeA G full listed k && lexA G full fuel (k + 1) (listed.setIfInBounds k true)

/-- One run in the text's order is enough. -/
def drawOk (G : Env) (full : List Oper) : Bool := full.all (fun o => kindOf G o == 1 || kindOf G o == 2 || kindOf G o == 3) && lexA G full full.length 0 (Array.replicate full.length false)

theorem freeA_spec {listed : Array Bool} {i : Nat} {oi : Oper} (hi : full[i]? = some oi) (h : freeA G full listed i = true) : ∀ j oj, full[j]? = some oj → j ≠ i → listed.getD j true = false → ¬ Waits full j i → apartA G full oi oj = true := fun j oj hj hji hun hno => by
  unfold freeA at h
  simp only [hi, List.all_eq_true, List.mem_range] at h
  have := h j (List.getElem?_eq_some_iff.1 hj).1
  simp only [hj, Bool.or_eq_true, beq_iff_eq] at this
  rcases this with ((h1 | h1) | h1) | h1
  · exact absurd h1 hji
  · rw [hun] at h1; cases h1
  · exact absurd (waitsA_spec _ _ _ h1) hno
  · exact h1

theorem anyA_lex {Q : St → Prop} (hkind : ∀ (j : Nat) (o : Oper), full[j]? = some o → kindOk G o) : ∀ (l : List Oper) (k : Nat) (listed : Array Bool) (s : St), (∀ j, l[j]? = full[k + j]?) →
    Closed full listed → lexA G full l.length k listed = true → opsD (std true P) G full l s Q → anyA P G full Q l.length listed s
  | [], _, _, _, _, _, hB, h => ⟨by simpa [lexA] using hB, h⟩
  | o :: l, k, listed, s, hl, hc, hB, h => by
    have h0 : full[k]? = some o := by simpa using (hl 0).symm
    simp only [List.length_cons, lexA, Bool.and_eq_true] at hB
    obtain ⟨⟨hr, hf⟩, hB'⟩ := hB
    rw [ops_cons] at h
    have next : ∀ s', opsD (std true P) G full l s' Q → anyA P G full Q l.length (listed.setIfInBounds k true) s' := fun s' h' =>
      anyA_lex hkind l (k + 1) _ _ (fun j => by have := hl (j + 1); simpa [Nat.add_assoc, Nat.add_comm 1 j] using this) (hc.set (by simpa using hr)) hB' h'
    have early : kindOf G o = 1 ∨ kindOf G o = 2 → anyA P G full Q (o :: l).length listed s := fun hk => by
      obtain ⟨R, hy, hK⟩ := step_R hk h
      exact anyA_first h0 hkind l.length listed s (freeA_spec h0 hf) hc (by simpa using hr) hy fun v hv => next _ (hK v hv)
    rcases hkind k o h0 with hk | hk | hk
    · exact early (.inl hk)
    · exact early (.inr hk)
    · refine anyA_only h0 (.inr (.inr hk)) l.length listed s (fun j oj hj hji hun => ?_) hc (by simpa using hr) (stepG_mono (.inr (.inr hk)) h next)
      refine Classical.byContradiction fun hno => ?_
      have := freeA_spec h0 hf j oj hj hji hun hno
      unfold apartA at this
      simp only [Bool.and_eq_true, Bool.or_eq_true, beq_iff_eq] at this
      omega

theorem wpOp_sound (hG : EnvOk P G) (hF : FieldsOk P G) {κ : Ctx} [NoZ κ] {η : Own} {s : St} {a : Act} {w : World} {Q' : Exit → Act → World → Prop} {i : Nat} {K : St → Prop} {K' : Act → World → Prop} (hKK : ∀ a w, Then κ K a w → K' a w) (h : Sim κ η s a w) (hq : qA P G full i K s) : wpOp P full.toArray Q' i K' a w := by
  unfold qA at hq
  unfold wpOp
  rw [List.getElem?_toArray]
  cases hi : full[i]? with
  | none => rw [hi] at hq; exact hKK _ _ ⟨η, s, h, hq⟩
  | some o =>
    rw [hi] at hq
    simp only at hq ⊢
    have run : Region.wanted o (yielded full.toArray a.tmps) = true → opD (std true P) G o s K → if Region.wanted o (yielded full.toArray a.tmps) then o.wp P a w K' Q' ∨ (o.asks P a w ∧ LetsOut Q') else K' (a.put o.dst Go.undef) w := fun hw hop => by
      rw [if_pos hw]
      exact .inl (Oper.wp_mono hKK (op_sound hG hF h (opD_op hop)))
    have skip : Region.wanted o (yielded full.toArray a.tmps) = false → K (s.put o.dst .skip) → if Region.wanted o (yielded full.toArray a.tmps) then o.wp P a w K' Q' ∨ (o.asks P a w ∧ LetsOut Q') else K' (a.put o.dst Go.undef) w := fun hw hop => by
      rw [hw]
      simp only [Bool.false_eq_true, if_false]
      exact hKK _ _ ⟨η, _, h.put o.dst (.of1 .skip), hop⟩
    unfold stepG at hq
    split at hq
    · rename_i hg
      exact run (by simp [Region.wanted, hg]) hq
    · rename_i j want hg
      split at hq
      case h_2 => exact hq.elim
      rename_i oj hj
      split at hq
      case h_2 => exact hq.elim
      rename_i t ht
      have hy : ∀ c, a.tmps[t]? = some c → yielded full.toArray a.tmps j = (match c with | .bool b => some b | _ => none) := fun c hc => by
        simp only [yielded, List.getElem?_toArray, hj, Option.bind_some, ht, hc]
        cases c <;> rfl
      split at hq
      · rename_i b hb
        obtain ⟨c, hc, hr⟩ := tmp_of h hb (by simp)
        obtain rfl := hr.bool
        have hy' := hy _ hc
        split at hq
        · rename_i e
          exact run (by simp [Region.wanted, hg, hy', e]) hq
        · rename_i e
          exact skip (by simp [Region.wanted, hg, hy', e]) hq
      · rename_i hb
        obtain ⟨c, hc, hr⟩ := tmp_of h hb (by simp)
        have hcu : c = Go.undef := by
          have h1 := hr.inv1 (fun _ e => by cases e) (fun _ e => by cases e)
          cases h1 with
          | skip => rfl
          | imm h1 => cases h1
        have hy' := hy _ hc
        rw [hcu] at hy'
        exact skip (by simp [Region.wanted, hg, hy', Go.undef]) hq
      · exact hq.elim

theorem anyA_sound (hG : EnvOk P G) (hF : FieldsOk P G) {κ : Ctx} [NoZ κ] {Q : St → Prop} {Q' : Exit → Act → World → Prop} (hQ : ∀ a w, Then κ Q a w → Q' .normal a w) : ∀ (fuel : Nat) (listed : Array Bool) (η : Own) (s : St) (a : Act) (w : World), Sim κ η s a w → anyA P G full Q fuel listed s → wpAny P .any full.toArray Q' fuel listed a w
  | 0, _, η, s, a, w, hs, h => ⟨h.1, hQ _ _ ⟨η, s, hs, h.2⟩⟩
  | fuel + 1, listed, η, s, a, w, hs, h => ⟨fun h0 => hQ _ _ ⟨η, s, hs, h.1 h0⟩, fun i hi => wpOp_sound hG hF (fun a' w' ⟨η', s', hs', h'⟩ => anyA_sound hG hF hQ fuel _ η' s' a' w' hs' h') hs (h.2 i hi)⟩

/-- **A region that draws its order**: one run in the text's order. -/
theorem W_draw (hG : EnvOk P G) (hF : FieldsOk P G) (hm : P.follows .mixedOrders = true) {κ : Ctx} [NoZ κ] {id : Nat} {os : Array Oper} {Q : Ex → St → Prop} {s : St} (hB : drawOk G os.toList = true) (h : opsD (std true P) G os.toList os.toList s (Q .normal)) : W P κ (.region id os true) Q s := fun η a w hs => by
  unfold drawOk at hB
  simp only [Bool.and_eq_true, List.all_eq_true, Bool.or_eq_true, beq_iff_eq] at hB
  have hany : anyA P G os.toList (Q .normal) os.toList.length (Array.replicate os.toList.length false) s := anyA_lex (fun j o ho => by have := hB.1 o (List.mem_of_getElem? ho); unfold kindOk; omega) os.toList 0 _ s (fun j => by simp) (fun j o _ hl => by simp [Array.getElem?_replicate] at hl; split at hl <;> cases hl) hB.2 h
  have := anyA_sound hG hF (Q' := Post κ Q) (fun a w ⟨η', s', h1, h2⟩ => ⟨η', s', h1, h2⟩) _ _ η s a _ (hs.below (w' := { w with drawn := w.drawn + 1 }) ⟨rfl, rfl, rfl, Nat.le_refl _, fun _ _ => rfl⟩) hany
  simp only [Array.toArray_toList, Array.length_toList] at this
  exact wp_region_any hm this
end
end Go.Proofs.Ytfjdfojjkhcfcaa.Ai
