/- Trees (rows with rows within): what the machine does to them is sound. -/
import Derived.MapKept
import Derived.Test.YtngefbdedbbplaaAiSound
namespace Go.Proofs.Ytngefbdedbbplaa.Ai
open Go Go.RowKit
set_option linter.unusedVariables false
set_option linter.unusedSimpArgs false

section
variable {bb : Bool} {P : Program} {κ : Ctx} {η : Own} {s : St} {a : Act} {w : World} {G : Env} {o : Oper} {Q' : Exit → Act → World → Prop}

/-- The cells of one element of a tree. -/
theorem tree_elemR {R : Nat → PV → Value → Prop} {sz i : Nat} {es : List (List PV)} {el : List PV} {vals : List Value} (hl : ∀ x ∈ es, x.length = sz) (he : es[i]? = some el) (hr : es.flatten.length = vals.length ∧ ∀ p c v, es.flatten[p]? = some c → vals[p]? = some v → R p c v) :
    ∃ vs : List Value, el.length = vs.length ∧ (∀ j v, vs[j]? = some v → vals[i * sz + j]? = some v) ∧ ∀ q c, el[q]? = some c → ∃ u, vs[q]? = some u ∧ R (i * sz + q) c u := by
  have hi : i < es.length := (List.getElem?_eq_some_iff.1 he).1
  have hel : el.length = sz := hl el (List.mem_of_getElem? he)
  have hv : vals.length = es.length * sz := by rw [← hr.1, flat_length hl]
  have hb : (i + 1) * sz ≤ es.length * sz := Nat.mul_le_mul_right _ hi
  rw [Nat.add_mul] at hb
  refine ⟨(vals.drop (i * sz)).take sz, by rw [List.length_take, List.length_drop]; omega, fun j v hj => ?_, fun q c hq => ?_⟩
  · rw [List.getElem?_take] at hj
    split at hj
    · rw [List.getElem?_drop] at hj; exact hj
    · cases hj
  · have hql : q < el.length := (List.getElem?_eq_some_iff.1 hq).1
    have hf : es.flatten[i * sz + q]? = some c := by
      rw [← List.getElem?_drop, flat_at hl he, List.getElem?_append_left hql]
      exact hq
    obtain ⟨u, hu⟩ : ∃ u, vals[i * sz + q]? = some u := ⟨_, List.getElem?_eq_getElem (by omega)⟩
    refine ⟨u, ?_, hr.2 _ _ _ hf hu⟩
    rw [List.getElem?_take, if_pos (by omega), List.getElem?_drop]
    exact hu
theorem tree_elem {id sz i : Nat} {es : List (List PV)} {el : List PV} {vals : List Value} (hl : ∀ x ∈ es, x.length = sz) (he : es[i]? = some el) (hr : CellsRep κ w η id es.flatten vals) :
    ∃ vs : List Value, el.length = vs.length ∧ (∀ j v, vs[j]? = some v → vals[i * sz + j]? = some v) ∧ ∀ q c, el[q]? = some c → ∃ u, vs[q]? = some u ∧ CellRep κ w η id (i * sz + q) c u := tree_elemR hl he hr
theorem CellRep.wcell {id p : Nat} {c : PV} {u : Value} (h : CellRep κ w η id p c u) : WCell κ w η id p c u := by
  cases c
  case fr => exact h
  all_goals exact .imm h
theorem WCell.one {id p : Nat} {c : PV} {u : Value} (h : WCell κ w η id p c u) (hc : ∀ e sz es, c ≠ .fr e sz es) : Rep1 w (Ai.imm κ η w) η c u := by
  cases c <;> first | exact h | exact absurd rfl (hc _ _ _)
theorem treeAt_spec (h : Sim κ η s a w) {id ver e sz : Nat} {es : List (List PV)} (ht : treeAt s id ver = some (e, sz, es)) :
    ∃ b v vals, s.H.get id = (ver, b) ∧ b.nest = some es ∧ η.cur id = ver ∧ η.val id = some v ∧ OwnsK κ w id ver e sz v es.length vals ∧ WCells κ w η id es.flatten vals ∧ ∀ x ∈ es, x.length = sz := by
  unfold treeAt at ht
  split at ht
  case isFalse => cases ht
  rename_i hv
  have hob := h.heap id
  generalize hq : s.H.get id = q at ht hv hob
  obtain ⟨v', b⟩ := q
  simp only at hv ht
  subst hv
  cases b <;> simp only [wildB, Option.some.injEq, Prod.mk.injEq, reduceCtorEq] at ht
  · obtain ⟨rfl, rfl, rfl⟩ := ht
    obtain ⟨hcur, v, vals, hval, hown, hrep, hlen⟩ := hob
    exact ⟨_, v, vals, rfl, rfl, hcur, hval, hown, ⟨hrep.1, fun p c u hp hu => (hrep.2 p c u hp hu).wcell⟩, hlen⟩
  · obtain ⟨rfl, rfl, rfl⟩ := ht
    obtain ⟨hcur, v, vals, hval, hown, hrep, hlen⟩ := hob
    exact ⟨_, v, vals, rfl, rfl, hcur, hval, hown, hrep, hlen⟩

theorem treeRefs_cons {id ver sz i q : Nat} {c : PV} {r : List PV} (hc : ∀ e z es, c ≠ .fr e z es) : treeRefs id ver sz i q (c :: r) = c :: treeRefs id ver sz i (q + 1) r := by
  cases c <;> first | rfl | exact absurd rfl (hc _ _ _)

theorem treeRefs_rep {id ver sz i : Nat} (hv : ver = η.cur id) : ∀ (q : Nat) (cs : List PV) (us : List Value), cs.length = us.length → (∀ j c, cs[j]? = some c → ∃ u, us[j]? = some u ∧ WCell κ w η id (i * sz + (q + j)) c u) →
    All2 (Rep1 w (imm κ η w) η) (treeRefs id ver sz i q cs) us
  | _, [], [], _, _ => .nil
  | _, [], _ :: _, h, _ => by simp at h
  | _, _ :: _, [], h, _ => by simp at h
  | q, c :: r, u :: us, h, hc => by
    have h0 : WCell κ w η id (i * sz + q) c u := by
      obtain ⟨u', hu, hr⟩ := hc 0 c rfl
      obtain rfl := Option.some.inj hu
      exact hr
    have hr := treeRefs_rep hv (q + 1) r us (by simpa using h) fun j c' hj => by
      obtain ⟨u', hu, hr⟩ := hc (j + 1) c' (by simpa using hj)
      exact ⟨u', by simpa using hu, by rw [show q + 1 + j = q + (j + 1) by omega]; exact hr⟩
    by_cases hf : ∃ e z es, c = .fr e z es
    · obtain ⟨e, z, es, rfl⟩ := hf
      refine .cons (.bsl id ver sz i q u (Nat.le_of_eq hv) fun _ x hx => ?_) hr
      exact Option.some.inj (h0.1.symm.trans hx)
    · have hne : ∀ e z es, c ≠ .fr e z es := fun e z es e' => hf ⟨e, z, es, e'⟩
      rw [treeRefs_cons hne]
      exact .cons (h0.one hne) hr

theorem optr_val {id ver sz i off : Nat} {c : Value} {I : Nat → Prop} (h : Rep w I η (.optr id ver sz i off) c) (hv : ver = η.cur id) {x : Value} (hx : η.val id = some x) : ∃ g, headOf x = some g ∧ c = .pointer (some ⟨g, i * sz + off, none⟩) := by
  cases h.inv1 (fun _ e => by cases e) (fun _ e => by cases e) with
  | imm h1 => cases h1
  | optr _ _ _ _ _ _ _ hp => exact hp hv x hx
theorem osl_val {id ver : Nat} {c : Value} {I : Nat → Prop} (h : Rep w I η (.osl id ver) c) (hv : ver = η.cur id) {x : Value} (hx : η.val id = some x) : c = x := by
  cases h.inv1 (fun _ e => by cases e) (fun _ e => by cases e) with
  | imm h1 => cases h1
  | osl _ _ _ _ hp => exact hp hv x hx
theorem bsl_val {id ver sz i off : Nat} {c : Value} {I : Nat → Prop} (h : Rep w I η (.bsl id ver sz i off) c) (hv : ver = η.cur id) {x : Value} (hx : η.val (.n id (i * sz + off)) = some x) : c = x := by
  cases h.inv1 (fun _ e => by cases e) (fun _ e => by cases e) with
  | imm h1 => cases h1
  | bsl _ _ _ _ _ _ _ hp => exact hp hv x hx
theorem bptr_val {id ver sz i off nsz j p : Nat} {c : Value} {I : Nat → Prop} (h : Rep w I η (.bptr id ver sz i off nsz j p) c) (hv : ver = η.cur id) {x : Value} (hx : η.val (.n id (i * sz + off)) = some x) :
    ∃ g, headOf x = some g ∧ c = .pointer (some ⟨g, j * nsz + p, none⟩) := by
  cases h.inv1 (fun _ e => by cases e) (fun _ e => by cases e) with
  | imm h1 => cases h1
  | bptr _ _ _ _ _ _ _ _ _ _ hp => exact hp hv x hx

theorem inner_spec (h : Sim κ η s a w) {id ver sz i off : Nat} {K : Nat → List (List PV) → Nat → Nat → List (List PV) → Prop} (hK : inner (std bb P) s id ver sz i off K) :
    ∃ e es el e' z es' v vals u vals', s.H.get id = (ver, .tree e sz es) ∧ η.cur id = ver ∧ es[i]? = some el ∧ el[off]? = some (.fr e' z es') ∧ η.val id = some v ∧ OwnsK κ w id ver e sz v es.length vals ∧
      CellsRep κ w η id es.flatten vals ∧ (∀ x ∈ es, x.length = sz) ∧ η.val (.n id (i * sz + off)) = some u ∧ OwnsK κ w 0 1 e' z u es'.length vals' ∧ RepIs w (imm κ η w) es'.flatten vals' ∧ (∀ x ∈ es', x.length = z) ∧
      vals[i * sz + off]? = some u ∧ K e es e' z es' := by
  unfold inner at hK
  split at hK
  case h_2 => exact hK.elim
  rename_i v' e sz' es he
  split at hK
  case isFalse => exact hK.elim
  rename_i ev
  split at hK
  case isFalse => exact hK.elim
  rename_i esz
  subst ev esz
  obtain ⟨el, hel, hfit, hK⟩ := hK
  split at hK
  case h_2 => exact hK.elim
  rename_i e' z es' hr
  have hr : (el.drop off).take 1 = [.fr e' z es'] := by simpa using hr
  have hc : el[off]? = some (.fr e' z es') := by
    have h1 : ((el.drop off).take 1)[0]? = some (.fr e' z es') := by rw [hr]; rfl
    rw [List.getElem?_take, if_pos (by omega), List.getElem?_drop] at h1
    simpa using h1
  have hob := h.heap id
  rw [he] at hob
  obtain ⟨hcur, v, vals, hval, hown, hrep, hlen⟩ := hob
  obtain ⟨vs, _, hvs, hcs⟩ := tree_elem hlen hel hrep
  obtain ⟨u, hu, hq⟩ := hcs off _ hc
  obtain ⟨q1, vals', q2, q3, q4⟩ := hq
  exact ⟨e, es, el, e', z, es', v, vals, u, vals', he, hcur, hel, hc, hval, hown, hrep, hlen, q1, q2, q3, q4, hvs _ _ hu, hK⟩

theorem load_fin (hG : EnvOk P G) (h : Sim κ η s a w) {K : PV → Prop} {t : Nat} {ti : TI} (hg : G t = some ti) {x : Operand} (ho : o.op = .load t x) {g off : Nat} {ps : List PV} {vs : List Value}
    (ha : a.eval x = .pointer (some ⟨g, off, none⟩)) (hr : All2 (Rep1 w (imm κ η w) η) ps vs) (hc : ∀ j v, vs[j]? = some v → w.cell? ⟨g, off + j, none⟩ = some v) {K' : St → Prop} (hKK : ∀ v, K v → K' (s.put o.dst v))
    (hA : aggOr ti.isAgg ti.size ps K) : o.wp P a w (Then κ K') Q' := by
  obtain ⟨c, p, hrun, hp, hk⟩ := run_loadVar (hG t ti hg) hr hc hA
  refine done_put h (c := c) ?_ hp (hKK p hk)
  simp [execOp, ho, Instr.loadAt, ha, Instr.sureAddr, hrun]

theorem sound_loadT (hG : EnvOk P G) (h : Sim κ η s a w) {K : St → Prop} (t : Nat) (x : Operand) (ho : o.op = .load t x) {id ver sz i off : Nat} (hv : s.ev x = .optr id ver sz i off)
    (hK : loadT (std bb P) G t s id ver sz i off fun v => K (s.put o.dst v)) : o.wp P a w (Then κ K) Q' := by
  have hx := h.ev x
  rw [hv] at hx
  unfold loadT at hK
  split at hK
  case h_2 => exact hK.elim
  rename_i e sz' es he
  split at hK
  case h_2 => exact hK.elim
  rename_i ti hg
  split at hK
  case isFalse => exact hK.elim
  rename_i esz
  subst esz
  obtain ⟨el, hel, hfit, hK⟩ := hK
  simp only at hK
  obtain ⟨_, v, vals, _, _, hcur, hval, hown, hrep, hlen⟩ := treeAt_spec h he
  obtain ⟨g, hg', hpt⟩ := optr_val hx hcur.symm hval
  obtain ⟨vs, hl, hvs, hcs⟩ := tree_elemR hlen hel hrep
  refine load_fin hG h hg ho hpt (ps := treeRefs id ver sz i off ((el.drop off).take ti.size)) (vs := (vs.drop off).take ti.size) ?_ (fun j u hj => ?_) (fun _ x => x) hK
  · refine treeRefs_rep hcur.symm off _ _ (by simp [hl]) fun j c hj => ?_
    rw [List.getElem?_take] at hj
    split at hj
    · rename_i hjt
      rw [List.getElem?_drop] at hj
      obtain ⟨u, hu, hr⟩ := hcs _ _ hj
      exact ⟨u, by rw [List.getElem?_take, if_pos hjt, List.getElem?_drop]; exact hu, hr⟩
    · cases hj
  · rw [List.getElem?_take] at hj
    split at hj
    · rw [List.getElem?_drop] at hj
      rw [Nat.add_assoc]
      exact own_cell hown.row hg' _ _ (hvs _ _ hj)
    · cases hj

theorem sound_loadB (hG : EnvOk P G) (h : Sim κ η s a w) {K : St → Prop} (t : Nat) (x : Operand) (ho : o.op = .load t x) {id ver sz i off nsz j p : Nat} (hv : s.ev x = .bptr id ver sz i off nsz j p)
    (hK : loadB (std bb P) G t s id ver sz i off nsz j p fun v => K (s.put o.dst v)) : o.wp P a w (Then κ K) Q' := by
  have hx := h.ev x
  rw [hv] at hx
  unfold loadB at hK
  split at hK
  case h_2 => exact hK.elim
  rename_i ti hg
  have hI := inner_spec h hK
  clear hK
  obtain ⟨e, es, el, e', z, es', v, vals, u, vals', he, hcur, hel, hc, hval, hown, hrep, hlen, hu, hown', hr', hlen', _, hK⟩ := hI
  split at hK
  case isFalse => exact hK.elim
  rename_i ez
  subst ez
  obtain ⟨el', hel', hfit, hK⟩ := hK
  simp only at hK
  obtain ⟨g, hg', hpt⟩ := bptr_val hx hcur.symm hu
  obtain ⟨vs, hvs, hat⟩ := row_elem hlen' hel' hr'
  refine load_fin hG h hg ho hpt (vs := (vs.drop p).take ti.size) (((RepIs.rep1 (η := η) hvs).drop p).take ti.size) (fun q y hq => ?_) (fun _ x => x) hK
  rw [List.getElem?_take] at hq
  split at hq
  · rw [List.getElem?_drop] at hq
    rw [Nat.add_assoc]
    exact own_cell hown'.row hg' _ _ (hat _ _ hq)
  · cases hq

theorem sound_indexT (hG : EnvOk P G) (h : Sim κ η s a w) {K : St → Prop} (t : Nat) (x y : Operand) (ho : o.op = .indexAddr t x y) {id ver : Nat} (hv : s.ev x = .osl id ver)
    (hK : indexT (std bb P) G t s id ver (s.ev y) fun v => K (s.put o.dst v)) : o.wp P a w (Then κ K) Q' := by
  have hx := h.ev x
  have hy := h.ev y
  rw [hv] at hx
  unfold indexT at hK
  split at hK
  case h_2 => exact hK.elim
  rename_i e sz es he
  split at hK
  case h_2 => exact hK.elim
  rename_i e0 te hsl
  obtain ⟨hu, hd⟩ := sliceOf_spec hG hsl
  split at hK
  case h_2 => exact hK.elim
  rename_i k n hn
  rw [hn] at hy
  obtain ⟨hy, _⟩ := hy.int
  split at hK
  case isFalse => exact hK.elim
  rename_i hsz
  obtain ⟨h0, hlt, hK⟩ := hK
  obtain ⟨_, v, vals, _, _, hcur, hval, hown, hr, hlen⟩ := treeAt_spec h he
  have hcv := osl_val hx hcur.symm hval
  rcases hown.row.2 with ⟨rfl, hn0⟩ | ⟨g, cap, cur, rfl, hB, hh, hcap, hm, hcs, htake⟩
  · omega
  · refine done_put h (c := .pointer (some ⟨g, n.toNat * sz + 0, none⟩)) ?_ (.of1 (.optr _ _ _ _ _ _ (Nat.le_of_eq hcur.symm) fun _ x hx' => ⟨g, ?_, rfl⟩)) hK
    · simp only [execOp, ho, hcv, hy, Sem.run_bind, run_indexAt hu hd g 0 es.length cap k n h0 (by omega), Result.andThen_ok, Sem.run_pure, Nat.zero_add, Nat.add_zero, hsz]
    · rw [hval] at hx'
      obtain rfl := Option.some.inj hx'
      rfl

theorem sound_indexB (hG : EnvOk P G) (h : Sim κ η s a w) {K : St → Prop} (t : Nat) (x y : Operand) (ho : o.op = .indexAddr t x y) {id ver sz i off : Nat} (hv : s.ev x = .bsl id ver sz i off)
    (hK : indexB (std bb P) G t s id ver sz i off (s.ev y) fun v => K (s.put o.dst v)) : o.wp P a w (Then κ K) Q' := by
  have hx := h.ev x
  have hy := h.ev y
  rw [hv] at hx
  unfold indexB at hK
  split at hK
  case h_2 => exact hK.elim
  rename_i e0 te hsl
  obtain ⟨hu, hd⟩ := sliceOf_spec hG hsl
  split at hK
  case h_2 => exact hK.elim
  rename_i k n hn
  rw [hn] at hy
  obtain ⟨hy, _⟩ := hy.int
  have hI := inner_spec h hK
  clear hK
  obtain ⟨e, es, el, e', z, es', v, vals, u, vals', he, hcur, hel, hc, hval, hown, hrep, hlen, huv, hown', hr', hlen', _, hK⟩ := hI
  split at hK
  case isFalse => exact hK.elim
  rename_i hsz
  obtain ⟨h0, hlt, hK⟩ := hK
  have hcv := bsl_val hx hcur.symm huv
  rcases hown'.row.2 with ⟨rfl, hn0⟩ | ⟨g, cap, cur, rfl, hB, hh, hcap, hm, hcs, htake⟩
  · omega
  · refine done_put h (c := .pointer (some ⟨g, n.toNat * z + 0, none⟩)) ?_ (.of1 (.bptr _ _ _ _ _ _ _ _ _ (Nat.le_of_eq hcur.symm) fun _ x hx' => ⟨g, ?_, rfl⟩)) hK
    · simp only [execOp, ho, hcv, hy, Sem.run_bind, run_indexAt hu hd g 0 es'.length cap k n h0 (by omega), Result.andThen_ok, Sem.run_pure, Nat.zero_add, Nat.add_zero, hsz]
    · rw [huv] at hx'
      obtain rfl := Option.some.inj hx'
      rfl

/-- An own row's block is written: the row with other cells. -/
theorem owns_write {e sz n g pos base : Nat} {v : Value} {vals cs : List Value} (hown : w.ownsRow base e sz v n vals) (hg : headOf v = some g) (hpos : pos + cs.length ≤ n * sz) :
    ∃ cap cur, v = .slice (some ⟨g, 0, none⟩) n cap ∧ base ≤ g ∧ w.heap[g]? = some (.cells cur e (0, 0)) ∧ n * sz ≤ cur.size ∧
      (w.setRow g (cur.toList.take pos ++ cs ++ cur.toList.drop (pos + cs.length)).toArray).ownsRow base e sz v n (vals.take pos ++ cs ++ vals.drop (pos + cs.length)) := by
  obtain ⟨hvl, hrow⟩ := hown
  rcases hrow with ⟨rfl, _⟩ | ⟨g', cap, cur, rfl, hB, hh, hcap, hm, hcs, htake⟩
  · cases hg
  · obtain rfl := Option.some.inj hg
    have hcl2 : n * sz ≤ cur.size := by rw [hcs]; exact Nat.mul_le_mul_right _ hcap
    refine ⟨cap, cur, rfl, hB, hh, hcl2, ⟨?_, .inr ⟨g', cap, _, rfl, hB, setRow_heap w g' cur _ e _ hh, hcap, hm, ?_, ?_⟩⟩⟩
    · simp only [List.length_append, List.length_take, List.length_drop, hvl]
      omega
    · simp only [List.size_toArray, List.length_append, List.length_take, List.length_drop, Array.length_toList]
      omega
    · have hvt : vals.take pos = cur.toList.take pos := by
        rw [← htake, List.take_take, Nat.min_eq_left (by omega)]
      have hvd : vals.drop (pos + cs.length) = (cur.toList.drop (pos + cs.length)).take (n * sz - (pos + cs.length)) := by
        rw [← htake, List.drop_take]
      rw [hvd, hvt, List.take_append, List.take_of_length_le]
      · congr 2
        simp only [List.length_append, List.length_take, Array.length_toList]
        omega
      · simp only [List.length_append, List.length_take, Array.length_toList]
        omega

theorem splice_length {cs ps : List PV} {o : Nat} (h : o + ps.length ≤ cs.length) : (splice cs o ps).length = cs.length := by
  unfold splice
  simp only [List.length_append, List.length_take, List.length_drop]
  omega

theorem getElem?_splice_one {cs : List PV} {p q : Nat} {c : PV} (hp : p < cs.length) : (splice cs p [c])[q]? = if q = p then some c else cs[q]? := by
  unfold splice
  rw [List.append_assoc, List.getElem?_append]
  have hl : (cs.take p).length = p := by rw [List.length_take]; omega
  rw [hl]
  by_cases h1 : q < p
  · rw [if_pos h1, if_neg (by omega), List.getElem?_take, if_pos h1]
  · rw [if_neg h1]
    by_cases h2 : q = p
    · rw [if_pos h2, h2, Nat.sub_self]; rfl
    · rw [if_neg h2, List.getElem?_append_right (by simp; omega), List.getElem?_drop]
      congr 1
      simp only [List.length_cons, List.length_nil]
      omega

theorem sound_storeB [NoZ κ] (hG : EnvOk P G) (h : Sim κ η s a w) {K : St → Prop} (t : Nat) (x y : Operand) (ho : o.op = .store t x y) {id ver sz i off nsz j p : Nat} (hv : s.ev x = .bptr id ver sz i off nsz j p)
    (hK : storeB (std bb P) G t s id ver sz i off nsz j p (s.ev y) fun s' => K (s'.put o.dst .skip)) : o.wp P a w (Then κ K) Q' := by
  have hx := h.ev x
  have hy := h.ev y
  rw [hv] at hx
  unfold storeB at hK
  split at hK
  case h_2 => exact hK.elim
  rename_i ti hg
  have hd := hG t ti hg
  split at hK
  case isFalse => exact hK.elim
  rename_i hsz
  split at hK
  case isFalse => exact hK.elim
  rename_i hpure
  have hI := inner_spec h hK
  clear hK
  obtain ⟨e, es, el, e', z, es', v, vals, u, vals', he, hcur, hel, hc, hval, hown, hrep, hlen, hu, hown', hr', hlen', hvu, hK⟩ := hI
  split at hK
  case isFalse => exact hK.elim
  rename_i ez
  subst ez
  obtain ⟨el', hel', hfit, hK⟩ := hK
  simp only at hK
  obtain ⟨el2, hel2, hfit2, hK⟩ := hK
  obtain rfl : el = el2 := Option.some.inj (hel.symm.trans hel2)
  simp only at hK
  obtain ⟨g, hg', hpt⟩ := bptr_val hx hcur.symm hu
  obtain ⟨hcr, hone⟩ := cells_rep h hy (List.all_eq_true.2 fun c hc => by
    have := List.all_eq_true.1 hpure c hc
    cases c <;> first | rfl | cases this | exact this)
  have hcrI : RepIs w (imm κ η w) (s.ev y).cells (a.eval y).cells.toList := pures_rep hcr hpure
  have hlen1 : (a.eval y).cells.size = ti.size := by rw [← hsz, hcr.length]; simp
  have hul : (a.eval y).cells.toList.length = ti.size := by simpa using hlen1
  have hj : j < es'.length := (List.getElem?_eq_some_iff.1 hel').1
  have hell : el'.length = z := hlen' el' (List.mem_of_getElem? hel')
  have hpos : j * z + p + ti.size ≤ es'.length * z := by
    have h1 : (j + 1) * z ≤ es'.length * z := Nat.mul_le_mul_right _ hj
    rw [Nat.add_mul] at h1
    rw [hsz, hell] at hfit
    omega
  obtain ⟨cap, cur, rfl, hB, hh, hcl, hown2⟩ := owns_write (cs := (a.eval y).cells.toList) (pos := j * z + p) hown'.row hg' (by rw [hul]; exact hpos)
  have hrun := run_storeVar (P := P) (w := w) (off := j * z + p) hd hh hlen1 (by omega) hone
  have hel0 : el.length = sz := hlen el (List.mem_of_getElem? hel)
  have hfl : ∀ q, (es.set i (splice el off [.fr e' z (es'.set j (splice el' p (s.ev y).cells))])).flatten[q]? = if q = i * sz + off then some (.fr e' z (es'.set j (splice el' p (s.ev y).cells))) else es.flatten[q]? := fun q => by
    rw [flat_set hlen hel (by simpa using hfit2), getElem?_splice_one]
    have hi : i < es.length := (List.getElem?_eq_some_iff.1 hel).1
    have h1 : (i + 1) * sz ≤ es.length * sz := Nat.mul_le_mul_right _ hi
    rw [Nat.add_mul] at h1
    rw [flat_length hlen]
    simp only [List.length_cons, List.length_nil] at hfit2
    omega
  have hne : ∀ (k : Key) x' q, η.val k = some x' → headOf x' = some q → k ≠ .n id (i * sz + off) → q ≠ g := fun k x' q hk hq hkn e1 => hkn (h.apart k _ x' _ q hk hu hq (by rw [e1]; rfl))
  have hs := h.writeK (w' := w.setRow g (cur.toList.take (j * z + p) ++ (a.eval y).cells.toList ++ cur.toList.drop (j * z + p + (a.eval y).cells.toList.length)).toArray) id ver
    (.tree e sz (es.set i (splice el off [.fr e' z (es'.set j (splice el' p (s.ev y).cells))]))) (.n id (i * sz + off)) rfl _ g hcur hu rfl (fun k hk => setRow_other w g k _ hk) (by simp [World.setRow]) (setRow_kept h.kept (hown'.side.new g rfl) _)
    (fun q x' hq => by
      obtain ⟨_, f1, f2, f3, hb, hp'⟩ := h.sub id q x' hq
      rw [he] at hb
      obtain rfl := Option.some.inj hb
      by_cases hqq : q = i * sz + off
      · exact ⟨_, _, _, _, rfl, by rw [hfl, if_pos hqq]⟩
      · exact ⟨_, _, _, _, rfl, by rw [hfl, if_neg hqq]; exact hp'⟩)
    (fun hI => ⟨hcur, v, vals, hval, ?_, ⟨?_, fun q c x' hq hx' => ?_⟩, ?_⟩)
  · refine done_skip ?_ hs hK
    simp [execOp, ho, Instr.storeAt, hpt, Instr.sureAddr, hrun]
  · rw [List.length_set]
    exact owns_keep hown fun q hq => setRow_other w g q _ (hne (.o id) v q hval hq (by simp))
  · rw [flat_set hlen hel (by simpa using hfit2), ← hrep.1]
    have := splice_length (cs := es.flatten) (o := i * sz + off) (ps := [PV.fr e' z (es'.set j (splice el' p (s.ev y).cells))])
    apply this
    have hi : i < es.length := (List.getElem?_eq_some_iff.1 hel).1
    have h1 : (i + 1) * sz ≤ es.length * sz := Nat.mul_le_mul_right _ hi
    rw [Nat.add_mul] at h1
    rw [flat_length hlen]
    simp only [List.length_cons, List.length_nil] at hfit2 ⊢
    omega
  · rw [hfl] at hq
    split at hq
    · rename_i hqq
      subst hqq
      obtain rfl := Option.some.inj hq
      obtain rfl : _ = x' := Option.some.inj (hvu.symm.trans hx')
      refine ⟨hu, _, by rw [List.length_set]; exact ⟨hown2, hown'.side⟩, ?_, fun y' hy' => ?_⟩
      · rw [flat_set hlen' hel' hfit]
        refine RepIs.mono hI (RepIs.of ?_)
        unfold splice
        have hfl2 : (s.ev y).cells.length = (a.eval y).cells.toList.length := hcr.length
        rw [hfl2]
        exact ((hr'.all2.take _).app hcrI.all2).app (hr'.all2.drop _)
      · rcases List.mem_or_eq_of_mem_set hy' with hy' | rfl
        · exact hlen' y' hy'
        · rw [splice_length (by rw [hell]; rw [hell] at hfit; exact hfit)]; exact hell
    · rename_i hqq
      exact (hrep.2 q c x' hq hx').keep rfl (fun x2 q2 h1 h2 => setRow_other w g q2 _ (hne _ x2 q2 h1 h2 (by simpa using hqq))) hI
  · intro x' hx'
    rcases List.mem_or_eq_of_mem_set hx' with hx' | rfl
    · exact hlen x' hx'
    · rw [splice_length hfit2]; exact hel0

theorem owns_shape {B e sz n : Nat} {v : Value} {vals : List Value} (h : w.ownsRow B e sz v n vals) : ∃ A cap, v = .slice A n cap ∧ n ≤ maxLen := by
  rcases h.2 with ⟨rfl, rfl⟩ | ⟨g, cap, cur, rfl, hB, hh, hcap, hm, _⟩
  · exact ⟨none, 0, rfl, Nat.zero_le _⟩
  · exact ⟨_, cap, rfl, Nat.le_trans hcap hm⟩

theorem sound_lenT [NoZ κ] (hG : EnvOk P G) (h : Sim κ η s a w) {K : St → Prop} (t : Nat) (x : Operand) (ho : o.op = .call { callee := .builtin .len, args := #[x], argTypes := #[t] })
    (hK : lenT (std bb P) G t s (s.ev x) fun v => K (s.put o.dst v)) : o.wp P a w (Then κ K) Q' := by
  have fin : ∀ e A n cap, P.underlying t = some (.slice e) → a.eval x = .slice A n cap → n ≤ maxLen → K (s.put o.dst (.int .i64 n)) → o.wp P a w (Then κ K) Q' := by
    intro e A n cap hu hv hn hk
    refine done_put h (c := .int .i64 n) ?_ (.of (.int _ _ ?_)) hk
    · rw [execOp_builtin ho]
      simp [builtin, hv, Builtin.len_, run_underlying hu, goInt]
    · unfold maxLen at hn
      rw [IntKind.wrap_i64]
      omega
  have hx := h.ev x
  unfold lenT at hK
  split at hK
  · rename_i id ver hv
    split at hK
    · rename_i v' e sz es he
      split at hK
      case isFalse => exact hK.elim
      rename_i hs
      split at hK
      case isFalse => exact hK.elim
      rename_i ev
      subst ev
      rw [hv] at hx
      obtain ⟨e0, hu⟩ := isSlice_spec hG hs
      have hob := h.heap id
      rw [he] at hob
      obtain ⟨hcur, v, vals, hval, hown, hr, hlen⟩ := hob
      obtain ⟨A, cap, hc, hm⟩ := owns_shape hown.row
      exact fin e0 A _ cap hu ((osl_val hx hcur.symm hval).trans hc) hm (std_len hK hm)
    · exact sound_len hG h t x ho hK
  · rename_i id ver sz i off hv
    split at hK
    case isFalse => exact hK.elim
    rename_i hs
    rw [hv] at hx
    obtain ⟨e0, hu⟩ := isSlice_spec hG hs
    have hI := inner_spec h hK
    clear hK
    obtain ⟨e, es, el, e', z, es', v, vals, u, vals', he, hcur, hel, hc, hval, hown, hrep, hlen, huv, hown', hr', hlen', _, hK⟩ := hI
    obtain ⟨A, cap, hc, hm⟩ := owns_shape hown'.row
    exact fin e0 A _ cap hu ((bsl_val hx hcur.symm huv).trans hc) hm (std_len hK hm)
  · exact sound_len hG h t x ho hK

/-! ### Objects are given up, their blocks set aside -/
theorem ObjRep.keepR {κ κ' : Ctx} {w w' : World} {η η' : Own} {id : Nat} {x : Nat × Body} (h : ObjRep κ w η id x) (hB : κ'.B = κ.B) (hM : κ'.M = κ.M) (hl : κ'.lent = κ.lent) (hc : η'.cur id = η.cur id) (hv : ∀ k : Key, k.id = id → η'.val k = η.val k)
    (hb : ∀ (k : Key) v g, k.id = id → η.val k = some v → headOf v = some g → w'.heap[g]? = w.heap[g]?)
    (hI : ∀ g, imm κ η w g → imm κ' η' w' g ∧ w'.heap[g]? = w.heap[g]?) (hη : η.le η') : ObjRep κ' w' η' id x := by
  obtain ⟨ver, b⟩ := x
  cases b with
  | dead => exact ⟨hc.trans h.1, (hv id rfl).trans h.2⟩
  | box cs =>
    obtain ⟨h1, g, arr, e, h2, h3, h4, h5⟩ := h
    exact ⟨hc.trans h1, g, arr, e, (hv id rfl).trans h2, (hb id _ g rfl h2 rfl).trans h3, h4.mono fun _ _ x => x.mono hI hη, ⟨fun k hk => by rw [hM, hB]; exact h5.new k hk, fun u hu => h5.same u (by rw [← hl]; exact hu)⟩⟩
  | row e sz es =>
    obtain ⟨h1, v, vals, h2, h3, h4, h5⟩ := h
    exact ⟨hc.trans h1, v, vals, (hv id rfl).trans h2, owns_keep h3 (fun g hg => hb id v g rfl h2 hg) (fun g hg => by rw [hB, hM]; exact hg) (fun u hu _ => by rw [← hl]; exact hu), h4.mono hI, h5⟩
  | iter b pos =>
    obtain ⟨h1, g, h2, h3, h4, h5⟩ := h
    exact ⟨hc.trans h1, g, (hv id rfl).trans h2, (hb id _ g rfl h2 rfl).trans h3, by rw [hB]; exact h4, h5⟩
  | map es =>
    obtain ⟨h1, g, ents, clock, ks, h2, h3, h4, h5⟩ := h
    exact ⟨hc.trans h1, g, ents, clock, ks, (hv id rfl).trans h2, (hb id _ g rfl h2 rfl).trans h3, by rw [hB]; exact h4, h5⟩
  | tree e sz es =>
    obtain ⟨h1, v, vals, h2, h3, h4, h5⟩ := h
    exact ⟨hc.trans h1, v, vals, (hv id rfl).trans h2, owns_keep h3 (fun g hg => hb id v g rfl h2 hg) (fun g hg => by rw [hB, hM]; exact hg) (fun u hu _ => by rw [← hl]; exact hu), ⟨h4.1, fun p c u hp hu => (h4.2 p c u hp hu).keepR (hv (.n id p) rfl) (fun x g => hb (.n id p) x g rfl) hI (fun g hg => by rw [hB, hM]; exact hg)⟩, h5⟩
  | wild e sz es =>
    obtain ⟨h1, v, vals, h2, h3, h4, h5⟩ := h
    exact ⟨hc.trans h1, v, vals, (hv id rfl).trans h2, owns_keep h3 (fun g hg => hb id v g rfl h2 hg) (fun g hg => by rw [hB, hM]; exact hg) (fun u hu _ => by rw [← hl]; exact hu), ⟨h4.1, fun p c u hp hu => (h4.2 p c u hp hu).keepR (hv (.n id p) rfl) (fun x g => hb (.n id p) x g rfl) hI hη (fun g hg => by rw [hB, hM]; exact hg)⟩, h5⟩

theorem Kept.res {gs gs' : List Nat} (h : Kept (κ.res gs) w) : Kept (κ.res gs') w := ⟨h.os, h.tape, h.output, h.size, h.block⟩
theorem Kept.unres {gs : List Nat} (h : Kept (κ.res gs) w) : Kept κ w := ⟨h.os, h.tape, h.output, h.size, h.block⟩
theorem Kept.tores {gs : List Nat} (h : Kept κ w) : Kept (κ.res gs) w := ⟨h.os, h.tape, h.output, h.size, h.block⟩

/-- No block that is set aside belongs to an object. -/
def Aside (η : Own) (gs : List Nat) : Prop := ∀ g ∈ gs, ∀ (k : Key) x, η.val k = some x → headOf x ≠ some g

theorem Sim.giveUp {gs : List Nat} (h : Sim (κ.res gs) η s a w) (id : Nat) (b : Body) (hb : s.H.get id = (η.cur id, b)) (g0 : List Nat)
    (hg0 : ∀ (k : Key) x g, k.id = id → η.val k = some x → headOf x = some g → g ∈ g0) (hg1 : ∀ g ∈ g0, ∃ (k : Key) (x : Value), k.id = id ∧ η.val k = some x ∧ headOf x = some g) (ha : Aside η gs) :
    Sim (κ.res (g0 ++ gs)) (η.set id (η.cur id) none) ⟨s.T, s.H.put id (η.cur id, .dead)⟩ a w ∧ (∀ g, imm (κ.res gs) η w g → imm (κ.res (g0 ++ gs)) (η.set id (η.cur id) none) w g) ∧ Aside (η.set id (η.cur id) none) (g0 ++ gs) := by
  have hI : ∀ g, imm (κ.res gs) η w g → imm (κ.res (g0 ++ gs)) (η.set id (η.cur id) none) w g ∧ w.heap[g]? = w.heap[g]? := fun g hg => by
    refine ⟨⟨hg.1, ⟨hg.2.1.1, fun hm => ?_⟩, fun k x hx he => ?_⟩, rfl⟩
    · rcases List.mem_append.1 hm with hm | hm
      · obtain ⟨k, x, _, hx, he⟩ := hg1 g hm
        exact hg.2.2 k x hx he
      · exact hg.2.1.2 hm
    · rcases Own.set_val hx with ⟨_, hx⟩ | ⟨_, hx⟩
      · cases hx
      · exact hg.2.2 k x hx he
  refine ⟨⟨h.tmps.mono fun _ _ x => x.mono hI (η.le_kill id), h.defers, fun i => ?_, fun i j x x' g hx hx' => ?_, fun i => ?_, h.kept.res⟩, fun g hg => (hI g hg).1, fun g hg k x hx he => ?_⟩
  · rw [Heap.get_put]
    by_cases e : i = id
    · subst e; simp only [if_true]; exact ⟨Own.set_cur, Own.set_o⟩
    · rw [if_neg e]
      exact (h.heap i).keepR rfl rfl rfl (Own.set_cur_ne e) (fun k hk => Own.set_ne (by rw [hk]; exact e)) (fun _ _ _ _ _ _ => rfl) hI (η.le_kill id)
  · rcases Own.set_val hx with ⟨_, hx⟩ | ⟨_, hx⟩
    · cases hx
    · rcases Own.set_val hx' with ⟨_, hx'⟩ | ⟨_, hx'⟩
      · cases hx'
      · exact h.apart i j x x' g hx hx'
  · rw [Heap.get_put]
    by_cases e : i = id
    · subst e; exact SubRep.none fun p => Own.set_n
    · rw [if_neg e]
      exact (h.sub i).keep fun k hk => Own.set_ne (by rw [hk]; exact e)
  · rcases Own.set_val hx with ⟨_, hx⟩ | ⟨hk, hx⟩
    · cases hx
    · rcases List.mem_append.1 hg with hg | hg
      · obtain ⟨k', x', hk', hx', he'⟩ := hg1 g hg
        exact hk (by rw [h.apart k k' x x' g hx hx' he he', hk'])
      · exact ha g hg k x hx he

/-- A new object, some of whose blocks had been set aside. -/
theorem Sim.createR [NoZ κ] {gs : List Nat} (h : Sim (κ.res gs) η s a w) (ha : Aside η gs) {w' : World} (hw : ∀ k, k < w.heap.size → k ∉ gs → w'.heap[k]? = w.heap[k]?) (hz : w.heap.size ≤ w'.heap.size) (hk : Kept κ w') (id : Nat) (b : Body) (v : Value) (sub : Nat → Option Value)
    (hhead : ∀ (k : Key) x g, k.id = id → (η.setT id ((s.H.get id).1 + 1) (some v) sub).val k = some x → headOf x = some g → w.heap.size ≤ g ∨ g ∈ gs)
    (hin : ∀ (k k' : Key) x x' g, k.id = id → k'.id = id → (η.setT id ((s.H.get id).1 + 1) (some v) sub).val k = some x → (η.setT id ((s.H.get id).1 + 1) (some v) sub).val k' = some x' → headOf x = some g → headOf x' = some g → k = k')
    (hsub : SubRep (η.setT id ((s.H.get id).1 + 1) (some v) sub) id b)
    (hb : (∀ g, imm (κ.res gs) η w g → imm κ (η.setT id ((s.H.get id).1 + 1) (some v) sub) w' g ∧ w'.heap[g]? = w.heap[g]?) →
      ObjRep κ w' (η.setT id ((s.H.get id).1 + 1) (some v) sub) id ((s.H.get id).1 + 1, b)) :
    Sim κ (η.setT id ((s.H.get id).1 + 1) (some v) sub) ⟨s.T, s.H.new id b⟩ a w' := by
  have hcur : η.cur id = (s.H.get id).1 := (h.heap id).ver
  have hle : η.le (η.setT id ((s.H.get id).1 + 1) (some v) sub) := Own.le_setT (by omega)
  have hI : ∀ g, imm (κ.res gs) η w g → imm κ (η.setT id ((s.H.get id).1 + 1) (some v) sub) w' g ∧ w'.heap[g]? = w.heap[g]? := fun g hgi => by
    have hwg := hw g hgi.1 hgi.2.1.2
    refine ⟨⟨Nat.lt_of_lt_of_le hgi.1 hz, ⟨(side_keep hwg hgi.2.1).1, NoZ.out g⟩, fun i x hx he => ?_⟩, hwg⟩
    by_cases e : i.id = id
    · rcases hhead i x g e hx he with h1 | h1
      · have := hgi.1; omega
      · exact hgi.2.1.2 h1
    · rw [Own.setT_ne e] at hx
      exact hgi.2.2 i x hx he
  have hne : ∀ (k : Key) x g, η.val k = some x → headOf x = some g → g < w.heap.size ∧ g ∉ gs := fun k x g hx he => ⟨(h.head hx he).1, fun hm => ha g hm k x hx he⟩
  refine ⟨h.tmps.mono fun _ _ x => x.mono hI hle, h.defers, fun i => ?_, fun i j x x' g hx hx' he he' => ?_, fun i => ?_, hk⟩
  · unfold Heap.new
    rw [Heap.get_put]
    by_cases e : i = id
    · subst e
      simp only [if_true]
      exact hb hI
    · rw [if_neg e]
      exact (h.heap i).keepR rfl rfl rfl (if_neg e) (fun k hk => Own.setT_ne (by rw [hk]; exact e)) (fun k x g _ hx hgx => hw g (hne k x g hx hgx).1 (hne k x g hx hgx).2) hI hle
  · by_cases e : i.id = id <;> by_cases e' : j.id = id
    · exact hin i j x x' g e e' hx hx' he he'
    · rw [Own.setT_ne e'] at hx'
      have h2 := hne j x' g hx' he'
      rcases hhead i x g e hx he with h1 | h1
      · omega
      · exact absurd h1 h2.2
    · rw [Own.setT_ne e] at hx
      have h2 := hne i x g hx he
      rcases hhead j x' g e' hx' he' with h1 | h1
      · omega
      · exact absurd h1 h2.2
    · rw [Own.setT_ne e] at hx; rw [Own.setT_ne e'] at hx'
      exact h.apart i j x x' g hx hx' he he'
  · unfold Heap.new
    rw [Heap.get_put]
    by_cases e : i = id
    · subst e; simp only [if_true]; exact hsub
    · rw [if_neg e]
      exact (h.sub i).keep fun k hk => Own.setT_ne (by rw [hk]; exact e)

theorem res_congr {gs gs' : List Nat} (h : ∀ g, g ∈ gs ↔ g ∈ gs') : κ.res gs = κ.res gs' := by
  unfold Ctx.res
  have : (fun x => x ∈ gs) = (fun x => x ∈ gs') := funext fun g => propext (h g)
  rw [this]

/-- Cells that are to stand in a tree: rows of their own, in blocks that are set aside, and what is only read. -/
inductive NestL (w : World) (I : Nat → Prop) (B : Ctx) : List PV → List Value → List Nat → Prop
  | nil : NestL w I B [] [] []
  | imm {p v ps vs gs} : RepI w I p v → NestL w I B ps vs gs → NestL w I B (p :: ps) (v :: vs) gs
  | fr {e sz es v vals ps vs gs} : OwnsK B w 0 1 e sz v es.length vals → RepIs w I es.flatten vals → (∀ x ∈ es, x.length = sz) → NestL w I B ps vs gs → NestL w I B (.fr e sz es :: ps) (v :: vs) ((headOf v).toList ++ gs)

theorem NestL.weak {I I' : Nat → Prop} {B : Ctx} (hI : ∀ g, I g → I' g) : ∀ {ps : List PV} {vs : List Value} {gs : List Nat}, NestL w I B ps vs gs → NestL w I' B ps vs gs
  | _, _, _, .nil => .nil
  | _, _, _, .imm h r => .imm (h.weak hI) (NestL.weak hI r)
  | _, _, _, .fr h1 h2 h3 r => .fr h1 (h2.weak hI) h3 (NestL.weak hI r)
theorem NestL.ctx {I : Nat → Prop} {B B' : Ctx} : ∀ {ps : List PV} {vs : List Value} {gs : List Nat}, NestL w I B ps vs gs → (∀ g, B.B ≤ g ∨ B.M g → B'.B ≤ g ∨ B'.M g) → NestL w I B' ps vs gs
  | _, _, _, .nil, _ => .nil
  | _, _, _, .imm h r, hS => .imm h (NestL.ctx r hS)
  | _, _, _, .fr h1 h2 h3 r, hS => .fr (owns_keep h1 (fun _ _ => rfl) hS (fun _ _ h => by cases h)) h2 h3 (NestL.ctx r hS)
theorem NestL.app {I : Nat → Prop} {B : Ctx} : ∀ {ps ps' : List PV} {vs vs' : List Value} {gs gs' : List Nat}, NestL w I B ps vs gs → NestL w I B ps' vs' gs' → NestL w I B (ps ++ ps') (vs ++ vs') (gs ++ gs')
  | _, _, _, _, _, _, .nil, h => h
  | _, _, _, _, _, _, .imm h r, h' => .imm h (NestL.app r h')
  | _, _, _, _, _, _, .fr h1 h2 h3 r, h' => by
    rw [List.append_assoc]
    exact .fr h1 h2 h3 (NestL.app r h')
theorem NestL.length {I : Nat → Prop} {B : Ctx} : ∀ {ps : List PV} {vs : List Value} {gs : List Nat}, NestL w I B ps vs gs → ps.length = vs.length
  | _, _, _, .nil => rfl
  | _, _, _, .imm _ r => by simp [NestL.length r]
  | _, _, _, .fr _ _ _ r => by simp [NestL.length r]
theorem NestL.oneCell {I : Nat → Prop} {B : Ctx} : ∀ {ps : List PV} {vs : List Value} {gs : List Nat}, NestL w I B ps vs gs → ∀ u ∈ vs, u.oneCell' = true
  | _, _, _, .nil => fun u hu => by cases hu
  | _, _, _, .imm h r => fun u hu => by
    rcases List.mem_cons.1 hu with rfl | hu
    · exact h.oneCell
    · exact NestL.oneCell r u hu
  | _, _, _, .fr h1 _ _ r => fun u hu => by
    rcases List.mem_cons.1 hu with rfl | hu
    · rcases h1.row.2 with ⟨rfl, _⟩ | ⟨g, cap, cur, rfl, _⟩ <;> rfl
    · exact NestL.oneCell r u hu
/-- What stands in one cell. -/
theorem NestL.at {I : Nat → Prop} {B : Ctx} : ∀ {ps : List PV} {vs : List Value} {gs : List Nat}, NestL w I B ps vs gs → ∀ {p : Nat} {c : PV} {u : Value}, ps[p]? = some c → vs[p]? = some u →
    RepI w I c u ∨ ∃ e sz es vals, c = .fr e sz es ∧ OwnsK B w 0 1 e sz u es.length vals ∧ RepIs w I es.flatten vals ∧ (∀ x ∈ es, x.length = sz) ∧ ∀ g, headOf u = some g → g ∈ gs
  | _, _, _, .nil, p, c, u, hc, hu => by simp at hc
  | _, _, _, .imm h r, p, c, u, hc, hu => by
    cases p with
    | zero =>
      obtain rfl := Option.some.inj hc
      obtain rfl := Option.some.inj hu
      exact .inl h
    | succ p => exact NestL.at r (p := p) (by simpa using hc) (by simpa using hu)
  | _, _, _, .fr (e := e) (sz := sz) (es := es) (v := v) (vals := vals) (gs := gs) h1 h2 h3 r, p, c, u, hc, hu => by
    cases p with
    | zero =>
      obtain rfl := Option.some.inj hc
      obtain rfl := Option.some.inj hu
      exact .inr ⟨e, sz, es, vals, rfl, h1, h2, h3, fun g hg => List.mem_append_left _ (by rw [hg]; simp)⟩
    | succ p =>
      rcases NestL.at r (p := p) (by simpa using hc) (by simpa using hu) with h | ⟨e, sz, es, vals, k1, k2, k3, k4, k5⟩
      · exact .inl h
      · exact .inr ⟨e, sz, es, vals, k1, k2, k3, k4, fun g hg => List.mem_append_right _ (k5 g hg)⟩
theorem NestL.apart {I : Nat → Prop} {B : Ctx} : ∀ {ps : List PV} {vs : List Value} {gs : List Nat}, NestL w I B ps vs gs → gs.Nodup → ∀ {p q : Nat} {c c' : PV} {u u' : Value} {g : Nat}, ps[p]? = some c → ps[q]? = some c' → vs[p]? = some u → vs[q]? = some u' →
    (∃ e z es, c = .fr e z es) → (∃ e z es, c' = .fr e z es) → headOf u = some g → headOf u' = some g → p = q
  | _, _, _, .nil, _, p, q, c, c', u, u', g, hp, _, _, _, _, _, _, _ => by simp at hp
  | _, _, _, .imm h r, hnd, p, q, c, c', u, u', g, hp, hq, hu, hu', hc, hc', hg, hg' => by
    have no : ∀ {x : PV} {v : Value}, RepI w I x v → ¬ ∃ e z es, x = .fr e z es := fun hx ⟨e, z, es, e'⟩ => by subst e'; cases hx
    cases p with
    | zero => obtain rfl := Option.some.inj hp; exact absurd hc (no h)
    | succ p =>
      cases q with
      | zero => obtain rfl := Option.some.inj hq; exact absurd hc' (no h)
      | succ q => rw [NestL.apart r hnd (p := p) (q := q) (by simpa using hp) (by simpa using hq) (by simpa using hu) (by simpa using hu') hc hc' hg hg']
  | _, _, _, .fr (v := v) (gs := gs) h1 h2 h3 r, hnd, p, q, c, c', u, u', g, hp, hq, hu, hu', hc, hc', hg, hg' => by
    obtain ⟨_, n2, n3⟩ := List.nodup_append.1 hnd
    have mem : ∀ {i : Nat} {x : PV} {y : Value}, (_ : List PV)[i]? = some x → (_ : List Value)[i]? = some y → (∃ e z es, x = .fr e z es) → headOf y = some g → g ∈ gs := fun {i x y} hi hy hx hgy => by
      rcases r.at hi hy with h | ⟨_, _, _, _, _, _, _, _, k5⟩
      · obtain ⟨e, z, es, rfl⟩ := hx; cases h
      · exact k5 g hgy
    cases p with
    | zero =>
      cases q with
      | zero => rfl
      | succ q =>
        obtain rfl := Option.some.inj hu
        have hm := mem (i := q) (by simpa using hq) (by simpa using hu') hc' hg'
        exact absurd rfl (n3 g (by rw [hg]; simp) g hm)
    | succ p =>
      cases q with
      | zero =>
        obtain rfl := Option.some.inj hu'
        have hm := mem (i := p) (by simpa using hp) (by simpa using hu) hc hg
        exact absurd rfl (n3 g (by rw [hg']; simp) g hm)
      | succ q => rw [NestL.apart r n2 (p := p) (q := q) (by simpa using hp) (by simpa using hq) (by simpa using hu) (by simpa using hu') hc hc' hg hg']

/-- An own row that is to stand in a tree; a value that is only read. -/
theorem toNest_sound {gs : List Nat} (h : Sim (κ.res gs) η s a w) (ha : Aside η gs) (hnd : gs.Nodup) {p p' : PV} {c : Value} {s' : St} (hr : Rep1 w (imm (κ.res gs) η w) η p c) (he : toNest p s = some (p', s')) :
    ∃ η' g0, Sim (κ.res (g0 ++ gs)) η' s' a w ∧ Aside η' (g0 ++ gs) ∧ (g0 ++ gs).Nodup ∧ NestL w (imm (κ.res (g0 ++ gs)) η' w) κ [p'] [c] g0 ∧ η.le η' ∧ (∀ g, imm (κ.res gs) η w g → imm (κ.res (g0 ++ gs)) η' w g) ∧ c.oneCell' = true := by
  unfold toNest at he
  split at he
  · rename_i id ver
    split at he
    case h_2 => cases he
    rename_i v' e sz es hg
    split at he
    case isFalse => cases he
    rename_i ev
    subst ev
    simp only [Option.some.injEq, Prod.mk.injEq] at he
    obtain ⟨rfl, rfl⟩ := he
    have hob := h.heap id
    rw [hg] at hob
    obtain ⟨hcur, v, vals, hval, hown, hrep, hlen⟩ := hob
    have hc : c = v := osl_val (.of1 hr) hcur.symm hval
    subst hc
    subst hcur
    have hsub : ∀ p x, η.val (.n id p) ≠ some x := fun p x hx => by
      obtain ⟨_, _, _, _, hb, _⟩ := h.sub id p x hx
      rw [hg] at hb; cases hb
    have hk : ∀ (k : Key) x, k.id = id → η.val k = some x → x = c := fun k x hk hx => by
      cases k with
      | o i => obtain rfl : i = id := hk; exact Option.some.inj (hx.symm.trans hval)
      | n i p => obtain rfl : i = id := hk; exact absurd hx (hsub p x)
    obtain ⟨h1, h2, h3⟩ := h.giveUp id _ hg (headOf c).toList (fun k x g hki hx hxg => by rw [hk k x hki hx] at hxg; rw [hxg]; simp)
      (fun g hg => ⟨.o id, c, rfl, hval, by cases hh : headOf c <;> simp_all⟩) ha
    refine ⟨_, (headOf c).toList, h1, h3, ?_, (by have := NestL.fr (B := κ) hown.up (hrep.weak h2) hlen .nil; rwa [List.append_nil] at this), η.le_kill id, h2, ?_⟩
    · refine List.nodup_append.2 ⟨by cases headOf c <;> simp, hnd, fun g hg g' hg' e' => ?_⟩
      subst e'
      exact ha g hg' (.o id) c hval (by cases hh : headOf c <;> simp_all)
    · rcases hown.row.2 with ⟨rfl, _⟩ | ⟨g, cap, cur, rfl, _⟩ <;> rfl
  · split at he
    case isFalse => cases he
    rename_i hp
    simp only [Option.some.injEq, Prod.mk.injEq] at he
    obtain ⟨rfl, rfl⟩ := he
    have hI := (Rep.of1 hr).invI hp
    exact ⟨η, [], h, ha, hnd, .imm hI .nil, η.le_refl, fun g hg => hg, hI.oneCell⟩

theorem toNests_sound : ∀ {ps ps' : List PV} {vs : List Value} {gs : List Nat} {η : Own} {s s' : St}, Sim (κ.res gs) η s a w → Aside η gs → gs.Nodup → All2 (Rep1 w (imm (κ.res gs) η w) η) ps vs → toNests ps s = some (ps', s') →
    ∃ η' g0, Sim (κ.res (g0 ++ gs)) η' s' a w ∧ Aside η' (g0 ++ gs) ∧ (g0 ++ gs).Nodup ∧ NestL w (imm (κ.res (g0 ++ gs)) η' w) κ ps' vs g0 ∧ η.le η' ∧ (∀ g, imm (κ.res gs) η w g → imm (κ.res (g0 ++ gs)) η' w g) ∧ ∀ u ∈ vs, u.oneCell' = true
  | [], ps', _, gs, η, s, s', h, ha, hnd, .nil, he => by
    simp only [toNests, Option.some.injEq, Prod.mk.injEq] at he
    obtain ⟨rfl, rfl⟩ := he
    exact ⟨η, [], h, ha, hnd, .nil, η.le_refl, fun g hg => hg, fun u hu => by cases hu⟩
  | p :: ps, ps', c :: vs, gs, η, s, s', h, ha, hnd, .cons hr hrs, he => by
    simp only [toNests] at he
    split at he
    case h_2 => cases he
    rename_i p1 s1 he1
    split at he
    case h_2 => cases he
    rename_i r1 s2 he2
    simp only [Option.some.injEq, Prod.mk.injEq] at he
    obtain ⟨rfl, rfl⟩ := he
    obtain ⟨η1, g1, h1, ha1, hnd1, hr1, hle1, hI1, ho1⟩ := toNest_sound h ha hnd hr he1
    obtain ⟨η2, g2, h2, ha2, hnd2, hr2, hle2, hI2, ho2⟩ := toNests_sound h1 ha1 hnd1 (hrs.mono fun _ _ x => x.mono (fun g hg => ⟨hI1 g hg, rfl⟩) hle1) he2
    have hm : ∀ g, g ∈ g2 ++ (g1 ++ gs) ↔ g ∈ (g1 ++ g2) ++ gs := fun g => by
      simp only [List.mem_append]
      exact ⟨fun h => by rcases h with h | h | h; exact .inl (.inr h); exact .inl (.inl h); exact .inr h, fun h => by rcases h with (h | h) | h; exact .inr (.inl h); exact .inl h; exact .inr (.inr h)⟩
    have hc := res_congr (κ := κ) hm
    rw [hc] at h2 hI2 hr2
    refine ⟨η2, g1 ++ g2, h2, fun g hg => ha2 g ((hm g).2 hg), ?_, (hr1.weak hI2).app hr2, Own.le_trans hle1 hle2, fun g hg => hI2 g (hI1 g hg), fun u hu => ?_⟩
    · have hp : (g2 ++ (g1 ++ gs)).Perm ((g1 ++ g2) ++ gs) := by
        rw [← List.append_assoc]
        exact List.Perm.append_right _ List.perm_append_comm
      exact hp.nodup hnd2
    · rcases List.mem_cons.1 hu with rfl | hu
      · exact ho1
      · exact ho2 u hu

/-- The cells of a value that goes into a tree. -/
theorem cells_nest {gs : List Nat} (h : Sim (κ.res gs) η s a w) (ha : Aside η gs) (hnd : gs.Nodup) {p : PV} {c : Value} (hr : Rep w (imm (κ.res gs) η w) η p c) {cs : List PV} {s' : St} (hp : toNests p.cells s = some (cs, s')) :
    ∃ η' g0, Sim (κ.res (g0 ++ gs)) η' s' a w ∧ Aside η' (g0 ++ gs) ∧ (g0 ++ gs).Nodup ∧ NestL w (imm (κ.res (g0 ++ gs)) η' w) κ cs c.cells.toList g0 ∧ η.le η' ∧ (∀ g, imm (κ.res gs) η w g → imm (κ.res (g0 ++ gs)) η' w g) := by
  cases hr with
  | one hr => cases hr with
    | one hr =>
      have hc1 : p.cells = [p] := by
        cases hr with
        | imm hr => cases hr <;> rfl
        | _ => rfl
      rw [hc1] at hp
      obtain ⟨η', g0, h1, h2, h3, h4, h5, h6, h7⟩ := toNests_sound (vs := [c]) h ha hnd (.cons hr .nil) hp
      rw [Value.cells_one (h7 c (by simp))]
      exact ⟨η', g0, h1, h2, h3, h4, h5, h6⟩
    | agg cs0 vs hr =>
      obtain ⟨η', g0, h1, h2, h3, h4, h5, h6, _⟩ := toNests_sound h ha hnd hr (by simpa [PV.cells] using hp)
      exact ⟨η', g0, h1, h2, h3, by simpa [Value.cells] using h4, h5, h6⟩
  | tup cs vs hr => simp [PV.cells, toNests, toNest, PV.pure] at hp

theorem rowsN_sound {sz : Nat} : ∀ (parts : List (Nat × PV)) (vals : List (Nat × Value)) {s s' : St} {η : Own} {gs : List Nat} (k : Nat) (es : List (List PV)) (cells : Array Value) (pre : List Value) (_ : Sim (κ.res gs) η s a w) (_ : Aside η gs) (_ : gs.Nodup)
    (_ : All2 (fun (x : Nat × PV) (y : Nat × Value) => x.1 = y.1 ∧ Rep w (imm (κ.res gs) η w) η x.2 y.2) parts vals) (_ : cells.toList.take (k * sz) = pre) (_ : cells.size = (k + parts.length) * sz) (_ : rowsN sz k parts s = some (es, s')),
      ∃ (cells' : Array Value) (η' : Own) (g0 : List Nat) (us : List Value), Instr.fill (fun i => some (i * sz, sz)) cells vals = some cells' ∧ cells'.toList = pre ++ us ∧ Sim (κ.res (g0 ++ gs)) η' s' a w ∧ Aside η' (g0 ++ gs) ∧ (g0 ++ gs).Nodup ∧
        NestL w (imm (κ.res (g0 ++ gs)) η' w) κ es.flatten us g0 ∧ (∀ x ∈ es, x.length = sz) ∧ es.length = parts.length ∧ ∀ g, imm (κ.res gs) η w g → imm (κ.res (g0 ++ gs)) η' w g
  | [], [], s, s', η, gs, k, es, cells, pre, h, ha, hnd, .nil, hpre, hsz, he => by
    simp only [rowsN, Option.some.injEq, Prod.mk.injEq] at he
    obtain ⟨rfl, rfl⟩ := he
    refine ⟨cells, η, [], [], rfl, ?_, h, ha, hnd, .nil, (fun x hx => by cases hx), rfl, fun g hg => hg⟩
    rw [← hpre, List.append_nil, List.take_of_length_le]
    simp only [Array.length_toList, hsz, List.length_nil]
    exact Nat.le_refl _
  | (i, p) :: parts, (j, c) :: vals, s, s', η, gs, k, es, cells, pre, h, ha, hnd, .cons ⟨hij, hpc⟩ hps, hpre, hsz, he => by
    simp only at hij
    subst hij
    simp only [rowsN] at he
    split at he
    case isFalse => cases he
    rename_i hik
    split at he
    case h_2 => cases he
    rename_i cs s1 h1
    split at he
    case isFalse => cases he
    rename_i hcs
    split at he
    case h_2 => cases he
    rename_i es1 s2 he2
    simp only [Option.some.injEq, Prod.mk.injEq] at he
    obtain ⟨rfl, rfl⟩ := he
    subst hik
    obtain ⟨η1, g1, hs1, ha1, hnd1, hr1, hle1, hI1⟩ := cells_nest h ha hnd hpc h1
    have hcz : c.cells.size = sz := by rw [← hcs, hr1.length]; simp
    have hmul : (i + (parts.length + 1)) * sz = i * sz + sz + parts.length * sz := by
      rw [Nat.add_mul, Nat.add_mul, Nat.one_mul]; omega
    simp only [List.length_cons] at hsz
    rw [hmul] at hsz
    obtain ⟨cells1, h2, h3⟩ := fill_step (place := fun i => some (i * sz, sz)) (i := i) (off := i * sz) (size := sz) (cells := cells) (rest := vals) rfl hcz (by rw [hsz]; omega)
    have hpl : pre.length = i * sz := by rw [← hpre, List.length_take, Array.length_toList, hsz]; omega
    have hul : c.cells.toList.length = sz := by simpa using hcz
    have hcl : cells.toList.length = i * sz + sz + parts.length * sz := by rw [Array.length_toList, hsz]
    obtain ⟨cells', η2, g2, us, h4, h5, h6, h7, h8, h9, h10, h11, h12⟩ := rowsN_sound parts vals (i + 1) es1 cells1 (pre ++ c.cells.toList) hs1 ha1 hnd1
      (hps.mono fun x y hxy => ⟨hxy.1, hxy.2.mono (fun g hg => ⟨hI1 g hg, rfl⟩) hle1⟩)
      (by
        rw [h3, hpre, List.take_append_of_le_length (by simp [hpl, hul, Nat.add_mul]), List.take_of_length_le (by simp [hpl, hul, Nat.add_mul])])
      (by
        rw [← Array.length_toList, h3]
        simp only [List.length_append, List.length_take, List.length_drop, hul, hcl]
        rw [Nat.add_mul, Nat.add_mul, Nat.one_mul]
        omega) he2
    have hm : ∀ g, g ∈ g2 ++ (g1 ++ gs) ↔ g ∈ (g1 ++ g2) ++ gs := fun g => by
      simp only [List.mem_append]
      exact ⟨fun h => by rcases h with h | h | h; exact .inl (.inr h); exact .inl (.inl h); exact .inr h, fun h => by rcases h with (h | h) | h; exact .inr (.inl h); exact .inl h; exact .inr (.inr h)⟩
    have hc := res_congr (κ := κ) hm
    rw [hc] at h6 h9 h12
    have hmono : ∀ g, imm (κ.res (g1 ++ gs)) η1 w g → imm (κ.res (g1 ++ g2 ++ gs)) η2 w g := h12
    refine ⟨cells', η2, g1 ++ g2, c.cells.toList ++ us, by rw [h2, h4], by rw [h5, List.append_assoc], h6, fun g hg => h7 g ((hm g).2 hg), ?_, ?_, ?_, by simp [h11], fun g hg => hmono g (hI1 g hg)⟩
    · have hp : (g2 ++ (g1 ++ gs)).Perm ((g1 ++ g2) ++ gs) := by
        rw [← List.append_assoc]
        exact List.Perm.append_right _ List.perm_append_comm
      exact hp.nodup h8
    · rw [List.flatten_cons]
      exact (hr1.weak hmono).app h9
    · intro x hx
      rcases List.mem_cons.1 hx with rfl | hx
      · exact hcs
      · exact h10 x hx

theorem Sim.res0 [NoZ κ] (h : Sim κ η s a w) : Sim (κ.res []) η s a w := by
  have e : imm (κ.res []) η w = imm κ η w := funext fun g => propext (by
    unfold imm Ctx.res
    simp only [List.not_mem_nil, not_false_eq_true, and_true]
    exact ⟨fun ⟨h1, h2, h3⟩ => ⟨h1, ⟨h2, NoZ.out g⟩, h3⟩, fun ⟨h1, h2, h3⟩ => ⟨h1, h2.1, h3⟩⟩)
  have hI : ∀ g, imm κ η w g → imm (κ.res []) η w g ∧ w.heap[g]? = w.heap[g]? := fun g hg => ⟨by rw [e]; exact hg, rfl⟩
  exact ⟨h.tmps.mono fun _ _ x => x.mono hI η.le_refl, h.defers, fun id => (h.heap id).keepR rfl rfl rfl rfl (fun _ _ => rfl) (fun _ _ _ _ _ _ => rfl) hI η.le_refl, h.apart, h.sub, h.kept.tores⟩

/-- The rows within a tree, by their places. -/
def subOf (cs : List PV) (us : List Value) (p : Nat) : Option Value :=
  match cs[p]? with
  | some (.fr _ _ _) => us[p]?
  | _ => none
theorem subOf_some {cs : List PV} {us : List Value} {p : Nat} {x : Value} (h : subOf cs us p = some x) : ∃ e z es, cs[p]? = some (.fr e z es) ∧ us[p]? = some x := by
  unfold subOf at h
  split at h
  · rename_i e z es hc; exact ⟨e, z, es, hc, h⟩
  · cases h

theorem nest_lt {I : Nat → Prop} {B : Ctx} : ∀ {ps : List PV} {vs : List Value} {gs : List Nat}, NestL w I B ps vs gs → ∀ {g}, g ∈ gs → g < w.heap.size
  | _, _, _, .nil, g, hg => by cases hg
  | _, _, _, .imm _ r, g, hg => nest_lt r hg
  | _, _, _, .fr (v := v) h1 _ _ r, g, hg => by
    rcases List.mem_append.1 hg with hg | hg
    · have : headOf v = some g := by cases hh : headOf v <;> simp_all
      exact (owns_head h1 this).1
    · exact nest_lt r hg

/-- A tree is planted in slot d: its own block and those of the rows in it are new or had been set aside. -/
theorem Sim.plant [NoZ κ] {gs : List Nat} (h : Sim (κ.res gs) η s a w) (ha : Aside η gs) {w' : World} (hw : ∀ k, k < w.heap.size → k ∉ gs → w'.heap[k]? = w.heap[k]?) (hz : w.heap.size ≤ w'.heap.size) (hk : Kept κ w') (d e sz : Nat) (es : List (List PV))
    (v : Value) (us : List Value) (g1 : List Nat) (hn : NestL w (imm (κ.res gs) η w) κ es.flatten us g1) (hnd : g1.Nodup) (hgs : ∀ g ∈ g1, g ∈ gs) (hkeep : ∀ g ∈ g1, w'.heap[g]? = w.heap[g]?)
    {b : Nat} (hown : w'.ownsRow b e sz v es.length us) (hside : ∀ g, headOf v = some g → κ.B ≤ g ∨ κ.M g) (hhead : ∀ g, headOf v = some g → (w.heap.size ≤ g ∨ g ∈ gs) ∧ g ∉ g1) (hl : ∀ x ∈ es, x.length = sz) :
    ∃ η', Sim κ η' (bindT s d e sz es) (a.put (some d) v) w' := by
  have hvo : ∀ {x}, (η.setT (8 * d) ((s.H.get (8 * d)).1 + 1) (some v) (subOf es.flatten us)).val (.o (8 * d)) = some x → x = v := fun h => by
    have : (η.setT (8 * d) ((s.H.get (8 * d)).1 + 1) (some v) (subOf es.flatten us)).val (.o (8 * d)) = some v := if_pos rfl
    rw [this] at h; exact (Option.some.inj h).symm
  have hvn : ∀ p, (η.setT (8 * d) ((s.H.get (8 * d)).1 + 1) (some v) (subOf es.flatten us)).val (.n (8 * d) p) = subOf es.flatten us p := fun p => if_pos rfl
  have hin1 : ∀ p x g, subOf es.flatten us p = some x → headOf x = some g → g ∈ g1 := fun p x g hx hg => by
    obtain ⟨e', z, es', hc, hu⟩ := subOf_some hx
    rcases hn.at hc hu with h | ⟨_, _, _, _, _, _, _, _, k5⟩
    · cases h
    · exact k5 g hg
  have hs := h.createR ha hw hz hk (8 * d) (.tree e sz es) v (subOf es.flatten us)
    (fun k x g hki hx hg => by
      cases k with
      | o i =>
        obtain rfl : i = 8 * d := hki
        rw [hvo hx] at hg
        exact (hhead g hg).1
      | n i p =>
        obtain rfl : i = 8 * d := hki
        rw [hvn] at hx
        exact .inr (hgs g (hin1 p x g hx hg)))
    (fun k k' x x' g hki hki' hx hx' hg hg' => by
      cases k with
      | o i =>
        obtain rfl : i = 8 * d := hki
        cases k' with
        | o i' => obtain rfl : i' = 8 * d := hki'; rfl
        | n i' p =>
          obtain rfl : i' = 8 * d := hki'
          rw [hvo hx] at hg
          rw [hvn] at hx'
          exact absurd (hin1 p x' g hx' hg') (hhead g hg).2
      | n i p =>
        obtain rfl : i = 8 * d := hki
        rw [hvn] at hx
        cases k' with
        | o i' =>
          obtain rfl : i' = 8 * d := hki'
          rw [hvo hx'] at hg'
          exact absurd (hin1 p x g hx hg) (hhead g hg').2
        | n i' q =>
          obtain rfl : i' = 8 * d := hki'
          rw [hvn] at hx'
          obtain ⟨_, _, _, hc, hu⟩ := subOf_some hx
          obtain ⟨_, _, _, hc', hu'⟩ := subOf_some hx'
          rw [hn.apart hnd hc hc' hu hu' ⟨_, _, _, rfl⟩ ⟨_, _, _, rfl⟩ hg hg'])
    (fun p x hx => by
      rw [hvn] at hx
      obtain ⟨e', z, es', hc, _⟩ := subOf_some hx
      exact ⟨_, _, _, _, rfl, hc⟩)
    (fun hI => by
      refine ⟨if_pos rfl, v, us, if_pos rfl, ⟨ownsRow_base hown (Nat.zero_le _), hside, fun _ _ h => by cases h⟩, ⟨hn.length, fun p c u hc hu => ?_⟩, hl⟩
      rcases hn.at hc hu with hr | ⟨e', z, es', vals, rfl, k2, k3, k4, k5⟩
      · have : ∀ e z es, c ≠ .fr e z es := fun _ _ _ e => by subst e; cases hr
        have hr' := hr.mono hI
        cases c <;> first | exact hr' | exact absurd rfl (this _ _ _)
      · exact ⟨by rw [hvn, subOf, hc]; exact hu, vals, owns_keep k2 fun g hg => hkeep g (k5 g hg), k3.mono hI, k4⟩)
  refine ⟨_, hs.put (some d) (.of1 (.osl _ _ _ (Nat.le_of_eq (if_pos rfl).symm) fun _ x hx => ?_))⟩
  exact (hvo hx).symm

theorem sound_buildT [NoZ κ] (hG : EnvOk P G) (h : Sim κ η s a w) {K : St → Prop} (t n : Nat) (parts : Array (Nat × Operand)) (ho : o.op = .buildSlice t n parts)
    (hK : buildT G t n s (parts.toList.map fun p => (p.1, s.ev p.2)) o.dst K) : o.wp P a w (Then κ K) Q' := by
  unfold buildT at hK
  split at hK
  case h_2 => exact hK.elim
  rename_i d hd
  split at hK
  case h_2 => exact hK.elim
  rename_i e te hsl
  obtain ⟨hu, hde⟩ := sliceOf_spec hG hsl
  split at hK
  case isTrue => exact hK.elim
  rename_i h0
  split at hK
  case isFalse => exact hK.elim
  rename_i hn
  split at hK
  case isFalse => exact hK.elim
  rename_i hpn
  split at hK
  case h_2 => exact hK.elim
  rename_i es s' hfill
  obtain ⟨i, z, hi, hz, hzr, hsz, hby, hzs, hrun⟩ := run_zeroValue hde
  have h00 : Sim (κ.res []) η s a w := h.res0
  obtain ⟨cells', η', g0, us, h4, h5, h6, h7, h8, h9, h10, h11, _⟩ := rowsN_sound (κ := κ) (a := a) (w := w) (parts.toList.map fun p => (p.1, s.ev p.2)) (parts.toList.map fun p => (p.1, a.eval p.2)) 0 es
    (madeCells z.cells (n * te.size)) [] h00 (fun g hg => by cases hg) .nil (All2.map fun x _ => ⟨rfl, h00.ev x.2⟩) (by simp) (by rw [hpn]; simp [size_madeCells]) hfill
  rw [hpn] at h11
  rw [List.nil_append] at h5
  have hcl : cells'.size = n * te.size := by
    have := h9.length
    rw [flat_length h10, h11] at this
    rw [← Array.length_toList, h5]; exact this.symm
  simp only [List.append_nil] at h6 h7 h8 h9
  obtain ⟨η'', hs⟩ := h6.plant (w' := w.alloc (.cells cells' e)) h7 (fun k hk _ => heap_alloc_old w _ hk) (by simp)
    (h.kept.step rfl rfl rfl (by simp) fun k hk _ => heap_alloc_old w _ (Nat.lt_of_lt_of_le hk h.kept.size)) d e te.size es (.slice (some ⟨w.heap.size, 0, none⟩) n n) us g0 h9 h8 (fun g hg => hg)
    (fun g hg => heap_alloc_old w _ (nest_lt h9 hg))
    ⟨by rw [← h9.length, flat_length h10], .inr ⟨w.heap.size, n, cells', by rw [h11], Nat.zero_le _, heap_alloc_new w _, by rw [h11]; exact Nat.le_refl _, by
      have : n * 1 ≤ n * te.size := Nat.mul_le_mul_left _ (by omega)
      simp only [maxLen]; omega, by rw [hcl], by rw [h11, ← h5, List.take_of_length_le (by simp [hcl])]⟩⟩
    (fun g hg => by obtain rfl := Option.some.inj hg; exact .inl h.kept.size)
    (fun g hg => by
      obtain rfl := Option.some.inj hg
      exact ⟨.inl (Nat.le_refl _), fun hm => absurd (nest_lt h9 hm) (Nat.lt_irrefl _)⟩) h10
  refine done_value (c := .slice (some ⟨w.heap.size, 0, none⟩) n n) (w' := w.alloc (.cells cells' e)) ?_ (by rw [hd]; exact hs) hK
  have hp : (parts.map fun (x : Nat × Operand) => (x.1, a.eval x.2)).toList = parts.toList.map fun x => (x.1, a.eval x.2) := by simp
  have hzero : ((Array.range (n * te.size)).map (z.cells[· % z.cells.size]!)) = madeCells z.cells (n * te.size) := rfl
  simp only [execOp, ho, Instr.buildSlice, Sem.run_bind, run_underlying hu, Result.andThen_ok, run_sizeOf hde]
  rw [if_neg (by omega)]
  by_cases hz0 : n * te.size = 0
  · have hn0 : n = 0 := by
      rcases Nat.mul_eq_zero.1 hz0 with e | e
      · exact e
      · exact absurd e h0
    subst hn0
    simp only [Nat.zero_mul] at h4 ⊢
    have hm0 : madeCells z.cells 0 = #[] := by simp [madeCells]
    rw [hm0] at h4
    have hr0 : Array.range 0 = #[] := rfl
    simp [hp, h4, newRow, hr0]
  · rw [if_neg hz0]
    simp only [Sem.run_bind, hrun, Result.andThen_ok, Sem.run_pure, hzero, hp, h4]
    simp [newRow]

theorem cells_nestL {id : Nat} (hap : ∀ (i j : Key) x x' g, η.val i = some x → η.val j = some x' → headOf x = some g → headOf x' = some g → i = j) : ∀ (p0 : Nat) (cs : List PV) (us : List Value), cs.length = us.length →
    (∀ p c u, cs[p]? = some c → us[p]? = some u → CellRep κ w η id (p0 + p) c u) →
    ∃ gs, NestL w (imm κ η w) κ cs us gs ∧ (∀ g ∈ gs, ∃ p x, p0 ≤ p ∧ η.val (.n id p) = some x ∧ headOf x = some g) ∧ gs.Nodup ∧ (∀ (p e z : Nat) (es : List (List PV)) (u : Value) (g : Nat), cs[p]? = some (PV.fr e z es) → us[p]? = some u → headOf u = some g → g ∈ gs)
  | _, [], [], _, _ => ⟨[], .nil, fun g hg => by (cases hg), .nil, fun p e z es u g hp => by simp at hp⟩
  | _, [], _ :: _, h, _ => by simp at h
  | _, _ :: _, [], h, _ => by simp at h
  | p0, c :: cs, u :: us, hl, hc => by
    obtain ⟨gs, k1, k2, k3, k4⟩ := cells_nestL hap (p0 + 1) cs us (by simpa using hl) fun p c' u' hp hu => by
      rw [show p0 + 1 + p = p0 + (p + 1) by omega]
      exact hc (p + 1) c' u' (by simpa using hp) (by simpa using hu)
    have h0 : CellRep κ w η id p0 c u := hc 0 c u rfl rfl
    by_cases hf : ∃ e z es, c = .fr e z es
    · obtain ⟨e, z, es, rfl⟩ := hf
      obtain ⟨a1, vals, a2, a3, a4⟩ := h0
      refine ⟨(headOf u).toList ++ gs, .fr a2 a3 a4 k1, fun g hg => ?_, ?_, fun p e' z' es' u' g hp hu hg => ?_⟩
      · rcases List.mem_append.1 hg with hg | hg
        · exact ⟨p0, u, Nat.le_refl _, a1, by cases hh : headOf u <;> simp_all⟩
        · obtain ⟨p, x, h1, h2⟩ := k2 g hg
          exact ⟨p, x, by omega, h2⟩
      · refine List.nodup_append.2 ⟨by cases headOf u <;> simp, k3, fun g hg g' hg' e' => ?_⟩
        subst e'
        obtain ⟨p, x, h1, h2, h3⟩ := k2 g hg'
        have := hap (.n id p0) (.n id p) u x g a1 h2 (by cases hh : headOf u <;> simp_all) h3
        simp only [Key.n.injEq, true_and] at this
        omega
      · cases p with
        | zero =>
          obtain rfl := Option.some.inj hu
          exact List.mem_append_left _ (by rw [hg]; simp)
        | succ p => exact List.mem_append_right _ (k4 p e' z' es' u' g (by simpa using hp) (by simpa using hu) hg)
    · have hne : ∀ e z es, c ≠ .fr e z es := fun e z es e' => hf ⟨e, z, es, e'⟩
      refine ⟨gs, .imm (h0.imm hne) k1, fun g hg => ?_, k3, fun p e' z' es' u' g hp hu hg => ?_⟩
      · obtain ⟨p, x, h1, h2⟩ := k2 g hg
        exact ⟨p, x, by omega, h2⟩
      · cases p with
        | zero => exact absurd (Option.some.inj hp) (hne _ _ _)
        | succ p => exact k4 p e' z' es' u' g (by simpa using hp) (by simpa using hu) hg

/-- A tree is given up, all its blocks set aside. -/
theorem Sim.giveTree {gs : List Nat} (h : Sim (κ.res gs) η s a w) (ha : Aside η gs) (hnd : gs.Nodup) {id ver e sz : Nat} {es : List (List PV)} (he : s.H.get id = (ver, .tree e sz es)) :
    ∃ η' v vals g1, η.cur id = ver ∧ η.val id = some v ∧ OwnsK κ w id ver e sz v es.length vals ∧ (∀ x ∈ es, x.length = sz) ∧
      Sim (κ.res ((headOf v).toList ++ g1 ++ gs)) η' ⟨s.T, s.H.put id (ver, .dead)⟩ a w ∧ Aside η' ((headOf v).toList ++ g1 ++ gs) ∧ ((headOf v).toList ++ g1 ++ gs).Nodup ∧
      NestL w (imm (κ.res ((headOf v).toList ++ g1 ++ gs)) η' w) κ es.flatten vals g1 ∧ (∀ g, imm (κ.res gs) η w g → imm (κ.res ((headOf v).toList ++ g1 ++ gs)) η' w g) ∧ η.le η' ∧ (∀ i, i ≠ id → η'.cur i = η.cur i) := by
  have hob := h.heap id
  rw [he] at hob
  obtain ⟨hcur, v, vals, hval, hown, hrep, hlen⟩ := hob
  subst hcur
  obtain ⟨g1, k1, k2, k3, k4⟩ := cells_nestL (κ := κ.res gs) h.apart 0 es.flatten vals hrep.1 (fun p c u hp hu => by rw [Nat.zero_add]; exact hrep.2 p c u hp hu)
  obtain ⟨h1, h2, h3⟩ := h.giveUp id _ he ((headOf v).toList ++ g1) (fun k x g hki hx hg => by
      cases k with
      | o i =>
        obtain rfl : i = id := hki
        obtain rfl := Option.some.inj (hval.symm.trans hx)
        exact List.mem_append_left _ (by rw [hg]; simp)
      | n i p =>
        obtain rfl : i = id := hki
        obtain ⟨_, e', z', es', hb, hp⟩ := h.sub i p x hx
        rw [he] at hb
        obtain rfl := Option.some.inj hb
        have hlt := (List.getElem?_eq_some_iff.1 hp).1
        obtain ⟨u, hu⟩ : ∃ u, vals[p]? = some u := ⟨_, List.getElem?_eq_getElem (by rw [← hrep.1]; exact hlt)⟩
        have hx' := (hrep.2 p _ u hp hu).1
        obtain rfl := Option.some.inj (hx'.symm.trans hx)
        exact List.mem_append_right _ (k4 p _ _ _ u g hp hu hg))
    (fun g hg => by
      rcases List.mem_append.1 hg with hg | hg
      · exact ⟨.o id, v, rfl, hval, by cases hh : headOf v <;> simp_all⟩
      · obtain ⟨p, x, _, h1, h2⟩ := k2 g hg
        exact ⟨.n id p, x, rfl, h1, h2⟩) ha
  refine ⟨_, v, vals, g1, rfl, hval, hown, hlen, h1, h3, ?_, (k1.weak h2).ctx fun _ h => h, h2, η.le_kill id, fun i hi => Own.set_cur_ne hi⟩
  rw [List.append_assoc]
  refine List.nodup_append.2 ⟨by cases headOf v <;> simp, List.nodup_append.2 ⟨k3, hnd, fun g hg g' hg' e' => ?_⟩, fun g hg g' hg' e' => ?_⟩
  · subst e'
    obtain ⟨p, x, _, h1, h2⟩ := k2 g hg
    exact ha g hg' _ x h1 h2
  · subst e'
    have hv : headOf v = some g := by cases hh : headOf v <;> simp_all
    rcases List.mem_append.1 hg' with hg' | hg'
    · obtain ⟨p, x, _, h1, h2⟩ := k2 g hg'
      have := h.apart (.o id) (.n id p) v x g hval h1 hv h2
      cases this
    · exact ha g hg' (.o id) v hval hv

theorem sound_appendT [NoZ κ] (hG : EnvOk P G) (h : Sim κ η s a w) {K : St → Prop} (t : Nat) (x y : Operand) (ho : o.op = .call { callee := .builtin .append, args := #[x, y], argTypes := #[t, t] })
    {id2 ver2 e2 z2 : Nat} {more : List (List PV)} (hv2 : s.ev y = .osl id2 ver2) (he2 : s.H.get id2 = (ver2, .tree e2 z2 more))
    (hK : appendT (std bb P) G t s (s.ev x) id2 ver2 e2 z2 more o.dst K) : o.wp P a w (Then κ K) Q' := by
  have hx := h.ev x
  have hy := h.ev y
  rw [hv2] at hy
  unfold appendT at hK
  split at hK
  case h_2 => exact hK.elim
  rename_i d hd
  split at hK
  case h_2 => exact hK.elim
  rename_i e te hsl
  obtain ⟨hu, hde⟩ := sliceOf_spec hG hsl
  split at hK
  case isTrue => exact hK.elim
  rename_i h0
  split at hK
  case isFalse => exact hK.elim
  rename_i ee2
  split at hK
  case isFalse => exact hK.elim
  rename_i ez2
  subst ee2 ez2
  obtain ⟨i, z, hi, hz, hzr, hsz, hby, hzs, hrun⟩ := run_zeroValue hde
  have hrunop : ∀ v' w', (Builtin.append_ #[t, t] o.type #[a.eval x, a.eval y]).run P w = .ok v' w' → (execOp a.eval o).run P w = .ok (.value v') w' := by
    intro v' w' hr
    rw [execOp_builtin ho]
    simp [builtin, hr]
  have h00 : Sim (κ.res []) η s a w := h.res0
  -- the call itself, whatever stands before
  have run : ∀ {v : Value} {n : Nat} {xs vals2 : List Value} {c2 : Value}, w.ownsRow 0 e2 te.size v n xs → w.ownsRow 0 e2 te.size c2 more.length vals2 → (∀ u ∈ vals2, u.oneCell' = true) → n + more.length ≤ sizeBound → (n + more.length) * te.bytes ≤ 140737488355328 →
      ∃ v' w', (Builtin.append_ #[t, t] o.type #[v, c2]).run P w = .ok v' w' ∧ w'.ownsRow 0 e2 te.size v' (n + more.length) (xs ++ vals2) ∧ w.grownBy w' v.ownBlock ∧ (v'.ownBlock = v.ownBlock ∨ v'.ownBlock = some w.heap.size) := by
    intro v n xs vals2 c2 hown hown2 hone hn hb
    rcases hown2.2 with ⟨rfl, hm0⟩ | ⟨g, cap, cur, rfl, hB, hh, hcap, hm, hcs, htake⟩
    · have hv0 : vals2 = [] := List.eq_nil_of_length_eq_zero (by rw [hown2.1, hm0, Nat.zero_mul])
      subst hv0
      refine ⟨v, w, ?_, by simpa [hm0] using hown, World.grownBy.refl w _, .inl rfl⟩
      rcases hown.2 with ⟨rfl, rfl⟩ | ⟨g, cap', cur, rfl, hB, hh, hcap, hm, hcs, htake⟩
      · simp [Builtin.append_, run_underlying hu, sizeOf, typeInfo, hi, Builtin.lenOf, Builtin.firstCells]
      · simp [Builtin.append_, run_underlying hu, sizeOf, typeInfo, hi, Builtin.lenOf, Builtin.firstCells, hcap, storeCells]
    · have hc := own_cell hown2 (g := g) rfl
      obtain ⟨v', w', h1, h2, h3, _, h5⟩ := run_append_own_at (P := P) w 0 t o.type e2 i z te.size te.bytes hu hi hz hsz hby hzs (by omega) v n xs hown ⟨g, 0, none⟩ more.length cap vals2 hown2.1
        (fun j u hj => by rw [Addr.add_lit, Nat.zero_add]; exact hc j u hj) hone (by unfold sizeBound at hn; simp only [maxLen]; omega) hb (Nat.zero_le _)
      exact ⟨v', w', h1, h2, h3, h5⟩
  split at hK
  · rename_i hv
    rw [hv] at hx
    obtain ⟨hb, hn, hK⟩ := hK
    simp only [List.nil_append] at hK
    obtain ⟨η2, v2, vals2, g2, hcur2, hval2, hown2, hlen2, hs2, ha2, hnd2, hn2, hI2, hle2, _⟩ := h00.giveTree (fun g hg => by cases hg) .nil he2
    have hyv : a.eval y = v2 := osl_val hy hcur2.symm hval2
    obtain ⟨v', w', hr, hown', hg, hat⟩ := run (World.ownsRow_nil w 0 e2 te.size) hown2.row hn2.oneCell (by simpa using hn) (by simpa using hb)
    simp only [Nat.zero_add, List.nil_append] at hown'
    have hw : ∀ k, k < w.heap.size → w'.heap[k]? = w.heap[k]? := fun k hk => hg.block k hk (by simp [Value.ownBlock])
    obtain ⟨η', hs⟩ := hs2.plant ha2 (fun k hk _ => hw k hk) hg.size (h.kept.step hg.os hg.tape hg.output hg.size fun k hk _ => hw k (Nat.lt_of_lt_of_le hk h.kept.size)) d e2 te.size more v' vals2 g2 hn2
      (by rw [List.append_nil] at hnd2; exact (List.nodup_append.1 hnd2).2.1) (fun g hg => by simp [hg]) (fun g hg => hw g (nest_lt hn2 hg)) hown'
      (fun g hgh => by
        rw [headOf_ownBlock hown'] at hgh
        rcases hat with e1 | e1 <;> rw [e1] at hgh
        · cases hgh
        · obtain rfl := Option.some.inj hgh; exact .inl h.kept.size)
      (fun g hgh => by
        rw [headOf_ownBlock hown'] at hgh
        rcases hat with e1 | e1 <;> rw [e1] at hgh
        · cases hgh
        · obtain rfl := Option.some.inj hgh
          exact ⟨.inl (Nat.le_refl _), fun hm => absurd (nest_lt hn2 hm) (Nat.lt_irrefl _)⟩) hlen2
    exact done_value (c := v') (hrunop _ _ (by rw [hx.nil, hyv]; exact hr)) (by rw [hd]; exact hs) hK
  · rename_i id ver hv
    split at hK
    case isTrue => exact hK.elim
    rename_i hne
    split at hK
    case h_2 => exact hK.elim
    rename_i v0 e0 z0 es he
    split at hK
    case isFalse => exact hK.elim
    rename_i ev
    split at hK
    case isFalse => exact hK.elim
    rename_i ee
    split at hK
    case isFalse => exact hK.elim
    rename_i ez
    subst ev ee ez
    rw [hv] at hx
    obtain ⟨hb, hn, hK⟩ := hK
    simp only at hK
    obtain ⟨η1, v1, vals1, g1, hcur1, hval1, hown1, hlen1, hs1, ha1, hnd1, hn1, hI1, hle1, hoth⟩ := h00.giveTree (fun g hg => by cases hg) .nil he
    have hxv : a.eval x = v1 := osl_val hx hcur1.symm hval1
    have hyr : Rep w (imm (κ.res ((headOf v1).toList ++ g1 ++ [])) η1 w) η1 (.osl id2 ver2) (a.eval y) := by
      have h3 := hs1.ev y
      have : St.ev ⟨s.T, s.H.put id (v0, .dead)⟩ y = s.ev y := by cases y <;> rfl
      rw [this, hv2] at h3
      exact h3
    obtain ⟨η2, v2, vals2, g2, hcur2, hval2, hown2, hlen2, hs2, ha2, hnd2, hn2, hI2, hle2, _⟩ := hs1.giveTree ha1 hnd1 (id := id2) (by rw [Heap.get_put, if_neg (Ne.symm hne)]; exact he2)
    have hyv : a.eval y = v2 := osl_val hyr hcur2.symm hval2
    obtain ⟨v', w', hr, hown', hg, hat⟩ := run hown1.row hown2.row hn2.oneCell hn hb
    have hn1' := (hn1.weak hI2).app hn2
    rw [← List.flatten_append] at hn1'
    have hh1 := headOf_ownBlock hown1.row
    have hbk : ∀ k, k < w.heap.size → k ∉ (headOf v2).toList ++ g2 ++ ((headOf v1).toList ++ g1 ++ []) → w'.heap[k]? = w.heap[k]? := fun k hk hm => hg.block k hk fun e1 => hm (by
      rw [← hh1] at e1
      simp only [List.mem_append, Option.mem_toList]
      exact .inr (.inl (.inl e1.symm)))
    have hnd : (g1 ++ g2).Nodup ∧ ∀ g, headOf v1 = some g → g ∉ g1 ++ g2 := by
      simp only [List.append_nil] at hnd2
      obtain ⟨q1, q2, q3⟩ := List.nodup_append.1 hnd2
      obtain ⟨r1, r2, r3⟩ := List.nodup_append.1 q1
      obtain ⟨t1, t2, t3⟩ := List.nodup_append.1 q2
      refine ⟨List.nodup_append.2 ⟨t2, r2, fun g hg g' hg' e' => ?_⟩, fun g hg hm => ?_⟩
      · subst e'; exact q3 g (List.mem_append_right _ hg') g (List.mem_append_right _ hg) rfl
      · have hg1 : g ∈ (headOf v1).toList := by rw [hg]; simp
        rcases List.mem_append.1 hm with hm | hm
        · exact t3 g hg1 g hm rfl
        · exact q3 g (List.mem_append_right _ hm) g (List.mem_append_left _ hg1) rfl
    obtain ⟨η', hs⟩ := hs2.plant ha2 hbk hg.size (h.kept.step hg.os hg.tape hg.output hg.size fun k hk hm => hg.block k (Nat.lt_of_lt_of_le hk h.kept.size) fun e1 => by
        rw [← hh1] at e1
        rcases (owns_head hown1 e1.symm).2 with h1 | h1
        · omega
        · exact hm h1) d _ te.size (es ++ more) v' (vals1 ++ vals2) (g1 ++ g2) hn1' hnd.1 (fun g hg => by
        simp only [List.mem_append] at hg ⊢
        rcases hg with hg | hg
        · exact .inr (.inl (.inr hg))
        · exact .inl (.inr hg)) (fun g hgm => hg.block g (nest_lt hn1' hgm) fun e1 => by
          rw [← hh1] at e1
          exact hnd.2 g e1.symm hgm) (by simpa using hown')
      (fun g hgh => by
        rw [headOf_ownBlock hown'] at hgh
        rcases hat with e1 | e1 <;> rw [e1] at hgh
        · rw [← hh1] at hgh; exact hown1.side.new g hgh
        · obtain rfl := Option.some.inj hgh; exact .inl h.kept.size)
      (fun g hgh => by
        rw [headOf_ownBlock hown'] at hgh
        rcases hat with e1 | e1 <;> rw [e1] at hgh
        · rw [← hh1] at hgh
          refine ⟨.inr ?_, hnd.2 g hgh⟩
          simp only [List.mem_append, Option.mem_toList]
          exact .inr (.inl (.inl hgh))
        · obtain rfl := Option.some.inj hgh
          exact ⟨.inl (Nat.le_refl _), fun hm => absurd (nest_lt hn1' hm) (Nat.lt_irrefl _)⟩) (fun x hx => by
        rcases List.mem_append.1 hx with hx | hx
        · exact hlen1 x hx
        · exact hlen2 x hx)
    exact done_value (c := v') (hrunop _ _ (by rw [hxv, hyv]; exact hr)) (by rw [hd]; exact hs) hK
  · exact hK.elim

/-- Every operation outside of regions that draw. -/
theorem RepArg.weak' {I I' : Nat → Prop} {q : PV} {c : Value} (h1 : RepArg w I q c) (h2 : ∀ g, I g → I' g) : RepArg w I' q c := by
  cases h1 with
  | one h1 => exact .one (h1.weak h2)
  | agg cs vs h1 => exact .agg cs vs (h1.weak h2)
theorem capOf_sound [NoZ κ] {p p' : PV} {s' : St} {c : Value} (h : Sim κ η s a w) (hp : Rep w (imm κ η w) η p c) (he : capOf p s = some (p', s')) :
    ∃ η', Sim κ η' s' a w ∧ RepArg w (imm κ η' w) p' c ∧ η.le η' ∧ ∀ g, imm κ η w g → imm κ η' w g := by
  unfold capOf at he
  split at he
  · rename_i hall
    obtain ⟨rfl, rfl⟩ := Prod.mk.inj (Option.some.inj he)
    refine ⟨η, h, ?_, Own.le_refl _, fun _ hg => hg⟩
    cases hp with
    | one hp => cases hp with
      | one hp =>
        refine .one ((Rep.of1 hp).invI ?_)
        cases p <;> first | (simpa [PV.cells] using hall) | (cases hp with | imm h => cases h)
      | agg cs vs hr => exact .agg cs vs (rep_pures hr (by simpa [PV.cells] using hall))
    | tup cs vs hr => simp [PV.cells, PV.pure] at hall
  · cases p
    case optr id ver sz i off hnall =>
      simp only at he
      split at he
      case h_2 => cases he
      rename_i v' cs hg
      split at he
      case isFalse => cases he
      rename_i e1
      split at he
      case isFalse => cases he
      rename_i e2
      split at he
      case isFalse => cases he
      rename_i e3
      split at he
      case isTrue => cases he
      rename_i e4
      split at he
      case isFalse => cases he
      rename_i e5
      subst e1 e2 e3
      obtain ⟨rfl, rfl⟩ := Prod.mk.inj (Option.some.inj he)
      have hob := h.heap id
      rw [hg] at hob
      obtain ⟨hcur, g, arr, e, hval, hh, hr, hB⟩ := hob
      subst hcur
      have hk := h.kill id _ hg
      have hI : ∀ k, imm κ η w k → imm κ (η.set id (η.cur id) none) w k := fun k hk => imm_kill hk
      refine ⟨_, hk, ?_, η.le_kill id, hI⟩
      have h1 := hp.inv1 (fun _ e => by cases e) (fun _ e => by cases e)
      cases h1 with
      | imm h1 => cases h1
      | optr _ _ _ _ _ _ hv' hpp =>
        obtain ⟨g', hg', rfl⟩ := hpp rfl _ hval
        obtain rfl := Option.some.inj hg'
        have hlt : g < w.heap.size := (h.head hval rfl).1
        refine .one ?_
        have e0 : (0 * sz + 0) = 0 := by simp
        rw [e0]
        refine .iptr cs g 0 arr.toList ((rep_pures hr e5).weak hI) ⟨hlt, ⟨.inr ⟨hB.new g rfl, _, _, hh⟩, NoZ.out g⟩, fun k x hx hxg => ?_⟩ fun j v hj => ?_
        · rcases Own.set_val hx with ⟨_, hx⟩ | ⟨hne, hx⟩
          · cases hx
          · exact hne (by rw [h.apart k id x _ g hx hval hxg rfl]; rfl)
        · rw [cell_of_row w g _ arr _ _ hh, Nat.zero_add, ← Array.getElem?_toList]
          exact hj
    all_goals cases he
theorem capsOf_sound [NoZ κ] : ∀ {ps qs : List PV} {s s' : St} {η : Own} {vs : List Value} (_ : Sim κ η s a w) (_ : All2 (Rep w (imm κ η w) η) ps vs) (_ : capsOf ps s = some (qs, s')),
    ∃ η', Sim κ η' s' a w ∧ All2 (RepArg w (imm κ η' w)) qs vs ∧ η.le η' ∧ ∀ g, imm κ η w g → imm κ η' w g
  | [], _, _, _, _, _, h, .nil, he => by
    simp only [capsOf, Option.some.injEq, Prod.mk.injEq] at he
    obtain ⟨rfl, rfl⟩ := he
    exact ⟨_, h, .nil, Own.le_refl _, fun _ hg => hg⟩
  | p :: ps, _, _, _, _, _, h, .cons hp hr, he => by
    simp only [capsOf] at he
    split at he
    case h_2 => cases he
    rename_i v' s1 h1
    split at he
    case h_2 => cases he
    rename_i r' s2 h2
    simp only [Option.some.injEq, Prod.mk.injEq] at he
    obtain ⟨rfl, rfl⟩ := he
    obtain ⟨η1, hs1, hr1, hle1, hI1⟩ := capOf_sound h hp h1
    obtain ⟨η2, hs2, hr2, hle2, hI2⟩ := capsOf_sound hs1 (hr.mono fun _ _ x => x.mono (fun g hg => ⟨hI1 g hg, rfl⟩) hle1) h2
    exact ⟨η2, hs2, .cons (hr1.weak' hI2) hr2, Own.le_trans hle1 hle2, fun g hg => hI2 g (hI1 g hg)⟩
theorem repCs_args {I : Nat → Prop} : ∀ {ps : List PV} {vs : List Value}, All2 (RepArg w I) ps vs → RepCs w I ps vs
  | _, _, .nil => .nil
  | _, _, .cons (.one h) r => .one h (repCs_args r)
  | _, _, .cons (.agg cs us h) r => .agg h (repCs_args r)
theorem sound_makeFuncT [NoZ κ] (h : Sim κ η s a w) {K : St → Prop} (f : FuncId) (captured : Array Operand) (ho : o.op = .makeFunc (.func f) #[] captured) {cs : List PV} {s' : St} (hc : capsOf (evs s captured.toList) s = some (cs, s'))
    (hK : K (s'.put o.dst (.fn f cs))) : o.wp P a w (Then κ K) Q' := by
  obtain ⟨η', hs', hr, hle, hI⟩ := capsOf_sound h (evs_rep h captured.toList) hc
  have hargs : (captured.map a.eval) = (captured.toList.map a.eval).toArray := by rw [← Array.toList_map, Array.toArray_toList]
  refine done_value (c := .func (.func f) #[] (captured.toList.map a.eval).toArray) (w' := w) ?_ (hs'.put o.dst (.of (.fn _ _ _ (repCs_args hr)))) hK
  simp [execOp, ho, Instr.makeFunc, hargs]

theorem wrap_pos {n : Nat} (h : n ≤ maxLen) : IntKind.wrap .i64 (n : Int) = n := by
  simp only [maxLen] at h
  simp [IntKind.wrap, IntKind.bits, IntKind.signed]; omega
theorem sound_range [NoZ κ] (hG : EnvOk P G) (h : Sim κ η s a w) {K : St → Prop} (t : Nat) (x : Operand) (ho : o.op = .range t x) (hK : opRange G t s (s.ev x) o.dst K) : o.wp P a w (Then κ K) Q' := by
  unfold opRange at hK
  have hx := h.ev x
  split at hK
  case h_2 => exact hK.elim
  rename_i b hv
  rw [hv] at hx
  split at hK
  case isFalse => exact hK.elim
  rename_i hstr
  split at hK
  case h_2 => exact hK.elim
  rename_i d hd
  have hI := hx.invI rfl
  generalize hc : a.eval x = c at *
  cases hI with
  | str b hl =>
    obtain ⟨hs, hle, hI⟩ := h.create (w' := w.iter ⟨b.toArray⟩ 0) (fun k hk => heap_alloc_old w _ hk) (by simp [World.iter])
      (h.kept.step rfl rfl rfl (by simp [World.iter]) fun k hk _ => heap_alloc_old w _ (Nat.lt_of_lt_of_le hk h.kept.size)) (8 * d) (.iter b 0) (.pointer (some ⟨w.heap.size, 0, none⟩))
      (fun g hg => by obtain rfl := Option.some.inj hg; exact Nat.le_refl _)
      (fun η' hle hI hc hv => ⟨hc, w.heap.size, hv, heap_alloc_new w _, h.kept.size, hl⟩)
    refine done_value (c := .pointer (some ⟨w.heap.size, 0, none⟩)) (w' := w.iter ⟨b.toArray⟩ 0) ?_ (hs.put o.dst (.of1 (.optr (8 * d) ((s.H.get (8 * d)).1 + 1) 0 0 0 _ (Nat.le_of_eq Own.set_cur.symm) ?_))) (by rw [hd]; exact hK)
    · have hu : P.underlying t = some .string := by
        unfold isString at hstr
        split at hstr
        · rename_i hg; exact (hG t _ hg).1
        · cases hstr
      simp [execOp, ho, hc, run_range_string w t ⟨b.toArray⟩ hu]
    · intro _ x hx
      rw [Own.set_o] at hx
      obtain rfl := Option.some.inj hx
      exact ⟨_, rfl, by simp⟩
theorem sound_next [NoZ κ] (h : Sim κ η s a w) {K : St → Prop} (x : Operand) (ho : o.op = .next x true) (hK : opNext (std bb P) s (s.ev x) o.dst K) : o.wp P a w (Then κ K) Q' := by
  unfold opNext at hK
  have hx := h.ev x
  split at hK
  case h_2 => exact hK.elim
  rename_i id ver sz i off hv
  rw [hv] at hx
  split at hK
  case h_2 => exact hK.elim
  rename_i v' b pos he
  split at hK
  case isFalse => exact hK.elim
  rename_i e1
  split at hK
  case isFalse => exact hK.elim
  rename_i e2
  split at hK
  case isFalse => exact hK.elim
  rename_i e3
  subst e1 e2 e3
  have hob := h.heap id
  rw [he] at hob
  obtain ⟨hcur, g, hval, hh, hB, hlen⟩ := hob
  have hpt : a.eval x = .pointer (some ⟨g, 0, none⟩) := by
    have h1 := hx.inv1 (fun _ e => by cases e) (fun _ e => by cases e)
    generalize a.eval x = c at h1
    cases h1 with
    | imm h1 => cases h1
    | optr _ _ _ _ _ _ hv' hpp =>
      obtain ⟨g', hg', rfl⟩ := hpp hcur.symm _ hval
      obtain rfl := Option.some.inj hg'
      simp
  obtain ⟨hK0, hK1⟩ := hK
  by_cases hp : pos < b.length
  · have hat : b[pos]? = some b[pos] := List.getElem?_eq_getElem hp
    obtain ⟨ha, hK⟩ := hK1 _ hat
    simp only at hK
    have hsim : Sim κ η ⟨s.T, s.H.put id (v', .iter b (pos + 1))⟩ a (w.iterAt g ⟨b.toArray⟩ (pos + 1)) := by
      refine h.write id v' (.iter b (pos + 1)) _ g hcur hval rfl (fun k hk => Lib.iterAt_other w g k _ _ hk) (by rw [Lib.iterAt_size]; exact Nat.le_refl _)
        (h.kept.step rfl rfl rfl (by rw [Lib.iterAt_size]; exact Nat.le_refl _) fun k hk _ => Lib.iterAt_other w g k _ _ (by omega)) (by rw [he]; rfl) fun hI => ?_
      exact ⟨hcur, g, hval, Lib.iterAt_heap w g _ pos _ hh, hB, hlen⟩
    refine done_value (c := .tuple #[.bool true, .int .i64 pos, .int .i32 (b[pos]).toNat]) (w' := w.iterAt g ⟨b.toArray⟩ (pos + 1)) ?_ (hsim.put o.dst ?_) hK
    · have hsz : pos < (⟨b.toArray⟩ : ByteArray).size := by show pos < b.toArray.size; simpa using hp
      have := Lib.run_next_ascii_at (P := P) w g ⟨b.toArray⟩ pos o.type hh hsz (by show (b.toArray[pos]).toNat < 128; simpa using ha)
      simp only [execOp, ho, hpt, Sem.run_bind, this, Result.andThen_ok, Sem.run_pure]
      rfl
    · have hx : b[pos].toNat < 128 := ha
      refine .tup _ [_, _, _] (.cons (.one (.imm (.bool true))) (.cons (.one (.imm (.int _ _ (wrap_pos (by omega))))) (.cons (.one (.imm (.int _ _ ?_))) .nil)))
      generalize b[pos].toNat = n at hx
      simp [IntKind.wrap, IntKind.bits, IntKind.signed]; omega
  · have hK := hK0 (by omega)
    simp only at hK
    refine done_value (c := .tuple #[.bool false]) (w' := w) ?_ (h.put o.dst (.tup _ [_] (.cons (.one (.imm (.bool false))) .nil))) hK
    have hsz : ¬ pos < (⟨b.toArray⟩ : ByteArray).size := by show ¬ pos < b.toArray.size; simpa using hp
    have := Lib.run_next_end_at (P := P) w g ⟨b.toArray⟩ pos o.type hh hsz
    simp only [execOp, ho, hpt, Sem.run_bind, this, Result.andThen_ok, Sem.run_pure]

theorem sound_makeMap [NoZ κ] (h : Sim κ η s a w) {K : St → Prop} (t : Nat) (ho : o.op = .makeMap t none) {d : Nat} (hd : o.dst = some d)
    (hK : K (St.put ⟨s.T, s.H.new (8 * d) (.map [])⟩ (some d) (.osl (8 * d) ((s.H.get (8 * d)).1 + 1)))) : o.wp P a w (Then κ K) Q' := by
  obtain ⟨hs, hle, hI⟩ := h.create (w' := w.alloc (.map #[] 0)) (fun k hk => heap_alloc_old w _ hk) (by simp)
    (h.kept.step rfl rfl rfl (by simp) fun k hk _ => heap_alloc_old w _ (Nat.lt_of_lt_of_le hk h.kept.size)) (8 * d) (.map []) (.map (some w.heap.size))
    (fun g hg => by obtain rfl := Option.some.inj hg; exact Nat.le_refl _)
    (fun η' hle hI hc hv => ⟨hc, w.heap.size, #[], 0, [], hv, heap_alloc_new w _, h.kept.size, ⟨rfl, rfl⟩⟩)
  refine done_value (c := .map (some w.heap.size)) (w' := w.alloc (.map #[] 0)) ?_ (hs.put o.dst (.of1 (.osl (8 * d) ((s.H.get (8 * d)).1 + 1) _ (Nat.le_of_eq Own.set_cur.symm) ?_))) (by rw [hd]; exact hK)
  · simp [execOp, ho, Instr.makeMap]
  · intro _ x hx
    rw [Own.set_o] at hx
    exact Option.some.inj hx

theorem map_keys {ks ks' : List Int} (h : (ks.map fun k => [PV.int .i64 k]) = ks'.map fun k => [PV.int .i64 k]) : ks = ks' := by
  induction ks generalizing ks' with
  | nil => cases ks' with
    | nil => rfl
    | cons _ _ => simp at h
  | cons x r ih => cases ks' with
    | nil => simp at h
    | cons y r' =>
      simp only [List.map_cons, List.cons.injEq, PV.int.injEq, true_and, and_true] at h
      rw [h.1, ih h.2]

theorem map_isKey {ents : Array MapEntry} {es : List (List PV)} {ks : List Int} (h : MapRep ents es ks) : ∀ x ∈ ents.toList, MapKept.IsKey (.int .i64) x.key ∧ x.key ∈ ks.map (Value.int .i64) ∧ x.val = .bool true := by
  intro x hx
  have : (x.key, x.val) ∈ ents.toList.map fun e => (e.key, e.val) := List.mem_map.2 ⟨x, hx, rfl⟩
  rw [h.ents] at this
  obtain ⟨k, hk, e⟩ := List.mem_map.1 this
  obtain ⟨e1, e2⟩ := Prod.mk.inj e
  rw [← e1, ← e2]
  exact ⟨rfl, List.mem_map.2 ⟨k, hk, rfl⟩, rfl⟩

theorem osl_map (h : Sim κ η s a w) {x : Operand} {id ver : Nat} (hv : s.ev x = .osl id ver) {v : Value} (hval : η.val id = some v) (hcur : η.cur id = ver) : a.eval x = v := by
  have hx := h.ev x
  rw [hv] at hx
  have h1 := hx.inv1 (fun _ e => by cases e) (fun _ e => by cases e)
  generalize a.eval x = c at h1
  cases h1 with
  | imm h1 => cases h1
  | osl _ _ _ _ hp => exact hp hcur.symm _ hval

theorem sound_mput [NoZ κ] (h : Sim κ η s a w) {K : St → Prop} (t : Nat) (x k v : Operand) (ho : o.op = .insert t x k v ∨ o.op = .mapUpdate t x k v) (hK : opMput (std bb P) t s (s.ev x) (s.ev k) (s.ev v) fun s' => K (s'.put o.dst .skip)) :
    o.wp P a w (Then κ K) Q' := by
  unfold opMput at hK
  have hk := h.ev k
  have hv := h.ev v
  split at hK
  case h_2 => exact hK.elim
  rename_i id ver n ex ek ev
  rw [ek] at hk
  rw [ev] at hv
  split at hK
  case h_2 => exact hK.elim
  rename_i v' es he
  split at hK
  case isFalse => exact hK.elim
  rename_i e1
  subst e1
  have hob := h.heap id
  rw [he] at hob
  obtain ⟨hcur, g, ents, clock, ks, hval, hh, hB, hm⟩ := hob
  have hax := osl_map h ex hval hcur
  obtain ⟨hak, hwr⟩ := hk.int
  have hav := hv.bool
  obtain ⟨⟨kt, et, ht, hkt⟩, ks', hes, hK⟩ := hK
  obtain rfl := map_keys (hm.es.symm.trans hes)
  have hck := MapKept.run_checkKey (P := P) (w := w) hkt (k := .int .i64 n) rfl false 9999
  have fin : ∀ (ents' : Array MapEntry) (clock' : Nat), (Instr.mapUpdate t (.map (some g)) (.int .i64 n) (.bool true)).run P w = .ok () { w with heap := w.heap.setIfInBounds g (.map ents' clock') } →
      (ents'.toList.map fun e => (e.key, e.val)) = (putM ks n).map (fun k => (Value.int .i64 k, Value.bool true)) → o.wp P a w (Then κ K) Q' := by
    intro ents' clock' hrun hents
    have hset := MapKept.heap_set hh (o' := .map ents' clock')
    have hs := h.write (w' := { w with heap := w.heap.setIfInBounds g (.map ents' clock') }) id v' (.map ((putM ks n).map fun k => [PV.int .i64 k])) _ g hcur hval rfl (fun k hk => hset.2 k hk) (by simp)
      (h.kept.step rfl rfl rfl (by simp) fun k hk _ => hset.2 k (by omega)) (by rw [he]; rfl) fun hI => ⟨hcur, g, ents', clock', putM ks n, hval, hset.1, hB, ⟨rfl, hents⟩⟩
    refine done_skip (w' := { w with heap := w.heap.setIfInBounds g (.map ents' clock') }) ?_ hs hK
    rcases ho with ho | ho <;> simp only [execOp, ho, hax, hak, hav, Sem.run_bind, hrun, Result.andThen_ok, Sem.run_pure]
  rcases MapKept.findNow_spec (d := .int .i64) (k := .int .i64 n) rfl ents.toList 0 (fun x hx => (map_isKey hm x hx).1) with ⟨h1, h2⟩ | ⟨j, e, h1, h2, h3⟩
  · have hfk := MapKept.run_findKey (P := P) (w := w) hkt h1
    have hnm : n ∉ ks := fun hn => by
      have : (Value.int .i64 n, Value.bool true) ∈ ents.toList.map fun e => (e.key, e.val) := by rw [hm.ents]; exact List.mem_map.2 ⟨n, hn, rfl⟩
      obtain ⟨x, hx, e⟩ := List.mem_map.1 this
      exact h2 x hx (Prod.mk.inj e).1
    refine fin (ents.push { key := .int .i64 n, val := .bool true, born := clock }) (clock + 1) ?_ ?_
    · simp [Instr.mapUpdate, run_underlying ht, MapKept.run_getObj_map hh, hck, hfk, MapKept.run_setObj_map _ hh, Result.andThen]
    · unfold putM
      rw [if_neg hnm]
      simp [hm.ents]
  · have hfk := MapKept.run_findKey (P := P) (w := w) hkt h1
    have hst := MapKept.run_keyThatStays (P := P) (w := w) (d := .int .i64) (k := .int .i64 n) rfl
    have hin : n ∈ ks := by
      have := (map_isKey hm e (List.mem_of_getElem? h2)).2.1
      rw [h3] at this
      obtain ⟨k', hk', e'⟩ := List.mem_map.1 this
      have : k' = n := by simpa using e'
      rw [← this]; exact hk'
    have hval' := (map_isKey hm e (List.mem_of_getElem? h2)).2.2
    have he' : ents[j]? = some e := by simpa using h2
    refine fin (ents.modify j fun e => { e with key := .int .i64 n, val := .bool true }) clock ?_ ?_
    · simp [Instr.mapUpdate, run_underlying ht, MapKept.run_getObj_map hh, hck, hfk, he', h3, hst, MapKept.run_setObj_map _ hh, Result.andThen]
    · unfold putM
      rw [if_pos hin, ← hm.ents]
      apply List.ext_getElem?
      intro i
      simp only [Array.toList_modify, List.getElem?_map, List.getElem?_modify]
      by_cases e' : j = i
      · subst e'
        rw [h2]
        simp [h3, hval']
      · simp [e']

theorem sound_mget [NoZ κ] (h : Sim κ η s a w) {K : St → Prop} (t : Nat) (x k : Operand) (ho : o.op = .lookup t x k false) (hK : opMget (std bb P) t s (s.ev x) (s.ev k) fun v => K (s.put o.dst v)) : o.wp P a w (Then κ K) Q' := by
  unfold opMget at hK
  have hk := h.ev k
  split at hK
  case h_2 => exact hK.elim
  rename_i id ver n ex ek
  rw [ek] at hk
  split at hK
  case h_2 => exact hK.elim
  rename_i v' es he
  split at hK
  case isFalse => exact hK.elim
  rename_i e1
  subst e1
  have hob := h.heap id
  rw [he] at hob
  obtain ⟨hcur, g, ents, clock, ks, hval, hh, hB, hm⟩ := hob
  have hax := osl_map h ex hval hcur
  obtain ⟨hak, hwr⟩ := hk.int
  obtain ⟨⟨kt, et, ht, hkt, het, hz⟩, ks', hes, hK⟩ := hK
  obtain rfl := map_keys (hm.es.symm.trans hes)
  have hck := MapKept.run_checkKey (P := P) (w := w) hkt (k := .int .i64 n) rfl ents.isEmpty 9999
  refine done_put h (c := .bool (decide (n ∈ ks))) ?_ (repBool _) hK
  rcases MapKept.findNow_spec (d := .int .i64) (k := .int .i64 n) rfl ents.toList 0 (fun x hx => (map_isKey hm x hx).1) with ⟨h1, h2⟩ | ⟨j, e, h1, h2, h3⟩
  · have hfk := MapKept.run_findKey (P := P) (w := w) hkt h1
    have hnm : n ∉ ks := fun hn => by
      have : (Value.int .i64 n, Value.bool true) ∈ ents.toList.map fun e => (e.key, e.val) := by rw [hm.ents]; exact List.mem_map.2 ⟨n, hn, rfl⟩
      obtain ⟨x, hx, e⟩ := List.mem_map.1 this
      exact h2 x hx (Prod.mk.inj e).1
    simp [execOp, ho, hax, hak, Instr.lookup, run_underlying ht, MapKept.run_getObj_map hh, hck, hfk, hz w, hnm, Result.andThen]
  · have hfk := MapKept.run_findKey (P := P) (w := w) hkt h1
    have hin : n ∈ ks := by
      have := (map_isKey hm e (List.mem_of_getElem? h2)).2.1
      rw [h3] at this
      obtain ⟨k', hk', e'⟩ := List.mem_map.1 this
      have : k' = n := by simpa using e'
      rw [← this]; exact hk'
    have hval' := (map_isKey hm e (List.mem_of_getElem? h2)).2.2
    simp [execOp, ho, hax, hak, Instr.lookup, run_underlying ht, MapKept.run_getObj_map hh, hck, hfk, hin, hval', Result.andThen]

/-! ### Rows that come into trees, and go out of them -/
/-- The tree 'id' gets a new version; the row in its cell 'p' is 'u', the object 'kill' is no more. -/
def Own.re (η : Own) (id p : Nat) (u : Option Value) (kill : Option Nat) : Own :=
  ⟨fun i => if i = id then η.cur id + 1 else η.cur i, fun k => if k = .n id p then u else if kill = some k.id then none else η.val k⟩
theorem Own.re_cur {η : Own} {id p : Nat} {u : Option Value} {kill : Option Nat} : (η.re id p u kill).cur id = η.cur id + 1 := if_pos rfl
theorem Own.re_cur_ne {η : Own} {id p i : Nat} {u : Option Value} {kill : Option Nat} (h : i ≠ id) : (η.re id p u kill).cur i = η.cur i := if_neg h
theorem Own.re_at {η : Own} {id p : Nat} {u : Option Value} {kill : Option Nat} : (η.re id p u kill).val (.n id p) = u := if_pos rfl
theorem Own.re_val {η : Own} {id p : Nat} {u : Option Value} {kill : Option Nat} {k : Key} (h : k ≠ .n id p) (hk : kill ≠ some k.id) : (η.re id p u kill).val k = η.val k := by
  show (if k = .n id p then u else if kill = some k.id then none else η.val k) = _
  rw [if_neg h, if_neg hk]
theorem Own.re_src {η : Own} {id p : Nat} {u : Option Value} {kill : Option Nat} {k : Key} {x : Value} (h : (η.re id p u kill).val k = some x) : (k = .n id p ∧ u = some x) ∨ (k ≠ .n id p ∧ kill ≠ some k.id ∧ η.val k = some x) := by
  by_cases e : k = .n id p
  · subst e; rw [Own.re_at] at h; exact .inl ⟨rfl, h⟩
  · by_cases hk : kill = some k.id
    · have : (η.re id p u kill).val k = none := by
        show (if k = .n id p then u else if kill = some k.id then none else η.val k) = _
        rw [if_neg e, if_pos hk]
      rw [this] at h; cases h
    · rw [Own.re_val e hk] at h; exact .inr ⟨e, hk, h⟩
theorem Own.le_re {η : Own} {id p : Nat} {u : Option Value} {kill : Option Nat} : η.le (η.re id p u kill) := fun k => by
  by_cases e : k.id = id
  · rw [e, Own.re_cur]
    exact ⟨by omega, fun h => by omega⟩
  · rw [Own.re_cur_ne e]
    refine ⟨Nat.le_refl _, fun _ x hx => ?_⟩
    rcases Own.re_src hx with ⟨h1, _⟩ | ⟨_, _, h1⟩
    · rw [h1] at e; exact absurd rfl e
    · exact h1

theorem bump_rep {I I' : Nat → Prop} {η' : Own} {w' : World} {id ver : Nat} {v : Value} (hc : η.cur id = ver) (hv : η.val id = some v) (hc' : η'.cur id = ver + 1) (hv' : η'.val id = some v) {p : PV} {c : Value} (h : Rep w I η p c) (h' : Rep w' I' η' p c) : Rep w' I' η' (bump id ver p) c := by
  unfold bump
  split
  · rename_i i u
    split
    · split
      · rename_i e1 e2
        subst e1 e2
        have e := osl_val h hc.symm hv
        refine .of1 (.osl _ _ _ (by omega) fun _ x hx => ?_)
        rw [e]; exact Option.some.inj (hv'.symm.trans hx)
      · exact h'
    · exact h'
  · rename_i i u sz j off
    split
    · split
      · rename_i e1 e2
        subst e1 e2
        obtain ⟨g, hg, e⟩ := optr_val h hc.symm hv
        refine .of1 (.optr _ _ _ _ _ _ (by omega) fun _ x hx => ⟨g, ?_, e⟩)
        rw [← Option.some.inj (hv'.symm.trans hx)]; exact hg
      · exact h'
    · exact h'
  · exact h'

/-- What a cell becomes: a row that is taken over from the object 'kill', or a value that is only read. -/
structure CellIn (κ : Ctx) (w : World) (η : Own) (s : St) (c' : PV) (c : Value) (kill : Option Nat) (H : Heap) : Prop where
  cell : (∃ id2 ver2 e2 z2 rs, kill = some id2 ∧ c' = .fr e2 z2 rs ∧ s.H.get id2 = (ver2, .row e2 z2 rs) ∧ η.val id2 = some c ∧ H = s.H.put id2 (ver2, .dead)) ∨
    (kill = none ∧ c'.pure = true ∧ RepI w (imm κ η w) c' c ∧ H = s.H)

/-- A cell of a tree is set; the tree has no other cells than rows of its own and what is only read. -/
theorem Sim.plantIn [NoZ κ] (h : Sim κ η s a w) {id ver e sz i off : Nat} {es : List (List PV)} {b : Body} {v0 : Value} {vals : List Value} {el : List PV} {c : Value} {c' : PV} {kill : Option Nat} {H : Heap} {w' : World}
    (hb : s.H.get id = (ver, b)) (hn : b.nest = some es) (hc : η.cur id = ver) (hv : η.val id = some v0) (hrep : WCells κ w η id es.flatten vals) (hlen : ∀ x ∈ es, x.length = sz)
    (hel : es[i]? = some el) (hoff : off < el.length) (hin : CellIn κ w η s c' c kill H) (hkill : kill ≠ some id)
    {ver' : Nat} (hown : OwnsK κ w' id ver' e sz v0 es.length (vals.set (i * sz + off) c)) (hw : ∀ k, headOf v0 ≠ some k → w'.heap[k]? = w.heap[k]?) (hz : w.heap.size ≤ w'.heap.size) (hk : Kept κ w')
    (hcl : ∀ x ∈ es.set i (splice el off [c']), ∀ q ∈ x, (∃ e z rs, q = .fr e z rs) ∨ q.pure = true) :
    ∃ η', Sim κ η' ⟨s.T.map (bump id ver), H.put id (ver + 1, .tree e sz (es.set i (splice el off [c'])))⟩ a w' ∧ η.le η' ∧ (∀ g, imm κ η w g → imm κ η' w' g) ∧ η'.val id = some v0 ∧ η'.cur id = ver + 1 := by
  subst hc
  let u : Option Value := if kill = none then none else some c
  let η' := η.re id (i * sz + off) u kill
  have hle : η.le η' := Own.le_re
  have hsrc : ∀ k x, η'.val k = some x → ∃ k', η.val k' = some x ∧ ((k = .n id (i * sz + off) ∧ ∃ id2, kill = some id2 ∧ k' = .o id2) ∨ (k ≠ .n id (i * sz + off) ∧ kill ≠ some k.id ∧ k' = k)) := fun k x hx => by
    rcases Own.re_src hx with ⟨h1, h2⟩ | ⟨h1, h2, h3⟩
    · rcases hin.cell with ⟨id2, ver2, e2, z2, rs, k1, k2, k3, k4, k5⟩ | ⟨k1, _⟩
      · refine ⟨.o id2, ?_, .inl ⟨h1, id2, k1, rfl⟩⟩
        have : u = some c := by show (if kill = none then none else some c) = _; rw [k1]; rfl
        rw [this] at h2
        rw [← h2]; exact k4
      · have : u = none := by show (if kill = none then none else some c) = _; rw [k1]; rfl
        rw [this] at h2; cases h2
    · exact ⟨k, h3, .inr ⟨h1, h2, rfl⟩⟩
  have hI : ∀ g, imm κ η w g → imm κ η' w' g ∧ w'.heap[g]? = w.heap[g]? := fun g hg => by
    have hwg := hw g fun e => hg.2.2 (.o id) v0 hv e
    refine ⟨⟨Nat.lt_of_lt_of_le hg.1 hz, side_keep hwg hg.2.1, fun k x hx he => ?_⟩, hwg⟩
    obtain ⟨k', hx', _⟩ := hsrc k x hx
    exact hg.2.2 k' x hx' he
  have hv' : η'.val (.o id) = some v0 := by
    rw [Own.re_val (k := .o id) (by simp) hkill]; exact hv
  have hcur' : η'.cur id = η.cur id + 1 := Own.re_cur
  have hel0 : el.length = sz := hlen el (List.mem_of_getElem? hel)
  have hi : i < es.length := (List.getElem?_eq_some_iff.1 hel).1
  have hpos : i * sz + off < es.flatten.length := by
    rw [flat_length hlen]
    have h1 : (i + 1) * sz ≤ es.length * sz := Nat.mul_le_mul_right _ hi
    rw [Nat.add_mul] at h1; omega
  have hfl : ∀ q, (es.set i (splice el off [c'])).flatten[q]? = if q = i * sz + off then some c' else es.flatten[q]? := fun q => by
    rw [flat_set hlen hel (by simp; omega), getElem?_splice_one hpos]
  have hbl : ∀ (k : Key) x g, η.val k = some x → headOf x = some g → k ≠ .o id → w'.heap[g]? = w.heap[g]? := fun k x g hx hg hne => hw g fun e => hne (h.apart k (.o id) x v0 g hx hv hg e)
  have hHid : ∀ j, j ≠ id → kill ≠ some j → H.get j = s.H.get j := fun j _ hj => by
    rcases hin.cell with ⟨id2, ver2, e2, z2, rs, k1, k2, k3, k4, k5⟩ | ⟨k1, _, _, k5⟩
    · rw [k5, Heap.get_put, if_neg fun e => hj (by rw [k1, e])]
    · rw [k5]
  have hdead : ∀ j, kill = some j → ∃ ver2, H.get j = (ver2, .dead) ∧ η.cur j = ver2 := fun j hj => by
    rcases hin.cell with ⟨id2, ver2, e2, z2, rs, k1, k2, k3, k4, k5⟩ | ⟨k1, _⟩
    · rw [k1] at hj
      obtain rfl := Option.some.inj hj
      refine ⟨ver2, by rw [k5, Heap.get_put, if_pos rfl], ?_⟩
      have := (h.heap id2).ver
      rw [k3] at this; exact this
    · rw [k1] at hj; cases hj
  have hvals : ∀ q, (vals.set (i * sz + off) c)[q]? = if q = i * sz + off then some c else vals[q]? := fun q => by
    rw [List.getElem?_set]
    by_cases e : i * sz + off = q
    · rw [if_pos e, if_pos e.symm, if_pos (by rw [← hrep.1]; exact hpos)]
    · rw [if_neg e, if_neg fun e' => e e'.symm]
  refine ⟨η', ⟨?_, h.defers, fun j => ?_, fun j k x x' g hx hx' he he' => ?_, fun j => ?_, hk⟩, hle, fun g hg => (hI g hg).1, hv', hcur'⟩
  · exact All2.mapl (fun p q hpq => bump_rep rfl hv hcur' hv' hpq (hpq.mono hI hle)) h.tmps
  · rw [Heap.get_put]
    by_cases ej : j = id
    · rw [if_pos ej, ej]
      refine ⟨hcur', v0, vals.set (i * sz + off) c, hv', by rw [List.length_set]; exact hown.up, ⟨?_, fun q p y hq hy => ?_⟩, fun x hx => ?_⟩
      · rw [List.length_set, ← hrep.1, flat_set hlen hel (by simp; omega), splice_length (by simp only [List.length_cons, List.length_nil]; omega)]
      · rw [hfl] at hq
        rw [hvals] at hy
        split at hq
        · rename_i eq
          rw [if_pos eq] at hy
          obtain rfl := Option.some.inj hq
          obtain rfl := Option.some.inj hy
          subst eq
          rcases hin.cell with ⟨id2, ver2, e2, z2, rs, k1, k2, k3, k4, k5⟩ | ⟨k1, k2, k3, _⟩
          · subst k2
            have ho2 := h.heap id2
            rw [k3] at ho2
            obtain ⟨_, x2, vals2, g1, g2, g3, g4⟩ := ho2
            obtain rfl : x2 = c := Option.some.inj (g1.symm.trans k4)
            have hne : id2 ≠ id := fun e => hkill (by rw [k1, e])
            refine ⟨?_, vals2, owns_keep (g2.up (id' := 0) (ver' := 0)) fun g hg => hbl (.o id2) x2 g k4 hg (by simpa using hne), g3.mono hI, g4⟩
            show η'.val _ = _
            rw [Own.re_at]
            show (if kill = none then none else some x2) = _
            rw [k1]; rfl
          · have k3' := k3.mono hI
            cases c' <;> first | exact k3' | cases k2
        · rename_i eq
          rw [if_neg eq] at hy
          have hw0 := hrep.2 q p y hq hy
          have hmem : p ∈ (es.set i (splice el off [c'])).flatten := by
            refine List.mem_of_getElem? (i := q) ?_
            rw [hfl, if_neg eq]; exact hq
          obtain ⟨x, hx1, hx2⟩ := List.mem_flatten.1 hmem
          rcases hcl x hx1 p hx2 with ⟨e1, z1, rs1, rfl⟩ | hpure
          · obtain ⟨g1, vals2, g2, g3, g4⟩ := hw0
            have hkn : (.n id q : Key) ≠ .n id (i * sz + off) := by simpa using eq
            exact ⟨by show η'.val _ = _; rw [Own.re_val hkn hkill]; exact g1, vals2, owns_keep g2 fun g hg => hbl _ y g g1 hg (by simp), g3.mono hI, g4⟩
          · have hne : ∀ e z rs, p ≠ .fr e z rs := fun e z rs e' => by rw [e'] at hpure; cases hpure
            have h1 := ((Rep.of1 (hw0.one hne)).invI hpure).mono hI
            cases p <;> first | exact h1 | exact absurd rfl (hne _ _ _)
      · rcases List.mem_or_eq_of_mem_set hx with hx | rfl
        · exact hlen x hx
        · rw [splice_length (by simp; omega)]; exact hel0
    · rw [if_neg ej]
      by_cases hkj : kill = some j
      · obtain ⟨ver2, e1, e2⟩ := hdead j hkj
        rw [e1]
        refine ⟨by rw [Own.re_cur_ne ej]; exact e2, ?_⟩
        show (if (.o j : Key) = .n id (i * sz + off) then u else if kill = some (Key.id (.o j)) then none else η.val (.o j)) = none
        rw [if_neg (by simp), if_pos (show kill = some (Key.id (.o j)) from hkj)]
      · rw [hHid j ej hkj]
        refine (h.heap j).keep (Own.re_cur_ne ej) (fun k hkk => Own.re_val (fun e => ej (by rw [← hkk, e]; rfl)) (by rw [hkk]; exact hkj)) (fun k x g hkk hx hg => hbl k x g hx hg fun e => ej (by rw [← hkk, e]; rfl)) hI hle
  · obtain ⟨j', hx1, hj⟩ := hsrc j x hx
    obtain ⟨k', hx2, hk'⟩ := hsrc k x' hx'
    have e := h.apart j' k' x x' g hx1 hx2 he he'
    rcases hj with ⟨j1, id2, j2, j3⟩ | ⟨j1, j2, j3⟩ <;> rcases hk' with ⟨k1, id3, k2, k3⟩ | ⟨k1, k2, k3⟩
    · rw [j1, k1]
    · exfalso
      apply k2
      rw [← k3, ← e, j3, j2]; rfl
    · exfalso
      apply j2
      rw [← j3, e, k3, k2]; rfl
    · rw [← j3, ← k3, e]
  · rw [Heap.get_put]
    by_cases ej : j = id
    · rw [if_pos ej, ej]
      intro p x hx
      obtain ⟨k', hx1, hj⟩ := hsrc (.n id p) x hx
      rcases hj with ⟨j1, id2, j2, j3⟩ | ⟨j1, j2, j3⟩
      · have hp : p = i * sz + off := by simpa using j1
        rcases hin.cell with ⟨id3, ver2, e2, z2, rs, k1, k2, k3, k4, k5⟩ | ⟨k1, _⟩
        · exact ⟨_, e2, z2, rs, rfl, by rw [hfl, if_pos hp, k2]⟩
        · rw [k1] at j2; cases j2
      · have hp : p ≠ i * sz + off := by simpa using j1
        rw [j3] at hx1
        obtain ⟨es1, f1, f2, f3, g1, g2⟩ := h.sub id p x hx1
        rw [hb] at g1
        have : es1 = es := Option.some.inj (g1.symm.trans hn)
        subst this
        exact ⟨_, f1, f2, f3, rfl, by rw [hfl, if_neg hp]; exact g2⟩
    · rw [if_neg ej]
      by_cases hkj : kill = some j
      · obtain ⟨ver2, e1, e2⟩ := hdead j hkj
        rw [e1]
        refine SubRep.none fun p => ?_
        show (if (.n j p : Key) = .n id (i * sz + off) then u else if kill = some (Key.id (.n j p)) then none else η.val (.n j p)) = none
        rw [if_neg (by simp [ej]), if_pos (show kill = some (Key.id (.n j p)) from hkj)]
      · rw [hHid j ej hkj]
        exact (h.sub j).keep fun k hkk => Own.re_val (fun e => ej (by rw [← hkk, e]; rfl)) (by rw [hkk]; exact hkj)

theorem sound_storeN [NoZ κ] (hG : EnvOk P G) (h : Sim κ η s a w) {K : St → Prop} (t : Nat) (x y : Operand) (ho : o.op = .store t x y) {id ver sz i off : Nat} (hv : s.ev x = .optr id ver sz i off)
    (hK : storeN (std bb P) G t s id ver sz i off (s.ev y) fun s' => K (s'.put o.dst .skip)) : o.wp P a w (Then κ K) Q' := by
  have hx := h.ev x
  have hy := h.ev y
  rw [hv] at hx
  unfold storeN at hK
  split at hK
  case h_2 => exact hK.elim
  rename_i ti hg
  have hd := hG t ti hg
  split at hK
  case isFalse => exact hK.elim
  rename_i hsz
  split at hK
  case isTrue => exact hK.elim
  rename_i hid
  split at hK
  case h_2 => exact hK.elim
  rename_i e sz' es he
  split at hK
  case isFalse => exact hK.elim
  rename_i esz
  subst esz
  obtain ⟨b, v0, vals, hb, hn, hcur, hval, hown, hrep, hlen⟩ := treeAt_spec h he
  obtain ⟨g, hg', hpt⟩ := optr_val hx hcur.symm hval
  have fin : ∀ (c' : PV) (kill : Option Nat) (H : Heap), (a.eval y).oneCell' = true → CellIn κ w η s c' (a.eval y) kill H → kill ≠ some id →
      std bb P (.ostore es i off [c']) (fun r => match r with
          | .isl _ es' => std bb P (.clean es') fun _ => K (St.put ⟨s.T.map (bump id ver), H.put id (ver + 1, .tree e sz es')⟩ o.dst .skip)
          | _ => False) → o.wp P a w (Then κ K) Q' := by
    intro c' kill H hone hin hkill hK
    obtain ⟨el, hel, hfit, hcl, hK⟩ := hK
    simp only [List.length_cons, List.length_nil] at hfit
    have hcs : (a.eval y).cells = #[a.eval y] := Value.cells_one hone
    have hi : i < es.length := (List.getElem?_eq_some_iff.1 hel).1
    have hel0 : el.length = sz := hlen el (List.mem_of_getElem? hel)
    have hpos : i * sz + off + 1 ≤ es.length * sz := by
      have h1 : (i + 1) * sz ≤ es.length * sz := Nat.mul_le_mul_right _ hi
      rw [Nat.add_mul] at h1
      omega
    obtain ⟨cap, cur, rfl, hB, hh, hcl2, hown2⟩ := owns_write (cs := [a.eval y]) (pos := i * sz + off) hown.row hg' hpos
    have hrun := run_storeVar (P := P) (w := w) (off := i * sz + off) (c := a.eval y) hd hh (by rw [hcs, hsz]; rfl) (by omega) (fun u hu => by rw [hcs] at hu; simp at hu; rw [hu]; exact hone)
    have hvl : vals.length = es.length * sz := by rw [← hrep.1, flat_length hlen]
    have hset : vals.take (i * sz + off) ++ [a.eval y] ++ vals.drop (i * sz + off + [a.eval y].length) = vals.set (i * sz + off) (a.eval y) := by
      rw [List.set_eq_take_append_cons_drop, if_pos (by omega), List.append_assoc]; rfl
    rw [hset] at hown2
    obtain ⟨η', hs, _⟩ := h.plantIn hb hn hcur hval hrep hlen hel (by omega) hin hkill (ver' := ver) ⟨hown2, hown.side⟩ (fun k hk => setRow_other w g k _ fun e' => hk (by rw [e']; rfl)) (by simp [World.setRow]) (setRow_kept h.kept (hown.side.new g rfl) _) hcl
    refine done_skip ?_ hs hK
    rw [hcs] at hrun
    simp [execOp, ho, Instr.storeAt, hpt, Instr.sureAddr, hrun]
  split at hK
  · rename_i id2 ver2 hv2
    rw [hv2] at hy
    split at hK
    case isTrue => exact hK.elim
    rename_i hne
    split at hK
    case h_2 => exact hK.elim
    rename_i v2 e2 z2 rs he2
    split at hK
    case isFalse => exact hK.elim
    rename_i ev2
    subst ev2
    have ho2 := h.heap id2
    rw [he2] at ho2
    obtain ⟨c2, u2, vals2, g1, g2, g3, g4⟩ := ho2
    have hyv : a.eval y = u2 := osl_val hy c2.symm g1
    refine fin (.fr e2 z2 rs) (some id2) (s.H.put id2 (v2, .dead)) ?_ ⟨.inl ⟨id2, v2, e2, z2, rs, rfl, rfl, he2, by rw [hyv]; exact g1, rfl⟩⟩ (by simpa using hne) hK
    rw [hyv]
    rcases g2.row.2 with ⟨rfl, _⟩ | ⟨g, cap, cur, rfl, _⟩ <;> rfl
  · split at hK
    case isFalse => exact hK.elim
    rename_i hp
    have hr := hy.invI hp
    exact fin (s.ev y) none s.H hr.oneCell ⟨.inr ⟨rfl, hp, hr, rfl⟩⟩ (by simp) hK

/-- The row in a tree's cell becomes an object of its own. -/
def Own.out (η : Own) (id p k : Nat) (u : Value) : Own :=
  ⟨fun j => if j = k then η.cur k + 1 else η.cur j, fun kk => if kk = .n id p then none else if kk = .o k then some u else if kk.id = k then none else η.val kk⟩
theorem Own.out_src {η : Own} {id p k : Nat} {u : Value} {kk : Key} {x : Value} (h : (η.out id p k u).val kk = some x) : (kk = .o k ∧ x = u) ∨ (kk ≠ .n id p ∧ kk.id ≠ k ∧ η.val kk = some x) := by
  have h' : (if kk = .n id p then none else if kk = .o k then some u else if kk.id = k then none else η.val kk) = some x := h
  split at h'
  · cases h'
  · rename_i h1
    split at h'
    · rename_i h2; exact .inl ⟨h2, (Option.some.inj h').symm⟩
    · split at h'
      · cases h'
      · rename_i h3; exact .inr ⟨h1, h3, h'⟩
theorem Own.out_val {η : Own} {id p k : Nat} {u : Value} {kk : Key} (h1 : kk ≠ .n id p) (h2 : kk.id ≠ k) : (η.out id p k u).val kk = η.val kk := by
  show (if kk = .n id p then none else if kk = .o k then some u else if kk.id = k then none else η.val kk) = _
  rw [if_neg h1, if_neg (fun e => h2 (by rw [e]; rfl)), if_neg h2]
theorem Own.out_o {η : Own} {id p k : Nat} {u : Value} : (η.out id p k u).val (.o k) = some u := by
  show (if (.o k : Key) = .n id p then none else if (.o k : Key) = .o k then some u else _) = _
  rw [if_neg (by simp), if_pos rfl]
theorem Own.out_n {η : Own} {id p k : Nat} {u : Value} : (η.out id p k u).val (.n id p) = none := if_pos rfl
theorem Own.out_nk {η : Own} {id p k q : Nat} {u : Value} : (η.out id p k u).val (.n k q) = none := by
  show (if (.n k q : Key) = .n id p then none else if (.n k q : Key) = .o k then some u else if (Key.n k q).id = k then none else _) = _
  by_cases e : (.n k q : Key) = .n id p
  · rw [if_pos e]
  · rw [if_neg e, if_neg (by simp), if_pos (show (Key.n k q).id = k from rfl)]
theorem Own.out_cur {η : Own} {id p k : Nat} {u : Value} : (η.out id p k u).cur k = η.cur k + 1 := if_pos rfl
theorem Own.out_cur_ne {η : Own} {id p k j : Nat} {u : Value} (h : j ≠ k) : (η.out id p k u).cur j = η.cur j := if_neg h
theorem Own.le_out {η : Own} {id p k : Nat} {u : Value} : η.le (η.out id p k u) := fun kk => by
  by_cases e : kk.id = k
  · rw [e, Own.out_cur]; exact ⟨by omega, fun h => by omega⟩
  · rw [Own.out_cur_ne e]
    refine ⟨Nat.le_refl _, fun _ x hx => ?_⟩
    rcases Own.out_src hx with ⟨h1, _⟩ | ⟨_, _, h1⟩
    · rw [h1] at e; exact absurd rfl e
    · exact h1
theorem WCell.of1 {id p : Nat} {c : PV} {u : Value} (h : Rep1 w (Ai.imm κ η w) η c u) (hc : ∀ e sz es, c ≠ .fr e sz es) : WCell κ w η id p c u := by
  cases c <;> first | exact h | exact absurd rfl (hc _ _ _)

theorem Sim.takeOut (h : Sim κ η s a w) {id ver e sz i off k e' z : Nat} {es es' : List (List PV)} {el : List PV} {u : Value} {c' : PV} (he : s.H.get id = (ver, .tree e sz es)) (hel : es[i]? = some el) (hc : el[off]? = some (.fr e' z es'))
    (hu : η.val (.n id (i * sz + off)) = some u) (hk : id ≠ k) (hnf : ∀ e z es, c' ≠ .fr e z es)
    (hcell : ∀ (η' : Own) (I : Nat → Prop), η'.val (.o k) = some u → η'.cur k = (s.H.get k).1 + 1 → Rep1 w I η' c' u) :
    ∃ η', Sim κ η' ⟨s.T, (s.H.put id (ver, .wild e sz (es.set i (splice el off [c'])))).put k ((s.H.get k).1 + 1, .row e' z es')⟩ a w ∧ η.le η' ∧ (∀ g, imm κ η w g → imm κ η' w g) ∧ η'.val (.o k) = some u ∧ η'.cur k = (s.H.get k).1 + 1 := by
  have hob := h.heap id
  rw [he] at hob
  obtain ⟨hcur, v0, vals, hval, hown, hrep, hlen⟩ := hob
  have hck : η.cur k = (s.H.get k).1 := (h.heap k).ver
  let η' := η.out id (i * sz + off) k u
  have hle : η.le η' := Own.le_out
  have hI : ∀ g, imm κ η w g → imm κ η' w g ∧ w.heap[g]? = w.heap[g]? := fun g hg => by
    refine ⟨⟨hg.1, hg.2.1, fun kk x hx hxg => ?_⟩, rfl⟩
    rcases Own.out_src hx with ⟨_, rfl⟩ | ⟨_, _, h1⟩
    · exact hg.2.2 _ _ hu hxg
    · exact hg.2.2 _ _ h1 hxg
  have hel0 : el.length = sz := hlen el (List.mem_of_getElem? hel)
  have hi : i < es.length := (List.getElem?_eq_some_iff.1 hel).1
  have hoff : off < el.length := (List.getElem?_eq_some_iff.1 hc).1
  have hpos : i * sz + off < es.flatten.length := by
    rw [flat_length hlen]
    have h1 : (i + 1) * sz ≤ es.length * sz := Nat.mul_le_mul_right _ hi
    rw [Nat.add_mul] at h1; omega
  have hfl : ∀ q, (es.set i (splice el off [c'])).flatten[q]? = if q = i * sz + off then some c' else es.flatten[q]? := fun q => by
    rw [flat_set hlen hel (by simp; omega), getElem?_splice_one hpos]
  obtain ⟨vs, _, hvs, hcs⟩ := tree_elem hlen hel hrep
  obtain ⟨u', hu', hq⟩ := hcs off _ hc
  obtain ⟨q1, vals', q2, q3, q4⟩ := hq
  obtain rfl : u' = u := Option.some.inj (q1.symm.trans hu)
  have hvu := hvs _ _ hu'
  refine ⟨η', h.step hI hle (fun j => ?_) (fun j kk x x' g hx hx' hxg hxg' => ?_) (fun j => ?_) h.kept, hle, fun g hg => (hI g hg).1, Own.out_o, by rw [Own.out_cur, hck]⟩
  · rw [Heap.get_put]
    by_cases ej : j = k
    · rw [if_pos ej, ej]
      exact ⟨by rw [Own.out_cur, hck], u', vals', Own.out_o, q2.up, q3.mono hI, q4⟩
    · rw [if_neg ej, Heap.get_put]
      by_cases ei : j = id
      · rw [if_pos ei, ei]
        refine ⟨by rw [Own.out_cur_ne hk]; exact hcur, v0, vals, by show η'.val _ = _; rw [Own.out_val (kk := .o id) (by simp) hk]; exact hval, by rw [List.length_set]; exact hown, ⟨?_, fun q p y hq hy => ?_⟩, fun x hx => ?_⟩
        · rw [← hrep.1, flat_set hlen hel (by simp; omega), splice_length (by simp only [List.length_cons, List.length_nil]; omega)]
        · rw [hfl] at hq
          split at hq
          · rename_i eq
            obtain rfl := Option.some.inj hq
            subst eq
            obtain rfl : u' = y := Option.some.inj (hvu.symm.trans hy)
            exact WCell.of1 (hcell η' _ Own.out_o (by rw [Own.out_cur, hck])) hnf
          · rename_i eq
            exact (hrep.2 q p y hq hy).wcell.keepR (Own.out_val (by simpa using eq) hk) (fun _ _ _ _ => rfl) hI hle
        · rcases List.mem_or_eq_of_mem_set hx with hx | rfl
          · exact hlen x hx
          · rw [splice_length (by simp; omega)]; exact hel0
      · rw [if_neg ei]
        exact (h.heap j).keep (Own.out_cur_ne ej) (fun kk hkk => Own.out_val (fun e => ei (by rw [← hkk, e]; rfl)) (by rw [hkk]; exact ej)) (fun _ _ _ _ _ _ => rfl) hI hle
  · rcases Own.out_src hx with ⟨a1, a2⟩ | ⟨a1, a2, a3⟩ <;> rcases Own.out_src hx' with ⟨b1, b2⟩ | ⟨b1, b2, b3⟩
    · rw [a1, b1]
    · exact absurd (h.apart _ _ _ _ g b3 hu hxg' (by rw [← a2]; exact hxg)) b1
    · exact absurd (h.apart _ _ _ _ g a3 hu hxg (by rw [← b2]; exact hxg')) a1
    · exact h.apart j kk x x' g a3 b3 hxg hxg'
  · rw [Heap.get_put]
    by_cases ej : j = k
    · rw [if_pos ej, ej]
      exact SubRep.none fun p => Own.out_nk
    · rw [if_neg ej, Heap.get_put]
      by_cases ei : j = id
      · rw [if_pos ei, ei]
        intro p x hx
        rcases Own.out_src hx with ⟨a1, _⟩ | ⟨a1, a2, a3⟩
        · cases a1
        · obtain ⟨es1, f1, f2, f3, g1, g2⟩ := h.sub id p x a3
          rw [he] at g1
          obtain rfl := Option.some.inj g1
          have hp : p ≠ i * sz + off := by simpa using a1
          exact ⟨_, f1, f2, f3, rfl, by rw [hfl, if_neg hp]; exact g2⟩
      · rw [if_neg ei]
        exact (h.sub j).keep fun kk hkk => Own.out_val (fun e => ei (by rw [← hkk, e]; rfl)) (by rw [hkk]; exact ej)

theorem sound_appendB [NoZ κ] (hG : EnvOk P G) (h : Sim κ η s a w) {K : St → Prop} (t : Nat) (x y : Operand) (ho : o.op = .call { callee := .builtin .append, args := #[x, y], argTypes := #[t, t] })
    {id ver sz i off : Nat} (hv : s.ev x = .bsl id ver sz i off) (hK : appendB (std bb P) G t s id ver sz i off (s.ev y) o.dst K) : o.wp P a w (Then κ K) Q' := by
  have hx := h.ev x
  have hy := h.ev y
  rw [hv] at hx
  unfold appendB at hK
  split at hK
  case h_1 => exact hK.elim
  rename_i d hd
  split at hK
  case isTrue => exact hK.elim
  rename_i hne
  split at hK
  case h_2 => exact hK.elim
  rename_i e te hsl
  obtain ⟨hu, hde⟩ := sliceOf_spec hG hsl
  split at hK
  case isTrue => exact hK.elim
  rename_i h0
  split at hK
  case h_2 => exact hK.elim
  rename_i more hmore
  have hsrc := source h hy hmore
  have hI := inner_spec h hK
  clear hK
  obtain ⟨e0, es, el, e', z, es', v0, vals, u, vals', he, hcur, hel, hc, hval, hown, hrep, hlen, huv, hown', hr', hlen', _, hK⟩ := hI
  split at hK
  case isFalse => exact hK.elim
  rename_i ee
  split at hK
  case isFalse => exact hK.elim
  rename_i ez
  subst ee ez
  obtain ⟨hb, hn, hK⟩ := hK
  simp only at hK
  obtain ⟨el2, hel2, hfit, hK⟩ := hK
  obtain rfl : el = el2 := Option.some.inj (hel.symm.trans hel2)
  simp only at hK
  have hxv : a.eval x = u := bsl_val hx hcur.symm huv
  obtain ⟨η1, hs1, hle1, hI1, hv1, hc1⟩ := h.takeOut (k := 8 * d) (c' := .undef) he hel hc huv hne (fun _ _ _ e => by cases e) (fun _ _ _ _ => .undef _)
  obtain ⟨v', w', news, hrun, hnews, hown2, hg, hat⟩ := run_append_src (P := P) (ty := o.type) hu hde h0 hown'.row (Nat.zero_le _) hsrc (by simpa using hb) (by simpa using hn)
  have hh := headOf_ownBlock hown'.row
  have hh' := headOf_ownBlock hown2
  obtain ⟨hs2, _⟩ := hs1.grow (8 * d) ((s.H.get (8 * d)).1 + 1) (.row e' te.size (es' ++ more)) u v' hc1 hv1 (by rw [hh]; exact hg)
    hown'.side.new
    (fun g hgv => by
      rw [hh'] at hgv
      rcases hat with e1 | e1 <;> rw [e1] at hgv
      · rw [hh]; exact .inl hgv
      · obtain rfl := Option.some.inj hgv; exact .inr (Nat.le_refl _))
    (fun η' hle hI hc hv => ⟨hc, v', vals' ++ news, hv, ⟨by simpa using hown2, fun g hgv => by
      rw [hh'] at hgv
      rcases hat with e1 | e1 <;> rw [e1] at hgv
      · exact hown'.side.new g (by rw [hh]; exact hgv)
      · obtain rfl := Option.some.inj hgv; exact .inl h.kept.size, fun _ _ h => by cases h⟩, by
      rw [List.flatten_append]
      exact RepIs.of ((((hr'.weak hI1).mono hI).all2).app (((hnews.weak hI1).mono hI).all2)), fun x hx => by
        rcases List.mem_append.1 hx with hx | hx
        · exact hlen' x hx
        · exact hsrc.len x hx⟩)
  refine done_value (c := v') (w' := w') ?_ (η' := η1.set (8 * d) ((s.H.get (8 * d)).1 + 1 + 1) (some v')) ?_ hK
  · rw [execOp_builtin ho]
    simp [builtin, hxv, hrun]
  · rw [hd]
    refine hs2.put (some d) (.of1 (.osl _ _ _ (Nat.le_of_eq Own.set_cur.symm) fun _ x hx => ?_))
    rw [Own.set_o] at hx
    exact Option.some.inj hx

/-- A new tree whose rows have no elements. -/
theorem nest_nils {I : Nat → Prop} {B : Ctx} {e' sz' : Nat} : ∀ {n : Nat} {vs : List Value}, RepIs w I (List.replicate n [PV.nil]).flatten vs → NestL w I B (List.replicate n [PV.fr e' sz' []]).flatten vs []
  | 0, vs, h => by
    cases h; exact .nil
  | n + 1, vs, h => by
    rw [List.replicate_succ, List.flatten_cons] at h
    cases h with
    | cons h1 h2 =>
      cases h1
      rw [List.replicate_succ, List.flatten_cons]
      exact .fr (vals := []) ⟨World.ownsRow_nil w 0 e' sz', (fun g hg => by cases hg), (fun _ _ h => by cases h)⟩ .nil (fun x hx => by cases hx) (nest_nils h2)
theorem sound_makeT [NoZ κ] (hG : EnvOk P G) (h : Sim κ η s a w) {K : St → Prop} (t : Nat) (x y : Operand) (ho : o.op = .makeSlice t x y) (hK : makeT (std bb P) G t s (s.ev x) (s.ev y) o.dst K) : o.wp P a w (Then κ K) Q' := by
  have hx := h.ev x
  have hy := h.ev y
  unfold makeT at hK
  split at hK
  case h_2 => exact hK.elim
  rename_i d hd
  split at hK
  case h_2 => exact hK.elim
  rename_i e te hsl
  obtain ⟨hu, hde⟩ := sliceOf_spec hG hsl
  split at hK
  case h_2 => exact hK.elim
  rename_i e' hdsc hzero
  split at hK
  case h_2 => exact hK.elim
  rename_i t' ht'
  split at hK
  case h_2 => exact hK.elim
  rename_i kl l kc c hl hc
  obtain ⟨hl0, hlc, hb, hcb, hK⟩ := hK
  simp only at hK
  rw [hl] at hx
  rw [hc] at hy
  obtain ⟨i, z, hi, hz, hzr, hsz, hby, hzs, hrun⟩ := run_zeroValue hde
  have hzl : te.zero.length = te.size := by
    have := (hzr w (imm κ η w)).all2.length
    rw [this]
    simpa using hzs
  have hsz1 : te.size = 1 := by rw [← hzl, hzero]; rfl
  unfold sizeBound at hcb
  have hc0 : c = (c.toNat : Int) := by omega
  have hr := run_make (P := P) w t e i z hu hi hz kl kc l c hl0 hlc (by
    rw [hby, hc0]
    have : ((te.bytes * c.toNat : Nat) : Int) ≤ 281474976710656 := by omega
    rwa [Int.natCast_mul] at this) (by omega)
  have hm : l.toNat * te.size ≤ c.toNat * te.size := Nat.mul_le_mul_right _ (by omega)
  have hrep := rep_made (hzr w (imm (κ.res []) η w)).all2 (by omega) l.toNat (c.toNat * i.size) (by rw [hzl, hsz]; exact hm)
  rw [hzl, hzero] at hrep
  have hn := nest_nils (B := κ) (e' := e') (sz' := t'.size) (RepIs.of hrep)
  have h00 : Sim (κ.res []) η s a w := h.res0
  obtain ⟨η', hs⟩ := h00.plant (w' := w.alloc (.cells (madeCells z.cells (c.toNat * i.size)) e)) (fun g hg => by cases hg) (fun k hk _ => heap_alloc_old w _ hk) (by simp)
    (h.kept.step rfl rfl rfl (by simp) fun k hk _ => heap_alloc_old w _ (Nat.lt_of_lt_of_le hk h.kept.size)) d e te.size (List.replicate l.toNat [.fr e' t'.size []]) (.slice (some ⟨w.heap.size, 0, none⟩) l.toNat c.toNat)
    ((madeCells z.cells (c.toNat * i.size)).toList.take (l.toNat * te.size)) [] hn .nil (fun g hg => by cases hg) (fun g hg => by cases hg)
    ⟨by simp only [List.length_take, Array.length_toList, size_madeCells, List.length_replicate, hsz]; exact Nat.min_eq_left hm, .inr ⟨w.heap.size, c.toNat, _, by simp, Nat.zero_le _, heap_alloc_new w _, by simp; omega, by simp only [maxLen]; omega, by simp [size_madeCells, hsz], by simp⟩⟩
    (fun g hg => by obtain rfl := Option.some.inj hg; exact .inl h.kept.size)
    (fun g hg => by
      obtain rfl := Option.some.inj hg
      exact ⟨.inl (Nat.le_refl _), fun hm => by cases hm⟩) (fun x hx => by rw [List.eq_of_mem_replicate hx, hsz1]; rfl)
  refine done_value (c := .slice (some ⟨w.heap.size, 0, none⟩) l.toNat c.toNat) (w' := w.alloc (.cells (madeCells z.cells (c.toNat * i.size)) e)) ?_ (by rw [hd]; exact hs) hK
  simp only [execOp, ho, hx.int.1, hy.int.1, Sem.run_bind, hr, Result.andThen_ok, Sem.run_pure]

/-- Some cells of a tree hold no rows of their own any more. -/
def Own.cut (η : Own) (id lo n : Nat) : Own := ⟨η.cur, fun k => match k with | .n i p => if i = id ∧ lo ≤ p ∧ p < lo + n then none else η.val (.n i p) | .o i => η.val (.o i)⟩
theorem Own.cut_o {η : Own} {id lo n i : Nat} : (η.cut id lo n).val (.o i) = η.val (.o i) := rfl
theorem Own.cut_src {η : Own} {id lo n : Nat} {k : Key} {x : Value} (h : (η.cut id lo n).val k = some x) : η.val k = some x ∧ ∀ p, k = .n id p → ¬ (lo ≤ p ∧ p < lo + n) := by
  cases k with
  | o i => exact ⟨h, fun p e => by cases e⟩
  | n i p =>
    have h' : (if i = id ∧ lo ≤ p ∧ p < lo + n then none else η.val (.n i p)) = some x := h
    split at h'
    · cases h'
    · rename_i hn
      refine ⟨h', fun q e hq => hn ?_⟩
      simp only [Key.n.injEq] at e
      obtain ⟨rfl, rfl⟩ := e
      exact ⟨rfl, hq⟩
theorem Own.cut_ne {η : Own} {id lo n : Nat} {k : Key} (h : ∀ p, k = .n id p → ¬ (lo ≤ p ∧ p < lo + n)) : (η.cut id lo n).val k = η.val k := by
  cases k with
  | o i => rfl
  | n i p =>
    show (if i = id ∧ lo ≤ p ∧ p < lo + n then none else η.val (.n i p)) = _
    rw [if_neg]
    rintro ⟨rfl, hq⟩
    exact h p rfl hq
theorem Own.le_cut {η : Own} {id lo n : Nat} : η.le (η.cut id lo n) := fun k => ⟨Nat.le_refl _, fun _ x hx => (Own.cut_src hx).1⟩
theorem sound_storeW [NoZ κ] (hG : EnvOk P G) (h : Sim κ η s a w) {K : St → Prop} (t : Nat) (x y : Operand) (ho : o.op = .store t x y) {id ver sz i off : Nat} (hv : s.ev x = .optr id ver sz i off)
    (hK : storeW (std bb P) G t s id ver sz i off (s.ev y) fun s' => K (s'.put o.dst .skip)) : o.wp P a w (Then κ K) Q' := by
  have hx := h.ev x
  have hy := h.ev y
  rw [hv] at hx
  unfold storeW at hK
  split at hK
  case h_2 => exact hK.elim
  rename_i ti hg
  have hd := hG t ti hg
  split at hK
  case isFalse => exact hK.elim
  rename_i hsz
  split at hK
  case isFalse => exact hK.elim
  rename_i hlive
  split at hK
  case h_2 => exact hK.elim
  rename_i v' e sz' es he
  split at hK
  case isFalse => exact hK.elim
  rename_i ev
  split at hK
  case isFalse => exact hK.elim
  rename_i esz
  subst ev esz
  obtain ⟨el, hel, hfit, hK⟩ := hK
  simp only at hK
  have hob := h.heap id
  rw [he] at hob
  obtain ⟨hcur, v0, vals, hval, hown, hrep, hlen⟩ := hob
  obtain ⟨g, hg', hpt⟩ := optr_val hx hcur.symm hval
  obtain ⟨hcr, hone⟩ := cells_rep h hy hlive
  have hlen1 : (a.eval y).cells.size = ti.size := by rw [← hsz, hcr.length]; simp
  have hul : (a.eval y).cells.toList.length = ti.size := by simpa using hlen1
  have hi : i < es.length := (List.getElem?_eq_some_iff.1 hel).1
  have hel0 : el.length = sz := hlen el (List.mem_of_getElem? hel)
  have hpos : i * sz + off + (a.eval y).cells.toList.length ≤ es.length * sz := by
    have h1 : (i + 1) * sz ≤ es.length * sz := Nat.mul_le_mul_right _ hi
    rw [Nat.add_mul] at h1
    omega
  obtain ⟨cap, cur, rfl, hB, hh, hcl, hown2⟩ := owns_write (cs := (a.eval y).cells.toList) (pos := i * sz + off) hown.row hg' hpos
  have hrun := run_storeVar (P := P) (w := w) (off := i * sz + off) hd hh hlen1 (by omega) hone
  have hflat := flat_set hlen hel hfit
  have hfle : es.flatten.length = es.length * sz := flat_length hlen
  let η' := η.cut id (i * sz + off) (s.ev y).cells.length
  have hle : η.le η' := Own.le_cut
  have hwo : ∀ k, k ≠ g → (w.setRow g (cur.toList.take (i * sz + off) ++ (a.eval y).cells.toList ++ cur.toList.drop (i * sz + off + (a.eval y).cells.toList.length)).toArray).heap[k]? = w.heap[k]? := fun k hk => setRow_other w g k _ hk
  have hI : ∀ k, imm κ η w k → imm κ η' (w.setRow g (cur.toList.take (i * sz + off) ++ (a.eval y).cells.toList ++ cur.toList.drop (i * sz + off + (a.eval y).cells.toList.length)).toArray) k ∧ (w.setRow g (cur.toList.take (i * sz + off) ++ (a.eval y).cells.toList ++ cur.toList.drop (i * sz + off + (a.eval y).cells.toList.length)).toArray).heap[k]? = w.heap[k]? := fun k hk => by
    have hwg := hwo k fun e => hk.2.2 (.o id) _ hval (by rw [e]; rfl)
    exact ⟨⟨by have := hk.1; simpa [World.setRow] using this, side_keep hwg hk.2.1, fun kk x hx => hk.2.2 kk x (Own.cut_src hx).1⟩, hwg⟩
  have hne : ∀ (k : Key) x q, η.val k = some x → headOf x = some q → k ≠ .o id → q ≠ g := fun k x q hk hq hkn e1 => hkn (h.apart k _ x _ q hk hval hq (by rw [e1]; rfl))
  have hs : Sim κ η' ⟨s.T, s.H.put id (v', .wild e sz (es.set i (splice el off (s.ev y).cells)))⟩ a (w.setRow g (cur.toList.take (i * sz + off) ++ (a.eval y).cells.toList ++ cur.toList.drop (i * sz + off + (a.eval y).cells.toList.length)).toArray) := by
    refine h.step hI hle (fun j => ?_) (fun j k x x' q hx hx' => h.apart j k x x' q (Own.cut_src hx).1 (Own.cut_src hx').1) (fun j => ?_) (setRow_kept h.kept (hown.side.new g rfl) _)
    · rw [Heap.get_put]
      by_cases ej : j = id
      · rw [if_pos ej, ej]
        refine ⟨hcur, _, _, hval, by rw [List.length_set]; exact ⟨hown2, hown.side⟩, ⟨?_, fun q p y' hq hy' => ?_⟩, fun x hx => ?_⟩
        · rw [hflat, splice_length (by omega), hrep.1]
          have hvl : vals.length = es.length * sz := by rw [← hrep.1, hfle]
          simp only [List.length_append, List.length_take, List.length_drop, hul]
          omega
        · rw [hflat] at hq
          have hcl3 : (s.ev y).cells.length = (a.eval y).cells.toList.length := hcr.length
          have hvl : vals.length = es.length * sz := by rw [← hrep.1, hfle]
          unfold splice at hq
          rw [hcl3] at hq
          have l1 : (es.flatten.take (i * sz + off)).length = i * sz + off := by rw [List.length_take]; omega
          have l2 : (vals.take (i * sz + off)).length = i * sz + off := by rw [List.length_take]; omega
          rw [List.append_assoc, List.getElem?_append, l1] at hq
          rw [List.append_assoc, List.getElem?_append, l2] at hy'
          by_cases q1 : q < i * sz + off
          · rw [if_pos q1, List.getElem?_take, if_pos q1] at hq hy'
            exact (hrep.2 q p y' hq hy').keepR (Own.cut_ne fun p e => by simp only [Key.n.injEq, true_and] at e; omega) (fun x2 q2 h1 h2 => hwo q2 (hne _ x2 q2 h1 h2 (by simp))) hI hle
          · rw [if_neg q1, List.getElem?_append] at hq hy'
            rw [hcl3] at hq
            by_cases q2 : q - (i * sz + off) < (a.eval y).cells.toList.length
            · rw [if_pos q2] at hq hy'
              obtain ⟨b2, hb2, hr1⟩ := hcr.get hq
              obtain rfl := Option.some.inj (hb2.symm.trans hy')
              refine WCell.of1 (hr1.mono hI hle) fun e1 z1 rs1 e' => ?_
              subst e'
              have := List.all_eq_true.1 hlive _ (List.mem_of_getElem? hq)
              cases this
            · rw [if_neg q2, List.getElem?_drop] at hq hy'
              have e3 : i * sz + off + (a.eval y).cells.toList.length + (q - (i * sz + off) - (a.eval y).cells.toList.length) = q := by omega
              rw [e3] at hq hy'
              exact (hrep.2 q p y' hq hy').keepR (Own.cut_ne fun p e => by simp only [Key.n.injEq, true_and] at e; omega) (fun x2 q2 h1 h2 => hwo q2 (hne _ x2 q2 h1 h2 (by simp))) hI hle
        · rcases List.mem_or_eq_of_mem_set hx with hx | rfl
          · exact hlen x hx
          · rw [splice_length hfit]; exact hel0
      · rw [if_neg ej]
        exact (h.heap j).keep rfl (fun k hkk => Own.cut_ne fun p e => absurd (by rw [← hkk, e]; rfl) ej) (fun k x q hkk hx hq => hwo q (hne k x q hx hq fun e => ej (by rw [← hkk, e]; rfl))) hI hle
    · rw [Heap.get_put]
      by_cases ej : j = id
      · rw [if_pos ej, ej]
        intro p x hx
        obtain ⟨hx1, hx2⟩ := Own.cut_src hx
        obtain ⟨es1, f1, f2, f3, g1, g2⟩ := h.sub id p x hx1
        rw [he] at g1
        obtain rfl := Option.some.inj g1
        have hp := hx2 p rfl
        refine ⟨_, f1, f2, f3, rfl, ?_⟩
        rw [hflat]
        unfold splice
        have l1 : (es.flatten.take (i * sz + off)).length = i * sz + off := by rw [List.length_take]; omega
        rw [List.append_assoc, List.getElem?_append, l1]
        by_cases q1 : p < i * sz + off
        · rw [if_pos q1, List.getElem?_take, if_pos q1]; exact g2
        · rw [if_neg q1, List.getElem?_append, if_neg (by omega), List.getElem?_drop]
          rw [show i * sz + off + (s.ev y).cells.length + (p - (i * sz + off) - (s.ev y).cells.length) = p by omega]
          exact g2
      · rw [if_neg ej]
        exact (h.sub j).keep fun k hkk => Own.cut_ne fun p e => absurd (by rw [← hkk, e]; rfl) ej
  refine done_skip ?_ hs hK
  simp [execOp, ho, Instr.storeAt, hpt, Instr.sureAddr, hrun]

theorem sound_storeT [NoZ κ] (hG : EnvOk P G) (h : Sim κ η s a w) {K : St → Prop} (t : Nat) (x y : Operand) (ho : o.op = .store t x y) (hK : opStoreT (std bb P) G t s (s.ev x) (s.ev y) fun s' => K (s'.put o.dst .skip)) : o.wp P a w (Then κ K) Q' := by
  unfold opStoreT at hK
  split at hK
  · rename_i hv; exact sound_storeB hG h t x y ho hv hK
  · rename_i hv
    split at hK
    · exact sound_storeW hG h t x y ho hv hK
    · rw [← hv] at hK; exact sound_store hG h t x y ho hK
  · exact sound_store hG h t x y ho hK
theorem sound_storeU [NoZ κ] (hG : EnvOk P G) (h : Sim κ η s a w) {K : St → Prop} (t : Nat) (x y : Operand) (ho : o.op = .store t x y) (hK : opStoreU (std bb P) G t s (s.ev x) (s.ev y) fun s' => K (s'.put o.dst .skip)) : o.wp P a w (Then κ K) Q' := by
  unfold opStoreU at hK
  split at hK
  · rename_i hv
    split at hK
    · exact sound_storeN hG h t x y ho hv hK
    · exact sound_storeN hG h t x y ho hv hK
    · rw [← hv] at hK; exact sound_storeT hG h t x y ho hK
  · exact sound_storeT hG h t x y ho hK

/-! ### Parts of own rows -/
theorem sound_cutV [NoZ κ] (hG : EnvOk P G) (h : Sim κ η s a w) {K : St → Prop} (t : Nat) (x : Operand) (lo hi : Option Operand) (ho : o.op = .slice t x lo hi none) {id ver : Nat} (hv : s.ev x = .osl id ver)
    (hK : cutV (std bb P) G t s id ver (optInt s lo) (optInt s hi) fun v => K (s.put o.dst v)) : o.wp P a w (Then κ K) Q' := by
  have hx := h.ev x
  rw [hv] at hx
  unfold cutV at hK
  split at hK
  · exact hK.elim
  rename_i l hl
  split at hK
  · exact hK.elim
  rename_i r hr
  split at hK
  · exact hK.elim
  rename_i e te hsl
  obtain ⟨hu, hd⟩ := sliceOf_spec hG hsl
  split at hK
  case h_2 => exact hK.elim
  rename_i v0 e0 sz es he
  split at hK
  case isFalse => exact hK.elim
  rename_i ev
  subst ev
  split at hK
  case isFalse => exact hK.elim
  rename_i hsz
  subst hsz
  obtain ⟨hval, hcur⟩ := own_value h he hx
  have hob := h.heap id
  rw [he] at hob
  obtain ⟨_, v, vals, hval', ⟨hown, hside⟩, hrr, hlen⟩ := hob
  rw [hval] at hval'
  obtain rfl := Option.some.inj hval'
  obtain ⟨h0, h1, h2, hK⟩ := hK
  have hform : ∃ A cap, a.eval x = .slice A es.length cap ∧ es.length ≤ cap := by
    rcases hown.2 with ⟨e1, e2⟩ | ⟨g, cap, cur, e1, hB, hh, hcap, hm, hcs, htake⟩
    · exact ⟨none, 0, by rw [e1, e2], by omega⟩
    · exact ⟨_, cap, e1, hcap⟩
  obtain ⟨A, cap, hc, hcap⟩ := hform
  have hrun := run_cut (P := P) h hu hd hl hr A es.length cap h0 h1 h2 hcap
  have hex : (execOp a.eval o).run P w = .ok (.value (sliced A (l.getD 0).toNat (r.getD es.length).toNat cap te.size)) w := by
    rw [← hc] at hrun
    simp only [execOp, ho, Option.map_none, Sem.run_bind, hrun, Result.andThen_ok, Sem.run_pure]
  refine done_put h hex (.of1 (.vsl _ _ _ _ _ _ (Nat.le_of_eq hcur.symm) fun _ y hy => ?_)) hK
  rw [hval] at hy
  obtain rfl := Option.some.inj hy
  exact ⟨A, es.length, cap, hc, by omega, h2, rfl⟩
theorem owns_take {B e sz n : Nat} {A : Option Addr} {cap : Nat} {vals : List Value} (h : w.ownsRow B e sz (.slice A n cap) n vals) (hi : Nat) (h2 : hi ≤ n) : w.ownsRow B e sz (.slice A hi cap) hi (vals.take (hi * sz)) := by
  have hmul : hi * sz ≤ n * sz := Nat.mul_le_mul_right _ h2
  refine ⟨by rw [List.length_take, h.1]; omega, ?_⟩
  rcases h.2 with ⟨e1, e2⟩ | ⟨g, cap', cur, e1, hB, hh, hcap', hm, hcs, htake⟩
  · injection e1 with e3 e4 e5
    subst e3 e5
    refine .inl ⟨?_, by omega⟩
    congr 1
    omega
  · injection e1 with e3 e4 e5
    subst e3 e5
    refine .inr ⟨g, cap, cur, rfl, hB, hh, by omega, hm, hcs, ?_⟩
    rw [← htake, List.take_take, Nat.min_eq_left hmul]
theorem vsl_val {id ver sz lo hi : Nat} {c x : Value} {I : Nat → Prop} (h : Rep w I η (.vsl id ver sz lo hi) c) (hv : ver = η.cur id) (hx : η.val id = some x) : ∃ A n cap, x = .slice A n cap ∧ lo ≤ hi ∧ hi ≤ n ∧ c = sliced A lo hi cap sz := by
  have h1 := h.inv1 (fun _ e => by cases e) (fun _ e => by cases e)
  cases h1 with
  | imm h => cases h
  | vsl _ _ _ _ _ _ _ hp => exact hp hv x hx
theorem sound_joinV [NoZ κ] (hG : EnvOk P G) (h : Sim κ η s a w) {K : St → Prop} (t : Nat) (x y : Operand) (ho : o.op = .call { callee := .builtin .append, args := #[x, y], argTypes := #[t, t] })
    {id ver z lo hi lo2 hi2 : Nat} (hvx : s.ev x = .vsl id ver z lo hi) (hvy : s.ev y = .vsl id ver z lo2 hi2) (hK : joinV (std bb P) G t s id ver z lo hi lo2 hi2 o.dst K) : o.wp P a w (Then κ K) Q' := by
  have hx := h.ev x
  have hy := h.ev y
  rw [hvx] at hx
  rw [hvy] at hy
  unfold joinV at hK
  split at hK
  · exact hK.elim
  rename_i d hd
  split at hK
  · exact hK.elim
  rename_i e te hsl
  obtain ⟨hu, hde⟩ := sliceOf_spec hG hsl
  split at hK
  case isTrue => exact hK.elim
  rename_i h0
  split at hK
  case isFalse => exact hK.elim
  rename_i hlo
  subst hlo
  split at hK
  case isFalse => exact hK.elim
  rename_i hz0
  subst hz0
  split at hK
  case h_2 => exact hK.elim
  rename_i v0 e0 z' es he
  split at hK
  case isFalse => exact hK.elim
  rename_i ev
  split at hK
  case isFalse => exact hK.elim
  rename_i ee
  split at hK
  case isFalse => exact hK.elim
  rename_i ez
  subst ev ee ez
  obtain ⟨hb, hn, hK⟩ := hK
  simp only at hK
  have hob := h.heap id
  rw [he] at hob
  obtain ⟨hcur, v, vals, hval, ⟨hown, hside⟩, hr, hlen⟩ := hob
  obtain ⟨A, n, cap, rfl, -, hh1, hxv⟩ := vsl_val hx hcur.symm hval
  obtain ⟨A', n', cap', e', hl2, hh2, hyv⟩ := vsl_val hy hcur.symm hval
  injection e' with q1 q2 q3
  subst q1 q2 q3
  have hnn : n = es.length := by
    rcases hown.2 with ⟨e1, e2⟩ | ⟨g, cap0, cur, e1, _⟩
    · injection e1 with _ e3 _
      omega
    · injection e1 with _ e3 _
  subst hnn
  have hsx : a.eval x = .slice A hi cap := by
    rw [hxv]
    unfold sliced
    rw [Nat.zero_mul]
    split
    · simp
    · cases A <;> simp [Addr.add]
  have htl : (es.take hi).length = hi := by rw [List.length_take]; omega
  have hlen2 : ((es.take hi2).drop lo2).length = hi2 - lo2 := by simp; omega
  have hsrc : Source w (imm κ η w) te.size ((es.take hi2).drop lo2) (a.eval y) := by
    have hfl : ((es.take hi2).drop lo2).flatten = (es.flatten.take (hi2 * te.size)).drop (lo2 * te.size) := by
      rw [flat_take hi2 hlen, flat_drop lo2 fun x hx => hlen x (List.mem_of_mem_take hx)]
    refine ⟨fun x hx => hlen x (List.mem_of_mem_take (List.mem_of_mem_drop hx)), _, _, (vals.take (hi2 * te.size)).drop (lo2 * te.size), by rw [hyv, hlen2]; rfl, by rw [hfl]; exact RepIs.of ((hr.all2.take _).drop _), ?_⟩
    by_cases h00 : hi2 - lo2 = 0
    · exact .inl (List.eq_nil_of_length_eq_zero (hlen2.trans h00))
    · have hc := fun g => own_cell (g := g) hown
      rcases hown.2 with ⟨e1, e2⟩ | ⟨g, cap0, cur, e1, hB, hh, hcap, hm, hcs, htake⟩
      · omega
      · injection e1 with e3 e4 e5
        subst e3 e5
        refine .inr ⟨_, if_neg (by omega), fun j u hj => ?_⟩
        rw [List.getElem?_drop, List.getElem?_take] at hj
        split at hj
        · simp only [Addr.add_lit, Nat.zero_add]
          exact hc g rfl _ u hj
        · cases hj
  have hownx := owns_take hown hi hh1
  rw [htl] at hb hn
  obtain ⟨v', w', news, hrun, hnews, hown', hg, hat⟩ := run_append_src (ty := o.type) hu hde h0 hownx (Nat.zero_le _) hsrc (by simpa using hb) (by simpa using hn)
  have hrunop : (execOp a.eval o).run P w = .ok (.value v') w' := by
    rw [execOp_builtin ho]
    rw [← hsx] at hrun
    simp [builtin, hrun]
  have hh := headOf_ownBlock hownx
  have hh' := headOf_ownBlock hown'
  have hv0 : headOf (.slice A es.length cap) = (Value.slice A hi cap).ownBlock := by rw [← hh]; cases A <;> rfl
  obtain ⟨hs1, hI⟩ := h.grow id v0 (.row e0 te.size (es.take hi ++ (es.take hi2).drop lo2)) (.slice A es.length cap) v' hcur hval (by rw [hv0]; exact hg)
    hside.new
    (fun g hgv => by
      rw [hh'] at hgv
      rcases hat with e1 | e1 <;> rw [e1] at hgv
      · rw [hv0]; exact .inl hgv
      · obtain rfl := Option.some.inj hgv; exact .inr (Nat.le_refl _))
    (fun η' hle hI hc hv => ⟨hc, v', vals.take (hi * te.size) ++ news, hv, ⟨by rw [List.length_append, htl]; exact hown', ⟨fun g hgv => by
        rw [hh'] at hgv
        rcases hat with e1 | e1 <;> rw [e1] at hgv
        · exact hside.new g (by rw [hv0]; exact hgv)
        · obtain rfl := Option.some.inj hgv; exact .inl h.kept.size, fun _ _ h => by cases h⟩⟩, by
      rw [List.flatten_append, ← flat_take hi hlen]
      exact RepIs.of ((((hr.mono hI).all2).take _).app ((hnews.mono hI).all2)), fun x hx => by
        rcases List.mem_append.1 hx with hx | hx
        · exact hlen x (List.mem_of_mem_take hx)
        · exact hsrc.len x hx⟩)
  obtain ⟨η2, hs2, hle2, hI2, hv2, hc2⟩ := hs1.rename id (8 * d) (v0 + 1) e0 te.size (es.take hi ++ (es.take hi2).drop lo2) (by simp [Heap.get_put]) (v := v') Own.set_o
  refine done_value (c := v') hrunop (s' := bind ⟨s.T, s.H.put id (v0 + 1, .dead)⟩ (some d) (.fr e0 te.size (es.take hi ++ (es.take hi2).drop lo2))) (η' := η2) ?_ hK
  rw [put_dead] at hs2 hc2
  rw [hd]
  refine hs2.put (some d) (.of1 (.osl _ _ _ ?_ ?_))
  · rw [hc2]; exact Nat.le_refl _
  · intro _ x hx
    rw [hv2] at hx
    exact Option.some.inj hx

theorem opT_sound [NoZ κ] (hG : EnvOk P G) (hF : FieldsOk P G) (h : Sim κ η s a w) {K : St → Prop} (hK : opT (std bb P) G o s K) : o.wp P a w (Then κ K) Q' := by
  have hop : op (std bb P) G o s K → o.wp P a w (Then κ K) Q' := fun hK => op_sound hG hF h hK
  unfold opT at hK
  split at hK
  · rename_i t x ho
    unfold opLoadT at hK
    split at hK
    · rename_i id ver sz i off hv
      split at hK
      · exact sound_loadT hG h t x ho hv hK
      · exact sound_loadT hG h t x ho hv hK
      · exact sound_load hG h t x ho hK
    · rename_i id ver sz i off nsz j p hv
      exact sound_loadB hG h t x ho hv hK
    · exact sound_load hG h t x ho hK
  · rename_i t x y ho
    exact sound_storeU hG h t x y ho hK
  · rename_i t x i ho
    unfold opIndexT at hK
    split at hK
    · rename_i id ver hv
      split at hK
      · exact sound_indexT hG h t x i ho hv hK
      · exact sound_indexT hG h t x i ho hv hK
      · exact sound_indexAddr hG h t x i ho hK
    · rename_i hv; exact sound_indexB hG h t x i ho hv hK
    · exact sound_indexAddr hG h t x i ho hK
  · rename_i t x ho; exact sound_range hG h t x ho hK
  · rename_i t x lo hi ho
    split at hK
    · rename_i id ver hv
      split at hK
      · split at hK
        · exact sound_cutV hG h t x lo hi ho hv hK
        · exact hop hK
      · exact hop hK
    · exact hop hK
  · rename_i f first captured ho
    split at hK
    case isFalse => exact hK.elim
    rename_i hf
    split at hK
    case h_2 => exact hK.elim
    rename_i cs s' hc
    obtain rfl := Array.eq_empty_of_size_eq_zero hf
    exact sound_makeFuncT h f captured ho hc hK
  · rename_i x ho; exact sound_next h x ho hK
  · rename_i ho
    split at hK
    case h_2 => exact hK.elim
    rename_i d hd
    exact sound_makeMap h _ ho hd hK
  · rename_i t x k v ho; exact sound_mput h t x k v (.inl ho) hK
  · rename_i t x k v ho; exact sound_mput h t x k v (.inr ho) hK
  · rename_i t x k ho; exact sound_mget h t x k ho hK
  · rename_i t n parts ho
    split at hK
    · split at hK
      · exact sound_buildT hG h t n parts ho hK
      · exact hop hK
    · exact hop hK
  · rename_i t l c ho
    split at hK
    · split at hK
      · exact sound_makeT hG h t l c ho hK
      · exact hop hK
    · exact hop hK
  · rename_i c ho
    obtain ⟨callee, args, argTypes⟩ := c
    have list1 : ∀ {x : PV}, evs s args.toList = [x] → ∃ y, args = #[y] ∧ s.ev y = x := fun {x} hx => by
      obtain ⟨l⟩ := args
      match l, hx with
      | [y], hx => exact ⟨y, rfl, by simpa [evs] using hx⟩
    have list2 : ∀ {x x' : PV}, evs s args.toList = [x, x'] → ∃ y y', args = #[y, y'] ∧ s.ev y = x ∧ s.ev y' = x' := fun {x x'} hx => by
      obtain ⟨l⟩ := args
      match l, hx with
      | [y, y'], hx => exact ⟨y, y', rfl, by simpa [evs] using hx⟩
    have tlist1 : ∀ {t : Nat}, argTypes.toList = [t] → argTypes = #[t] := fun {t} ht => by
      obtain ⟨l⟩ := argTypes
      simpa using ht
    have tlist2 : ∀ {t t' : Nat}, argTypes.toList = [t, t'] → argTypes = #[t, t'] := fun {t t'} ht => by
      obtain ⟨l⟩ := argTypes
      simpa using ht
    split at hK
    · rename_i hc
      simp only at hc
      subst hc
      split at hK
      · rename_i x t hx ht
        obtain ⟨y, rfl, rfl⟩ := list1 hx
        obtain rfl := tlist1 ht
        exact sound_lenT hG h t y ho hK
      · exact hop hK
    · rename_i hc
      simp only at hc
      subst hc
      split at hK
      · rename_i id ver z lo hi id2 ver2 z2 lo2 hi2 t t' hx ht
        obtain ⟨y1, y2, rfl, e1, e2⟩ := list2 hx
        obtain rfl := tlist2 ht
        split at hK
        case isFalse => exact hK.elim
        rename_i et
        split at hK
        case isFalse => exact hK.elim
        rename_i ei
        split at hK
        case isFalse => exact hK.elim
        rename_i ev
        split at hK
        case isFalse => exact hK.elim
        rename_i ez
        subst et ei ev ez
        exact sound_joinV hG h t _ _ ho e1 e2 hK
      · rename_i x id2 ver2 t t' hx ht
        obtain ⟨y1, y2, rfl, rfl, e2⟩ := list2 hx
        obtain rfl := tlist2 ht
        split at hK
        · rename_i v2 e2' z2 more he2
          split at hK
          case isFalse => exact hK.elim
          rename_i et
          split at hK
          case isFalse => exact hK.elim
          rename_i ev
          subst et ev
          exact sound_appendT hG h t _ _ ho (by assumption) he2 hK
        · split at hK
          · split at hK
            case isFalse => exact hK.elim
            rename_i et
            subst et
            rename_i e1 _ _
            exact sound_appendB hG h t _ _ ho (by assumption) (by rw [e2]; exact hK)
          · exact hop hK
      · rename_i id ver sz i off y t t' _ hx ht
        obtain ⟨y1, y2, rfl, e1, rfl⟩ := list2 hx
        obtain rfl := tlist2 ht
        split at hK
        case isFalse => exact hK.elim
        rename_i et
        subst et
        exact sound_appendB hG h t _ _ ho e1 hK
      · exact hop hK
    · exact hop hK
  · exact hop hK

/-! ### Trees that are handed back are only read from then on -/
theorem Sim.cool [NoZ κ] (h : Sim κ η s a w) {id ver e sz : Nat} {es : List (List PV)} (he : s.H.get id = (ver, .tree e sz es)) :
    ∃ η' v, Sim κ η' ⟨s.T, s.H.put id (ver, .dead)⟩ a w ∧ η.le η' ∧ (∀ g, imm κ η w g → imm κ η' w g) ∧ η.cur id = ver ∧ η.val id = some v ∧ RepI w (imm κ η' w) (.isl sz (coolL es)) v := by
  rw [coolL_eq]
  have hob := h.heap id
  rw [he] at hob
  obtain ⟨hcur, v, vals, hval, hown, hrep, hlen⟩ := hob
  subst hcur
  have hk := h.kill id _ he
  have hI : ∀ g, imm κ η w g → imm κ (η.set id (η.cur id) none) w g := fun g hg => imm_kill hg
  have hS : ∀ (k : Key) u g, k.id = id → η.val k = some u → headOf u = some g → (κ.B ≤ g ∨ κ.M g) ∧ plain w g → imm κ (η.set id (η.cur id) none) w g := fun k u g hki hu hg hB => by
    refine ⟨(h.head hu hg).1, ⟨.inr hB, NoZ.out g⟩, fun j x hx hxg => ?_⟩
    rcases Own.set_val hx with ⟨_, hx⟩ | ⟨hj, hx⟩
    · cases hx
    · exact hj (by rw [h.apart j k x u g hx hu hxg hg, hki])
  refine ⟨_, v, hk, η.le_kill id, hI, rfl, hval, owns_isl (by rw [List.length_map]; exact hown.row) ?_ (fun x hx => ?_) fun g hg => hS (.o id) v g rfl hval hg ⟨(owns_head hown hg).2, owns_plain hown.row hg⟩⟩
  · rw [← List.map_flatten]
    refine cells_cool hI (fun p u g hu hg => hS (.n id p) u g rfl hu hg ?_) 0 es.flatten vals hrep.1 fun p c u hp hu => by rw [Nat.zero_add]; exact hrep.2 p c u hp hu
    obtain ⟨_, e', z', es', hb, hp⟩ := h.sub id p u hu
    rw [he] at hb
    obtain rfl := Option.some.inj hb
    have hlt := (List.getElem?_eq_some_iff.1 hp).1
    obtain ⟨u', hu'⟩ : ∃ u', vals[p]? = some u' := ⟨_, List.getElem?_eq_getElem (by rw [← hrep.1]; exact hlt)⟩
    obtain ⟨b1, _, b2, _⟩ := hrep.2 p _ u' hp hu'
    obtain rfl := Option.some.inj (b1.symm.trans hu)
    exact ⟨(owns_head b2 hg).2, owns_plain b2.row hg⟩
  · obtain ⟨x', hx', rfl⟩ := List.mem_map.1 hx
    rw [List.length_map]
    exact hlen x' hx'

end
end Go.Proofs.Ytngefbdedbbplaa.Ai
