/- Soundness: memory: boxes, rows, loads, stores, addresses. -/
import Derived.Test.YtngefbdedbbplaaAiOps
set_option linter.unusedSectionVars false
namespace Go.Proofs.Ytngefbdedbbplaa.Ai
open Go Go.RowKit
set_option linter.unusedVariables false
set_option linter.unusedSimpArgs false

section
variable {bb : Bool} {P : Program} {κ : Ctx} [NoZ κ] {η : Own} {s : St} {a : Act} {w : World} {G : Env} {o : Oper} {Q' : Exit → Act → World → Prop}

theorem flat_length {sz : Nat} : ∀ {es : List (List PV)}, (∀ x ∈ es, x.length = sz) → es.flatten.length = es.length * sz
  | [], _ => by simp
  | e :: es, h => by
    simp only [List.flatten_cons, List.length_append, List.length_cons, flat_length (es := es) fun x hx => h x (by simp [hx]), h e (by simp), Nat.add_mul]
    omega
theorem flat_drop {sz : Nat} : ∀ {es : List (List PV)} (i : Nat), (∀ x ∈ es, x.length = sz) → es.flatten.drop (i * sz) = (es.drop i).flatten
  | [], i, _ => by simp
  | e :: es, 0, _ => by simp
  | e :: es, i + 1, h => by
    have he := h e (by simp)
    rw [List.flatten_cons, List.drop_append, Nat.add_mul, he, List.drop_eq_nil_of_le (by omega), List.nil_append, List.drop_succ_cons, ← flat_drop i fun x hx => h x (by simp [hx])]
    congr 1
    omega
theorem flat_take {sz : Nat} : ∀ {es : List (List PV)} (i : Nat), (∀ x ∈ es, x.length = sz) → es.flatten.take (i * sz) = (es.take i).flatten
  | [], i, _ => by simp
  | e :: es, 0, _ => by simp
  | e :: es, i + 1, h => by
    have he := h e (by simp)
    rw [List.flatten_cons, List.take_append, Nat.add_mul, he, List.take_of_length_le (by omega), List.take_succ_cons, List.flatten_cons, ← flat_take i fun x hx => h x (by simp [hx])]
    congr 2
    omega
theorem flat_at {sz i : Nat} {es : List (List PV)} {el : List PV} (h : ∀ x ∈ es, x.length = sz) (he : es[i]? = some el) : es.flatten.drop (i * sz) = el ++ (es.drop (i + 1)).flatten := by
  rw [flat_drop i h]
  have hi : i < es.length := (List.getElem?_eq_some_iff.1 he).1
  rw [List.drop_eq_getElem_cons hi, List.flatten_cons]
  congr 1
  have := (List.getElem?_eq_some_iff.1 he).2
  exact this

/-- One element of a row: its cells, and what they stand for. -/
theorem row_elem {w : World} {I : Nat → Prop} {sz i : Nat} {es : List (List PV)} {el : List PV} {vals : List Value} (h : ∀ x ∈ es, x.length = sz) (he : es[i]? = some el) (hr : RepIs w I es.flatten vals) :
    ∃ vs, RepIs w I el vs ∧ ∀ j v, vs[j]? = some v → vals[i * sz + j]? = some v := by
  have h1 := hr.all2.drop (i * sz)
  rw [flat_at h he] at h1
  obtain ⟨b1, b2, hb, h2, h3⟩ := h1.split
  refine ⟨b1, RepIs.of h2, fun j v hj => ?_⟩
  rw [← List.getElem?_drop, hb]
  rw [List.getElem?_append_left (List.getElem?_eq_some_iff.1 hj).1]
  exact hj

theorem own_cell {w : World} {base e sz n : Nat} {v : Value} {vals : List Value} {g : Nat} (h : w.ownsRow base e sz v n vals) (hg : headOf v = some g) : ∀ j u, vals[j]? = some u → w.cell? ⟨g, j, none⟩ = some u := by
  rcases h.2 with ⟨rfl, _⟩ | ⟨g', cap, cur, rfl, hB, hh, hcap, hm, hcs, htake⟩
  · cases hg
  · obtain rfl := Option.some.inj hg
    intro j u hj
    rw [cell_of_row w g' j cur _ _ hh]
    rw [← htake, List.getElem?_take] at hj
    rw [← Array.getElem?_toList]
    split at hj
    · exact hj
    · cases hj

theorem live_one (h : Sim κ η s a w) {p : PV} {c : Value} (hr : Rep1 w (imm κ η w) η p c) (hl : s.live p = true) : c.oneCell' = true := by
  cases hr with
  | undef => cases hl
  | skip => cases hl
  | imm h => exact h.oneCell
  | osl id ver c hv hc =>
    simp only [St.live] at hl
    split at hl
    · rename_i v' e sz es he
      split at hl
      · rename_i e'
        subst e'
        have ho := h.heap id
        rw [he] at ho
        obtain ⟨h1, v, vals, h2, h3, _⟩ := ho
        rw [hc h1.symm v h2]
        rcases h3.row.2 with ⟨rfl, _⟩ | ⟨g, cap, cur, rfl, _⟩ <;> rfl
      · cases hl
    · cases hl
  | optr id ver sz i off c hv hc =>
    simp only [St.live] at hl
    split at hl
    · cases hl
    · rename_i v' b hb he
      split at hl
      · rename_i e'
        subst e'
        have ho := h.heap id
        rw [he] at ho
        cases b with
        | dead => exact absurd rfl hb
        | box cs =>
          obtain ⟨h1, g, arr, e, h2, _⟩ := ho
          obtain ⟨g', _, rfl⟩ := hc h1.symm _ h2
          rfl
        | row e sz es =>
          obtain ⟨h1, v, vals, h2, _⟩ := ho
          obtain ⟨g', _, rfl⟩ := hc h1.symm _ h2
          rfl
        | tree e sz es =>
          obtain ⟨h1, v, vals, h2, _⟩ := ho
          obtain ⟨g', _, rfl⟩ := hc h1.symm _ h2
          rfl
        | wild e sz es =>
          obtain ⟨h1, v, vals, h2, _⟩ := ho
          obtain ⟨g', _, rfl⟩ := hc h1.symm _ h2
          rfl
        | iter b pos =>
          obtain ⟨h1, g, h2, _⟩ := ho
          obtain ⟨g', _, rfl⟩ := hc h1.symm _ h2
          rfl
        | map es =>
          obtain ⟨h1, g, ents, clock, ks, h2, _⟩ := ho
          obtain ⟨g', _, rfl⟩ := hc h1.symm _ h2
          rfl
      · cases hl
  | isv => cases hl
  | fno => rfl
  | bsl => cases hl
  | vsl => cases hl
  | bptr => cases hl

theorem live_all (h : Sim κ η s a w) {ps : List PV} {vs : List Value} (hr : All2 (Rep1 w (imm κ η w) η) ps vs) (hl : ps.all s.live = true) : ∀ u ∈ vs, u.oneCell' = true := by
  induction hr with
  | nil => intro u hu; cases hu
  | cons p q ih =>
    simp only [List.all_cons, Bool.and_eq_true] at hl
    intro u hu
    rcases List.mem_cons.1 hu with rfl | hu
    · exact live_one h p hl.1
    · exact ih hl.2 u hu

theorem cells_rep (h : Sim κ η s a w) {p : PV} {c : Value} (hr : Rep w (imm κ η w) η p c) (hl : p.cells.all s.live = true) :
    All2 (Rep1 w (imm κ η w) η) p.cells c.cells.toList ∧ ∀ u ∈ c.cells.toList, u.oneCell' = true := by
  cases hr with
  | one hr => cases hr with
    | one hr =>
      have hc : p.cells = [p] := by cases hr with
        | imm hr => cases hr <;> rfl
        | _ => rfl
      rw [hc] at hl ⊢
      simp only [List.all_cons, List.all_nil, Bool.and_true] at hl
      have h1 := live_one h hr hl
      rw [Value.cells_one h1]
      exact ⟨.cons hr .nil, by simpa using h1⟩
    | agg cs vs hr => exact ⟨by simpa [PV.cells, Value.cells] using hr, by simpa [PV.cells, Value.cells] using live_all h hr hl⟩
  | tup cs vs hr =>
    simp [PV.cells, St.live, PV.pure] at hl

theorem run_zeroValue {t : Nat} {ti : TI} (hd : descOk P t ti) : ∃ i z, P.info? t = some i ∧ i.zero = some z ∧ (∀ w I, RepIs w I ti.zero z.cells.toList) ∧ i.size = ti.size ∧ i.bytes = ti.bytes ∧ z.cells.size = ti.size ∧ ∀ w, (zeroValue t).run P w = .ok z w := by
  obtain ⟨_, ⟨i, z, hi, hs, hb, hz, hr, hl⟩, _⟩ := hd
  refine ⟨i, z, hi, hz, hr, hs, hb, ?_, fun w => by simp [zeroValue, typeInfo, hi, hz]⟩
  have := (hr default fun _ => True).all2.length
  simpa [hl] using this.symm

theorem run_sizeOf {t : Nat} {ti : TI} (hd : descOk P t ti) (w : World) : (sizeOf t).run P w = .ok ti.size w := by
  obtain ⟨_, ⟨i, z, hi, hs, _⟩, _⟩ := hd
  simp [sizeOf, typeInfo, hi, hs]

theorem run_isAgg {t : Nat} {ti : TI} (hd : descOk P t ti) (w : World) : (isAgg t).run P w = .ok ti.isAgg w := by
  obtain ⟨hu, _, ha⟩ := hd
  rw [ha]
  simp only [isAgg, Sem.run_bind, run_underlying hu, Result.andThen_ok]
  cases ti.desc <;> rfl

theorem RepIs.rep1 {w : World} {I : Nat → Prop} {η : Own} {ps : List PV} {vs : List Value} (h : RepIs w I ps vs) : All2 (Rep1 w I η) ps vs := h.all2.mono fun _ _ x => .imm x

/-- A box is made and its pointer laid into a slot. -/
theorem Sim.box (h : Sim κ η s a w) (d : Nat) (cs : List PV) (arr : Array Value) (e sz : Nat) (hr : All2 (Rep1 w (imm κ η w) η) cs arr.toList) :
    ∃ η', Sim κ η' (St.put ⟨s.T, s.H.new (8 * d) (.box cs)⟩ (some d) (.optr (8 * d) ((s.H.get (8 * d)).1 + 1) sz 0 0)) (a.put (some d) (.pointer (some ⟨w.heap.size, 0, none⟩))) (w.alloc (.cells arr e)) := by
  obtain ⟨hs, hle, hI⟩ := h.create (w' := w.alloc (.cells arr e)) (fun k hk => heap_alloc_old w _ hk) (by simp)
    (h.kept.step rfl rfl rfl (by simp) fun k hk _ => heap_alloc_old w _ (Nat.lt_of_lt_of_le hk h.kept.size)) (8 * d) (.box cs) (.pointer (some ⟨w.heap.size, 0, none⟩))
    (fun g hg => by obtain rfl := Option.some.inj hg; exact Nat.le_refl _)
    (fun η' hle hI hc hv => ⟨hc, w.heap.size, arr, e, hv, heap_alloc_new w _, hr.mono fun _ _ x => x.mono hI hle, ⟨fun g hg => .inl (by obtain rfl := Option.some.inj hg; exact h.kept.size), fun _ _ h => by cases h⟩⟩)
  refine ⟨_, hs.put (some d) (.of1 (.optr _ _ _ _ _ _ ?_ ?_))⟩
  · exact Nat.le_of_eq Own.set_cur.symm
  · intro _ x hx
    rw [Own.set_o] at hx
    obtain rfl := Option.some.inj hx
    exact ⟨_, rfl, by simp⟩

theorem sound_alloc (hG : EnvOk P G) (h : Sim κ η s a w) {K : St → Prop} (e : Nat) (ho : o.op = .alloc e) (hK : op (std bb P) G o s K) : o.wp P a w (Then κ K) Q' := by
  simp only [op, ho] at hK
  cases hd : o.dst with
  | none => rw [hd] at hK; exact hK.elim
  | some d =>
    rw [hd] at hK
    simp only at hK
    cases hg : G e with
    | none => rw [hg] at hK; exact hK.elim
    | some te =>
      rw [hg] at hK
      obtain ⟨i, z, hi, hz, hzr, _, _, _, hrun⟩ := run_zeroValue (hG e te hg)
      obtain ⟨η', hs⟩ := h.box d te.zero z.cells e te.size (RepIs.rep1 (hzr _ _))
      refine done_value (c := .pointer (some ⟨w.heap.size, 0, none⟩)) (w' := w.alloc (.cells z.cells e)) ?_ (by rw [hd]; exact hs) hK
      simp [execOp, ho, Instr.alloc, hrun, newVar, newRow]

theorem sound_box (h : Sim κ η s a w) {K : St → Prop} (e : Nat) (x : Operand) (ho : o.op = .box e x) (hK : op (std bb P) G o s K) : o.wp P a w (Then κ K) Q' := by
  simp only [op, ho] at hK
  cases hd : o.dst with
  | none => rw [hd] at hK; exact hK.elim
  | some d =>
    rw [hd] at hK
    simp only at hK
    split at hK
    · rename_i hl
      obtain ⟨η', hs⟩ := h.box d (s.ev x).cells (a.eval x).cells e (s.ev x).cells.length (cells_rep h (h.ev x) hl).1
      refine done_value (c := .pointer (some ⟨w.heap.size, 0, none⟩)) (w' := w.alloc (.cells (a.eval x).cells e)) ?_ (by rw [hd]; exact hs) hK
      simp [execOp, ho, Instr.box, newVar, newRow]
    · exact hK.elim

/-- A load out of cells that are known. -/
theorem run_loadVar {t : Nat} {ti : TI} (hd : descOk P t ti) {g off : Nat} {ps : List PV} {vs : List Value} {I : Nat → Prop} (hr : All2 (Rep1 w I η) ps vs)
    (hc : ∀ j v, vs[j]? = some v → w.cell? ⟨g, off + j, none⟩ = some v) {K : PV → Prop} (h : aggOr ti.isAgg ti.size ps K) :
    ∃ c p, (loadVar t ⟨g, off, none⟩).run P w = .ok c w ∧ Rep w I η p c ∧ K p := by
  unfold aggOr at h
  by_cases ha : ti.isAgg = true
  · rw [if_pos ha] at h
    split at h
    · rename_i hn
      have hl := hr.length
      have hload := run_loadCells_list (P := P) w ⟨g, off, none⟩ (vs.take ti.size) (fun j v hj => by
        rw [Addr.add_lit]
        rw [List.getElem?_take] at hj
        split at hj
        · exact hc j v hj
        · cases hj)
      have hlen : (vs.take ti.size).length = ti.size := by rw [List.length_take]; omega
      rw [hlen] at hload
      refine ⟨.agg (vs.take ti.size).toArray, _, ?_, .one (.agg _ _ (hr.take ti.size)), h⟩
      simp only [loadVar, Sem.run_bind, run_isAgg hd, Result.andThen_ok, ha, if_true, run_sizeOf hd, hload, Sem.run_pure]
    · exact h.elim
  · rw [if_neg ha] at h
    split at h
    · rename_i c0 rest
      cases hr with
      | cons p q =>
        rename_i v vs'
        have h0 := hc 0 v (by simp)
        refine ⟨v, c0, ?_, .of1 p, h⟩
        have ha' : ti.isAgg = false := by simpa using ha
        simp only [loadVar, Sem.run_bind, run_isAgg hd, Result.andThen_ok, ha', Bool.false_eq_true, if_false, run_load]
        rw [Nat.add_zero] at h0
        simp [h0]
    · exact h.elim

theorem sound_load (hG : EnvOk P G) (h : Sim κ η s a w) {K : St → Prop} (t : Nat) (x : Operand) (ho : o.op = .load t x)
    (hK : opLoad (std bb P) G t s (s.ev x) fun v => K (s.put o.dst v)) : o.wp P a w (Then κ K) Q' := by
  have hx := h.ev x
  unfold opLoad at hK
  cases hg : G t with
  | none => rw [hg] at hK; exact hK.elim
  | some ti =>
    rw [hg] at hK
    simp only at hK
    have hd := hG t ti hg
    have fin : ∀ (g off : Nat) (ps : List PV) (vs : List Value), a.eval x = .pointer (some ⟨g, off, none⟩) → All2 (Rep1 w (imm κ η w) η) ps vs → (∀ j v, vs[j]? = some v → w.cell? ⟨g, off + j, none⟩ = some v) →
        aggOr ti.isAgg ti.size ps (fun v => K (s.put o.dst v)) → o.wp P a w (Then κ K) Q' := by
      intro g off ps vs ha hr hc hA
      obtain ⟨c, p, hrun, hp, hk⟩ := run_loadVar hd hr hc hA
      refine done_put h (c := c) ?_ hp hk
      simp [execOp, ho, Instr.loadAt, ha, Instr.sureAddr, hrun]
    split at hK
    · rename_i cs hv
      rw [hv] at hx
      have hI := hx.invI rfl
      generalize hc : a.eval x = c at *
      cases hI with
      | iptr _ g off vs hr hI' hcell => exact fin g off cs vs rfl (RepIs.rep1 hr) hcell hK
    · rename_i id ver sz i off hv
      rw [hv] at hx
      have h1 := hx.inv1 (fun _ e => by cases e) (fun _ e => by cases e)
      generalize hc : a.eval x = c at *
      have hob := h.heap id
      split at hK
      · rename_i v' cs he
        rw [he] at hob
        split at hK
        · rename_i ev
          split at hK
          · rename_i ei
            obtain ⟨hcur, g, arr, e, hval, hh, hr, _⟩ := hob
            cases h1 with
            | imm h1 => cases h1
            | optr _ _ _ _ _ _ hv' hp =>
              obtain ⟨g', hg', rfl⟩ := hp (by rw [hcur, ev]) _ hval
              obtain rfl := Option.some.inj hg'
              refine fin g (i * sz + off) (cs.drop off) (arr.toList.drop off) rfl (hr.drop off) (fun j v hj => ?_) hK
              rw [cell_of_row w g _ arr _ _ hh, ei, Nat.zero_mul, Nat.zero_add]
              rw [List.getElem?_drop] at hj
              rw [← Array.getElem?_toList]
              exact hj
          · exact hK.elim
        · exact hK.elim
      · rename_i v' e sz' es he
        rw [he] at hob
        split at hK
        · rename_i ev
          split at hK
          case isFalse => exact hK.elim
          rename_i esz
          obtain ⟨hcur, v, vals, hval, hown, hr, hlen⟩ := hob
          obtain ⟨el, hel, hfit, hK⟩ := hK
          simp only at hK
          cases h1 with
          | imm h1 => cases h1
          | optr _ _ _ _ _ _ hv' hp =>
            obtain ⟨g', hg', rfl⟩ := hp (by rw [hcur, ev]) _ hval
            obtain ⟨vs, hvs, hat⟩ := row_elem hlen hel hr
            have h2 := (RepIs.rep1 (η := η) hvs).drop off
            have h3 := h2.take ti.size
            refine fin g' (i * sz' + off) ((el.drop off).take ti.size) ((vs.drop off).take ti.size) ?_ h3 (fun j u hj => ?_) hK
            · rw [esz]
            · rw [List.getElem?_take] at hj
              split at hj
              · rw [List.getElem?_drop] at hj
                have := own_cell hown.row hg' _ _ (hat _ _ hj)
                rw [Nat.add_assoc]
                exact this
              · cases hj
        · exact hK.elim
      · exact hK.elim
    · exact hK.elim


theorem toPure_sound (h : Sim κ η s a w) {p p' : PV} {s' : St} {c : Value} (hr : Rep1 w (imm κ η w) η p c) (he : toPure p s = some (p', s')) :
    ∃ η', Sim κ η' s' a w ∧ RepI w (imm κ η' w) p' c ∧ η.le η' ∧ ∀ g, imm κ η w g → imm κ η' w g := by
  unfold toPure at he
  split at he
  · rename_i id ver
    split at he
    · rename_i v' e sz es hg
      split at he
      · rename_i ev
        subst ev
        simp only [Option.some.injEq, Prod.mk.injEq] at he
        obtain ⟨rfl, rfl⟩ := he
        obtain ⟨η', hs, hle, hI, v, hv, hri⟩ := h.freeze hg
        have hob := h.heap id
        rw [hg] at hob
        cases hr with
        | imm hr => cases hr
        | osl _ _ _ h1 h2 =>
          rw [h2 hob.1.symm v hv]
          exact ⟨η', hs, hri, hle, hI⟩
      · cases he
    · cases he
  · split at he
    · rename_i hp
      simp only [Option.some.injEq, Prod.mk.injEq] at he
      obtain ⟨rfl, rfl⟩ := he
      exact ⟨η, h, (Rep.of1 hr).invI hp, η.le_refl, fun g hg => hg⟩
    · cases he

theorem toPures_sound : ∀ {ps ps' : List PV} {s s' : St} {η : Own} {vs : List Value} (_ : Sim κ η s a w) (_ : All2 (Rep1 w (imm κ η w) η) ps vs) (_ : toPures ps s = some (ps', s')),
    ∃ η', Sim κ η' s' a w ∧ RepIs w (imm κ η' w) ps' vs ∧ η.le η' ∧ ∀ g, imm κ η w g → imm κ η' w g
  | [], _, _, _, _, _, h, .nil, he => by
    simp only [toPures, Option.some.injEq, Prod.mk.injEq] at he
    obtain ⟨rfl, rfl⟩ := he
    exact ⟨_, h, .nil, Own.le_refl _, fun _ hg => hg⟩
  | p :: ps, _, _, _, _, _, h, .cons hp hr, he => by
    simp only [toPures] at he
    split at he
    · rename_i p' s1 h1
      split at he
      · rename_i r' s2 h2
        simp only [Option.some.injEq, Prod.mk.injEq] at he
        obtain ⟨rfl, rfl⟩ := he
        obtain ⟨η1, hs1, hr1, hle1, hI1⟩ := toPure_sound h hp h1
        obtain ⟨η2, hs2, hr2, hle2, hI2⟩ := toPures_sound hs1 (hr.mono fun _ _ x => x.mono (fun g hg => ⟨hI1 g hg, rfl⟩) hle1) h2
        exact ⟨η2, hs2, .cons (hr1.weak hI2) hr2, Own.le_trans hle1 hle2, fun g hg => hI2 g (hI1 g hg)⟩
      · cases he
    · cases he

theorem toPures_len : ∀ {ps ps' : List PV} {s s' : St} (_ : toPures ps s = some (ps', s')), ps'.length = ps.length
  | [], _, _, _, he => by
    simp only [toPures, Option.some.injEq, Prod.mk.injEq] at he
    obtain ⟨rfl, rfl⟩ := he
    rfl
  | p :: ps, _, _, _, he => by
    simp only [toPures] at he
    split at he
    · split at he
      · rename_i h2
        simp only [Option.some.injEq, Prod.mk.injEq] at he
        obtain ⟨rfl, rfl⟩ := he
        simp [toPures_len h2]
      · cases he
    · cases he

theorem cells_pure (h : Sim κ η s a w) {p : PV} {c : Value} (hr : Rep w (imm κ η w) η p c) {cs : List PV} {s' : St} (hp : toPures p.cells s = some (cs, s')) :
    ∃ η', Sim κ η' s' a w ∧ RepIs w (imm κ η' w) cs c.cells.toList ∧ η.le η' ∧ ∀ g, imm κ η w g → imm κ η' w g := by
  cases hr with
  | one hr => cases hr with
    | one hr =>
      have hc1 : p.cells = [p] := by
        cases hr with
        | imm hr => cases hr <;> rfl
        | _ => rfl
      rw [hc1] at hp
      simp only [toPures] at hp
      split at hp
      · rename_i p1 s1 hp1
        simp only [Option.some.injEq, Prod.mk.injEq] at hp
        obtain ⟨rfl, rfl⟩ := hp
        obtain ⟨η1, hs1, hr1, hle1, hI1⟩ := toPure_sound h hr hp1
        refine ⟨η1, hs1, ?_, hle1, hI1⟩
        rw [Value.cells_one hr1.oneCell]
        exact .cons hr1 .nil
      · cases hp
    | agg cs vs hr =>
      have := toPures_sound h hr (by simpa [PV.cells] using hp)
      simpa [Value.cells] using this
  | tup cs vs hr =>
    simp [PV.cells, toPures, toPure, PV.pure] at hp

theorem flat_set {sz i off : Nat} {es : List (List PV)} {el c : List PV} (h : ∀ x ∈ es, x.length = sz) (he : es[i]? = some el) (hf : off + c.length ≤ el.length) :
    (es.set i (splice el off c)).flatten = splice es.flatten (i * sz + off) c := by
  have hi : i < es.length := (List.getElem?_eq_some_iff.1 he).1
  have hel : es[i] = el := (List.getElem?_eq_some_iff.1 he).2
  have hA : (es.take i).flatten.length = i * sz := by
    rw [flat_length (sz := sz) fun x hx => h x (List.mem_of_mem_take hx), List.length_take, Nat.min_eq_left (by omega)]
  have hes : es.flatten = (es.take i).flatten ++ (el ++ (es.drop (i + 1)).flatten) := by
    conv => lhs; rw [← List.take_append_drop i es]
    rw [List.flatten_append, List.drop_eq_getElem_cons hi, List.flatten_cons, hel]
  have hset : es.set i (splice el off c) = es.take i ++ splice el off c :: es.drop (i + 1) := by
    rw [List.set_eq_take_append_cons_drop, if_pos hi]
  rw [hset, List.flatten_append, List.flatten_cons, hes]
  unfold splice
  have e1 : ((es.take i).flatten ++ (el ++ (es.drop (i + 1)).flatten)).take (i * sz + off) = (es.take i).flatten ++ el.take off := by
    rw [List.take_append, hA, List.take_of_length_le (by omega), Nat.add_sub_cancel_left, List.take_append, show off - el.length = 0 by omega, List.take_zero, List.append_nil]
  have e2 : ((es.take i).flatten ++ (el ++ (es.drop (i + 1)).flatten)).drop (i * sz + off + c.length) = el.drop (off + c.length) ++ (es.drop (i + 1)).flatten := by
    rw [List.drop_append, hA, List.drop_eq_nil_of_le (by omega), List.nil_append, show i * sz + off + c.length - i * sz = off + c.length by omega, List.drop_append, show off + c.length - el.length = 0 by omega, List.drop_zero]
  rw [e1, e2]
  simp [List.append_assoc]

theorem setRow_kept {w : World} {κ : Ctx} (h : Kept κ w) {g : Nat} (hg : κ.B ≤ g ∨ κ.M g) (cs : Array Value) : Kept κ (w.setRow g cs) :=
  h.step rfl rfl rfl (by simp [World.setRow]) fun k hk hm => setRow_other w g k cs fun e => by
    rcases hg with hg | hg
    · omega
    · exact hm (e ▸ hg)

theorem splice_arr {α : Type} (cur vs : List α) (o : Nat) : cur.take o ++ vs ++ cur.drop (o + vs.length) = cur.take o ++ vs ++ cur.drop (o + vs.length) := rfl

theorem All2.splice {w : World} {I : Nat → Prop} {η : Own} {cs ps : List PV} {vs us : List Value} (h : All2 (Rep1 w I η) cs vs) (h' : All2 (Rep1 w I η) ps us) (o : Nat) :
    All2 (Rep1 w I η) (Ai.splice cs o ps) (vs.take o ++ us ++ vs.drop (o + us.length)) := by
  unfold Ai.splice
  rw [← h'.length]
  exact ((h.take o).app h').app (h.drop _)

theorem run_storeVar {t : Nat} {ti : TI} (hd : descOk P t ti) {g off : Nat} {cur : Array Value} {e : TypeId} {c : Value} (hh : w.heap[g]? = some (.cells cur e (0, 0))) (hl : c.cells.size = ti.size)
    (hfit : off + ti.size ≤ cur.size) (h1 : ∀ u ∈ c.cells.toList, u.oneCell' = true) :
    (storeVar t ⟨g, off, none⟩ c).run P w = .ok () (w.setRow g (cur.toList.take off ++ c.cells.toList ++ cur.toList.drop (off + c.cells.toList.length)).toArray) := by
  have hst := run_storeCells_at P g off e c.cells.toList 0 cur w hh (by simpa [hl] using hfit) h1
  simp only [Nat.add_zero] at hst
  simp only [storeVar, Sem.run_bind, run_sizeOf hd, Result.andThen_ok]
  rw [if_neg (by simp [hl])]
  exact hst

theorem sound_store (hG : EnvOk P G) (h : Sim κ η s a w) {K : St → Prop} (t : Nat) (x y : Operand) (ho : o.op = .store t x y)
    (hK : opStore (std bb P) G t s (s.ev x) (s.ev y) fun s' => K (s'.put o.dst .skip)) : o.wp P a w (Then κ K) Q' := by
  have hx := h.ev x
  have hy := h.ev y
  unfold opStore at hK
  cases hg : G t with
  | none => rw [hg] at hK; exact hK.elim
  | some ti =>
    rw [hg] at hK
    simp only at hK
    have hd := hG t ti hg
    split at hK
    case isFalse => exact hK.elim
    rename_i hsz
    split at hK
    · rename_i id ver sz i off hv
      rw [hv] at hx
      have h1 := hx.inv1 (fun _ e => by cases e) (fun _ e => by cases e)
      split at hK
      · rename_i v' cs he
        have hob := h.heap id
        rw [he] at hob
        split at hK
        case isFalse => exact hK.elim
        rename_i ev
        split at hK
        case isFalse => exact hK.elim
        rename_i ei
        split at hK
        case isFalse => exact hK.elim
        rename_i hlive
        split at hK
        case isFalse => exact hK.elim
        rename_i hfit
        obtain ⟨hcur, g, arr, e, hval, hh, hr, hB⟩ := hob
        obtain ⟨hcr, hone⟩ := cells_rep h hy hlive
        have hpt : a.eval x = .pointer (some ⟨g, off, none⟩) := by
          generalize a.eval x = c at *
          cases h1 with
          | imm h1 => cases h1
          | optr _ _ _ _ _ _ hv' hp =>
            obtain ⟨g', hg', rfl⟩ := hp (by rw [hcur, ev]) _ hval
            obtain rfl := Option.some.inj hg'
            rw [ei, Nat.zero_mul, Nat.zero_add]
        have hlen : (a.eval y).cells.size = ti.size := by rw [← hsz, hcr.length]; simp
        have harr : arr.size = cs.length := by rw [hr.length]; simp
        have hrun := run_storeVar (P := P) (w := w) hd hh hlen (by rw [harr]; exact hfit) hone
        have hs := h.write (w' := w.setRow g (arr.toList.take off ++ (a.eval y).cells.toList ++ arr.toList.drop (off + (a.eval y).cells.toList.length)).toArray) id ver (.box (splice cs off (s.ev y).cells))
          (.pointer (some ⟨g, 0, none⟩)) g (by rw [hcur, ev]) hval rfl (fun k hk => setRow_other w g k _ hk) (by simp [World.setRow]) (setRow_kept h.kept (box_side hB) _) (by rw [he]; rfl)
          (fun hI => ⟨by rw [hcur, ev], g, _, e, hval, setRow_heap w g arr _ e _ hh, by
            simpa using (hr.splice hcr off).mono fun _ _ x => x.mono hI η.le_refl, by rw [← ev]; exact hB⟩)
        refine done_skip ?_ hs hK
        simp [execOp, ho, Instr.storeAt, hpt, Instr.sureAddr, hrun]
      · rename_i v0 e0 sz0 es0 he0
        split at hK
        · rename_i c s' hpure
          obtain ⟨η', hs', hcr, hle, hI⟩ := cells_pure h hy hpure
          split at hK
          · rename_i v' e sz' es he
            split at hK
            case isFalse => exact hK.elim
            rename_i ev
            split at hK
            case isFalse => exact hK.elim
            rename_i esz
            have hob := hs'.heap id
            rw [he] at hob
            obtain ⟨hcur, v, vals, hval, hown, hr, hlen⟩ := hob
            obtain ⟨el, hel, hfit, hK⟩ := hK
            simp only at hK
            have hval0 : ∃ g, headOf v = some g ∧ a.eval x = .pointer (some ⟨g, i * sz + off, none⟩) := by
              have h2 := h1.mono (fun g hg => ⟨hI g hg, rfl⟩) hle
              generalize a.eval x = c at *
              cases h2 with
              | imm h1 => cases h1
              | optr _ _ _ _ _ _ hv' hp => exact hp (by rw [hcur, ev]) _ hval
            obtain ⟨g, hg', hpt⟩ := hval0
            have hlen1 : (a.eval y).cells.size = ti.size := by rw [← hsz, ← toPures_len hpure, hcr.all2.length]; simp
            have hcl : c.length = ti.size := by rw [← hsz, toPures_len hpure]
            have hi : i < es.length := (List.getElem?_eq_some_iff.1 hel).1
            have hell : el.length = sz' := hlen el (List.mem_of_getElem? hel)
            have hpos : i * sz + off + ti.size ≤ es.length * sz := by
              have h1 : (i + 1) * sz ≤ es.length * sz := Nat.mul_le_mul_right _ hi
              rw [Nat.add_mul] at h1
              rw [hcl, hell, ← esz] at hfit
              omega
            subst esz
            have hdone := hown
            obtain ⟨⟨hvl, hrow⟩, hside⟩ := hown
            rw [ev] at hside
            rcases hrow with ⟨rfl, _⟩ | ⟨g', cap, cur, rfl, hB, hh, hcap, hm, hcs, htake⟩
            · cases hg'
            · obtain rfl := Option.some.inj hg'
              have hcl2 : es.length * sz ≤ cur.size := by rw [hcs]; exact Nat.mul_le_mul_right _ hcap
              have hrun := run_storeVar (P := P) (w := w) (off := i * sz + off) hd hh hlen1 (by omega) hcr.oneCell
              have hul : (a.eval y).cells.toList.length = ti.size := by simpa using hlen1
              have hs := hs'.write (w' := w.setRow g' (cur.toList.take (i * sz + off) ++ (a.eval y).cells.toList ++ cur.toList.drop (i * sz + off + (a.eval y).cells.toList.length)).toArray) id ver
                (.row e sz (es.set i (splice el off c))) _ g' (by rw [hcur, ev]) hval rfl (fun k hk => setRow_other w g' k _ hk) (by simp [World.setRow]) (setRow_kept h.kept (hside.new g' rfl) _) (by rw [he]; rfl)
                (fun hI => ⟨by rw [hcur, ev], _, vals.take (i * sz + off) ++ (a.eval y).cells.toList ++ vals.drop (i * sz + off + (a.eval y).cells.toList.length), hval, ⟨⟨?_, .inr ⟨g', cap, _, ?_, hB, setRow_heap w g' cur _ e _ hh, ?_, hm, ?_, ?_⟩⟩, hside⟩, ?_, ?_⟩)
              · refine done_skip ?_ hs hK
                simp [execOp, ho, Instr.storeAt, hpt, Instr.sureAddr, hrun]
              · simp only [List.length_append, List.length_take, List.length_drop, List.length_set, hvl, hul]
                omega
              · simp
              · simpa using hcap
              · simp only [List.size_toArray, List.length_append, List.length_take, List.length_drop, hul, Array.length_toList]
                omega
              · simp only [List.length_set]
                have hvt : vals.take (i * sz + off) = cur.toList.take (i * sz + off) := by
                  rw [← htake, List.take_take, Nat.min_eq_left (by omega)]
                have hvd : vals.drop (i * sz + off + (a.eval y).cells.toList.length) = (cur.toList.drop (i * sz + off + (a.eval y).cells.toList.length)).take (es.length * sz - (i * sz + off + ti.size)) := by
                  rw [← htake, List.drop_take, hul]
                rw [hvd, hvt, List.take_append, List.take_of_length_le]
                · congr 2
                  simp only [List.length_append, List.length_take, hul, Array.length_toList]
                  omega
                · simp only [List.length_append, List.length_take, hul, Array.length_toList]
                  omega
              · rw [flat_set hlen hel hfit]
                refine RepIs.mono hI (RepIs.of ?_)
                unfold splice
                have hfl : c.length = (a.eval y).cells.toList.length := hcr.all2.length
                rw [hfl]
                exact ((hr.all2.take _).app hcr.all2).app (hr.all2.drop _)
              · intro x hx
                rcases List.mem_or_eq_of_mem_set hx with hx | rfl
                · exact hlen x hx
                · unfold splice
                  simp only [List.length_append, List.length_take, List.length_drop]
                  omega
          · exact hK.elim
        · exact hK.elim
      · exact hK.elim
    · exact hK.elim

end
end Go.Proofs.Ytngefbdedbbplaa.Ai
