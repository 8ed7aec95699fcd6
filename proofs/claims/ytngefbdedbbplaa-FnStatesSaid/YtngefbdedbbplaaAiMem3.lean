/- Soundness: building, making, appending, cutting. -/
import Derived.Test.YtngefbdedbbplaaAiMem2
set_option linter.unusedSectionVars false
namespace Go.Proofs.Ytngefbdedbbplaa.Ai
open Go Go.RowKit
set_option linter.unusedVariables false
set_option linter.unusedSimpArgs false

theorem All2.of_get {α β : Type} {R : α → β → Prop} : ∀ {az : List α} {bs : List β}, az.length = bs.length → (∀ (i : Nat) a b, az[i]? = some a → bs[i]? = some b → R a b) → All2 R az bs
  | [], [], _, _ => .nil
  | [], _ :: _, h, _ => by simp at h
  | _ :: _, [], h, _ => by simp at h
  | a :: az, b :: bs, h, k => .cons (k 0 a b (by simp) (by simp)) (All2.of_get (by simpa using h) fun i x y hx hy => k (i + 1) x y (by simpa using hx) (by simpa using hy))

theorem rep_get {α : Type} (z : List α) : ∀ (n j : Nat), j < n * z.length → ((List.replicate n z).flatten)[j]? = z[j % z.length]?
  | 0, j, h => by simp at h
  | n + 1, j, h => by
    rw [Nat.add_mul, Nat.one_mul] at h
    rw [List.replicate_succ, List.flatten_cons]
    by_cases hj : j < z.length
    · rw [List.getElem?_append_left hj, Nat.mod_eq_of_lt hj]
    · rw [List.getElem?_append_right (by omega), rep_get z n (j - z.length) (by omega)]
      congr 1
      exact (Nat.mod_eq_sub_mod (by omega)).symm

theorem rep_made {R : PV → Value → Prop} {zs : List PV} {z : Array Value} (h : All2 R zs z.toList) (hz : 0 < zs.length) (n m : Nat) (hm : n * zs.length ≤ m) :
    All2 R (List.replicate n zs).flatten ((madeCells z m).toList.take (n * zs.length)) := by
  have hl : zs.length = z.size := by rw [h.length]; simp
  have hfl : ∀ n : Nat, (List.replicate n zs).flatten.length = n * zs.length := fun n => by simp
  refine All2.of_get ?_ fun i a b ha hb => ?_
  · have hml : (madeCells z m).toList.length = m := by simp [size_madeCells]
    rw [hfl, List.length_take, hml]
    omega
  · have hi : i < n * zs.length := by
      have := (List.getElem?_eq_some_iff.1 ha).1
      rw [hfl] at this
      exact this
    rw [rep_get zs n i hi] at ha
    obtain ⟨c, hc, hr⟩ := h.get ha
    have : b = c := by
      rw [List.getElem?_take, if_pos hi] at hb
      simp only [madeCells, Array.toList_map, List.getElem?_map, Array.toList_range] at hb
      rw [List.getElem?_range (by omega)] at hb
      simp only [Option.map_some, Option.some.injEq] at hb
      rw [← hb, ← hl]
      have hlt : i % zs.length < z.size := by rw [← hl]; exact Nat.mod_lt _ hz
      rw [getElem!_pos z _ hlt]
      have := (List.getElem?_eq_some_iff.1 hc).2
      simpa using this
    rw [this]
    exact hr

theorem fold_set (vs : List Value) : ∀ (k off : Nat) (cs : Array Value), off + k + vs.length ≤ cs.size →
    ((vs.zipIdx k).foldl (fun (cs : Array Value) (x : Value × Nat) => cs.setIfInBounds (off + x.2) x.1) cs).toList = cs.toList.take (off + k) ++ vs ++ cs.toList.drop (off + k + vs.length) := by
  induction vs with
  | nil => intro k off cs _; simp
  | cons v vs ih =>
    intro k off cs h
    simp only [List.length_cons] at h
    simp only [List.zipIdx_cons, List.foldl_cons]
    rw [ih (k + 1) off _ (by simp; omega)]
    have := list_seg_step cs.toList (off + k) v vs (by simp; omega)
    simpa [Nat.add_assoc] using this

theorem fill_step {place : Nat → Option (Nat × Nat)} {cells : Array Value} {i off size : Nat} {v : Value} {rest : List (Nat × Value)} (hp : place i = some (off, size)) (hv : v.cells.size = size) (hf : off + size ≤ cells.size) :
    ∃ cells' : Array Value, Instr.fill place cells ((i, v) :: rest) = Instr.fill place cells' rest ∧ cells'.toList = cells.toList.take off ++ v.cells.toList ++ cells.toList.drop (off + v.cells.toList.length) := by
  refine ⟨v.cells.zipIdx.foldl (fun cs (c, j) => cs.setIfInBounds (off + j) c) cells, ?_, ?_⟩
  · rw [Instr.fill]
    simp only [hp]
    rw [if_neg (by simp; omega)]
  · have := fold_set v.cells.toList 0 off cells (by simp; omega)
    rw [← Array.foldl_toList, Array.toList_zipIdx]
    simpa using this

section
variable {bb : Bool} {P : Program} {κ : Ctx} [NoZ κ] {η : Own} {s : St} {a : Act} {w : World} {G : Env} {o : Oper} {Q' : Exit → Act → World → Prop}

theorem fillS_sound (hG : EnvOk P G) (h : Sim κ η s a w) {F : Array Field} {places : Array (Nat × Nat)} (hpl : ∀ i off ft tf, fieldOff F.toList i = some (off, ft) → G ft = some tf → places[i]? = some (off, tf.size)) :
    ∀ (parts : List (Nat × Operand)) (cs cs' : List PV) (cells : Array Value), All2 (Rep1 w (imm κ η w) η) cs cells.toList → fillS G F.toList s parts cs = some cs' →
      ∃ cells' : Array Value, Instr.fill (places[·]?) cells (parts.map fun (i, x) => (i, a.eval x)) = some cells' ∧ All2 (Rep1 w (imm κ η w) η) cs' cells'.toList
  | [], cs, cs', cells, hr, he => by
    simp only [fillS, Option.some.injEq] at he
    subst he
    exact ⟨cells, rfl, hr⟩
  | (i, x) :: parts, cs, cs', cells, hr, he => by
    simp only [fillS] at he
    split at he
    case h_2 => cases he
    rename_i off ft hfo
    split at he
    case h_2 => cases he
    rename_i tf htf
    split at he
    case isFalse => cases he
    rename_i hl
    split at he
    case isFalse => cases he
    rename_i hsz
    split at he
    case isFalse => cases he
    rename_i hfit
    obtain ⟨hc, _⟩ := cells_rep h (h.ev x) hl
    have hcs : (a.eval x).cells.size = tf.size := by rw [← hsz, hc.length]; simp
    have hcl : cells.size = cs.length := by rw [hr.length]; simp
    obtain ⟨cells1, h1, h2⟩ := fill_step (place := (places[·]?)) (cells := cells) (rest := parts.map fun (i, x) => (i, a.eval x)) (hpl i off ft tf hfo htf) hcs (by omega)
    have h3 : All2 (Rep1 w (imm κ η w) η) (splice cs off (s.ev x).cells) cells1.toList := by
      rw [h2]
      exact hr.splice hc off
    obtain ⟨cells', h4, h5⟩ := fillS_sound hG h hpl parts _ _ cells1 h3 he
    exact ⟨cells', by rw [List.map_cons, h1, h4], h5⟩

theorem mapM_places (hG : EnvOk P G) (w : World) : ∀ (fs : List Field), (∀ f ∈ fs, ∃ i, P.info? f.type = some i) →
    ∃ l : List (Nat × Nat), (fs.mapM fun f => (do pure (f.offset, ← sizeOf f.type) : Sem (Nat × Nat))).run P w = .ok l w ∧
      ∀ (i : Nat) (fl : Field) (tf : TI), fs[i]? = some fl → G fl.type = some tf → l[i]? = some (fl.offset, tf.size)
  | [], _ => ⟨[], by simp, fun i fl tf h => by simp at h⟩
  | f :: fs, h => by
    obtain ⟨l, h1, h2⟩ := mapM_places hG w fs fun x hx => h x (by simp [hx])
    obtain ⟨i0, hi0⟩ := h f (by simp)
    refine ⟨(f.offset, i0.size) :: l, ?_, fun i fl tf hf ht => ?_⟩
    · rw [List.mapM_cons]
      simp only [Sem.run_bind, sizeOf, typeInfo, run_program, hi0, Result.andThen_ok, Sem.run_pure]
      simp only [Sem.run_bind, sizeOf, typeInfo, run_program, Sem.run_pure] at h1
      rw [h1]
      simp
    · cases i with
      | zero =>
        simp at hf
        subst hf
        obtain ⟨_, ⟨i', z, hi', hs, _⟩, _⟩ := hG _ _ ht
        rw [hi0] at hi'
        obtain rfl := Option.some.inj hi'
        simp [hs]
      | succ i => simpa using h2 i fl tf (by simpa using hf) ht

/-- Of every field's type something is known to the program (a closed fact of a program). -/
def FieldsOk (P : Program) (G : Env) : Prop := ∀ t ti F, G t = some ti → ti.desc = .struct F → ∀ f ∈ F.toList, ∃ i, P.info? f.type = some i

theorem sound_build (hG : EnvOk P G) (hF : FieldsOk P G) (h : Sim κ η s a w) {K : St → Prop} (t : Nat) (parts : Array (Nat × Operand)) (ho : o.op = .build t parts) (hK : op (std bb P) G o s K) : o.wp P a w (Then κ K) Q' := by
  simp only [op, ho] at hK
  split at hK
  case h_2 => exact hK.elim
  rename_i ti hti
  split at hK
  case h_2 => exact hK.elim
  rename_i fs hfs
  split at hK
  case h_2 => exact hK.elim
  rename_i cs hcs
  obtain ⟨F, hu, rfl⟩ := structOf_spec hG (t := t) (by rw [hti]; exact hfs)
  obtain ⟨i, z, hi, hz, hzr, _, _, _, hrun⟩ := run_zeroValue (hG t ti hti)
  have hdesc : ti.desc = .struct F := by
    have := (hG t ti hti).1
    rw [hu] at this
    exact (Option.some.inj this).symm
  obtain ⟨l, hl1, hl2⟩ := mapM_places hG w F.toList (hF t ti F hti hdesc)
  obtain ⟨cells', h4, h5⟩ := fillS_sound (places := l.toArray) hG h (fun i off ft tf h1 h2 => by
    obtain ⟨fl, hfl, rfl, rfl⟩ := fieldOff_spec h1
    rw [← Array.getElem?_toList] at hfl
    simpa using hl2 i fl tf hfl h2) parts.toList ti.zero cs z.cells (RepIs.rep1 (hzr _ _)) hcs
  refine done_put h (c := .agg cells') ?_ (.one (by simpa using RepA.agg cs cells'.toList h5)) hK
  have hm : (F.mapM fun f => (do pure (f.offset, ← sizeOf f.type) : Sem (Nat × Nat))).run P w = .ok l.toArray w := by
    rw [Array.mapM_eq_mapM_toList]
    simp only [Sem.run_map, hl1, Result.andThen_ok]
  have hp : (parts.map fun (x : Nat × Operand) => (x.1, a.eval x.2)).toList = parts.toList.map fun x => (x.1, a.eval x.2) := by simp
  simp only [execOp, ho, Instr.build, Sem.run_bind, hrun, Result.andThen_ok, run_underlying hu, hm]
  rw [hp]
  rw [h4]
  simp only [Sem.run_pure, Result.andThen_ok]

theorem fillE_sound {sz : Nat} : ∀ (parts : List (Nat × PV)) (vals : List (Nat × Value)) {s s' : St} {η : Own} (es es' : List (List PV)) (cells : Array Value) (_ : Sim κ η s a w)
    (_ : All2 (fun (x : Nat × PV) (y : Nat × Value) => x.1 = y.1 ∧ Rep w (imm κ η w) η x.2 y.2) parts vals) (_ : ∀ x ∈ es, x.length = sz) (_ : RepIs w (imm κ η w) es.flatten cells.toList) (_ : fillE sz parts es s = some (es', s')),
      ∃ (cells' : Array Value) (η' : Own), Instr.fill (fun i => some (i * sz, sz)) cells vals = some cells' ∧ Sim κ η' s' a w ∧ RepIs w (imm κ η' w) es'.flatten cells'.toList ∧ (∀ x ∈ es', x.length = sz) ∧ es'.length = es.length ∧
        η.le η' ∧ ∀ g, imm κ η w g → imm κ η' w g
  | [], [], _, _, _, es, es', cells, h, .nil, hl, hr, he => by
    simp only [fillE, Option.some.injEq, Prod.mk.injEq] at he
    obtain ⟨rfl, rfl⟩ := he
    exact ⟨cells, _, rfl, h, hr, hl, rfl, Own.le_refl _, fun _ hg => hg⟩
  | (i, p) :: parts, (j, c) :: vals, s, s', η, es, es', cells, h, .cons ⟨hij, hpc⟩ hps, hl, hr, he => by
    simp only at hij
    subst hij
    simp only [fillE] at he
    split at he
    case h_2 => cases he
    rename_i cs s1 h1
    split at he
    case isFalse => cases he
    rename_i hcs
    split at he
    case isFalse => cases he
    rename_i hi
    obtain ⟨η1, hs1, hr1, hle1, hI1⟩ := cells_pure h hpc h1
    have hcz : c.cells.size = sz := by rw [← hcs, hr1.all2.length]; simp
    have hcl : cells.size = es.length * sz := by rw [← flat_length hl, hr.all2.length]; simp
    have hfit : i * sz + sz ≤ cells.size := by
      have : (i + 1) * sz ≤ es.length * sz := Nat.mul_le_mul_right _ hi
      rw [Nat.add_mul] at this
      omega
    obtain ⟨cells1, h2, h3⟩ := fill_step (place := fun i => some (i * sz, sz)) (cells := cells) (rest := vals) rfl hcz hfit
    obtain ⟨el, hel⟩ : ∃ el, es[i]? = some el := ⟨es[i], List.getElem?_eq_getElem hi⟩
    have hell := hl el (List.mem_of_getElem? hel)
    have hset : (es.set i cs).flatten = splice es.flatten (i * sz) cs := by
      have := flat_set (off := 0) hl hel (c := cs) (by omega)
      simpa [splice, hcs, hell, List.drop_eq_nil_of_le] using this
    have hr2 : RepIs w (imm κ η1 w) (es.set i cs).flatten cells1.toList := by
      rw [hset, h3]
      have hfl : cs.length = c.cells.toList.length := hr1.all2.length
      unfold splice
      rw [hfl]
      exact RepIs.of ((((hr.weak hI1).all2.take _).app hr1.all2).app ((hr.weak hI1).all2.drop _))
    obtain ⟨cells', η', h4, h5, h6, h7, h8, h9, h10⟩ := fillE_sound parts vals (es.set i cs) es' cells1 hs1
      (hps.mono fun x y hxy => ⟨hxy.1, hxy.2.mono (fun g hg => ⟨hI1 g hg, rfl⟩) hle1⟩)
      (fun x hx => by
        rcases List.mem_or_eq_of_mem_set hx with hx | rfl
        · exact hl x hx
        · exact hcs) hr2 he
    exact ⟨cells', η', by rw [h2, h4], h5, h6, h7, by rw [h8, List.length_set], Own.le_trans hle1 h9, fun g hg => h10 g (hI1 g hg)⟩

/-- A new row under the slot's key, its value in the slot. -/
theorem Sim.row (h : Sim κ η s a w) {w' : World} (d e sz : Nat) (es : List (List PV)) (v : Value) (vals : List Value) (hw : ∀ k, k < w.heap.size → w'.heap[k]? = w.heap[k]?) (hz : w.heap.size ≤ w'.heap.size) (hk : Kept κ w')
    (hhead : ∀ g, headOf v = some g → w.heap.size ≤ g) {b : Nat} (hown : w'.ownsRow b e sz v es.length vals) (hr : RepIs w (imm κ η w) es.flatten vals) (hl : ∀ x ∈ es, x.length = sz) :
    ∃ η', Sim κ η' (bind s (some d) (.fr e sz es)) (a.put (some d) v) w' := by
  obtain ⟨hs, hle, hI⟩ := h.create hw hz hk (8 * d) (.row e sz es) v hhead (fun η' hle hI hc hv => ⟨hc, v, vals, hv, ⟨ownsRow_base hown (Nat.zero_le _), ⟨fun g hg => .inl (Nat.le_trans h.kept.size (hhead g hg)), fun _ _ h => by cases h⟩⟩, hr.mono hI, hl⟩)
  refine ⟨_, hs.put (some d) (.of1 (.osl _ _ _ ?_ ?_))⟩
  · exact Nat.le_of_eq Own.set_cur.symm
  · intro _ x hx
    rw [Own.set_o] at hx
    exact Option.some.inj hx

theorem sound_buildS (hG : EnvOk P G) (h : Sim κ η s a w) {K : St → Prop} (t n : Nat) (parts : Array (Nat × Operand)) (ho : o.op = .buildSlice t n parts) {d e : Nat} {te : TI} (hd : o.dst = some d) (hsl : sliceOf G t = some (e, te))
    (h0 : ¬ te.size = 0) (hn : n * te.size ≤ 100000) {es : List (List PV)} {s1 s' : St} (hfill : fillE te.size (parts.toList.map fun p => (p.1, s.ev p.2)) (List.replicate n te.zero) s = some (es, s1))
    (hs' : ∀ η', η.le η' → (∀ g, imm κ η w g → imm κ η' w g) → Sim κ η' s1 a w → Sim κ η' s' a w) (hK : K (bind s' (some d) (.fr e te.size es))) : o.wp P a w (Then κ K) Q' := by
  obtain ⟨hu, hde⟩ := sliceOf_spec hG hsl
  obtain ⟨i, z, hi, hz, hzr, hsz, hby, hzs, hrun⟩ := run_zeroValue hde
  have hzl : te.zero.length = te.size := by
    have := (hzr w (imm κ η w)).all2.length
    rw [this]
    simpa using hzs
  have hmade : RepIs w (imm κ η w) (List.replicate n te.zero).flatten (madeCells z.cells (n * te.size)).toList := by
    have := rep_made (hzr w (imm κ η w)).all2 (by omega) n (n * te.size) (by rw [hzl]; exact Nat.le_refl _)
    rw [hzl] at this
    rw [List.take_of_length_le (by simp [size_madeCells])] at this
    exact RepIs.of this
  obtain ⟨cells', η', h4, h5, h6, h7, h8, h9, h10⟩ := fillE_sound (κ := κ) (a := a) (parts.toList.map fun p => (p.1, s.ev p.2)) (parts.toList.map fun p => (p.1, a.eval p.2)) (List.replicate n te.zero) es
    (madeCells z.cells (n * te.size)) h (All2.map fun x _ => ⟨rfl, h.ev x.2⟩) (fun x hx => by rw [List.eq_of_mem_replicate hx]; exact hzl) hmade hfill
  have h5 := hs' η' h9 h10 h5
  have hlen : es.length = n := by rw [h8]; simp
  have hcl : cells'.size = n * te.size := by
    have := h6.all2.length
    rw [flat_length h7, hlen] at this
    simpa using this.symm
  obtain ⟨η'', hs⟩ := h5.row (w' := w.alloc (.cells cells' e)) d e te.size es (.slice (some ⟨w.heap.size, 0, none⟩) n n) cells'.toList (fun k hk => heap_alloc_old w _ hk) (by simp)
    (h.kept.step rfl rfl rfl (by simp) fun k hk _ => heap_alloc_old w _ (Nat.lt_of_lt_of_le hk h.kept.size)) (fun g hg => by obtain rfl := Option.some.inj hg; exact Nat.le_refl _)
    ⟨by rw [hlen]; simpa using hcl, .inr ⟨w.heap.size, n, cells', by rw [hlen], h.kept.size, heap_alloc_new w _, by rw [hlen]; exact Nat.le_refl _, by
      have : n * 1 ≤ n * te.size := Nat.mul_le_mul_left _ (by omega)
      simp only [maxLen]; omega, by rw [hcl], by rw [hlen, List.take_of_length_le (by simp [hcl])]⟩⟩ h6 h7
  refine done_value (c := .slice (some ⟨w.heap.size, 0, none⟩) n n) (w' := w.alloc (.cells cells' e)) ?_ (by rw [hd]; exact hs) hK
  have hp : (parts.map fun (x : Nat × Operand) => (x.1, a.eval x.2)).toList = parts.toList.map fun x => (x.1, a.eval x.2) := by simp
  have hzero : ((Array.range (n * te.size)).map (z.cells[· % z.cells.size]!)) = madeCells z.cells (n * te.size) := rfl
  simp only [execOp, ho, Instr.buildSlice, Sem.run_bind, run_underlying hu, Result.andThen_ok, run_sizeOf hde]
  rw [if_neg (by omega)]
  by_cases hz0 : n * te.size = 0
  · have hn0 : n = 0 := by
      rcases Nat.mul_eq_zero.1 hz0 with e | e
      · exact e
      · exact absurd e h0
    subst hn0
    simp only [Nat.zero_mul] at h4 ⊢
    have hm0 : madeCells z.cells 0 = #[] := by simp [madeCells]
    rw [hm0] at h4
    have hr0 : Array.range 0 = #[] := rfl
    simp [hp, h4, newRow, hr0]
  · rw [if_neg hz0]
    simp only [Sem.run_bind, hrun, Result.andThen_ok, Sem.run_pure, hzero, hp, h4]
    simp [newRow]

theorem sound_buildSlice (hG : EnvOk P G) (h : Sim κ η s a w) {K : St → Prop} (t n : Nat) (parts : Array (Nat × Operand)) (ho : o.op = .buildSlice t n parts) (hK : op (std bb P) G o s K) : o.wp P a w (Then κ K) Q' := by
  simp only [op, ho] at hK
  split at hK
  case h_2 => exact hK.elim
  rename_i d hd
  split at hK
  case h_2 => exact hK.elim
  rename_i e te hsl
  split at hK
  case isTrue => exact hK.elim
  rename_i h0
  split at hK
  case isFalse => exact hK.elim
  rename_i hn
  split at hK
  case h_2 => exact hK.elim
  rename_i es s' hfill
  exact sound_buildS hG h t n parts ho hd hsl h0 hn hfill (fun _ _ _ x => x) hK

theorem toPure_N {v v' : PV} {s s' : St} (h : toCellN v s = some (v', s')) : s'.T = s.T ∧ ∀ T, ∃ T', toPure v ⟨T, s.H⟩ = some (v', ⟨T', s'.H⟩) := by
  unfold toCellN at h
  split at h
  · split at h
    case h_2 => cases h
    rename_i hg
    split at h
    case isFalse => cases h
    rename_i ev
    obtain ⟨rfl, rfl⟩ := Prod.mk.inj (Option.some.inj h)
    rename_i id ver p v' e sz es
    exact ⟨rfl, fun T => ⟨T.map (thaw id ver sz es), by simp only [toPure, hg, if_pos ev]⟩⟩
  · rename_i hno
    split at h
    case isFalse => cases h
    rename_i hp
    obtain ⟨rfl, rfl⟩ := Prod.mk.inj (Option.some.inj h)
    refine ⟨rfl, fun T => ⟨T, ?_⟩⟩
    unfold toPure
    split
    · exact absurd rfl (hno _ _)
    · rw [if_pos hp]
theorem toPures_N : ∀ {l l' : List PV} {s s' : St}, toCellsN l s = some (l', s') → s'.T = s.T ∧ ∀ T, ∃ T', toPures l ⟨T, s.H⟩ = some (l', ⟨T', s'.H⟩)
  | [], _, _, _, h => by
    obtain ⟨rfl, rfl⟩ := Prod.mk.inj (Option.some.inj h)
    exact ⟨rfl, fun T => ⟨T, rfl⟩⟩
  | v :: r, _, s, _, h => by
    simp only [toCellsN] at h
    split at h
    case h_2 => cases h
    rename_i v' s1 h1
    split at h
    case h_2 => cases h
    rename_i r' s2 h2
    obtain ⟨rfl, rfl⟩ := Prod.mk.inj (Option.some.inj h)
    obtain ⟨e1, k1⟩ := toPure_N h1
    obtain ⟨e2, k2⟩ := toPures_N h2
    refine ⟨e2.trans e1, fun T => ?_⟩
    obtain ⟨T1, m1⟩ := k1 T
    obtain ⟨T2, m2⟩ := k2 T1
    exact ⟨T2, by simp only [toPures, m1, m2]⟩
theorem fillE_N {sz : Nat} : ∀ {l : List (Nat × PV)} {es es' : List (List PV)} {s s' : St}, fillN sz l es s = some (es', s') → s'.T = s.T ∧ ∀ T, ∃ T', fillE sz l es ⟨T, s.H⟩ = some (es', ⟨T', s'.H⟩)
  | [], _, _, _, _, h => by
    obtain ⟨rfl, rfl⟩ := Prod.mk.inj (Option.some.inj h)
    exact ⟨rfl, fun T => ⟨T, rfl⟩⟩
  | (i, v) :: r, es, _, s, _, h => by
    simp only [fillN] at h
    split at h
    case h_2 => cases h
    rename_i c s1 h1
    split at h
    case isFalse => cases h
    rename_i hc
    split at h
    case isFalse => cases h
    rename_i hi
    obtain ⟨e1, k1⟩ := toPures_N h1
    obtain ⟨e2, k2⟩ := fillE_N h
    refine ⟨e2.trans e1, fun T => ?_⟩
    obtain ⟨T1, m1⟩ := k1 T
    obtain ⟨T2, m2⟩ := k2 T1
    exact ⟨T2, by simp only [fillE, m1, if_pos hc, if_pos hi, m2]⟩
theorem sound_buildN (hG : EnvOk P G) (h : Sim κ η s a w) {K : St → Prop} (t n : Nat) (parts : Array (Nat × Operand)) (ho : o.op = .buildSlice t n parts) (hK : buildN G t n s (parts.toList.map fun p => (p.1, s.ev p.2)) o.dst K) : o.wp P a w (Then κ K) Q' := by
  unfold buildN at hK
  split at hK
  case h_2 => exact hK.elim
  rename_i d hd
  split at hK
  case h_2 => exact hK.elim
  rename_i e te hsl
  split at hK
  case isTrue => exact hK.elim
  rename_i h0
  split at hK
  case isFalse => exact hK.elim
  rename_i hn
  split at hK
  case h_2 => exact hK.elim
  rename_i es s' hfill
  obtain ⟨eT, k⟩ := fillE_N hfill
  obtain ⟨T', hf⟩ := k s.T
  refine sound_buildS hG h t n parts ho hd hsl h0 hn hf (s' := s') (fun η' hle hI hs => ?_) hK
  exact ⟨by rw [eT]; exact h.tmps.mono fun _ _ x => x.mono (fun g hg => ⟨hI g hg, rfl⟩) hle, hs.defers, hs.heap, hs.apart, hs.sub, hs.kept⟩

theorem zeroM_rep {te : TI} {I : Nat → Prop} {vs : List Value} (h : RepIs w I te.zero vs) : RepIs w I (zeroM G te) vs := by
  unfold zeroM
  split
  · rename_i e _ hz
    split
    · rw [hz] at h
      cases h with
      | cons h1 h2 =>
        cases h2
        cases h1
        exact .cons (.isl0 _ none 0 (Nat.zero_le _)) .nil
    · rw [hz] at h; exact h
  · exact h
theorem sound_make (hG : EnvOk P G) (h : Sim κ η s a w) {K : St → Prop} (t : Nat) (x y : Operand) (ho : o.op = .makeSlice t x y) (hK : op (std bb P) G o s K) : o.wp P a w (Then κ K) Q' := by
  have hx := h.ev x
  have hy := h.ev y
  simp only [op, ho] at hK
  split at hK
  case h_2 => exact hK.elim
  rename_i d hd
  split at hK
  case h_2 => exact hK.elim
  rename_i e te hsl
  obtain ⟨hu, hde⟩ := sliceOf_spec hG hsl
  split at hK
  case h_2 => exact hK.elim
  rename_i kl l kc c hl hc
  split at hK
  case isTrue => exact hK.elim
  rename_i h0
  obtain ⟨hl0, hlc, hb, hcb, hK⟩ := hK
  simp only at hK
  rw [hl] at hx
  rw [hc] at hy
  obtain ⟨i, z, hi, hz, hzr, hsz, hby, hzs, hrun⟩ := run_zeroValue hde
  have hzr : ∀ w I, RepIs w I (zeroM G te) z.cells.toList := fun w I => zeroM_rep (hzr w I)
  have hzl : (zeroM G te).length = te.size := by
    have := (hzr w (imm κ η w)).all2.length
    rw [this]
    simpa using hzs
  unfold sizeBound at hcb
  have hc0 : c = (c.toNat : Int) := by omega
  have hr := run_make (P := P) w t e i z hu hi hz kl kc l c hl0 hlc (by
    rw [hby, hc0]
    have : ((te.bytes * c.toNat : Nat) : Int) ≤ 281474976710656 := by omega
    rwa [Int.natCast_mul] at this) (by omega)
  have hm : l.toNat * te.size ≤ c.toNat * te.size := Nat.mul_le_mul_right _ (by omega)
  have hrep := rep_made (hzr w (imm κ η w)).all2 (by omega) l.toNat (c.toNat * i.size) (by rw [hzl, hsz]; exact hm)
  rw [hzl] at hrep
  obtain ⟨η'', hs⟩ := h.row (w' := w.alloc (.cells (madeCells z.cells (c.toNat * i.size)) e)) d e te.size (List.replicate l.toNat (zeroM G te)) (.slice (some ⟨w.heap.size, 0, none⟩) l.toNat c.toNat)
    ((madeCells z.cells (c.toNat * i.size)).toList.take (l.toNat * te.size)) (fun k hk => heap_alloc_old w _ hk) (by simp)
    (h.kept.step rfl rfl rfl (by simp) fun k hk _ => heap_alloc_old w _ (Nat.lt_of_lt_of_le hk h.kept.size)) (fun g hg => by obtain rfl := Option.some.inj hg; exact Nat.le_refl _)
    ⟨by simp only [List.length_take, Array.length_toList, size_madeCells, List.length_replicate, hsz]; exact Nat.min_eq_left hm, .inr ⟨w.heap.size, c.toNat, _, by simp, h.kept.size, heap_alloc_new w _, by simp; omega, by simp only [maxLen]; omega, by simp [size_madeCells, hsz], by simp⟩⟩
    (RepIs.of hrep) (fun x hx => by rw [List.eq_of_mem_replicate hx]; exact hzl)
  refine done_value (c := .slice (some ⟨w.heap.size, 0, none⟩) l.toNat c.toNat) (w' := w.alloc (.cells (madeCells z.cells (c.toNat * i.size)) e)) ?_ (by rw [hd]; exact hs) hK
  simp only [execOp, ho, hx.int.1, hy.int.1, Sem.run_bind, hr, Result.andThen_ok, Sem.run_pure]
end
end Go.Proofs.Ytngefbdedbbplaa.Ai
