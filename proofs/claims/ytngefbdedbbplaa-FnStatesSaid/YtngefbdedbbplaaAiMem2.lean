/- Soundness: fields, elements, lengths, small operations. -/
import Derived.Test.YtngefbdedbbplaaAiMem
set_option linter.unusedSectionVars false
namespace Go.Proofs.Ytngefbdedbbplaa.Ai
open Go Go.RowKit
set_option linter.unusedVariables false
set_option linter.unusedSimpArgs false

section
variable {bb : Bool} {P : Program} {κ : Ctx} [NoZ κ] {η : Own} {s : St} {a : Act} {w : World} {G : Env} {o : Oper} {Q' : Exit → Act → World → Prop}

theorem structOf_spec (hG : EnvOk P G) {t : Nat} {fs : List Field} (h : structOf (G t) = some fs) : ∃ F : Array Field, P.underlying t = some (.struct F) ∧ F.toList = fs := by
  unfold structOf at h
  split at h
  · rename_i F _ _ _ _ _ he
    obtain rfl := Option.some.inj h
    exact ⟨F, (hG t _ he).1, rfl⟩
  · cases h

theorem sliceOf_spec (hG : EnvOk P G) {t e : Nat} {te : TI} (h : sliceOf G t = some (e, te)) : P.underlying t = some (.slice e) ∧ descOk P e te := by
  unfold sliceOf at h
  split at h
  · rename_i e' _ _ _ _ _ he
    split at h
    · rename_i te' hte
      simp only [Option.some.injEq, Prod.mk.injEq] at h
      obtain ⟨rfl, rfl⟩ := h
      exact ⟨(hG t _ he).1, hG _ _ hte⟩
    · cases h
  · cases h

theorem isSlice_spec (hG : EnvOk P G) {t : Nat} (h : isSlice (G t) = true) : ∃ e, P.underlying t = some (.slice e) := by
  unfold isSlice at h
  split at h
  · rename_i e _ _ _ _ _ he; exact ⟨e, (hG t _ he).1⟩
  · cases h
theorem isString_spec (hG : EnvOk P G) {t : Nat} (h : isString (G t) = true) : P.underlying t = some .string := by
  unfold isString at h
  split at h
  · rename_i he; exact (hG t _ he).1
  · cases h

theorem fieldOff_spec {F : Array Field} {f off ft : Nat} (h : fieldOff F.toList f = some (off, ft)) : ∃ fl, F[f]? = some fl ∧ fl.offset = off ∧ fl.type = ft := by
  unfold fieldOff at h
  split at h
  · rename_i fl he
    simp only [Option.some.injEq, Prod.mk.injEq] at h
    exact ⟨fl, by rw [← Array.getElem?_toList]; exact he, h.1, h.2⟩
  · cases h

theorem live_ptr (h : Sim κ η s a w) {id ver sz i off : Nat} {c : Value} (hr : Rep w (imm κ η w) η (.optr id ver sz i off) c) (hl : s.live (.optr id ver sz i off) = true) :
    ∃ g, c = .pointer (some ⟨g, i * sz + off, none⟩) ∧ ∀ x, η.val id = some x → ver = η.cur id → headOf x = some g := by
  have h1 := hr.inv1 (fun _ e => by cases e) (fun _ e => by cases e)
  simp only [St.live] at hl
  cases h1 with
  | imm h1 => cases h1
  | optr _ _ _ _ _ _ hv' hp =>
    have hob := h.heap id
    split at hl
    · cases hl
    · rename_i v' b hb he
      rw [he] at hob
      split at hl
      · rename_i ev
        have hc := hob.ver
        have : ∃ x, η.val id = some x := by
          cases b with
          | dead => exact absurd rfl hb
          | box cs => obtain ⟨_, g, arr, e, h2, _⟩ := hob; exact ⟨_, h2⟩
          | row e sz es => obtain ⟨_, v, vals, h2, _⟩ := hob; exact ⟨_, h2⟩
          | tree e sz es => obtain ⟨_, v, vals, h2, _⟩ := hob; exact ⟨_, h2⟩
          | wild e sz es => obtain ⟨_, v, vals, h2, _⟩ := hob; exact ⟨_, h2⟩
          | iter b pos => obtain ⟨_, g, h2, _⟩ := hob; exact ⟨_, h2⟩
          | map es => obtain ⟨_, g, _, _, _, h2, _⟩ := hob; exact ⟨_, h2⟩
        obtain ⟨x, hx⟩ := this
        obtain ⟨g, hg, rfl⟩ := hp (by rw [hc]; exact ev.symm) x hx
        refine ⟨g, rfl, fun x' hx' _ => ?_⟩
        rw [hx] at hx'
        obtain rfl := Option.some.inj hx'
        exact hg
      · cases hl

theorem run_fieldAt {t : Nat} {F : Array Field} (hu : P.underlying t = some (.struct F)) {fl : Field} {f : Nat} (hf : F[f]? = some fl) {tf : TI} (hd : descOk P fl.type tf) (h0 : tf.size ≠ 0) (g o : Nat) (w : World) :
    (Instr.fieldAt t (.pointer (some ⟨g, o, none⟩)) f).run P w = .ok (.pointer (some ⟨g, o + fl.offset, none⟩)) w := by
  simp only [Instr.fieldAt, Sem.run_bind, run_underlying hu, Result.andThen_ok, hf, Instr.sureAddr, Sem.run_pure, fieldPlace, run_sizeOf hd, if_neg h0, Addr.add_lit]

theorem sound_fieldAddr (hG : EnvOk P G) (h : Sim κ η s a w) {K : St → Prop} (t : Nat) (x : Operand) (f : Nat) (ho : o.op = .fieldAddr t x f)
    (hK : opFieldAddr G t s (s.ev x) f fun v => K (s.put o.dst v)) : o.wp P a w (Then κ K) Q' := by
  have hx := h.ev x
  unfold opFieldAddr at hK
  split at hK
  case h_2 => exact hK.elim
  rename_i fs hfs
  obtain ⟨F, hu, rfl⟩ := structOf_spec hG hfs
  split at hK
  case h_2 => exact hK.elim
  rename_i off ft hff
  obtain ⟨fl, hfl, rfl, rfl⟩ := fieldOff_spec hff
  split at hK
  case h_2 => exact hK.elim
  rename_i tf htf
  have hd := hG _ _ htf
  split at hK
  case isTrue => exact hK.elim
  rename_i h0
  split at hK
  · rename_i cs hv
    split at hK
    case isFalse => exact hK.elim
    rename_i hfit
    rw [hv] at hx
    have hI := hx.invI rfl
    generalize hc : a.eval x = c at *
    cases hI with
    | iptr _ g o' vs hr hI' hcell =>
      refine done_put h (c := .pointer (some ⟨g, o' + fl.offset, none⟩)) ?_ (.of (.iptr _ g (o' + fl.offset) (vs.drop fl.offset) (RepIs.of (hr.all2.drop _)) hI' fun j v hj => ?_)) hK
      · simp only [execOp, ho, hc, Sem.run_bind, run_fieldAt hu hfl hd h0, Result.andThen_ok, Sem.run_pure]
      · rw [List.getElem?_drop] at hj
        rw [Nat.add_assoc]
        exact hcell _ v hj
  · rename_i id ver sz i off hv
    split at hK
    case isFalse => exact hK.elim
    rename_i hl
    rw [hv] at hx
    obtain ⟨g, hc, hg⟩ := live_ptr h hx hl
    refine done_put h (c := .pointer (some ⟨g, i * sz + (off + fl.offset), none⟩)) ?_ (.of1 (.optr _ _ _ _ _ _ ?_ fun he x hx' => ⟨g, hg x hx' he, rfl⟩)) hK
    · simp only [execOp, ho, hc, Sem.run_bind, run_fieldAt hu hfl hd h0, Result.andThen_ok, Sem.run_pure, Nat.add_assoc]
    · have h1 := hx.inv1 (fun _ e => by cases e) (fun _ e => by cases e)
      cases h1 with
      | imm h1 => cases h1
      | optr _ _ _ _ _ _ hv' hp => exact hv'
  · exact hK.elim

theorem sound_field (hG : EnvOk P G) (h : Sim κ η s a w) {K : St → Prop} (t : Nat) (x : Operand) (f : Nat) (ho : o.op = .field t x f)
    (hK : opField G t (s.ev x) f fun v => K (s.put o.dst v)) : o.wp P a w (Then κ K) Q' := by
  have hx := h.ev x
  unfold opField at hK
  split at hK
  case h_2 => exact hK.elim
  rename_i fs hfs
  obtain ⟨F, hu, rfl⟩ := structOf_spec hG hfs
  split at hK
  case h_2 => exact hK.elim
  rename_i off ft hff
  obtain ⟨fl, hfl, rfl, rfl⟩ := fieldOff_spec hff
  split at hK
  case h_2 => exact hK.elim
  rename_i tf htf
  have hd := hG _ _ htf
  split at hK
  case h_2 => exact hK.elim
  rename_i cs hv
  split at hK
  case isFalse => exact hK.elim
  rename_i hfit
  rw [hv] at hx
  obtain ⟨l, hc, hr⟩ := hx.agg_
  have hll := hr.length
  unfold aggOr at hK
  by_cases ha : tf.isAgg = true
  · rw [if_pos ha] at hK
    split at hK
    case isFalse => exact hK.elim
    refine done_put h (c := .agg ((l.drop fl.offset).take tf.size).toArray) ?_ (.one (.agg _ _ ((hr.drop _).take _))) hK
    simp only [execOp, ho, hc, Instr.field, Sem.run_bind, run_underlying hu, Result.andThen_ok, hfl, asAgg, Sem.run_pure, part, run_isAgg hd, ha, if_true, run_sizeOf hd]
    congr 4
    rw [List.extract_toArray, List.extract_eq_take_drop, Nat.add_sub_cancel_left]
  · rw [if_neg ha] at hK
    have ha' : tf.isAgg = false := by simpa using ha
    split at hK
    · rename_i c0 rest hdr
      have h2 := hr.drop fl.offset
      rw [hdr] at h2
      cases hld : l.drop fl.offset with
      | nil => rw [hld] at h2; cases h2
      | cons v vs =>
        rw [hld] at h2
        cases h2 with
        | cons p q =>
          have hv0 : l[fl.offset]? = some v := by
            have := congrArg (fun z => z[0]?) hld
            simpa [List.getElem?_drop] using this
          refine done_put h (c := v) ?_ (.of1 p) hK
          simp [execOp, ho, hc, Instr.field, run_underlying hu, hfl, asAgg, part, run_isAgg hd, ha', hv0]
    · exact hK.elim

theorem run_indexAt {t e : Nat} {te : TI} (hu : P.underlying t = some (.slice e)) (hd : descOk P e te) (g o n c : Nat) (k : IntKind) (i : Int) (h0 : 0 ≤ i) (h1 : i < n) (w : World) :
    (Instr.indexAt t (.slice (some ⟨g, o, none⟩) n c) (.int k i)).run P w = .ok (.pointer (some ⟨g, o + i.toNat * te.size, none⟩)) w := by
  simp [Instr.indexAt, asIntOf, run_underlying hu, h0, h1, run_sizeOf hd, Addr.add_lit]

theorem sound_indexAddr (hG : EnvOk P G) (h : Sim κ η s a w) {K : St → Prop} (t : Nat) (x y : Operand) (ho : o.op = .indexAddr t x y)
    (hK : opIndexAddr (std bb P) G t s (s.ev x) (s.ev y) fun v => K (s.put o.dst v)) : o.wp P a w (Then κ K) Q' := by
  have hx := h.ev x
  have hy := h.ev y
  unfold opIndexAddr at hK
  split at hK
  case h_2 => exact hK.elim
  rename_i e te hsl
  obtain ⟨hu, hd⟩ := sliceOf_spec hG hsl
  split at hK
  case h_2 => exact hK.elim
  rename_i k n hn
  rw [hn] at hy
  obtain ⟨hy, _⟩ := hy.int
  split at hK
  · rename_i sz es hv
    split at hK
    case isFalse => exact hK.elim
    rename_i hsz
    obtain ⟨h0, el, hel, hK⟩ := hK
    rw [hv] at hx
    have hI := hx.invI rfl
    have hlt : n.toNat < es.length := (List.getElem?_eq_some_iff.1 hel).1
    generalize hc : a.eval x = c at *
    cases hI with
    | isl0 => simp at hlt
    | isl _ _ g o' cap vs hl hr hI' hcell hcap hm =>
      obtain ⟨us, hus, hat⟩ := row_elem hl hel hr
      refine done_put h (c := .pointer (some ⟨g, o' + n.toNat * te.size, none⟩)) ?_ (.of (.iptr _ g _ us hus hI' fun j v hj => ?_)) hK
      · simp only [execOp, ho, hc, hy, Sem.run_bind, run_indexAt hu hd g o' es.length cap k n h0 (by omega), Result.andThen_ok, Sem.run_pure]
      · rw [Nat.add_assoc, ← hsz]
        exact hcell _ v (hat j v hj)
  · rename_i id ver hv
    split at hK
    · rename_i v' e' sz es he
      split at hK
      case isFalse => exact hK.elim
      rename_i ev
      split at hK
      case isFalse => exact hK.elim
      rename_i hsz
      obtain ⟨h0, hlt, hK⟩ := hK
      rw [hv] at hx
      have h1 := hx.inv1 (fun _ e => by cases e) (fun _ e => by cases e)
      have hob := h.heap id
      rw [he] at hob
      obtain ⟨hcur, v, vals, hval, hown, hr, hlen⟩ := hob
      generalize hc : a.eval x = c at *
      cases h1 with
      | imm h1 => cases h1
      | osl _ _ _ hv' hp =>
        have hcv := hp (by rw [hcur, ev]) v hval
        subst hcv
        rcases hown.row.2 with ⟨rfl, hn0⟩ | ⟨g, cap, cur, rfl, hB, hh, hcap, hm, hcs, htake⟩
        · omega
        · refine done_put h (c := .pointer (some ⟨g, n.toNat * sz + 0, none⟩)) ?_ (.of1 (.optr _ _ _ _ _ _ hv' fun _ x hx' => ⟨g, ?_, rfl⟩)) hK
          · simp only [execOp, ho, hc, hy, Sem.run_bind, run_indexAt hu hd g 0 es.length cap k n h0 (by omega), Result.andThen_ok, Sem.run_pure, Nat.zero_add, Nat.add_zero, hsz]
          · rw [hval] at hx'
            obtain rfl := Option.some.inj hx'
            rfl
    · exact hK.elim
  · exact hK.elim

theorem sound_nilCheck (h : Sim κ η s a w) {K : St → Prop} (x : Operand) (ho : o.op = .nilCheck x) (hK : op (std bb P) G o s K) : o.wp P a w (Then κ K) Q' := by
  have hx := h.ev x
  simp only [op, ho] at hK
  split at hK
  · rename_i cs hv
    rw [hv] at hx
    have hI := hx.invI rfl
    generalize hc : a.eval x = c at *
    refine done_put h (c := c) ?_ hx hK
    cases hI
    simp [execOp, ho, hc]
  · rename_i id ver sz i off hv
    split at hK
    · rename_i v' cs he
      split at hK
      case isFalse => exact hK.elim
      rename_i ev
      rw [hv] at hx
      obtain ⟨g, hc, _⟩ := live_ptr h hx (by simp [St.live, he, ev])
      refine done_put h (c := a.eval x) ?_ hx hK
      simp [execOp, ho, hc]
    · exact hK.elim
  · exact hK.elim

theorem sound_extract (h : Sim κ η s a w) {K : St → Prop} (x : Operand) (i : Nat) (ho : o.op = .extract x i) (hK : op (std bb P) G o s K) : o.wp P a w (Then κ K) Q' := by
  have hx := h.ev x
  simp only [op, ho] at hK
  split at hK
  · rename_i vs hv
    rw [hv] at hx
    obtain ⟨l, hc, hr⟩ := hx.tup_
    split at hK
    · rename_i v hvi
      obtain ⟨c, hci, hrc⟩ := hr.get hvi
      refine done_put h (c := c) ?_ (.one hrc) hK
      have hci' : l.toArray[i]? = some c := by simpa using hci
      simp [execOp, ho, hc, Instr.extract, hci]
    · exact hK.elim
  · exact hK.elim

theorem sound_index (hG : EnvOk P G) (h : Sim κ η s a w) {K : St → Prop} (t : Nat) (x y : Operand) (ho : o.op = .index t x y) (hK : op (std bb P) G o s K) : o.wp P a w (Then κ K) Q' := by
  have hx := h.ev x
  have hy := h.ev y
  simp only [op, ho] at hK
  split at hK
  · rename_i b k n hv hn
    split at hK
    case isFalse => exact hK.elim
    rename_i hs
    have hu := isString_spec hG hs
    obtain ⟨h0, c, hc, hK⟩ := hK
    rw [hv] at hx
    rw [hn] at hy
    obtain ⟨hx, _⟩ := hx.str
    obtain ⟨hy, _⟩ := hy.int
    refine done_put h (c := .int .u8 c.toNat) ?_ (.of (.int _ _ ?_)) hK
    · have hg : (⟨b.toArray⟩ : ByteArray)[n.toNat]? = some c := by
        have hlt : n.toNat < b.length := (List.getElem?_eq_some_iff.1 hc).1
        rw [getElem?_pos (⟨b.toArray⟩ : ByteArray) n.toNat (by simpa [ByteArray.size] using hlt)]
        congr 1
        exact (List.getElem?_eq_some_iff.1 hc).2
      simp [execOp, ho, hx, hy, Instr.index, asIntOf, run_underlying hu, h0, hg]
    · have := c.toNat_lt
      simp only [IntKind.wrap, IntKind.bits, IntKind.signed]
      simp
      omega
  · exact hK.elim

theorem isBytes_spec {d : TypeDesc} (h : isBytes G d = true) : ∃ e te, d = .slice e ∧ G e = some te ∧ te.desc = .int .u8 := by
  unfold isBytes at h
  split at h
  · rename_i e
    split at h
    · rename_i he
      exact ⟨e, _, rfl, he, rfl⟩
    · cases h
  · cases h

theorem repIs_u8 {I : Nat → Prop} : ∀ {l : List Int} {vs : List Value}, RepIs w I (l.map fun n => [PV.int .u8 n]).flatten vs → vs = l.map (Value.int .u8)
  | [], vs, h => by cases h; rfl
  | n :: r, vs, h => by
    simp only [List.map_cons, List.flatten_cons, List.cons_append, List.nil_append] at h
    cases h with
    | cons h1 h2 =>
      cases h1 with
      | int k n hk => rw [repIs_u8 h2]; rfl

theorem foldl_push (ns : List Int) : ∀ (s : List UInt8), ns.foldl (fun (r : ByteArray) n => r.push (UInt8.ofNat n.toNat)) ⟨s.toArray⟩ = ⟨(s ++ ns.map fun n => UInt8.ofNat n.toNat).toArray⟩ := by
  induction ns with
  | nil => intro s; simp
  | cons n r ih =>
    intro s
    rw [List.foldl_cons]
    have : (⟨s.toArray⟩ : ByteArray).push (UInt8.ofNat n.toNat) = ⟨(s ++ [UInt8.ofNat n.toNat]).toArray⟩ := by simp [ByteArray.push]
    rw [this, ih]
    simp

/-- Bytes that become a string. -/
theorem conv_str (h : Sim κ η s a w) {K : St → Prop} {src dst e : Nat} {x : Operand} {ds de dd : TypeDesc} (ho : o.op = .convert src dst x) (h1 : P.underlying src = some ds) (h2 : ds = .slice e)
    (h3 : P.underlying e = some de) (h4 : de = .int .u8) (h5 : P.underlying dst = some dd) (h6 : dd = .string) {c : Value} (hc : a.eval x = c) {l : List Int}
    (hl : ∃ A cap, c = .slice A l.length cap ∧ (A = none → l = []) ∧ (∀ g, A = some g → ∀ j v, (l.map (Value.int .u8))[j]? = some v → w.cell? (g.add j) = some v) ∧ l.length ≤ maxLen)
    (hK : K (s.put o.dst (.str (l.map fun n => UInt8.ofNat n.toNat)))) : o.wp P a w (Then κ K) Q' := by
  subst h2 h4 h6
  obtain ⟨A, cap, rfl, hn, hs, hm⟩ := hl
  refine done_put h (c := .string ⟨(l.map fun n => UInt8.ofNat n.toNat).toArray⟩) ?_ (.of (.str _ (by rw [List.length_map]; exact hm))) hK
  have hb : (Conv.bytesToString (.slice A l.length cap)).run P w = .ok (.string ⟨(l.map fun n => UInt8.ofNat n.toNat).toArray⟩) w := by
    cases A with
    | none =>
      rw [hn rfl]
      simp [Conv.bytesToString, Sem.run_pure]
      rfl
    | some g =>
      have hload := run_loadCells_list (P := P) w g (l.map (Value.int .u8)) (hs g rfl)
      rw [List.length_map] at hload
      rw [run_bytesToString w g l.length cap l hload]
      have := foldl_push l []
      rw [List.nil_append] at this
      rw [← this]; rfl
  simp only [execOp, ho, hc]
  simp [run_convert_bytes_string w src dst e A l.length cap h1 h3 h5, hb]

theorem sound_convert (hG : EnvOk P G) (h : Sim κ η s a w) {K : St → Prop} (src dst : Nat) (x : Operand) (ho : o.op = .convert src dst x)
    (hK : opConvert (std bb P) G src dst s (s.ev x) fun v => K (s.put o.dst v)) : o.wp P a w (Then κ K) Q' := by
  have hx := h.ev x
  unfold opConvert at hK
  split at hK
  case h_2 => exact hK.elim
  rename_i ts hts
  split at hK
  case h_2 => exact hK.elim
  rename_i td htd
  split at hK
  · rename_i k k' n hk hv
    rw [hv] at hx
    obtain ⟨hx, _⟩ := hx.int
    refine done_put h (c := .int k (k.wrap n)) ?_ (repInt _ _) hK
    have h1 := (hG _ _ hts).1
    have h2 := (hG _ _ htd).1
    rw [hk] at h2
    simp [execOp, ho, hx, convert, run_underlying h1, run_underlying h2, Conv.intToInt]
  · rename_i sz es hd hv
    split at hK
    case isFalse => exact hK.elim
    rename_i hb
    obtain ⟨e, te, h1, hte, h3⟩ := isBytes_spec hb
    obtain ⟨l, he, hK⟩ := hK
    rw [hv] at hx
    have hI := hx.invI rfl
    generalize hc : a.eval x = c at *
    have hlo : ∃ A cap, c = .slice A l.length cap ∧ (A = none → l = []) ∧ (∀ g, A = some g → ∀ j v, (l.map (Value.int .u8))[j]? = some v → w.cell? (g.add j) = some v) ∧ l.length ≤ maxLen := by
      cases hI with
      | isl0 _ A cap hm =>
        have hl : l = [] := by cases l with | nil => rfl | cons _ _ => simp at he
        subst hl
        exact ⟨A, cap, rfl, (fun _ => rfl), (fun g _ j v hj => by simp at hj), Nat.zero_le _⟩
      | isl _ _ g o' cap vs hl hr hI' hcell hcap hm =>
        subst he
        rw [List.length_map] at hcap
        refine ⟨_, cap, by rw [List.length_map], (fun h => by cases h), (fun g' hg j v hj => ?_), Nat.le_trans hcap hm⟩
        obtain rfl := Option.some.inj hg
        rw [Addr.add_lit]
        exact hcell j v (by rw [repIs_u8 hr]; exact hj)
    exact conv_str h ho (hG _ _ hts).1 h1 (hG _ _ hte).1 h3 (hG _ _ htd).1 hd hc hlo hK
  · rename_i id ver hd hv
    split at hK
    case isFalse => exact hK.elim
    rename_i hb
    obtain ⟨e, te, h1, hte, h3⟩ := isBytes_spec hb
    split at hK
    case h_2 => exact hK.elim
    rename_i v0 e0 z es he0
    split at hK
    case isFalse => exact hK.elim
    rename_i ev
    subst ev
    obtain ⟨l, he, hK⟩ := hK
    rw [hv] at hx
    have hob := h.heap id
    rw [he0] at hob
    obtain ⟨hcur, v, vals, hval, hown, hr, hlen⟩ := hob
    have hxv : a.eval x = v := by
      have h1 := hx.inv1 (fun _ e => by cases e) (fun _ e => by cases e)
      generalize a.eval x = c at *
      cases h1 with
      | imm h1 => cases h1
      | osl _ _ _ hv' hp => exact hp hcur.symm v hval
    have hlo : ∃ A cap, v = .slice A l.length cap ∧ (A = none → l = []) ∧ (∀ g, A = some g → ∀ j v, (l.map (Value.int .u8))[j]? = some v → w.cell? (g.add j) = some v) ∧ l.length ≤ maxLen := by
      subst he
      rcases hown.row.2 with ⟨rfl, hn⟩ | ⟨g, cap, cur, rfl, hB, hh, hcap, hm, hcs, htake⟩
      · have hl : l = [] := by simpa using hn
        subst hl
        exact ⟨none, 0, rfl, (fun _ => rfl), (fun g h => by cases h), Nat.zero_le _⟩
      · rw [List.length_map] at hcap
        refine ⟨_, cap, by rw [List.length_map], (fun h => by cases h), (fun g' hg j v hj => ?_), Nat.le_trans hcap hm⟩
        obtain rfl := Option.some.inj hg
        rw [Addr.add_lit, Nat.zero_add, cell_of_row w g j cur _ _ hh]
        rw [← repIs_u8 hr, ← htake, ← Array.getElem?_toList] at *
        rw [List.getElem?_take] at hj
        split at hj
        · exact hj
        · cases hj
    exact conv_str h ho (hG _ _ hts).1 h1 (hG _ _ hte).1 h3 (hG _ _ htd).1 hd hxv hlo hK
  · exact hK.elim
end
end Go.Proofs.Ytngefbdedbbplaa.Ai
