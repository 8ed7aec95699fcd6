/- Soundness: append, cutting, lengths, the greater and the lesser. -/
import Derived.Test.YtngefbdedbbplaaAiMem3
import Derived.Laws.Cover1
set_option linter.unusedSectionVars false
namespace Go.Proofs.Ytngefbdedbbplaa.Ai
open Go Go.RowKit
set_option linter.unusedVariables false
set_option linter.unusedSimpArgs false

section
variable {bb : Bool} {P : Program} {κ : Ctx} [NoZ κ] {η : Own} {s : St} {a : Act} {w : World} {G : Env} {o : Oper} {Q' : Exit → Act → World → Prop}

/-- What is appended: cells that lie in memory, or nothing. -/
structure Source (w : World) (I : Nat → Prop) (sz : Nat) (more : List (List PV)) (c : Value) : Prop where
  len : ∀ x ∈ more, x.length = sz
  form : ∃ (A : Option Addr) (cap : Nat) (news : List Value), c = .slice A more.length cap ∧ RepIs w I more.flatten news ∧
    (more = [] ∨ ∃ ad, A = some ad ∧ ∀ j u, news[j]? = some u → w.cell? (ad.add j) = some u)

theorem source (h : Sim κ η s a w) {e sz : Nat} {y : PV} {c : Value} {more : List (List PV)} (hy : Rep w (imm κ η w) η y c) (hm : moreOf s e sz y = some more) : Source w (imm κ η w) sz more c := by
  unfold moreOf at hm
  split at hm
  · obtain rfl := Option.some.inj hm
    exact ⟨by simp, none, 0, [], hy.nil, .nil, .inl rfl⟩
  · rename_i z es
    split at hm
    case isFalse => cases hm
    rename_i hz
    subst hz
    obtain rfl := Option.some.inj hm
    have hI := hy.invI rfl
    cases hI with
    | isl0 _ A cap hcap => exact ⟨by simp, A, cap, [], rfl, .nil, .inl rfl⟩
    | isl _ _ g o' cap vs hl hr hI' hcell hc hm => exact ⟨hl, _, cap, vs, rfl, hr, .inr ⟨_, rfl, fun j u hj => by rw [Addr.add_lit]; exact hcell j u hj⟩⟩
  · rename_i id ver
    split at hm
    case h_2 => cases hm
    rename_i v' e' z es he
    split at hm
    case isFalse => cases hm
    rename_i ev
    split at hm
    case isFalse => cases hm
    rename_i ee
    split at hm
    case isFalse => cases hm
    rename_i hz
    subst hz
    obtain rfl := Option.some.inj hm
    have hob := h.heap id
    rw [he] at hob
    obtain ⟨hcur, v, vals, hval, ⟨hown, hside⟩, hr, hlen⟩ := hob
    have h1 := hy.inv1 (fun _ e => by cases e) (fun _ e => by cases e)
    cases h1 with
    | imm h1 => cases h1
    | osl _ _ _ hv' hp =>
      obtain rfl := hp (by rw [hcur, ev]) v hval
      have hc := fun g => own_cell (g := g) hown
      rcases hown.2 with ⟨rfl, hn⟩ | ⟨g, cap, cur, rfl, hB, hh, hcap, hm, hcs, htake⟩
      · obtain rfl := List.eq_nil_of_length_eq_zero hn
        exact ⟨by simp, none, 0, [], rfl, .nil, .inl rfl⟩
      · exact ⟨hlen, _, cap, vals, rfl, hr, .inr ⟨_, rfl, fun j u hj => by rw [Addr.add_lit, Nat.zero_add]; exact hc g rfl j u hj⟩⟩
  · cases hm

theorem run_append_src {t ty e : Nat} {te : TI} (hu : P.underlying t = some (.slice e)) (hd : descOk P e te) (h0 : te.size ≠ 0) {base : Nat} {v : Value} {n : Nat} {xs : List Value} (hown : w.ownsRow base e te.size v n xs)
    (hbase : base ≤ w.heap.size) {I : Nat → Prop} {more : List (List PV)} {c : Value} (hs : Source w I te.size more c) (hb : (n + more.length) * te.bytes ≤ 140737488355328) (hn : n + more.length ≤ sizeBound) :
    ∃ v' w' news, (Builtin.append_ #[t, t] ty #[v, c]).run P w = .ok v' w' ∧ RepIs w I more.flatten news ∧ w'.ownsRow base e te.size v' (n + more.length) (xs ++ news) ∧ w.grownBy w' v.ownBlock ∧
      (v'.ownBlock = v.ownBlock ∨ v'.ownBlock = some w.heap.size) := by
  obtain ⟨i, z, hi, hz, hzr, hsz, hby, hzs, hrun⟩ := run_zeroValue hd
  obtain ⟨hlen, A, cap, news, rfl, hr, hA⟩ := hs
  have hnl : news.length = more.length * te.size := by rw [← flat_length hlen, hr.all2.length]
  unfold sizeBound at hn
  rcases hA with rfl | ⟨ad, rfl, hc⟩
  · have hn0 : news = [] := List.eq_nil_of_length_eq_zero (by simpa using hnl)
    subst hn0
    cases A with
    | some ad =>
      obtain ⟨v', w', h1, h2, h3, _, h5⟩ := run_append_own_at (P := P) w base t ty e i z te.size te.bytes hu hi hz hsz hby hzs (by omega) v n xs hown ad 0 cap [] (by simp) (by simp) (by simp)
        (by simp only [maxLen]; omega) (by simpa using hb) hbase
      exact ⟨v', w', [], h1, hr, h2, h3, h5⟩
    | none =>
      refine ⟨v, w, [], ?_, hr, by simpa using hown, World.grownBy.refl w _, .inl rfl⟩
      rcases hown.2 with ⟨rfl, rfl⟩ | ⟨g, cap', cur, rfl, hB, hh, hcap, hm, hcs, htake⟩
      · simp [Builtin.append_, run_underlying hu, sizeOf, typeInfo, hi, Builtin.lenOf, Builtin.firstCells]
      · simp [Builtin.append_, run_underlying hu, sizeOf, typeInfo, hi, Builtin.lenOf, Builtin.firstCells, hcap, storeCells]
  · obtain ⟨v', w', h1, h2, h3, _, h5⟩ := run_append_own_at (P := P) w base t ty e i z te.size te.bytes hu hi hz hsz hby hzs (by omega) v n xs hown ad more.length cap news hnl hc hr.oneCell
      (by simp only [maxLen]; omega) hb hbase
    exact ⟨v', w', news, h1, hr, h2, h3, h5⟩

theorem headOf_ownBlock {w : World} {base e sz n : Nat} {v : Value} {xs : List Value} (h : w.ownsRow base e sz v n xs) : headOf v = v.ownBlock := by
  rcases h.2 with ⟨rfl, _⟩ | ⟨g, cap, cur, rfl, _⟩ <;> rfl

theorem execOp_builtin {b : Builtin} {args : Array Operand} {ts : Array TypeId} (ho : o.op = .call { callee := .builtin b, args := args, argTypes := ts }) :
    execOp a.eval o = builtin b ts o.type (args.map fun | .const _ => true | _ => false) (args.map a.eval) := by
  simp [execOp, ho, resolve, invoke]
  rfl

theorem sound_append (hG : EnvOk P G) (h : Sim κ η s a w) {K : St → Prop} (t : Nat) (x y : Operand) (ho : o.op = .call { callee := .builtin .append, args := #[x, y], argTypes := #[t, t] })
    (hK : opAppend (std bb P) G t s (s.ev x) (s.ev y) o.dst K) : o.wp P a w (Then κ K) Q' := by
  have hx := h.ev x
  have hy := h.ev y
  unfold opAppend at hK
  split at hK
  case h_1 => exact hK.elim
  rename_i d hd
  split at hK
  case h_2 => exact hK.elim
  rename_i e te hsl
  obtain ⟨hu, hde⟩ := sliceOf_spec hG hsl
  split at hK
  case isTrue => exact hK.elim
  rename_i h0
  split at hK
  case h_2 => exact hK.elim
  rename_i more hmore
  have hsrc := source h hy hmore
  have hrunop : ∀ v' w', (Builtin.append_ #[t, t] o.type #[a.eval x, a.eval y]).run P w = .ok v' w' → (execOp a.eval o).run P w = .ok (.value v') w' := by
    intro v' w' hr
    rw [execOp_builtin ho]
    simp [builtin, hr]
  split at hK
  · rename_i hv
    obtain ⟨hb, hn, hK⟩ := hK
    simp only [List.nil_append] at hK
    rw [hv] at hx
    obtain ⟨v', w', news, hr, hnews, hown', hg, hat⟩ := run_append_src (ty := o.type) hu hde h0 (World.ownsRow_nil w κ.B e te.size) h.kept.size hsrc (by simpa using hb) (by simpa using hn)
    simp only [Nat.zero_add, List.nil_append] at hown'
    have hw : ∀ k, k < w.heap.size → w'.heap[k]? = w.heap[k]? := fun k hk => hg.block k hk (by simp [Value.ownBlock])
    obtain ⟨η', hs⟩ := h.row (w' := w') d e te.size more v' news hw hg.size (h.kept.step hg.os hg.tape hg.output hg.size fun k hk _ => hw k (Nat.lt_of_lt_of_le hk h.kept.size))
      (fun g hgh => by
        rw [headOf_ownBlock hown'] at hgh
        rcases hat with e1 | e1 <;> rw [e1] at hgh
        · cases hgh
        · obtain rfl := Option.some.inj hgh; exact Nat.le_refl _) hown' hnews hsrc.len
    exact done_value (c := v') (hrunop _ _ (by rw [hx.nil]; exact hr)) (by rw [hd]; exact hs) hK
  · rename_i id ver hv
    split at hK
    case h_2 => exact hK.elim
    rename_i v0 e0 z es he
    split at hK
    case isFalse => exact hK.elim
    rename_i ev
    split at hK
    case isFalse => exact hK.elim
    rename_i ee
    split at hK
    case isFalse => exact hK.elim
    rename_i ez
    subst ev ee ez
    obtain ⟨hb, hn, hK⟩ := hK
    simp only at hK
    rw [hv] at hx
    have hob := h.heap id
    rw [he] at hob
    obtain ⟨hcur, v, vals, hval, ⟨hown, hside⟩, hr, hlen⟩ := hob
    have hxv : a.eval x = v := by
      have h1 := hx.inv1 (fun _ e => by cases e) (fun _ e => by cases e)
      generalize a.eval x = c at *
      cases h1 with
      | imm h1 => cases h1
      | osl _ _ _ hv' hp => exact hp hcur.symm v hval
    obtain ⟨v', w', news, hrun, hnews, hown', hg, hat⟩ := run_append_src (ty := o.type) hu hde h0 hown (Nat.zero_le _) hsrc (by simpa using hb) (by simpa using hn)
    have hh := headOf_ownBlock hown
    have hh' := headOf_ownBlock hown'
    obtain ⟨hs1, hI⟩ := h.grow id v0 (.row e0 te.size (es ++ more)) v v' hcur hval (by rw [hh]; exact hg)
      hside.new
      (fun g hgv => by
        rw [hh'] at hgv
        rcases hat with e1 | e1 <;> rw [e1] at hgv
        · rw [hh]; exact .inl hgv
        · obtain rfl := Option.some.inj hgv; exact .inr (Nat.le_refl _))
      (fun η' hle hI hc hv => ⟨hc, v', vals ++ news, hv, ⟨by simpa using hown', ⟨fun g hgv => by
          rw [hh'] at hgv
          rcases hat with e1 | e1 <;> rw [e1] at hgv
          · exact hside.new g (by rw [hh]; exact hgv)
          · obtain rfl := Option.some.inj hgv; exact .inl h.kept.size, fun _ _ h => by cases h⟩⟩, by
        rw [List.flatten_append]
        exact RepIs.of (((hr.mono hI).all2).app ((hnews.mono hI).all2)), fun x hx => by
          rcases List.mem_append.1 hx with hx | hx
          · exact hlen x hx
          · exact hsrc.len x hx⟩)
    obtain ⟨η2, hs2, hle2, hI2, hv2, hc2⟩ := hs1.rename id (8 * d) (v0 + 1) e0 te.size (es ++ more) (by simp [Heap.get_put]) (v := v') Own.set_o
    refine done_value (c := v') (hrunop _ _ (by rw [hxv]; exact hrun)) (s' := bind ⟨s.T, s.H.put id (v0 + 1, .dead)⟩ (some d) (.fr e0 te.size (es ++ more))) (η' := η2) ?_ hK
    have hH : (s.H.put id (v0 + 1, Body.row e0 te.size (es ++ more))).put id (v0 + 1, .dead) = s.H.put id (v0 + 1, .dead) := by
      have : ∀ (H : Heap) (x y : Nat × Body), (H.put id x).put id y = H.put id y := by
        intro H x y
        induction H with
        | nil => simp [Heap.put]
        | cons q r ih =>
          obtain ⟨i, u, b⟩ := q
          simp only [Heap.put]
          by_cases e : i = id
          · simp [e, Heap.put]
          · simp [e, Heap.put, ih]
      exact this _ _ _
    rw [hH] at hs2 hc2
    rw [hd]
    refine hs2.put (some d) (.of1 (.osl _ _ _ ?_ ?_))
    · rw [hc2]; exact Nat.le_refl _
    · intro _ x hx
      rw [hv2] at hx
      exact Option.some.inj hx
  · exact hK.elim

theorem sound_len (hG : EnvOk P G) (h : Sim κ η s a w) {K : St → Prop} (t : Nat) (x : Operand) (ho : o.op = .call { callee := .builtin .len, args := #[x], argTypes := #[t] })
    (hK : opLen (std bb P) G t s (s.ev x) fun v => K (s.put o.dst v)) : o.wp P a w (Then κ K) Q' := by
  have hx := h.ev x
  have hrunop : ∀ c, (Builtin.len_ #[t] o.type #[a.eval x]).run P w = .ok c w → (execOp a.eval o).run P w = .ok (.value c) w := by
    intro c hr
    rw [execOp_builtin ho]
    simp [builtin, hr]
  have hrs : ∀ e A n cap, P.underlying t = some (.slice e) → a.eval x = .slice A n cap → (Builtin.len_ #[t] o.type #[a.eval x]).run P w = .ok (.int .i64 n) w := by
    intro e A n cap hu hv
    rw [hv]
    simp [Builtin.len_, run_underlying hu, goInt]
  have hint : ∀ n : Nat, n ≤ maxLen → Rep w (imm κ η w) η (.int .i64 n) (.int .i64 n) := fun n hn => .of (.int _ _ (by
    unfold maxLen at hn
    rw [IntKind.wrap_i64]
    omega))
  unfold opLen at hK
  split at hK
  · rename_i hv
    split at hK
    case isFalse => exact hK.elim
    rename_i hs
    obtain ⟨e, hu⟩ := isSlice_spec hG hs
    rw [hv] at hx
    exact done_put h (hrunop _ (hrs e none 0 0 hu hx.nil)) (hint 0 (Nat.zero_le _)) hK
  · rename_i b hv
    split at hK
    case isFalse => exact hK.elim
    rename_i hs
    have hu := isString_spec hG hs
    rw [hv] at hx
    obtain ⟨hx, hl⟩ := hx.str
    refine done_put h (c := .int .i64 b.length) (hrunop _ ?_) (hint _ hl) (std_len hK hl)
    rw [hx]
    have hsz : (⟨b.toArray⟩ : ByteArray).size = b.length := by simp [ByteArray.size]
    simp [Builtin.len_, run_underlying hu, goInt, hsz]
  · rename_i sz es hv
    split at hK
    case isFalse => exact hK.elim
    rename_i hs
    obtain ⟨e, hu⟩ := isSlice_spec hG hs
    rw [hv] at hx
    have hI := hx.invI rfl
    generalize hc : a.eval x = c at *
    cases hI with
    | isl0 _ A cap hm => exact done_put h (hrunop _ (hrs e A 0 cap hu rfl)) (hint 0 (Nat.zero_le _)) (std_len hK (Nat.zero_le _))
    | isl _ _ g o' cap vs hl hr hI' hcell hcap hm =>
      have hle : es.length ≤ maxLen := Nat.le_trans hcap hm
      exact done_put h (hrunop _ (hrs e _ _ cap hu rfl)) (hint _ hle) (std_len hK hle)
  · rename_i id ver hv
    split at hK
    case isFalse => exact hK.elim
    rename_i hs
    obtain ⟨e, hu⟩ := isSlice_spec hG hs
    split at hK
    case h_2 => exact hK.elim
    rename_i v0 e0 z es he
    split at hK
    case isFalse => exact hK.elim
    rename_i ev
    subst ev
    rw [hv] at hx
    have hob := h.heap id
    rw [he] at hob
    obtain ⟨hcur, v, vals, hval, ⟨hown, hside⟩, hr, hlen⟩ := hob
    have hxv : a.eval x = v := by
      have h1 := hx.inv1 (fun _ e => by cases e) (fun _ e => by cases e)
      generalize a.eval x = c at *
      cases h1 with
      | imm h1 => cases h1
      | osl _ _ _ hv' hp => exact hp hcur.symm v hval
    rcases hown.2 with ⟨rfl, hn⟩ | ⟨g, cap, cur, rfl, hB, hh, hcap, hm, hcs, htake⟩
    · rw [hn] at hK
      exact done_put h (hrunop _ (hrs e _ _ _ hu hxv)) (hint 0 (Nat.zero_le _)) (std_len hK (Nat.zero_le _))
    · have hle : es.length ≤ maxLen := Nat.le_trans hcap hm
      exact done_put h (hrunop _ (hrs e _ _ _ hu hxv)) (hint _ hle) (std_len hK hle)
  · exact hK.elim

theorem sound_minmax (h : Sim κ η s a w) {K : St → Prop} (mx : Bool) (x y : Operand) (ts : Array TypeId) (ho : o.op = .call { callee := .builtin (if mx then .max else .min), args := #[x, y], argTypes := ts })
    {k k' : IntKind} {m n : Int} (hvx : s.ev x = .int k m) (hvy : s.ev y = .int k' n) (hkk : k = k') (hK : std bb P (.minmax mx k m n) fun v => K (s.put o.dst v)) : o.wp P a w (Then κ K) Q' := by
  have hx := h.ev x
  have hy := h.ev y
  rw [hvx] at hx
  rw [hvy] at hy
  subst hkk
  obtain ⟨hx, hwx⟩ := hx.int
  obtain ⟨hy, hwy⟩ := hy.int
  refine done_put h (c := .int k (if mx then (if n > m then n else m) else (if n < m then n else m))) ?_ (.of (.int _ _ ?_)) hK
  · rw [execOp_builtin ho]
    cases mx
    · simp [builtin, hx, hy, run_min_int2]
    · simp [builtin, hx, hy, run_max_int2]
  · (repeat' split) <;> assumption
theorem sound_minmax3 (h : Sim κ η s a w) {K : St → Prop} (mx : Bool) (x y z : Operand) (ts : Array TypeId) (ho : o.op = .call { callee := .builtin (if mx then .max else .min), args := #[x, y, z], argTypes := ts })
    {k k' k2 : IntKind} {m n r : Int} (hvx : s.ev x = .int k m) (hvy : s.ev y = .int k' n) (hvz : s.ev z = .int k2 r) (hkk : k = k') (hk2 : k = k2) (hK : std bb P (.minmax mx k m n) fun v => match v with
      | .int _ q => std bb P (.minmax mx k q r) fun v => K (s.put o.dst v)
      | _ => False) : o.wp P a w (Then κ K) Q' := by
  have hx := h.ev x
  have hy := h.ev y
  have hz := h.ev z
  rw [hvx] at hx
  rw [hvy] at hy
  rw [hvz] at hz
  subst hkk hk2
  obtain ⟨hx, hwx⟩ := hx.int
  obtain ⟨hy, hwy⟩ := hy.int
  obtain ⟨hz, hwz⟩ := hz.int
  cases mx
  · refine done_put h (c := .int k (if r < (if n < m then n else m) then r else (if n < m then n else m))) ?_ (.of (.int _ _ ?_)) hK
    · rw [execOp_builtin ho]
      simp [builtin, hx, hy, hz, run_min_int3]
    · (repeat' split) <;> assumption
  · refine done_put h (c := .int k (if r > (if n > m then n else m) then r else (if n > m then n else m))) ?_ (.of (.int _ _ ?_)) hK
    · rw [execOp_builtin ho]
      simp [builtin, hx, hy, hz, run_max_int3]
    · (repeat' split) <;> assumption
end
end Go.Proofs.Ytngefbdedbbplaa.Ai
