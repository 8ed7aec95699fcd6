/- Soundness of the abstract machine: methods that write their receiver; regions; code; functions; loops. -/
import Derived.Test.YtngefbdedbbplaaAiCall
set_option linter.unusedSectionVars false
namespace Go.Proofs.Ytngefbdedbbplaa.Ai
open Go Go.RowKit
set_option linter.unusedVariables false
set_option linter.unusedSimpArgs false

section
variable {bb : Bool} {P : Program} {κ : Ctx} [NoZ κ] {η : Own} {s : St} {a : Act} {w : World} {G : Env} {o : Oper} {Q' : Exit → Act → World → Prop}

theorem pargs_sound : ∀ {ps qs : List PV} {s s' : St} {η : Own} {vs : List Value} (_ : Sim κ η s a w) (_ : All2 (Rep w (imm κ η w) η) ps vs) (_ : pargs ps s = some (qs, s')),
    ∃ η', Sim κ η' s' a w ∧ All2 (RepArg w (imm κ η' w)) qs vs ∧ η.le η' ∧ ∀ g, imm κ η w g → imm κ η' w g
  | [], _, _, _, _, _, h, .nil, he => by
    simp only [pargs, Option.some.injEq, Prod.mk.injEq] at he
    obtain ⟨rfl, rfl⟩ := he
    exact ⟨_, h, .nil, Own.le_refl _, fun _ hg => hg⟩
  | p :: ps, _, _, _, _, _, h, .cons hp hr, he => by
    have weak : ∀ {η1 η2 : Own} {q : PV} {c : Value}, RepArg w (imm κ η1 w) q c → (∀ g, imm κ η1 w g → imm κ η2 w g) → RepArg w (imm κ η2 w) q c := fun h1 h2 => by
      cases h1 with
      | one h1 => exact .one (h1.weak h2)
      | agg cs vs h1 => exact .agg cs vs (h1.weak h2)
    simp only [pargs] at he
    split at he
    · rename_i cs
      split at he
      case h_2 => cases he
      rename_i cs' s1 h1
      split at he
      case h_2 => cases he
      rename_i r' s2 h2
      simp only [Option.some.injEq, Prod.mk.injEq] at he
      obtain ⟨rfl, rfl⟩ := he
      obtain ⟨l, rfl, hcs⟩ := hp.agg_
      obtain ⟨η1, hs1, hr1, hle1, hI1⟩ := toPures_sound h hcs h1
      obtain ⟨η2, hs2, hr2, hle2, hI2⟩ := pargs_sound hs1 (hr.mono fun _ _ x => x.mono (fun g hg => ⟨hI1 g hg, rfl⟩) hle1) h2
      exact ⟨η2, hs2, .cons (.agg _ _ (hr1.weak hI2)) hr2, Own.le_trans hle1 hle2, fun g hg => hI2 g (hI1 g hg)⟩
    · rename_i hna
      split at he
      case h_2 => cases he
      rename_i v' s1 h1
      split at he
      case h_2 => cases he
      rename_i r' s2 h2
      simp only [Option.some.injEq, Prod.mk.injEq] at he
      obtain ⟨rfl, rfl⟩ := he
      cases hp with
      | one hp => cases hp with
        | one hp =>
          obtain ⟨η1, hs1, hr1, hle1, hI1⟩ := toPure_sound h hp h1
          obtain ⟨η2, hs2, hr2, hle2, hI2⟩ := pargs_sound hs1 (hr.mono fun _ _ x => x.mono (fun g hg => ⟨hI1 g hg, rfl⟩) hle1) h2
          exact ⟨η2, hs2, .cons (.one (hr1.weak hI2)) hr2, Own.le_trans hle1 hle2, fun g hg => hI2 g (hI1 g hg)⟩
        | agg cs vs hr => exact absurd rfl (hna cs)
      | tup cs vs hr => simp [toPure, PV.pure] at h1

theorem rep_pures {I : Nat → Prop} : ∀ {ps : List PV} {vs : List Value}, All2 (Rep1 w I η) ps vs → ps.all PV.pure = true → RepIs w I ps vs
  | _, _, .nil, _ => .nil
  | _, _, .cons p q, h => by
    simp only [List.all_cons, Bool.and_eq_true] at h
    exact .cons ((Rep.of1 p).invI h.1) (rep_pures q h.2)

theorem toPureN_sound {p p' : PV} {s' : St} {c : Value} (h : Sim κ η s a w) (hp : Rep w (imm κ η w) η p c) (he : toPureN p s = some (p', s')) :
    ∃ η', Sim κ η' s' a w ∧ RepArg w (imm κ η' w) p' c ∧ η.le η' ∧ ∀ g, imm κ η w g → imm κ η' w g := by
  unfold toPureN at he
  split at he
  · rename_i hall
    obtain ⟨rfl, rfl⟩ := Prod.mk.inj (Option.some.inj he)
    refine ⟨η, h, ?_, Own.le_refl _, fun _ hg => hg⟩
    cases hp with
    | one hp => cases hp with
      | one hp =>
        refine .one ((Rep.of1 hp).invI ?_)
        cases p <;> first | (simpa [PV.cells] using hall) | (cases hp with | imm h => cases h)
      | agg cs vs hr => exact .agg cs vs (rep_pures hr (by simpa [PV.cells] using hall))
    | tup cs vs hr => simp [PV.cells, PV.pure] at hall
  · cases p
    case osl id ver hnall =>
      simp only at he
      split at he
      case h_2 => cases he
      rename_i v' e sz es hg
      split at he
      case isFalse => cases he
      rename_i ev
      subst ev
      obtain ⟨rfl, rfl⟩ := Prod.mk.inj (Option.some.inj he)
      obtain ⟨η', hs, hle, hI, v, hv, hri⟩ := h.freeze hg
      have hob := h.heap id
      rw [hg] at hob
      obtain ⟨hcur, -⟩ := hob
      refine ⟨η', ⟨h.tmps.mono fun _ _ x => x.mono (fun g hg => ⟨hI g hg, rfl⟩) hle, hs.defers, hs.heap, hs.apart, hs.sub, hs.kept⟩, ?_, hle, hI⟩
      have h1 := hp.inv1 (fun _ e => by cases e) (fun _ e => by cases e)
      cases h1 with
      | imm h1 => cases h1
      | osl _ _ _ hv' hpp =>
        rw [hpp hcur.symm v hv]
        exact .one hri
    all_goals cases he

theorem pargsN_sound : ∀ {ps qs : List PV} {s s' : St} {η : Own} {vs : List Value} (_ : Sim κ η s a w) (_ : All2 (Rep w (imm κ η w) η) ps vs) (_ : pargsN ps s = some (qs, s')),
    ∃ η', Sim κ η' s' a w ∧ All2 (RepArg w (imm κ η' w)) qs vs ∧ η.le η' ∧ ∀ g, imm κ η w g → imm κ η' w g
  | [], _, _, _, _, _, h, .nil, he => by
    simp only [pargsN, Option.some.injEq, Prod.mk.injEq] at he
    obtain ⟨rfl, rfl⟩ := he
    exact ⟨_, h, .nil, Own.le_refl _, fun _ hg => hg⟩
  | p :: ps, _, _, _, _, _, h, .cons hp hr, he => by
    have weak : ∀ {η1 η2 : Own} {q : PV} {c : Value}, RepArg w (imm κ η1 w) q c → (∀ g, imm κ η1 w g → imm κ η2 w g) → RepArg w (imm κ η2 w) q c := fun h1 h2 => by
      cases h1 with
      | one h1 => exact .one (h1.weak h2)
      | agg cs vs h1 => exact .agg cs vs (h1.weak h2)
    simp only [pargsN] at he
    split at he
    case h_2 => cases he
    rename_i v' s1 h1
    split at he
    case h_2 => cases he
    rename_i r' s2 h2
    simp only [Option.some.injEq, Prod.mk.injEq] at he
    obtain ⟨rfl, rfl⟩ := he
    obtain ⟨η1, hs1, hr1, hle1, hI1⟩ := toPureN_sound h hp h1
    obtain ⟨η2, hs2, hr2, hle2, hI2⟩ := pargsN_sound hs1 (hr.mono fun _ _ x => x.mono (fun g hg => ⟨hI1 g hg, rfl⟩) hle1) h2
    exact ⟨η2, hs2, .cons (weak hr1 hI2) hr2, Own.le_trans hle1 hle2, fun g hg => hI2 g (hI1 g hg)⟩

theorem pures_rep {I : Nat → Prop} : ∀ {ps : List PV} {vs : List Value}, All2 (Rep1 w I η) ps vs → ps.all PV.pure = true → RepIs w I ps vs
  | _, _, .nil, _ => .nil
  | _, _, .cons p q, h => by
    simp only [List.all_cons, Bool.and_eq_true] at h
    exact .cons ((Rep.of1 p).invI h.1) (pures_rep q h.2)

theorem sound_mcall (h : Sim κ η s a w) {K : St → Prop} (f : FuncId) (args : Array Operand) (ts : Array TypeId) (ho : o.op = .call { callee := .value (.func f), args := args, argTypes := ts })
    {id ver sz : Nat} {rest rest' : List PV} {s' : St} {cs : List PV} (hargs : evs s args.toList = .optr id ver sz 0 0 :: rest) (hp : ∀ vs, All2 (Rep w (imm κ η w) η) rest vs → ∃ η', Sim κ η' s' a w ∧ All2 (RepArg w (imm κ η' w)) rest' vs ∧ η.le η' ∧ ∀ g, imm κ η w g → imm κ η' w g) (hg : s'.H.get id = (ver, .box cs)) (hpure : cs.all PV.pure = true)
    (hK : std bb P (.mcall f cs rest') fun r => match r with
      | .tup [v, .agg cs'] => K (bind ⟨s'.T, s'.H.put id (ver, .box cs')⟩ o.dst v)
      | _ => False) : o.wp P a w (Then κ K) Q' := by
  obtain ⟨Q, ⟨hcall, hcon⟩, -, hQ⟩ := hK
  have hev := evs_rep h args.toList
  rw [hargs] at hev
  have hargsA : (args.map a.eval) = (args.toList.map a.eval).toArray := by rw [← Array.toList_map, Array.toArray_toList]
  generalize args.toList.map a.eval = vals at hev hargsA
  cases hev with
  | cons hptr hrest =>
    rename_i ptr vs
    obtain ⟨η', hs', hra, hle, hI⟩ := hp _ hrest
    have hob := hs'.heap id
    rw [hg] at hob
    obtain ⟨hcur, g, arr, e, hval, hh, hr, hB⟩ := hob
    have hpt : ptr = .pointer (some ⟨g, 0, none⟩) := by
      have h1 := (hptr.inv1 (fun _ e => by cases e) (fun _ e => by cases e)).mono (fun g hg => ⟨hI g hg, rfl⟩) hle
      cases h1 with
      | imm h1 => cases h1
      | optr _ _ _ _ _ _ hv' hpp =>
        obtain ⟨g', hg', rfl⟩ := hpp hcur.symm _ hval
        obtain rfl := Option.some.inj hg'
        simp
    subst hpt
    have hlt : g < w.heap.size := (own_head (hs'.heap id) hval rfl).1
    obtain ⟨T, t1, t2, t3⟩ := NoZ.good (κ := κ)
    have hc := hcon w g arr e (imm κ η' w) vs ⟨fun x hx => ⟨hx.1, fun e' => hx.2.2 id _ hval (by rw [e']; rfl)⟩, T, Nat.le_trans t1 h.kept.size, (hB.new g rfl).elim (Nat.le_trans t1) (t2 g), t3 w h.kept⟩ hh (pures_rep hr hpure) hra
    unfold Oper.wp
    rw [execOp_call ho hcall, Oper.upon_enter, hargsA]
    refine hc.mono ?_
    rintro en w' ⟨v, r, gs, cs', arr', e', rfl, hq, hk, hrep, hh', hcs'⟩
    have hgs : ∀ k ∈ gs, w.heap.size ≤ k := fun k hk => (hrep.2.1 k hk).1
    have hblk : ∀ k, k < w.heap.size → k ≠ g → w'.heap[k]? = w.heap[k]? := fun k h1 h2 => hk.block k h1 h2
    have howl : ∀ (i : Key) x k, η'.val i = some x → headOf x = some k → k < w.heap.size := fun i x k hx hkx => (hs'.head hx hkx).1
    have hsz : w.heap.size ≤ w'.heap.size := hk.size
    -- what is only read stays so
    have hIm : ∀ k, imm κ η' w k → imm (κ.res gs) η' w' k ∧ w'.heap[k]? = w.heap[k]? := fun k hk' =>
      have hbk := hblk k hk'.1 fun e1 => hk'.2.2 id _ hval (by rw [e1]; rfl)
      ⟨⟨Nat.lt_of_lt_of_le hk'.1 hsz, ⟨(side_keep hbk hk'.2.1).1, fun hm => by have := hgs k hm; have := hk'.1; omega⟩, hk'.2.2⟩, hbk⟩
    have hfresh : ∀ k, w.heap.size ≤ k → k < w'.heap.size → k ∉ gs → plain w' k → imm (κ.res gs) η' w' k := fun k h1 h2 h3 h4 =>
      ⟨h2, ⟨.inr ⟨.inl (Nat.le_trans h.kept.size h1), h4⟩, h3⟩, fun i x hx hxk => by have := howl i x k hx hxk; omega⟩
    have hkept : Kept κ w' := h.kept.step hk.os hk.tape hk.output hsz fun k h1 h2 => hblk k (Nat.lt_of_lt_of_le h1 h.kept.size) fun e1 => by
      rcases box_side hB with hB | hB
      · omega
      · exact h2 (e1 ▸ hB)
    have hsim : Sim (κ.res gs) η' ⟨s'.T, s'.H.put id (ver, .box cs')⟩ a w' := by
      refine ⟨hs'.tmps.mono fun _ _ x => x.mono hIm η'.le_refl, hs'.defers, fun i => ?_, hs'.apart, fun i => ?_, ⟨hkept.os, hkept.tape, hkept.output, hkept.size, hkept.block⟩⟩
      rotate_left
      · rw [Heap.get_put]
        by_cases ei : i = id
        · subst ei
          rw [if_pos rfl]
          exact (hs'.sub i).flat (by rw [hg]; rfl)
        · rw [if_neg ei]; exact hs'.sub i
      rw [Heap.get_put]
      by_cases ei : i = id
      · subst ei
        rw [if_pos rfl]
        refine ⟨hcur, g, arr', e', hval, hh', RepIs.rep1 (hcs'.weak fun k hk => ?_), hB⟩
        rcases hk.1 with h1 | h1
        · exact (hIm k h1).1
        · exact hfresh k h1 hk.2.1 hk.2.2.1 (hk.2.2.2 h1)
      · rw [if_neg ei]
        have hob := hs'.heap i
        generalize hq' : s'.H.get i = q at hob
        obtain ⟨vr, b⟩ := q
        have hneK : ∀ (j : Key) x k, j.id = i → η'.val j = some x → headOf x = some k → k ≠ g := fun j x k hj hx hxk e1 => ei (by rw [← hj, hs'.apart j id x _ g hx hval (by rw [hxk, e1]) rfl]; rfl)
        have hne : ∀ x k, η'.val i = some x → headOf x = some k → k ≠ g := fun x k => hneK i x k rfl
        cases b with
        | dead => exact hob
        | box cs =>
          obtain ⟨h1, k, arr, el, h2, h3, h4, h5⟩ := hob
          exact ⟨h1, k, arr, el, h2, (hblk k (howl i _ k h2 rfl) (hne _ k h2 rfl)).trans h3, h4.mono fun _ _ x => x.mono hIm η'.le_refl, h5⟩
        | row el sz es =>
          obtain ⟨h1, v, vals, h2, h3, h4, h5⟩ := hob
          exact ⟨h1, v, vals, h2, owns_keep h3 fun k hk => hblk k (howl i _ k h2 hk) (hne _ k h2 hk), h4.mono hIm, h5⟩
        | iter b pos =>
          obtain ⟨h1, k, h2, h3, h4⟩ := hob
          exact ⟨h1, k, h2, (hblk k (howl i _ k h2 rfl) (hne _ k h2 rfl)).trans h3, h4⟩
        | map es =>
          obtain ⟨h1, k, ents, clock, ks, h2, h3, h4⟩ := hob
          exact ⟨h1, k, ents, clock, ks, h2, (hblk k (howl i _ k h2 rfl) (hne _ k h2 rfl)).trans h3, h4⟩
        | tree el sz es =>
          obtain ⟨h1, v, vals, h2, h3, h4, h5⟩ := hob
          exact ⟨h1, v, vals, h2, owns_keep h3 fun k hk => hblk k (howl i _ k h2 hk) (hne _ k h2 hk), ⟨h4.1, fun p c u hp hu => (h4.2 p c u hp hu).keepR rfl (fun v k hv hk => hblk k (howl _ _ k hv hk) (hneK _ _ k rfl hv hk)) hIm⟩, h5⟩
        | wild el sz es =>
          obtain ⟨h1, v, vals, h2, h3, h4, h5⟩ := hob
          exact ⟨h1, v, vals, h2, owns_keep h3 fun k hk => hblk k (howl i _ k h2 hk) (hne _ k h2 hk), ⟨h4.1, fun p c u hp hu => (h4.2 p c u hp hu).keepR rfl (fun v k hv hk => hblk k (howl _ _ k hv hk) (hneK _ _ k rfl hv hk)) hIm η'.le_refl⟩, h5⟩
    have hsim0 : Sim κ η' ⟨s'.T, s'.H.put id (ver, .box cs')⟩ a w' := by
      have hI2 : ∀ k, imm (κ.res gs) η' w' k → imm κ η' w' k := fun k hk => ⟨hk.1, ⟨hk.2.1.1, NoZ.out k⟩, hk.2.2⟩
      refine ⟨hsim.tmps.mono fun _ _ x => x.mono (fun k hk => ⟨hI2 k hk, rfl⟩) η'.le_refl, hsim.defers, fun i => ?_, hsim.apart, hsim.sub, hkept⟩
      have hob := hsim.heap i
      generalize Heap.get _ i = q at hob
      obtain ⟨vr, b⟩ := q
      cases b with
      | dead => exact hob
      | box cs =>
        obtain ⟨h1, k, arr, el, h2, h3, h4, h5⟩ := hob
        exact ⟨h1, k, arr, el, h2, h3, h4.mono fun _ _ x => x.mono (fun k hk => ⟨hI2 k hk, rfl⟩) η'.le_refl, h5⟩
      | row el sz es =>
        obtain ⟨h1, v, vals, h2, h3, h4, h5⟩ := hob
        exact ⟨h1, v, vals, h2, h3, h4.weak hI2, h5⟩
      | iter b pos => exact hob
      | map es => exact hob
      | tree el sz es =>
        obtain ⟨h1, v, vals, h2, h3, h4, h5⟩ := hob
        exact ⟨h1, v, vals, h2, h3, ⟨h4.1, fun p c u hp hu => (h4.2 p c u hp hu).keep' rfl fun k hk => ⟨hI2 k hk, rfl⟩⟩, h5⟩
      | wild el sz es =>
        obtain ⟨h1, v, vals, h2, h3, h4, h5⟩ := hob
        exact ⟨h1, v, vals, h2, h3, ⟨h4.1, fun p c u hp hu => (h4.2 p c u hp hu).keepR rfl (fun _ _ _ _ => rfl) (fun k hk => ⟨hI2 k hk, rfl⟩) η'.le_refl⟩, h5⟩
    obtain ⟨η2, hs2⟩ := bind_sound hsim0 h.kept.size hsim (fun k hR hn hlt hp => by
      rcases hR with hR | hR
      · exact (hIm k hR).1
      · exact hfresh k hR hlt hn (hp hR)) (fun k hk i x hx hxk => by have := howl i x k hx hxk; have := hgs k hk; omega) hrep o.dst
    exact ⟨η2, _, hs2, hQ r cs' hq⟩

/-- A call for which the own slices among the arguments are given up. -/
theorem sound_callN (h : Sim κ η s a w) {K : St → Prop} (f : FuncId) (args : Array Operand) (ts : Array TypeId) (ho : o.op = .call { callee := .value (.func f), args := args, argTypes := ts })
    {ks : List Nat} (hK : opCallN (std bb P) f s (evs s args.toList) ks o.dst K) : o.wp P a w (Then κ K) Q' := by
  unfold opCallN at hK
  split at hK
  case h_2 => exact hK.elim
  rename_i id ver sz i off rest hargs
  split at hK
  case h_2 => exact hK.elim
  rename_i rest' s' hp
  split at hK
  case h_2 => exact hK.elim
  rename_i v' cs hg
  split at hK
  case isFalse => exact hK.elim
  rename_i e1
  split at hK
  case isFalse => exact hK.elim
  rename_i e2
  split at hK
  case isFalse => exact hK.elim
  rename_i e3
  split at hK
  case isFalse => exact hK.elim
  rename_i e4
  subst e1 e2 e3
  refine sound_mcall (bb := bb) h f args ts ho hargs (fun _ hr => pargsN_sound h hr hp) hg e4 ?_
  obtain ⟨Q, hok, hb, hQ⟩ := hK
  refine ⟨Q, hok, hb, fun r cs' hq => ?_⟩
  have := hQ r cs' hq
  simp only at this ⊢
  split at this
  · exact this
  · exact this.elim

theorem sound_pcall (h : Sim κ η s a w) {K : St → Prop} (f : FuncId) (args : Array Operand) (ts : Array TypeId) (ho : o.op = .call { callee := .value (.func f), args := args, argTypes := ts })
    {qs : List PV} {s' : St} (hp : pargs (evs s args.toList) s = some (qs, s')) (hK : std bb P (.pcall f qs) fun r => K (bind s' o.dst r)) : o.wp P a w (Then κ K) Q' := by
  obtain ⟨-, Q, hok, hQ⟩ := hK
  obtain ⟨η', hs', hra, hle, hI⟩ := pargs_sound h (evs_rep h args.toList) hp
  have hargs : (args.map a.eval) = (args.toList.map a.eval).toArray := by rw [← Array.toList_map, Array.toArray_toList]
  obtain ⟨hcall, hcon⟩ := hok
  obtain ⟨T, t1, _, t3⟩ := NoZ.good (κ := κ)
  have hc := hcon w (imm κ η' w) _ ⟨fun g hg => hg.1, T, Nat.le_trans t1 h.kept.size, t3 w h.kept⟩ hra
  unfold Oper.wp
  rw [execOp_call ho hcall, Oper.upon_enter, hargs]
  refine hc.mono ?_
  rintro e w' ⟨v, r, gs, rfl, hq, hb, hrep⟩
  have hgs : ∀ g ∈ gs, w.heap.size ≤ g := fun g hg => (hrep.2.1 g hg).1
  obtain ⟨hres, hi1, hi2, hown⟩ := hs'.belowRes hb gs hgs
  obtain ⟨η2, hs⟩ := bind_sound (hs'.below hb) h.kept.size hres (fun g hR hn hlt hp => by
    rcases hR with ⟨_, hI⟩ | hR
    · exact hi1 g hI
    · exact hi2 g hR hlt hn (hp hR)) hown hrep o.dst
  exact ⟨η2, _, hs, hQ r hq⟩

/-- Every operation. -/
theorem op_sound (hG : EnvOk P G) (hF : FieldsOk P G) (h : Sim κ η s a w) {K : St → Prop} (hK : op (std bb P) G o s K) : o.wp P a w (Then κ K) Q' := by
  have hK0 := hK
  unfold op at hK
  split at hK
  · rename_i x ho; exact sound_move h x (.inl ho) hK
  · rename_i x ho; exact sound_move h x (.inr ho) hK
  · rename_i c x y ho
    split at hK
    · rename_i t hc; exact sound_pick h c x y ho t hc hK
    · exact hK.elim
  · rename_i e ho; exact sound_alloc hG h e ho hK0
  · rename_i e x ho; exact sound_box h e x ho hK0
  · rename_i t parts ho; exact sound_build hG hF h t parts ho hK0
  · rename_i t n parts ho; exact sound_buildSlice hG h t n parts ho hK0
  · rename_i t x ho; exact sound_load hG h t x ho hK
  · rename_i t x y ho; exact sound_store hG h t x y ho hK
  · rename_i x ho; exact sound_nilCheck h x ho hK0
  · rename_i b t x y t' ho; exact sound_bin hG h b t t' x y ho hK
  · rename_i u t x ho; exact sound_un h u t x ho hK
  · rename_i src dst x ho; exact sound_convert hG h src dst x ho hK
  · rename_i f first captured ho
    split at hK
    case isFalse => exact hK.elim
    rename_i hf
    split at hK
    case isFalse => exact hK.elim
    rename_i hp
    obtain rfl := Array.eq_empty_of_size_eq_zero hf
    exact sound_makeFunc h f captured ho hp hK
  · rename_i t l c ho; exact sound_make hG h t l c ho hK0
  · rename_i t x lo hi ho
    split at hK
    · rename_i l r hl hr; exact sound_slice hG h t x lo hi ho hl hr hK
    · exact hK.elim
  · rename_i t x hi mx ho; exact sound_slice3 hG h t x hi mx ho hK
  · rename_i t x f ho; exact sound_fieldAddr hG h t x f ho hK
  · rename_i t x f ho; exact sound_field hG h t x f ho hK
  · rename_i t x i ho; exact sound_indexAddr hG h t x i ho hK
  · rename_i t x i ho; exact sound_index hG h t x i ho hK0
  · rename_i x i ho; exact sound_extract h x i ho hK0
  · rename_i c ho
    obtain ⟨callee, args, argTypes⟩ := c
    have list1 : ∀ {x : PV}, evs s args.toList = [x] → ∃ y, args = #[y] ∧ s.ev y = x := fun {x} hx => by
      obtain ⟨l⟩ := args
      match l, hx with
      | [y], hx => exact ⟨y, rfl, by simpa [evs] using hx⟩
    have list2 : ∀ {x x' : PV}, evs s args.toList = [x, x'] → ∃ y y', args = #[y, y'] ∧ s.ev y = x ∧ s.ev y' = x' := fun {x x'} hx => by
      obtain ⟨l⟩ := args
      match l, hx with
      | [y, y'], hx => exact ⟨y, y', rfl, by simpa [evs] using hx⟩
    have list3 : ∀ {x x' x2 : PV}, evs s args.toList = [x, x', x2] → ∃ y y' y2, args = #[y, y', y2] ∧ s.ev y = x ∧ s.ev y' = x' ∧ s.ev y2 = x2 := fun {x x' x2} hx => by
      obtain ⟨l⟩ := args
      match l, hx with
      | [y, y', y2], hx => exact ⟨y, y', y2, rfl, by simpa [evs] using hx⟩
    have tlist1 : ∀ {t : Nat}, argTypes.toList = [t] → argTypes = #[t] := fun {t} ht => by
      obtain ⟨l⟩ := argTypes
      simpa using ht
    have tlist2 : ∀ {t t' : Nat}, argTypes.toList = [t, t'] → argTypes = #[t, t'] := fun {t t'} ht => by
      obtain ⟨l⟩ := argTypes
      simpa using ht
    split at hK
    · rename_i f hc
      simp only at hc
      subst hc
      unfold opCall at hK
      split at hK
      · rename_i id ver sz i off rest hargs
        split at hK
        case h_2 => exact hK.elim
        rename_i rest' s' hp
        split at hK
        case h_2 => exact hK.elim
        rename_i v' cs hg
        split at hK
        case isFalse => exact hK.elim
        rename_i ev
        split at hK
        case isFalse => exact hK.elim
        rename_i ei
        split at hK
        case isFalse => exact hK.elim
        rename_i eo
        split at hK
        case isFalse => exact hK.elim
        rename_i hpure
        subst ev ei eo
        exact sound_mcall h f args argTypes ho hargs (fun _ hr => pargs_sound h hr hp) hg hpure hK
      · split at hK
        case h_2 => exact hK.elim
        rename_i b qs hl
        split at hK
        · rename_i hb
          subst hb
          rcases hK with hK | hK
          · exact sound_call h f args argTypes ho hl hK
          · split at hK
            case h_2 => exact hK.elim
            rename_i qs' s' hp
            exact sound_pcall h f args argTypes ho hp hK
        · rename_i hb
          have hb' : b = false := by simpa using hb
          subst hb'
          exact sound_call h f args argTypes ho hl hK
    · rename_i t hc
      simp only at hc
      subst hc
      split at hK
      case h_2 => exact hK.elim
      rename_i f caps hfn
      split at hK
      case h_2 => exact hK.elim
      rename_i b qs hl
      exact sound_callV h t args argTypes ho hfn hl hK
    · rename_i hc
      simp only at hc
      subst hc
      split at hK
      · rename_i x t hx ht
        obtain ⟨y, rfl, rfl⟩ := list1 hx
        obtain rfl := tlist1 ht
        exact sound_len hG h t y ho hK
      · exact hK.elim
    · rename_i hc
      simp only at hc
      subst hc
      split at hK
      · rename_i x y t t' hx ht
        obtain ⟨y1, y2, rfl, rfl, rfl⟩ := list2 hx
        obtain rfl := tlist2 ht
        split at hK
        case isFalse => exact hK.elim
        rename_i et
        subst et
        exact sound_append hG h t y1 y2 ho hK
      · exact hK.elim
    · rename_i hc
      simp only at hc
      subst hc
      split at hK
      · rename_i k m k' n hx
        obtain ⟨y1, y2, rfl, e1, e2⟩ := list2 hx
        split at hK
        case isFalse => exact hK.elim
        rename_i ek
        exact sound_minmax h true y1 y2 argTypes ho e1 e2 ek hK
      · rename_i k m k' n k2 q hx
        obtain ⟨y1, y2, y3, rfl, e1, e2, e3⟩ := list3 hx
        split at hK
        case isFalse => exact hK.elim
        rename_i ek
        split at hK
        case isFalse => exact hK.elim
        rename_i ek2
        exact sound_minmax3 h true y1 y2 y3 argTypes ho e1 e2 e3 ek ek2 hK
      · exact hK.elim
    · rename_i hc
      simp only at hc
      subst hc
      split at hK
      · rename_i k m k' n hx
        obtain ⟨y1, y2, rfl, e1, e2⟩ := list2 hx
        split at hK
        case isFalse => exact hK.elim
        rename_i ek
        exact sound_minmax h false y1 y2 argTypes ho e1 e2 ek hK
      · rename_i k m k' n k2 q hx
        obtain ⟨y1, y2, y3, rfl, e1, e2, e3⟩ := list3 hx
        split at hK
        case isFalse => exact hK.elim
        rename_i ek
        split at hK
        case isFalse => exact hK.elim
        rename_i ek2
        exact sound_minmax3 h false y1 y2 y3 argTypes ho e1 e2 e3 ek ek2 hK
      · exact hK.elim
    · exact hK.elim
  · exact hK.elim
end
end Go.Proofs.Ytngefbdedbbplaa.Ai
