/- Soundness: regions, code, functions. -/
import Derived.Test.YtngefbdedbbplaaAiTree
set_option linter.unusedSectionVars false
namespace Go.Proofs.Ytngefbdedbbplaa.Ai
open Go Go.RowKit
set_option linter.unusedVariables false
set_option linter.unusedSimpArgs false

section
variable {bb : Bool} {P : Program} {κ : Ctx} [NoZ κ] {η : Own} {s : St} {a : Act} {w : World} {G : Env} {Q' : Exit → Act → World → Prop}

theorem tmp_of (h : Sim κ η s a w) {t : Nat} {p : PV} (hp : s.T.getD t .undef = p) (hu : p ≠ .undef) : ∃ c, a.tmps[t]? = some c ∧ Rep w (imm κ η w) η p c := by
  cases ht : s.T[t]? with
  | none => simp [List.getD, ht] at hp; exact absurd hp.symm hu
  | some q =>
    simp [List.getD, ht] at hp
    subst hp
    obtain ⟨c, hc, hr⟩ := h.tmps.get ht
    exact ⟨c, by rw [← Array.getElem?_toList]; exact hc, hr⟩

theorem ops_sound (hG : EnvOk P G) (hF : FieldsOk P G) (full : List Oper) {K : St → Prop} (hQ : ∀ a w, Then κ K a w → Q' .normal a w) : ∀ (l : List Oper) (η : Own) (s : St) (a : Act) (w : World), Sim κ η s a w → ops (std bb P) G full l s K → wpList P full.toArray Q' l a w
  | [], η, s, a, w, h, hK => hQ _ _ ⟨η, s, h, hK⟩
  | o :: r, η, s, a, w, h, hK => by
    have run : Region.wanted o (yielded full.toArray a.tmps) = true → opT (std bb P) G o s (fun s' => ops (std bb P) G full r s' K) → wpList P full.toArray Q' (o :: r) a w := fun hw hop => by
      unfold wpList
      rw [if_pos hw]
      exact .inl (Oper.wp_mono (fun a' w' ⟨η', s', hs', hK'⟩ => ops_sound hG hF full hQ r η' s' a' w' hs' hK') (opT_sound hG hF h hop))
    have skip : Region.wanted o (yielded full.toArray a.tmps) = false → ops (std bb P) G full r (s.put o.dst .skip) K → wpList P full.toArray Q' (o :: r) a w := fun hw hop => by
      unfold wpList
      rw [hw]
      simp only [Bool.false_eq_true, if_false]
      exact ops_sound hG hF full hQ r η _ _ _ (h.put o.dst (.of1 .skip)) hop
    simp only [ops] at hK
    split at hK
    · rename_i hg
      exact run (by simp [Region.wanted, hg]) hK
    · rename_i j want hg
      split at hK
      case h_2 => exact hK.elim
      rename_i oj hj
      split at hK
      case h_2 => exact hK.elim
      rename_i t ht
      have hy : ∀ c, a.tmps[t]? = some c → yielded full.toArray a.tmps j = (match c with | .bool b => some b | _ => none) := fun c hc => by
        simp only [yielded, List.getElem?_toArray, hj, Option.bind_some, ht, hc]
        cases c <;> rfl
      split at hK
      · rename_i b hb
        obtain ⟨c, hc, hr⟩ := tmp_of h hb (by simp)
        obtain rfl := hr.bool
        have hy' := hy _ hc
        split at hK
        · rename_i e
          exact run (by simp [Region.wanted, hg, hy', e]) hK
        · rename_i e
          exact skip (by simp [Region.wanted, hg, hy', e]) hK
      · rename_i hb
        obtain ⟨c, hc, hr⟩ := tmp_of h hb (by simp)
        have hcu : c = Go.undef := by
          have h1 := hr.inv1 (fun _ e => by cases e) (fun _ e => by cases e)
          cases h1 with
          | skip => rfl
          | imm h1 => cases h1
        have hy' := hy _ hc
        rw [hcu] at hy'
        exact skip (by simp [Region.wanted, hg, hy', Go.undef]) hK
      · exact hK.elim

theorem code_sound (hG : EnvOk P G) (hF : FieldsOk P G) : ∀ (c : Code) (Q : Ex → St → Prop) (s : St), code (std false P) (W P κ) G c Q s → W P κ c Q s := by
  intro c
  induction c with
  | skip => exact fun Q s hc η a w h => wp_skip ⟨η, s, h, hc⟩
  | region id os draw =>
    intro Q s hc η a w h
    simp only [code] at hc
    split at hc
    · rename_i hd
      subst hd
      exact hc η a w h
    · rename_i hd
      have hd' : draw = false := by simpa using hd
      subst hd'
      have := ops_sound (Q' := Post κ Q) hG hF os.toList (fun a w ⟨η, s, hs, hK⟩ => ⟨η, s, hs, hK⟩) os.toList η s a w h hc
      refine wp_region_list ?_
      simpa using this
  | seq x y ihx ihy =>
    intro Q s hc η a w h
    simp only [code] at hc
    refine wp_seq (Go.wp_mono (ihx _ s hc η a w h) fun e a' w' hq => ?_)
    cases e with
    | normal => obtain ⟨η', s', hs', hc'⟩ := hq; exact ihy Q s' hc' η' a' w' hs'
    | exit i => obtain ⟨η', s', hs', hc'⟩ := hq; exact ⟨η', s', hs', hc'⟩
    | ret => obtain ⟨η', s', hs', hc'⟩ := hq; exact ⟨η', s', hs', hc'⟩
    | goto l => exact hq.elim
    | panic ch => exact hq.elim
    | outgrown => exact hq.elim
  | cond c x y ihx ihy =>
    intro Q s hc η a w h
    simp only [code] at hc
    split at hc
    case h_2 => exact hc.elim
    rename_i t ht
    have hr := h.ev c
    rw [ht] at hr
    refine wp_cond (t := t) hr.bool ?_
    cases t
    · exact ihy Q s (by simpa using hc) η a w h
    · exact ihx Q s (by simpa using hc) η a w h
  | block id b ih =>
    intro Q s hc η a w h
    simp only [code] at hc
    refine wp_block (Go.wp_mono (ih _ s hc η a w h) fun e a' w' hq => ?_)
    cases e with
    | normal => exact hq
    | exit i =>
      obtain ⟨η', s', hs', hc'⟩ := hq
      simp only at hc'
      simp only [Exit.inBlock]
      split at hc'
      · rename_i e
        rw [if_pos e]
        exact ⟨η', s', hs', hc'⟩
      · rename_i e
        rw [if_neg e]
        exact ⟨η', s', hs', hc'⟩
    | ret => exact hq
    | goto l => exact hq.elim
    | panic ch => exact hq.elim
    | outgrown => exact hq.elim
  | loop b ih => exact fun Q s hc => hc
  | exit id => exact fun Q s hc η a w h => wp_exit ⟨η, s, h, hc⟩
  | ret => exact fun Q s hc η a w h => wp_ret ⟨η, s, h, hc⟩
  | rangeFunc => exact fun Q s hc => hc.elim
  | scope => exact fun Q s hc => hc.elim
  | label => exact fun Q s hc => hc.elim
  | goto => exact fun Q s hc => hc.elim
  | refuse => exact fun Q s hc => hc.elim

/-! ### Results -/
def resSem (a : Act) : ResultVar → Sem Value
  | .tmp t => pure (a.tmps.getD t Go.undef)
  | .cell x t => do loadVar t (← asAddr (a.tmps.getD x Go.undef))

theorem resVar_sound (hG : EnvOk P G) (h : Sim κ η s a w) {r : ResultVar} {v : PV} (hv : resVar G s r = some v) :
    ∃ c, (resSem a r).run P w = .ok c w ∧ Rep w (imm κ η w) η v c := by
  unfold resVar at hv
  split at hv
  · rename_i t
    obtain rfl := Option.some.inj hv
    exact ⟨_, rfl, h.tmp t⟩
  · rename_i x t
    split at hv
    case h_2 => cases hv
    rename_i id ver sz i off hx
    split at hv
    case h_2 => cases hv
    rename_i v' cs he
    split at hv
    case h_2 => cases hv
    rename_i ti hti
    split at hv
    case isFalse => cases hv
    rename_i ev
    split at hv
    case isFalse => cases hv
    rename_i ei
    have hd := hG t ti hti
    have hr := h.ev (.tmp x)
    have hx' : s.ev (.tmp x) = .optr id ver sz i off := by
      show unv (s.T.getD x .undef) = _
      rw [hx]; rfl
    rw [hx'] at hr
    obtain ⟨g, hc, hg⟩ := live_ptr h hr (by simp [St.live, he, ev])
    have hob := h.heap id
    rw [he] at hob
    obtain ⟨hcur, g', arr, e, hval, hh, hrep, _⟩ := hob
    have hgg := hg _ hval (by rw [hcur, ev])
    obtain rfl := Option.some.inj hgg
    have hcell : ∀ j u, (arr.toList.drop off)[j]? = some u → w.cell? ⟨g', off + j, none⟩ = some u := fun j u hj => by
      rw [cell_of_row w g' _ arr _ _ hh, ← Array.getElem?_toList]
      rwa [List.getElem?_drop] at hj
    have hA : aggOr ti.isAgg ti.size (cs.drop off) (fun q => q = v) := by
      unfold aggOr
      split at hv
      · rename_i ha
        rw [if_pos ha]
        split at hv
        · rename_i hl
          rw [if_pos hl]
          exact Option.some.inj hv
        · cases hv
      · rename_i ha
        rw [if_neg ha]
        cases hdr : cs.drop off with
        | nil => rw [hdr] at hv; cases hv
        | cons q qs =>
          rw [hdr] at hv
          simpa using hv
    obtain ⟨c, p, hrun, hp, rfl⟩ := run_loadVar (P := P) hd (hrep.drop off) hcell hA
    refine ⟨c, ?_, hp⟩
    have hc' : a.tmps.getD x Go.undef = .pointer (some ⟨g', off, none⟩) := by
      have : a.eval (.tmp x) = a.tmps.getD x Go.undef := rfl
      rw [← this, hc, ei]
      simp
    simp only [resSem, Sem.run_bind, hc', asAddr, Sem.run_pure, Result.andThen_ok, hrun]

theorem resVars_sound (hG : EnvOk P G) (h : Sim κ η s a w) : ∀ {rs : List ResultVar} {vs : List PV} (_ : resVars G s rs = some vs),
    ∃ cs : List Value, (rs.mapM (resSem a)).run P w = .ok cs w ∧ All2 (Rep w (imm κ η w) η) vs cs
  | [], _, hv => by
    simp only [resVars, Option.some.injEq] at hv
    subst hv
    exact ⟨[], by simp, .nil⟩
  | r :: rs, _, hv => by
    simp only [resVars] at hv
    split at hv
    case h_2 => cases hv
    rename_i v h1
    split at hv
    case h_2 => cases hv
    rename_i vs h2
    simp only [Option.some.injEq] at hv
    subst hv
    obtain ⟨c, hc, hr⟩ := resVar_sound hG h h1
    obtain ⟨cs, hcs, hrs⟩ := resVars_sound hG h h2
    refine ⟨c :: cs, ?_, .cons hr hrs⟩
    rw [List.mapM_cons]
    simp only [Sem.run_bind, hc, Result.andThen_ok, hcs, Sem.run_pure]

theorem resPure_sound (ow : Bool) : ∀ {vs vs' : List PV} {s s' : St} {η : Own} {cs : List Value} (_ : Sim κ η s a w) (_ : All2 (Rep w (imm κ η w) η) vs cs) (_ : resPure ow vs s = some (vs', s')),
    ∃ η', Sim κ η' s' a w ∧ All2 (Rep w (imm κ η' w) η') vs' cs ∧ η.le η' ∧ ∀ g, imm κ η w g → imm κ η' w g
  | [], _, _, _, _, _, h, .nil, he => by
    simp only [resPure, Option.some.injEq, Prod.mk.injEq] at he
    obtain ⟨rfl, rfl⟩ := he
    exact ⟨_, h, .nil, Own.le_refl _, fun _ hg => hg⟩
  | p :: ps, _, _, _, _, _, h, .cons hp hr, he => by
    unfold resPure at he
    split at he
    · rename_i heq
      cases heq
    · rename_i cs r s0 heq
      simp only [List.cons.injEq] at heq
      obtain ⟨rfl, rfl⟩ := heq
      split at he
      · split at he
        case h_2 => cases he
        rename_i r' s1 h1
        simp only [Option.some.injEq, Prod.mk.injEq] at he
        obtain ⟨rfl, rfl⟩ := he
        obtain ⟨η1, hs1, hr1, hle1, hI1⟩ := resPure_sound ow h hr h1
        exact ⟨η1, hs1, .cons (hp.mono (fun g hg => ⟨hI1 g hg, rfl⟩) hle1) hr1, hle1, hI1⟩
      split at he
      case h_2 => cases he
      rename_i cs' s1 h1
      split at he
      case h_2 => cases he
      rename_i r' s2 h2
      simp only [Option.some.injEq, Prod.mk.injEq] at he
      obtain ⟨rfl, rfl⟩ := he
      obtain ⟨l, rfl, hcs⟩ := hp.agg_
      obtain ⟨η1, hs1, hr1, hle1, hI1⟩ := toPures_sound h hcs h1
      obtain ⟨η2, hs2, hr2, hle2, hI2⟩ := resPure_sound ow hs1 (hr.mono fun _ _ x => x.mono (fun g hg => ⟨hI1 g hg, rfl⟩) hle1) h2
      exact ⟨η2, hs2, .cons (.one (.agg _ _ (RepIs.rep1 (hr1.weak hI2)))) hr2, Own.le_trans hle1 hle2, fun g hg => hI2 g (hI1 g hg)⟩
    · rename_i id ver r s0 heq
      simp only [List.cons.injEq] at heq
      obtain ⟨rfl, rfl⟩ := heq
      split at he
      · rename_i v' e sz es hg
        split at he
        case isFalse => cases he
        rename_i ev
        subst ev
        split at he
        case h_2 => cases he
        rename_i r' s1 h1
        simp only [Option.some.injEq, Prod.mk.injEq] at he
        obtain ⟨rfl, rfl⟩ := he
        obtain ⟨η1, v, hs1, hle1, hI1, hcur, hval, hri⟩ := h.cool hg
        obtain ⟨η2, hs2, hr2, hle2, hI2⟩ := resPure_sound ow hs1 (hr.mono fun _ _ x => x.mono (fun g hg => ⟨hI1 g hg, rfl⟩) hle1) h1
        refine ⟨η2, hs2, .cons ?_ hr2, Own.le_trans hle1 hle2, fun g hg => hI2 g (hI1 g hg)⟩
        rw [osl_val hp hcur.symm hval]
        exact .of (hri.weak hI2)
      · split at he
        case h_2 => cases he
        rename_i r' s1 h1
        simp only [Option.some.injEq, Prod.mk.injEq] at he
        obtain ⟨rfl, rfl⟩ := he
        obtain ⟨η1, hs1, hr1, hle1, hI1⟩ := resPure_sound ow h hr h1
        exact ⟨η1, hs1, .cons (hp.mono (fun g hg => ⟨hI1 g hg, rfl⟩) hle1) hr1, hle1, hI1⟩
    · rename_i v r s0 hna hno heq
      simp only [List.cons.injEq] at heq
      obtain ⟨rfl, rfl⟩ := heq
      split at he
      case h_2 => cases he
      rename_i r' s1 h1
      simp only [Option.some.injEq, Prod.mk.injEq] at he
      obtain ⟨rfl, rfl⟩ := he
      obtain ⟨η1, hs1, hr1, hle1, hI1⟩ := resPure_sound ow h hr h1
      exact ⟨η1, hs1, .cons (hp.mono (fun g hg => ⟨hI1 g hg, rfl⟩) hle1) hr1, hle1, hI1⟩

def isRow (s : St) (id : Nat) : Prop := ∃ ver e sz es, s.H.get id = (ver, .row e sz es)

/-- The cells of a struct that is handed back. -/
theorem resCells_sound {s0 : St} (h : Sim κ η s0 a w) : ∀ {ps ps' : List PV} {s s' : St} {vs : List Value} (_ : ∀ id, s.H.get id = s0.H.get id ∨ (s.H.get id).2 = .dead) (_ : All2 (Rep1 w (imm κ η w) η) ps vs) (_ : resCells ps s = some (ps', s')),
    ∃ gs, ResC w (imm κ η w) 0 ps' vs gs ∧ gs.Nodup ∧ (∀ g ∈ gs, ∃ id x, isRow s id ∧ ¬ isRow s' id ∧ η.val id = some x ∧ headOf x = some g) ∧ (∀ id, isRow s' id → isRow s id) ∧ ∀ id, s'.H.get id = s0.H.get id ∨ (s'.H.get id).2 = .dead
  | [], _, _, _, _, hH, .nil, he => by
    simp only [resCells, Option.some.injEq, Prod.mk.injEq] at he
    obtain ⟨rfl, rfl⟩ := he
    exact ⟨[], .nil, List.nodup_nil, (fun g hg => by cases hg), fun _ h => h, hH⟩
  | p :: ps, _, s, _, _, hH, .cons (b := c) hp hr, he => by
    cases p
    case osl id ver =>
      simp only [resCells] at he
      split at he
      case h_2 => cases he
      rename_i v' e sz es hg9
      split at he
      case isFalse => cases he
      rename_i ev
      subst ev
      split at he
      case h_2 => cases he
      rename_i r' s2 h2
      simp only [Option.some.injEq, Prod.mk.injEq] at he
      obtain ⟨rfl, rfl⟩ := he
      have hg0 : s0.H.get id = (v', .row e sz es) := by
        rcases hH id with h1 | h1
        · rw [← h1]; exact hg9
        · rw [hg9] at h1; cases h1
      obtain ⟨hval, hcur⟩ := own_value h hg0 (.of1 hp)
      have hob := h.heap id
      rw [hg0] at hob
      obtain ⟨_, v, vals, hv, hown, hrep, hl⟩ := hob
      rw [hval] at hv
      obtain rfl := Option.some.inj hv
      obtain ⟨gs, k1, k2, k3, k4, k5⟩ := resCells_sound h (s := ⟨s.T, s.H.put id (v', .dead)⟩) (fun i => by
        simp only [Heap.get_put]
        by_cases e : i = id
        · rw [if_pos e]; exact .inr rfl
        · rw [if_neg e]; exact hH i) hr h2
      have back : ∀ i, isRow ⟨s.T, s.H.put id (v', .dead)⟩ i → i ≠ id ∧ isRow s i := fun i hi => by
        obtain ⟨u, e0, z, l, h1⟩ := hi
        simp only [Heap.get_put] at h1
        by_cases e : i = id
        · rw [if_pos e] at h1; cases h1
        · rw [if_neg e] at h1; exact ⟨e, ⟨u, e0, z, l, h1⟩⟩
      refine ⟨(headOf c).toList ++ gs, .fr hown.row hrep hl k1, ?_, fun g hg => ?_, fun i hi => (back i (k4 i hi)).2, k5⟩
      · rw [List.nodup_append]
        refine ⟨by cases headOf c <;> simp, k2, fun g hg g' hg' e => ?_⟩
        obtain ⟨i, x, h1, _, h3, h4⟩ := k3 g' hg'
        have hc : headOf c = some g := by cases hh : headOf c <;> simp_all
        exact (back i h1).1 (Key.o.inj (h.apart i id x c g h3 hval (by rw [h4, e]) hc))
      · rcases List.mem_append.1 hg with hg | hg
        · have hc : headOf c = some g := by cases hh : headOf c <;> simp_all
          exact ⟨id, c, ⟨_, _, _, _, hg9⟩, fun hi => (back id (k4 id hi)).1 rfl, hval, hc⟩
        · obtain ⟨i, x, h1, h2, h3, h4⟩ := k3 g hg
          exact ⟨i, x, (back i h1).2, h2, h3, h4⟩
    all_goals
      simp only [resCells] at he
      split at he
      case isFalse => cases he
      rename_i hpure
      split at he
      case h_2 => cases he
      rename_i r' s2 h2
      simp only [Option.some.injEq, Prod.mk.injEq] at he
      obtain ⟨rfl, rfl⟩ := he
      obtain ⟨gs, k1, k2, k3, k4, k5⟩ := resCells_sound h hH hr h2
      exact ⟨gs, .imm ((Rep.of1 hp).invI hpure) k1, k2, k3, k4, k5⟩

/-- Own slices that are handed back lie each in a block of its own, beside all that is only read. -/
theorem resOwn_sound {s0 : St} (h : Sim κ η s0 a w) : ∀ {vs vs' : List PV} {s s' : St} {cs : List Value} (_ : ∀ id, s.H.get id = s0.H.get id ∨ (s.H.get id).2 = .dead) (_ : All2 (Rep w (imm κ η w) η) vs cs) (_ : resOwn vs s = some (vs', s')),
    ∃ gs, ResL w (imm κ η w) 0 vs' cs gs ∧ gs.Nodup ∧ ∀ g ∈ gs, ∃ id x, isRow s id ∧ η.val id = some x ∧ headOf x = some g
  | [], _, _, _, _, _, .nil, he => by
    simp only [resOwn, Option.some.injEq, Prod.mk.injEq] at he
    obtain ⟨rfl, rfl⟩ := he
    exact ⟨[], .nil, List.nodup_nil, fun g hg => by cases hg⟩
  | p :: ps, _, s, _, _, hH, .cons (b := c) hp hr, he => by
    have plain : ∀ {p' : PV} {r' : List PV} {s1 : St}, Res1 w (imm κ η w) 0 p' c [] → resOwn ps s = some (r', s1) → ∃ gs, ResL w (imm κ η w) 0 (p' :: r') (c :: _) gs ∧ gs.Nodup ∧ ∀ g ∈ gs, ∃ id x, isRow s id ∧ η.val id = some x ∧ headOf x = some g := fun h1 h2 => by
      obtain ⟨gs, k1, k2, k3⟩ := resOwn_sound h hH hr h2
      exact ⟨[] ++ gs, .cons h1 k1, by simpa using k2, by simpa using k3⟩
    cases p
    case osl id ver =>
      simp only [resOwn] at he
      split at he
      case h_2 => cases he
      rename_i v' e sz es hg9
      split at he
      case isFalse => cases he
      rename_i ev
      subst ev
      split at he
      case h_2 => cases he
      rename_i r' s2 h2
      simp only [Option.some.injEq, Prod.mk.injEq] at he
      obtain ⟨rfl, rfl⟩ := he
      have hg0 : s0.H.get id = (v', .row e sz es) := by
        rcases hH id with h1 | h1
        · rw [← h1]; exact hg9
        · rw [hg9] at h1; cases h1
      obtain ⟨hval, hcur⟩ := own_value h hg0 hp
      have hob := h.heap id
      rw [hg0] at hob
      obtain ⟨_, v, vals, hv, hown, hrep, hl⟩ := hob
      rw [hval] at hv
      obtain rfl := Option.some.inj hv
      obtain ⟨gs, k1, k2, k3⟩ := resOwn_sound h (s := ⟨s.T, s.H.put id (v', .dead)⟩) (fun i => by
        simp only [Heap.get_put]
        by_cases e : i = id
        · rw [if_pos e]; exact .inr rfl
        · rw [if_neg e]; exact hH i) hr h2
      have hdis : ∀ g ∈ gs, ∃ i x, i ≠ id ∧ isRow s i ∧ η.val i = some x ∧ headOf x = some g := fun g hg => by
        obtain ⟨i, x, h1, h2, h3⟩ := k3 g hg
        obtain ⟨u, e0, z, l, h1⟩ := h1
        simp only [Heap.get_put] at h1
        by_cases e : i = id
        · rw [if_pos e] at h1; cases h1
        · rw [if_neg e] at h1; exact ⟨i, x, e, ⟨u, e0, z, l, h1⟩, h2, h3⟩
      refine ⟨(headOf c).toList ++ gs, .cons (.fr e sz es c vals hown.row hrep hl) k1, ?_, fun g hg => ?_⟩
      · rw [List.nodup_append]
        refine ⟨by cases headOf c <;> simp, k2, fun g hg g' hg' e => ?_⟩
        obtain ⟨i, x, h1, h2, h3, h4⟩ := hdis g' hg'
        have hc : headOf c = some g := by cases hh : headOf c <;> simp_all
        exact h1 (Key.o.inj (h.apart i id x c g h3 hval (by rw [h4, e]) hc))
      · rcases List.mem_append.1 hg with hg | hg
        · have hc : headOf c = some g := by cases hh : headOf c <;> simp_all
          exact ⟨id, c, ⟨_, _, _, _, hg9⟩, hval, hc⟩
        · obtain ⟨i, x, h1, h2, h3, h4⟩ := hdis g hg
          exact ⟨i, x, h2, h3, h4⟩
    case agg cs =>
      simp only [resOwn] at he
      split at he
      case isFalse =>
        split at he
        case h_2 => cases he
        rename_i cs' s1 h1
        split at he
        case h_2 => cases he
        rename_i r' s2 h2
        simp only [Option.some.injEq, Prod.mk.injEq] at he
        obtain ⟨rfl, rfl⟩ := he
        obtain ⟨l, rfl, hcs⟩ := hp.agg_
        obtain ⟨g0, k1, k2, k3, k4, k5⟩ := resCells_sound h hH hcs h1
        obtain ⟨gs, m1, m2, m3⟩ := resOwn_sound h k5 hr h2
        refine ⟨g0 ++ gs, .cons (.aggO _ _ _ k1) m1, ?_, fun g hg => ?_⟩
        · rw [List.nodup_append]
          refine ⟨k2, m2, fun g hg g' hg' e => ?_⟩
          obtain ⟨i, x, _, i2, i3, i4⟩ := k3 g hg
          obtain ⟨j, y, j1, j3, j4⟩ := m3 g' hg'
          obtain rfl := Key.o.inj (h.apart i j x y g i3 j3 i4 (by rw [j4, e]))
          exact i2 j1
        · rcases List.mem_append.1 hg with hg | hg
          · obtain ⟨i, x, i1, _, i3, i4⟩ := k3 g hg
            exact ⟨i, x, i1, i3, i4⟩
          · obtain ⟨j, y, j1, j3, j4⟩ := m3 g hg
            exact ⟨j, y, k4 j j1, j3, j4⟩
      rename_i hpure
      split at he
      case h_2 => cases he
      rename_i r' s2 h2
      simp only [Option.some.injEq, Prod.mk.injEq] at he
      obtain ⟨rfl, rfl⟩ := he
      obtain ⟨l, rfl, hcs⟩ := hp.agg_
      exact plain (.agg _ _ (pures_rep hcs hpure)) h2
    all_goals
      simp only [resOwn] at he
      split at he
      case isFalse => cases he
      rename_i hpure
      split at he
      case h_2 => cases he
      rename_i r' s2 h2
      simp only [Option.some.injEq, Prod.mk.injEq] at he
      obtain ⟨rfl, rfl⟩ := he
      exact plain (.imm (hp.invI hpure)) h2

theorem run_results {fn : Func} {cs : List Value} (hc : (fn.results.toList.mapM (resSem a)).run P w = .ok cs w) : ∃ v, (results fn a.tmps).run P w = .ok v w ∧ ((∃ c, cs = [c] ∧ v = c) ∨ (∀ c, cs ≠ [c]) ∧ v = .tuple cs.toArray) := by
  have hm : (fn.results.mapM (resSem a)).run P w = .ok cs.toArray w := by
    rw [Array.mapM_eq_mapM_toList]
    simp only [Sem.run_map, hc, Result.andThen_ok]
  have he : results fn a.tmps = (do let vs ← fn.results.mapM (resSem a); pure (if h : vs.size = 1 then vs[0] else .tuple vs)) := by
    unfold results
    congr 1
  rw [he]
  simp only [Sem.run_bind, hm, Result.andThen_ok, Sem.run_pure]
  match cs with
  | [] => exact ⟨_, rfl, .inr ⟨by simp, rfl⟩⟩
  | [c] => exact ⟨_, rfl, .inl ⟨c, rfl, rfl⟩⟩
  | c :: c' :: r => exact ⟨_, rfl, .inr ⟨by simp, rfl⟩⟩

theorem resL_len {I : Nat → Prop} {b : Nat} : ∀ {ps : List PV} {vs : List Value} {gs : List Nat}, ResL w I b ps vs gs → ps.length = vs.length
  | _, _, _, .nil => rfl
  | _, _, _, .cons _ t => by simp [resL_len t]

theorem ownsRow_up {b e sz n : Nat} {v : Value} {xs : List Value} (h : w.ownsRow 0 e sz v n xs) (hb : ∀ g, headOf v = some g → b ≤ g) : w.ownsRow b e sz v n xs := by
  obtain ⟨h1, h2⟩ := h
  refine ⟨h1, ?_⟩
  rcases h2 with h2 | ⟨g, cap, cur, rfl, _, r⟩
  · exact .inl h2
  · exact .inr ⟨g, cap, cur, rfl, hb g rfl, r⟩
theorem ResC.up {I : Nat → Prop} {b : Nat} {p : List PV} {v : List Value} {gs : List Nat} (h : ResC w I 0 p v gs) (hb : ∀ g ∈ gs, b ≤ g) : ResC w I b p v gs := by
  induction h with
  | nil => exact .nil
  | imm h _ ih => exact .imm h (ih hb)
  | fr ho hr hl _ ih => exact .fr (ownsRow_up ho fun g hg => hb g (List.mem_append_left _ (by rw [hg]; simp))) hr hl (ih fun g hg => hb g (List.mem_append_right _ hg))
theorem Res1.up {I : Nat → Prop} {b : Nat} {p : PV} {v : Value} {gs : List Nat} (h : Res1 w I 0 p v gs) (hb : ∀ g ∈ gs, b ≤ g) : Res1 w I b p v gs := by
  cases h with
  | undef => exact .undef _
  | imm h => exact .imm h
  | agg cs vs h => exact .agg cs vs h
  | aggO cs vs gs h => exact .aggO cs vs gs (h.up hb)
  | fr e sz es v vals ho hr hl => exact .fr e sz es v vals (ownsRow_up ho fun g hg => hb g (by rw [hg]; simp)) hr hl
theorem ResL.up {I : Nat → Prop} {b : Nat} : ∀ {ps : List PV} {vs : List Value} {gs : List Nat}, ResL w I 0 ps vs gs → (∀ g ∈ gs, b ≤ g) → ResL w I b ps vs gs
  | _, _, _, .nil, _ => .nil
  | _, _, _, .cons h t, hb => .cons (h.up fun g hg => hb g (List.mem_append_left _ hg)) (ResL.up t fun g hg => hb g (List.mem_append_right _ hg))
theorem Res.up {I : Nat → Prop} {b : Nat} {p : PV} {v : Value} {gs : List Nat} (h : Res w I 0 p v gs) (hb : ∀ g ∈ gs, b ≤ g) : Res w I b p v gs := by
  cases h with
  | one h1 => exact .one (h1.up hb)
  | tup h1 => exact .tup (h1.up hb)

theorem toPure_box {p p' : PV} {s s' : St} {id ver : Nat} {cs : List PV} (h : toPure p s = some (p', s')) (hb : s.H.get id = (ver, .box cs)) : s'.H.get id = (ver, .box cs) := by
  unfold toPure at h
  split at h
  · rename_i i v
    split at h
    case h_2 => cases h
    rename_i v' e sz es hg
    split at h
    case isFalse => cases h
    obtain ⟨-, rfl⟩ := Prod.mk.inj (Option.some.inj h)
    simp only [Heap.get_put]
    by_cases e : id = i
    · subst e; rw [hb] at hg; cases hg
    · rw [if_neg e]; exact hb
  · split at h
    · obtain ⟨-, rfl⟩ := Prod.mk.inj (Option.some.inj h); exact hb
    · cases h
theorem toPures_box {id ver : Nat} {cs : List PV} : ∀ {ps ps' : List PV} {s s' : St}, toPures ps s = some (ps', s') → s.H.get id = (ver, .box cs) → s'.H.get id = (ver, .box cs)
  | [], _, _, _, h, hb => by obtain ⟨-, rfl⟩ := Prod.mk.inj (Option.some.inj h); exact hb
  | p :: ps, _, _, _, h, hb => by
    simp only [toPures] at h
    split at h
    case h_2 => cases h
    rename_i h1
    split at h
    case h_2 => cases h
    rename_i h2
    obtain ⟨-, rfl⟩ := Prod.mk.inj (Option.some.inj h)
    exact toPures_box h2 (toPure_box h1 hb)
theorem resPure_box (ow : Bool) {id ver : Nat} {cs : List PV} : ∀ {ps ps' : List PV} {s s' : St}, resPure ow ps s = some (ps', s') → s.H.get id = (ver, .box cs) → s'.H.get id = (ver, .box cs)
  | [], _, _, _, h, hb => by
    simp only [resPure] at h
    obtain ⟨-, rfl⟩ := Prod.mk.inj (Option.some.inj h); exact hb
  | p :: ps, _, _, _, h, hb => by
    cases p
    case agg ccs =>
      simp only [resPure] at h
      split at h
      · split at h
        case h_2 => cases h
        rename_i h2
        obtain ⟨-, rfl⟩ := Prod.mk.inj (Option.some.inj h)
        exact resPure_box ow h2 hb
      split at h
      case h_2 => cases h
      rename_i h1
      split at h
      case h_2 => cases h
      rename_i h2
      obtain ⟨-, rfl⟩ := Prod.mk.inj (Option.some.inj h)
      exact resPure_box ow h2 (toPures_box h1 hb)
    case osl i v =>
      simp only [resPure] at h
      split at h
      · rename_i v' e0 sz es hg
        split at h
        case isFalse => cases h
        split at h
        case h_2 => cases h
        rename_i h2
        obtain ⟨-, rfl⟩ := Prod.mk.inj (Option.some.inj h)
        refine resPure_box ow h2 ?_
        simp only [Heap.get_put]
        by_cases e : id = i
        · subst e; rw [hb] at hg; cases hg
        · rw [if_neg e]; exact hb
      · split at h
        case h_2 => cases h
        rename_i h2
        obtain ⟨-, rfl⟩ := Prod.mk.inj (Option.some.inj h)
        exact resPure_box ow h2 hb
    all_goals
      simp only [resPure] at h
      split at h
      case h_2 => cases h
      rename_i h2
      obtain ⟨-, rfl⟩ := Prod.mk.inj (Option.some.inj h)
      exact resPure_box ow h2 hb

/-- What a function's end shows. -/
theorem all_sound (hG : EnvOk P G) (h : Sim κ η s a w) {fn : Func} {ow : Bool} {vs : List PV} {s' : St} (hv : resAll ow G fn.results.toList s = some (vs, s')) :
    ∃ v gs η', (results fn a.tmps).run P w = .ok v w ∧ η.le η' ∧ (∀ g, imm κ η w g → imm κ η' w g) ∧ gs.Nodup ∧ (∀ g ∈ gs, g < w.heap.size ∧ ¬ imm κ η' w g) ∧ (∀ g ∈ gs, κ.B ≤ g ∨ κ.M g) ∧ Res w (imm κ η' w) 0 (oneRes vs) v gs ∧ ∀ id ver cs, s.H.get id = (ver, .box cs) → ObjRep κ w η' id (ver, .box cs) ∧ ∀ g ∈ gs, ∀ x, η'.val (.o id) = some x → headOf x ≠ some g := by
  unfold resAll at hv
  split at hv
  case h_2 => cases hv
  rename_i vs0 h0
  split at hv
  case h_2 => cases hv
  rename_i vs1 s1 h1
  obtain ⟨cs, hrun, hr0⟩ := resVars_sound hG h h0
  obtain ⟨η1, hs1, hr1, hle1, hI1⟩ := resPure_sound ow h hr0 h1
  obtain ⟨gs, hl, hnd, hgs⟩ := resOwn_sound hs1 (s := s1) (fun id => .inl rfl) hr1 hv
  obtain ⟨v, hres, hv'⟩ := run_results hrun
  have hlen := resL_len hl
  refine ⟨v, gs, η1, hres, hle1, hI1, hnd, fun g hg => ?_, fun g hg => ?_, ?_, fun id ver cs hb => ⟨by rw [← resPure_box ow h1 hb]; exact hs1.heap id, fun g hg x hx hxg => by
    obtain ⟨i, y, ⟨u, e, z, l, hrow⟩, hy, hyg⟩ := hgs g hg
    obtain rfl := Key.o.inj (hs1.apart i id y x g hy hx hyg hxg)
    rw [resPure_box ow h1 hb] at hrow
    cases hrow⟩⟩
  · obtain ⟨id, x, _, hx, hxg⟩ := hgs g hg
    exact ⟨(own_head (hs1.heap id) hx hxg).1, fun hi => hi.2.2 id x hx hxg⟩
  · obtain ⟨id, x, ⟨u, e, z, l, hrow⟩, hx, hxg⟩ := hgs g hg
    have hob := hs1.heap id
    rw [hrow] at hob
    obtain ⟨_, v', vals, hv', hown, _⟩ := hob
    rw [hx] at hv'
    obtain rfl := Option.some.inj hv'
    exact hown.side.new g hxg
  · rcases hv' with ⟨c, rfl, rfl⟩ | ⟨hne, rfl⟩
    · match vs, hl with
      | [p], .cons hp .nil => exact .one (by simpa [oneRes] using hp)
    · have : oneRes vs = .tup vs := by
        match vs, cs, hlen with
        | [], _, _ => rfl
        | [p], [c], _ => exact absurd rfl (hne c)
        | p :: p' :: r, _, _ => rfl
      rw [this]
      exact .tup hl
end
end Go.Proofs.Ytngefbdedbbplaa.Ai
