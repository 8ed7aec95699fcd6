/- Soundness: calls and what they hand back. -/
import Derived.Test.YtngefbdedbbplaaAiMem5
set_option linter.unusedSectionVars false
namespace Go.Proofs.Ytngefbdedbbplaa.Ai
open Go Go.RowKit
set_option linter.unusedVariables false
set_option linter.unusedSimpArgs false

section
variable {κ : Ctx} {η : Own} {s : St} {a : Act} {w : World}

def Ctx.res (κ : Ctx) (gs : List Nat) : Ctx := { κ with Z := (· ∈ gs) }

/-- A row that was handed over is bound to a key. -/
theorem Sim.adopt {gs : List Nat} {g0 : List Nat} (h : Sim (κ.res (g0 ++ gs)) η s a w) (hnd : (g0 ++ gs).Nodup) (hown : ∀ g ∈ g0 ++ gs, ∀ (id : Key) x, η.val id = some x → headOf x ≠ some g) (key e sz : Nat) (es : List (List PV)) (v : Value) (vals : List Value)
    (hg0 : (headOf v).toList = g0) (ho : w.ownsRow κ.B e sz v es.length vals) (hr : RepIs w (imm (κ.res (g0 ++ gs)) η w) es.flatten vals) (hl : ∀ x ∈ es, x.length = sz) :
    ∃ η', Sim (κ.res gs) η' ⟨s.T, s.H.new key (.row e sz es)⟩ a w ∧ η.le η' ∧ (∀ g, imm (κ.res (g0 ++ gs)) η w g → imm (κ.res gs) η' w g) ∧ η'.val key = some v ∧ η'.cur key = (s.H.get key).1 + 1 ∧
      ∀ g ∈ gs, ∀ (id : Key) x, η'.val id = some x → headOf x ≠ some g := by
  have hcur : η.cur key = (s.H.get key).1 := (h.heap key).ver
  have hle : η.le (η.set key ((s.H.get key).1 + 1) (some v)) := Own.le_set (by omega)
  have hhead : ∀ g, headOf v = some g → g ∈ g0 := fun g hg => by rw [← hg0, hg]; simp
  have hI : ∀ g, imm (κ.res (g0 ++ gs)) η w g → imm (κ.res gs) (η.set key ((s.H.get key).1 + 1) (some v)) w g ∧ w.heap[g]? = w.heap[g]? := fun g hg => by
    have hz : g ∉ g0 ++ gs := hg.2.1.2
    refine ⟨⟨hg.1, ⟨hg.2.1.1, fun hm => hz (List.mem_append_right _ hm)⟩, fun i x hx he => ?_⟩, rfl⟩
    rcases Own.set_val hx with ⟨_, hx⟩ | ⟨_, hx⟩
    · obtain rfl := Option.some.inj hx
      exact hz (List.mem_append_left _ (hhead g he))
    · exact hg.2.2 i x hx he
  have hs : Sim (κ.res gs) (η.set key ((s.H.get key).1 + 1) (some v)) ⟨s.T, s.H.new key (.row e sz es)⟩ a w := by
    refine ⟨h.tmps.mono fun _ _ x => x.mono hI hle, h.defers, fun i => ?_, fun i j x x' g hx hx' he he' => ?_, fun i => ?_, ⟨h.kept.os, h.kept.tape, h.kept.output, h.kept.size, h.kept.block⟩⟩
    · unfold Heap.new
      rw [Heap.get_put]
      by_cases e' : i = key
      · rw [if_pos e', e']
        exact ⟨Own.set_cur, v, vals, Own.set_o, OwnsK.of ho (Nat.le_refl _), hr.mono hI, hl⟩
      · rw [if_neg e']
        have hk := h.heap i
        have hk' : ObjRep (κ.res gs) w (η.set key ((s.H.get key).1 + 1) (some v)) i (s.H.get i) := by
          have c1 := Own.set_cur_ne (η := η) (id := key) (ver := (s.H.get key).1 + 1) (v := some v) e'
          have v1 := Own.set_ne (η := η) (id := key) (ver := (s.H.get key).1 + 1) (v := some v) (k := .o i) e'
          generalize s.H.get i = q at hk
          obtain ⟨ver, b⟩ := q
          cases b with
          | dead => exact ⟨c1.trans hk.1, v1.trans hk.2⟩
          | box cs =>
            obtain ⟨h1, g, arr, el, h2, h3, h4, h5⟩ := hk
            exact ⟨c1.trans h1, g, arr, el, v1.trans h2, h3, h4.mono fun _ _ x => x.mono hI hle, h5⟩
          | row el sz' es' =>
            obtain ⟨h1, u, vals', h2, h3, h4, h5⟩ := hk
            exact ⟨c1.trans h1, u, vals', v1.trans h2, h3, h4.mono hI, h5⟩
          | iter b pos =>
            obtain ⟨h1, g, h2, h3⟩ := hk
            exact ⟨c1.trans h1, g, v1.trans h2, h3⟩
          | map es' =>
            obtain ⟨h1, g, ents, clock, ks, h2, h3⟩ := hk
            exact ⟨c1.trans h1, g, ents, clock, ks, v1.trans h2, h3⟩
          | tree el sz' es' =>
            obtain ⟨h1, u, vals', h2, h3, h4, h5⟩ := hk
            refine ⟨c1.trans h1, u, vals', v1.trans h2, h3, ⟨h4.1, fun p c u hp hu => ?_⟩, h5⟩
            exact CellRep.keep' (h4.2 p c u hp hu) (Own.set_ne e') hI
          | wild el sz' es' =>
            obtain ⟨h1, u, vals', h2, h3, h4, h5⟩ := hk
            refine ⟨c1.trans h1, u, vals', v1.trans h2, h3, ⟨h4.1, fun p c u hp hu => ?_⟩, h5⟩
            exact (h4.2 p c u hp hu).keepR (Own.set_ne e') (fun _ _ _ _ => rfl) hI hle
        exact hk'
    · rcases Own.set_val hx with ⟨e, hx⟩ | ⟨e, hx⟩ <;> rcases Own.set_val hx' with ⟨e', hx'⟩ | ⟨e', hx'⟩
      · rw [e, e']
      · obtain rfl := Option.some.inj hx
        exact absurd he' (hown g (List.mem_append_left _ (hhead g he)) j x' hx')
      · obtain rfl := Option.some.inj hx'
        exact absurd he (hown g (List.mem_append_left _ (hhead g he')) i x hx)
      · exact h.apart i j x x' g hx hx' he he'
    · unfold Heap.new
      rw [Heap.get_put]
      by_cases e : i = key
      · subst e; exact SubRep.none fun p => Own.set_n
      · rw [if_neg e]
        exact (h.sub i).keep fun k hk => Own.set_ne (by rw [hk]; exact e)
  refine ⟨_, hs, hle, fun g hg => (hI g hg).1, Own.set_o, Own.set_cur, fun g hg i x hx he => ?_⟩
  rcases Own.set_val hx with ⟨_, hx⟩ | ⟨_, hx⟩
  · obtain rfl := Option.some.inj hx
    have h1 := hhead g he
    exact (List.nodup_append.1 hnd).2.2 g h1 g hg rfl
  · exact hown g (List.mem_append_right _ hg) i x hx he

theorem ResC.mono {w : World} {I I' : Nat → Prop} {base : Nat} (hI : ∀ g, I g → I' g) {p : List PV} {v : List Value} {gs : List Nat} (h : ResC w I base p v gs) : ResC w I' base p v gs := by
  induction h with
  | nil => exact .nil
  | imm h _ ih => exact .imm (h.weak hI) ih
  | fr ho hr hl _ ih => exact .fr ho (hr.weak hI) hl ih
theorem Res1.mono {w : World} {I I' : Nat → Prop} {base : Nat} (hI : ∀ g, I g → I' g) {p : PV} {v : Value} {gs : List Nat} (h : Res1 w I base p v gs) : Res1 w I' base p v gs := by
  cases h with
  | aggO cs vs gs h => exact .aggO cs vs gs (h.mono hI)
  | undef => exact .undef _
  | imm h => exact .imm (h.weak hI)
  | agg cs vs h => exact .agg cs vs (h.weak hI)
  | fr e sz es v vals ho hr hl => exact .fr e sz es v vals ho (hr.weak hI) hl
theorem ResL.mono {w : World} {I I' : Nat → Prop} {base : Nat} (hI : ∀ g, I g → I' g) : ∀ {p : List PV} {v : List Value} {gs : List Nat}, ResL w I base p v gs → ResL w I' base p v gs
  | _, _, _, .nil => .nil
  | _, _, _, .cons h t => .cons (h.mono hI) (ResL.mono hI t)

theorem Res.mono {w : World} {I I' : Nat → Prop} {base : Nat} (hI : ∀ g, I g → I' g) {p : PV} {v : Value} {gs : List Nat} (h : Res w I base p v gs) : Res w I' base p v gs := by
  cases h with
  | one h1 => exact .one (h1.mono hI)
  | tup h1 => exact .tup (h1.mono hI)

theorem bindC_other {p : PV} (hp : ∀ e sz es, p ≠ .fr e sz es) (key q : Nat) (r : List PV) (s : St) : bindC key q (p :: r) s = (p :: (bindC key (q + 1) r s).1, (bindC key (q + 1) r s).2) := by
  cases p <;> first | rfl | exact absurd rfl (hp _ _ _)
/-- A struct's cells: own rows in them. -/
theorem bindC_sound {base : Nat} (hB : κ.B ≤ base) (key : Nat) {J : Nat → Prop} {cs : List PV} {vs : List Value} {gs : List Nat} (hc : ResC w J base cs vs gs) :
    ∀ (q : Nat) (s : St) (η : Own) (g1 : List Nat), Sim (κ.res (gs ++ g1)) η s a w → (gs ++ g1).Nodup → (∀ g ∈ gs ++ g1, ∀ (id : Key) x, η.val id = some x → headOf x ≠ some g) → (∀ g, J g → imm (κ.res (gs ++ g1)) η w g) →
    ∃ η', Sim (κ.res g1) η' (bindC key q cs s).2 a w ∧ All2 (Rep1 w (imm (κ.res g1) η' w) η') (bindC key q cs s).1 vs ∧ η.le η' ∧ (∀ g, imm (κ.res (gs ++ g1)) η w g → imm (κ.res g1) η' w g) ∧
      ∀ g ∈ g1, ∀ (id : Key) x, η'.val id = some x → headOf x ≠ some g := by
  induction hc with
  | nil => exact fun q s η g1 h _ ho _ => ⟨η, h, .nil, η.le_refl, fun _ hg => hg, ho⟩
  | imm hp _ ih =>
    intro q s η g1 h hnd ho hJ
    rw [bindC_other (fun _ _ _ e => by subst e; cases hp)]
    obtain ⟨η', h1, h2, h3, h4, h5⟩ := ih (q + 1) s η g1 h hnd ho hJ
    exact ⟨η', h1, .cons (.imm (hp.weak fun g hg => h4 g (hJ g hg))) h2, h3, h4, h5⟩
  | @fr e sz es v vals ps vs gs hw hr hl _ ih =>
    intro q s η g1 h hnd ho hJ
    rw [List.append_assoc] at h hnd ho hJ
    obtain ⟨η1, hs, hle, hI, hv, hcur, hg⟩ := h.adopt hnd ho (key + 1000000 * q) e sz es v vals rfl (ownsRow_base hw hB) (hr.weak hJ) hl
    obtain ⟨η2, h1, h2, h3, h4, h5⟩ := ih (q + 1) _ η1 g1 hs (List.nodup_append.1 hnd).2.1 hg fun g hj => hI g (hJ g hj)
    refine ⟨η2, h1, .cons ?_ h2, Own.le_trans hle h3, fun g hg => h4 g (hI g (by rw [← List.append_assoc]; exact hg)), h5⟩
    have h0 : Rep1 w (imm (κ.res (gs ++ g1)) η1 w) η1 (.osl (key + 1000000 * q) ((s.H.get (key + 1000000 * q)).1 + 1)) v := .osl _ _ _ (Nat.le_of_eq hcur.symm) fun _ x hx => by
      rw [hv] at hx; exact (Option.some.inj hx).symm ▸ rfl
    exact h0.mono (fun g hg => ⟨h4 g hg, rfl⟩) h3
theorem bindC_pure (key : Nat) : ∀ (q : Nat) (cs : List PV) (s : St), (∀ c ∈ cs, ∀ e sz es, c ≠ .fr e sz es) → bindC key q cs s = (cs, s)
  | _, [], _, _ => rfl
  | q, c :: r, s, h => by rw [bindC_other (h c (by simp)), bindC_pure key (q + 1) r s fun x hx => h x (by simp [hx])]
theorem RepIs.nofr {I : Nat → Prop} : ∀ {cs : List PV} {vs : List Value}, RepIs w I cs vs → ∀ c ∈ cs, ∀ e sz es, c ≠ .fr e sz es
  | _, _, .nil => fun c hc => by cases hc
  | _, _, .cons h t => fun c hc e sz es ec => by
    rcases List.mem_cons.1 hc with rfl | hc
    · subst ec; cases h
    · exact RepIs.nofr t c hc e sz es ec

/-- One part of a result. -/
theorem bindAt_sound {gs g0 : List Nat} {base : Nat} (h : Sim (κ.res (g0 ++ gs)) η s a w) (hB : κ.B ≤ base) (hnd : (g0 ++ gs).Nodup) (hown : ∀ g ∈ g0 ++ gs, ∀ (id : Key) x, η.val id = some x → headOf x ≠ some g)
    {p : PV} {v : Value} (hr : Res1 w (imm (κ.res (g0 ++ gs)) η w) base p v g0) (d key : Nat) :
    ∃ η', Sim (κ.res gs) η' (bindAt d key s p).2 a w ∧ RepA w (imm (κ.res gs) η' w) η' (bindAt d key s p).1 v ∧ η.le η' ∧ (∀ g, imm (κ.res (g0 ++ gs)) η w g → imm (κ.res gs) η' w g) ∧
      ∀ g ∈ gs, ∀ (id : Key) x, η'.val id = some x → headOf x ≠ some g := by
  have same : ∀ p, RepA w (imm (κ.res gs) η w) η p v → bindAt d key s p = (p, s) → g0 = [] → ∃ η', Sim (κ.res gs) η' (bindAt d key s p).2 a w ∧ RepA w (imm (κ.res gs) η' w) η' (bindAt d key s p).1 v ∧ η.le η' ∧
      (∀ g, imm (κ.res (g0 ++ gs)) η w g → imm (κ.res gs) η' w g) ∧ ∀ g ∈ gs, ∀ (id : Key) x, η'.val id = some x → headOf x ≠ some g := fun p hp hf h0 => by
    subst h0
    rw [hf]
    exact ⟨η, h, hp, η.le_refl, fun g hg => hg, fun g hg => hown g hg⟩
  cases hr with
  | undef => exact same _ (.one (.undef _)) rfl rfl
  | imm hr => exact same _ (.one (.imm hr)) (by cases hr <;> rfl) rfl
  | agg cs vs hr => exact same _ (.agg cs vs (RepIs.rep1 hr)) (by simp only [bindAt, bindC_pure key 1 cs s hr.nofr]) rfl
  | aggO cs vs gs0 hc =>
    obtain ⟨η', hs, h2, hle, hI, hg⟩ := bindC_sound hB key hc 1 s η gs h hnd hown fun g hg => hg
    exact ⟨η', hs, .agg _ _ h2, hle, hI, hg⟩
  | fr e sz es v vals ho hr hl =>
    obtain ⟨η', hs, hle, hI, hv, hc, hg⟩ := h.adopt hnd hown key e sz es v vals rfl (ownsRow_base ho hB) hr hl
    refine ⟨η', hs, .one (.osl _ _ _ ?_ fun _ x hx => ?_), hle, hI, hg⟩
    · rw [hc]; exact Nat.le_refl _
    · rw [hv] at hx; exact Option.some.inj hx

theorem bindL_sound {base : Nat} (hB : κ.B ≤ base) (d : Nat) {J : Nat → Prop} {ps : List PV} {vs : List Value} {gs : List Nat} (hl : ResL w J base ps vs gs) :
    ∀ (j : Nat) (s : St) (η : Own), Sim (κ.res gs) η s a w → gs.Nodup → (∀ g ∈ gs, ∀ (id : Key) x, η.val id = some x → headOf x ≠ some g) → (∀ g, J g → imm (κ.res gs) η w g) →
    ∃ η', Sim (κ.res []) η' (bindL d j ps s).2 a w ∧ All2 (RepA w (imm (κ.res []) η' w) η') (bindL d j ps s).1 vs ∧ η.le η' ∧ ∀ g, imm (κ.res gs) η w g → imm (κ.res []) η' w g := by
  induction hl with
  | nil => exact fun j s η h _ _ _ => ⟨η, h, .nil, η.le_refl, fun _ hg => hg⟩
  | cons hp ht ih =>
    intro j s η h hnd hown hJ
    obtain ⟨η1, h1, hr1, hle1, hI1, hown1⟩ := bindAt_sound h hB hnd hown (hp.mono hJ) d (8 * d + j)
    obtain ⟨η2, h2, hr2, hle2, hI2⟩ := ih (j + 1) _ η1 h1 (List.nodup_append.1 hnd).2.1 hown1 (fun g hg => hI1 g (hJ g hg))
    exact ⟨η2, h2, .cons (hr1.mono (fun g hg => ⟨hI2 g hg, rfl⟩) hle2) hr2, Own.le_trans hle1 hle2, fun g hg => hI2 g (hI1 g hg)⟩

theorem Sim.unres (h : Sim (κ.res []) η s a w) [NoZ κ] : Sim κ η s a w := by
  have hI : ∀ g, imm (κ.res []) η w g ↔ imm κ η w g := fun g => by
    unfold imm Ctx.res
    simp only [List.not_mem_nil, not_false_eq_true, and_true]
    exact ⟨fun ⟨h1, h2, h3⟩ => ⟨h1, ⟨h2, NoZ.out g⟩, h3⟩, fun ⟨h1, h2, h3⟩ => ⟨h1, h2.1, h3⟩⟩
  have e : imm (κ.res []) η w = imm κ η w := funext fun g => propext (hI g)
  refine ⟨by rw [← e]; exact h.tmps, h.defers, fun id => ?_, h.apart, h.sub, ⟨h.kept.os, h.kept.tape, h.kept.output, h.kept.size, h.kept.block⟩⟩
  have := h.heap id
  generalize s.H.get id = q at this
  obtain ⟨ver, b⟩ := q
  cases b with
  | dead => exact this
  | box cs => simp only [ObjRep, e] at this; exact this
  | row el sz' es' => simp only [ObjRep, e] at this; exact this
  | iter b pos => exact this
  | map es => exact this
  | tree el sz' es' =>
    obtain ⟨h1, u, vals', h2, h3, h4, h5⟩ := this
    exact ⟨h1, u, vals', h2, h3, ⟨h4.1, fun p c u hp hu => (h4.2 p c u hp hu).keep' rfl fun g hg => ⟨(hI g).1 hg, rfl⟩⟩, h5⟩
  | wild el sz' es' =>
    obtain ⟨h1, u, vals', h2, h3, h4, h5⟩ := this
    exact ⟨h1, u, vals', h2, h3, ⟨h4.1, fun p c u hp hu => (h4.2 p c u hp hu).keepR rfl (fun _ _ _ _ => rfl) (fun g hg => ⟨(hI g).1 hg, rfl⟩) η.le_refl⟩, h5⟩

/-- What a call has handed back is laid into its slot. -/
theorem bind_sound [NoZ κ] {w' : World} (h : Sim κ η s a w') {R : Nat → Prop} {base : Nat} (hB : κ.B ≤ base) {r : PV} {v : Value} {gs : List Nat} (hres : Sim (κ.res gs) η s a w') (hR : ∀ g, R g → g ∉ gs → g < w'.heap.size → (base ≤ g → plain w' g) → imm (κ.res gs) η w' g)
    (hown : ∀ g ∈ gs, ∀ (id : Key) x, η.val id = some x → headOf x ≠ some g) (hr : RepR R base w' r v gs) (d : Option Nat) : ∃ η', Sim κ η' (bind s d r) (a.put d v) w' := by
  cases d with
  | none => exact ⟨η, h⟩
  | some d =>
    obtain ⟨hnd, hgs, hr⟩ := hr
    have hI : ∀ g, (R g ∧ g < w'.heap.size ∧ g ∉ gs ∧ (base ≤ g → plain w' g)) → imm (κ.res gs) η w' g := fun g ⟨h1, h2, h3, h4⟩ => hR g h1 h3 h2 h4
    cases hr with
    | tup hl =>
      rename_i ps vs
      obtain ⟨η', hs, hrs, _, _⟩ := bindL_sound hB d hl 2 s η hres hnd hown hI
      have hs' := hs.unres
      refine ⟨η', ?_⟩
      have := hs.put (some d) (Rep.tup _ _ hrs)
      exact this.unres
    | one h1 =>
      have h1' := h1.mono hI
      have key : ∀ (hne : ∀ vs, r ≠ .tup vs), ∃ η', Sim κ η' (bind s (some d) r) (a.put (some d) v) w' := fun hne => by
        obtain ⟨η', hs, hrs, _, _, _⟩ := bindAt_sound (gs := []) (g0 := gs) (by simpa using hres) hB (by simpa using hnd) (by simpa using hown) (by simpa using h1') d (8 * d)
        refine ⟨η', ?_⟩
        have he : bind s (some d) r = (bindAt d (8 * d) s r).2.put (some d) (bindAt d (8 * d) s r).1 := by
          cases r <;> first | rfl | exact absurd rfl (hne _)
        rw [he]
        exact (hs.put (some d) (.one hrs)).unres
      refine key fun vs e => ?_
      subst e
      cases h1 with
      | imm h1 => cases h1
end

section
variable {bb : Bool} {P : Program} {κ : Ctx} [NoZ κ] {η : Own} {s : St} {a : Act} {w : World} {G : Env} {o : Oper} {Q' : Exit → Act → World → Prop}

omit [NoZ κ] in
theorem CellRep.imm {id p : Nat} {c : PV} {u : Value} (h : CellRep κ w η id p c u) (hc : ∀ e sz es, c ≠ .fr e sz es) : RepI w (Ai.imm κ η w) c u := by
  cases c <;> first | exact h | exact absurd rfl (hc _ _ _)

theorem owns_isl {I : Nat → Prop} {base e sz : Nat} {es : List (List PV)} {v : Value} {vals : List Value} (ho : w.ownsRow base e sz v es.length vals) (hr : RepIs w I es.flatten vals) (hl : ∀ x ∈ es, x.length = sz)
    (hI : ∀ g, headOf v = some g → I g) : RepI w I (.isl sz es) v := by
  have hc := fun g (hg : headOf v = some g) => own_cell ho hg
  rcases ho.2 with ⟨rfl, h0⟩ | ⟨g, cap, cur, rfl, hB, hh, hcap, hm, hcs, htake⟩
  · obtain rfl : es = [] := List.length_eq_zero_iff.1 h0
    exact .isl0 sz none 0 (Nat.zero_le _)
  · exact .isl sz es g 0 cap vals hl hr (hI g rfl) (fun j v hj => by have := hc g rfl j v hj; simpa using this) hcap hm

theorem cells_cool {I : Nat → Prop} {id : Nat} (hI : ∀ g, imm κ η w g → I g) (hS : ∀ p u g, η.val (.n id p) = some u → headOf u = some g → I g) : ∀ (p0 : Nat) (cs : List PV) (us : List Value), cs.length = us.length →
    (∀ p c u, cs[p]? = some c → us[p]? = some u → CellRep κ w η id (p0 + p) c u) → RepIs w I (cs.map coolC) us
  | _, [], [], _, _ => .nil
  | _, [], _ :: _, h, _ => by simp at h
  | _, _ :: _, [], h, _ => by simp at h
  | p0, c :: cs, u :: us, hl, hc => by
    have hr := cells_cool hI hS (p0 + 1) cs us (by simpa using hl) fun p c' u' hp hu => by
      rw [show p0 + 1 + p = p0 + (p + 1) by omega]
      exact hc (p + 1) c' u' (by simpa using hp) (by simpa using hu)
    have h0 : CellRep κ w η id p0 c u := hc 0 c u rfl rfl
    refine .cons ?_ hr
    by_cases hf : ∃ e z es, c = .fr e z es
    · obtain ⟨e, z, es, rfl⟩ := hf
      obtain ⟨a1, vals, a2, a3, a4⟩ := h0
      exact owns_isl a2.row (a3.weak hI) a4 fun g hg => hS _ _ g a1 hg
    · have hne : ∀ e z es, c ≠ .fr e z es := fun e z es e' => hf ⟨e, z, es, e'⟩
      have : coolC c = c := by cases c <;> first | rfl | exact absurd rfl (hne _ _ _)
      rw [this]
      exact (h0.imm hne).weak hI

theorem lend1_sound (h : Sim κ η s a w) {p q : PV} {b : Bool} {c : Value} (hr : Rep1 w (imm κ η w) η p c) (hl : lend1 s p = some (b, q)) :
    (b = false → RepI w (imm κ η w) q c) ∧ RepI w (fun g => g < w.heap.size) q c := by
  unfold lend1 at hl
  split at hl
  · rename_i id ver
    split at hl
    · rename_i v' e sz es he
      split at hl
      case isFalse => cases hl
      rename_i ev
      subst ev
      simp only [Option.some.injEq, Prod.mk.injEq] at hl
      obtain ⟨rfl, rfl⟩ := hl
      obtain ⟨hval, hcur⟩ := own_value h he (.of1 hr)
      have hob := h.heap id
      rw [he] at hob
      obtain ⟨v, hv, hri⟩ := row_isl hob h.apart
      rw [hval] at hv
      obtain rfl := Option.some.inj hv
      exact ⟨by simp, hri.weak fun g hg => hg.1⟩
    · rename_i v' e sz es he
      split at hl
      case isFalse => cases hl
      rename_i ev
      subst ev
      simp only [Option.some.injEq, Prod.mk.injEq] at hl
      obtain ⟨rfl, rfl⟩ := hl
      have hob := h.heap id
      rw [he] at hob
      obtain ⟨hcur, v, vals, hval, hown, hrep, hlen⟩ := hob
      have hc : c = v := by
        cases hr with
        | osl _ _ _ hv h => exact h hcur.symm _ hval
        | imm h => cases h
      subst hc
      refine ⟨by simp, ?_⟩
      rw [coolL_eq]
      refine owns_isl (by rw [List.length_map]; exact hown.row) ?_ (fun x hx => ?_) fun g hg => (h.head hval hg).1
      · rw [← List.map_flatten]
        exact cells_cool (fun g hg => hg.1) (fun p u g hu hg => (h.head hu hg).1) 0 es.flatten vals hrep.1 fun p c u hp hu => by rw [Nat.zero_add]; exact hrep.2 p c u hp hu
      · obtain ⟨x', hx', rfl⟩ := List.mem_map.1 hx
        rw [List.length_map]
        exact hlen x' hx'
    · cases hl
  · split at hl
    case isFalse => cases hl
    rename_i hp
    simp only [Option.some.injEq, Prod.mk.injEq] at hl
    obtain ⟨rfl, rfl⟩ := hl
    have hI := (Rep.of1 hr).invI hp
    exact ⟨fun _ => hI, hI.weak fun g hg => hg.1⟩

/-- What a list of values is lent as, in each of the three ways. -/
structure Lent (κ : Ctx) (η : Own) (s : St) (w : World) (b : Bool) (R : (Nat → Prop) → Prop) : Prop where
  plain : b = false → R (imm κ η w)
  all : R (fun g => g < w.heap.size)

theorem lends1_sound (h : Sim κ η s a w) : ∀ {ps qs : List PV} {vs : List Value} {b : Bool}, All2 (Rep1 w (imm κ η w) η) ps vs → lends (lend1 s) ps = some (b, qs) → Lent κ η s w b fun I => RepIs w I qs vs
  | [], _, _, _, .nil, hl => by
    simp only [lends, Option.some.injEq, Prod.mk.injEq] at hl
    obtain ⟨rfl, rfl⟩ := hl
    exact ⟨fun _ => .nil, .nil⟩
  | p :: ps, _, _, _, .cons hp hr, hl => by
    simp only [lends] at hl
    split at hl
    case h_2 => cases hl
    rename_i b1 q1 h1
    split at hl
    case h_2 => cases hl
    rename_i b2 q2 h2
    simp only [Option.some.injEq, Prod.mk.injEq] at hl
    obtain ⟨rfl, rfl⟩ := hl
    obtain ⟨k1, k2⟩ := lend1_sound h hp h1
    obtain ⟨m1, m2⟩ := lends1_sound h hr h2
    refine ⟨fun e => ?_, .cons k2 m2⟩
    simp only [Bool.or_eq_false_iff] at e
    exact .cons (k1 e.1) (m1 e.2)

theorem lend_sound (h : Sim κ η s a w) {p q : PV} {b : Bool} {c : Value} (hr : Rep w (imm κ η w) η p c) (hl : lend s p = some (b, q)) : Lent κ η s w b fun I => RepArg w I q c := by
  unfold lend at hl
  split at hl
  · rename_i cs
    obtain ⟨l, rfl, hcs⟩ := hr.agg_
    split at hl
    case h_2 => cases hl
    rename_i b' cs' h1
    simp only [Option.some.injEq, Prod.mk.injEq] at hl
    obtain ⟨rfl, rfl⟩ := hl
    have := lends1_sound h hcs h1
    exact ⟨fun e => .agg _ _ (this.plain e), .agg _ _ this.all⟩
  · rename_i hna
    cases hr with
    | one hr => cases hr with
      | one hr =>
        obtain ⟨k1, k2⟩ := lend1_sound h hr hl
        exact ⟨fun e => .one (k1 e), .one k2⟩
      | agg cs vs hr => exact absurd rfl (hna cs)
    | tup cs vs hr => simp [lend1, PV.pure] at hl

theorem lends_sound (h : Sim κ η s a w) : ∀ {ps qs : List PV} {vs : List Value} {b : Bool}, All2 (Rep w (imm κ η w) η) ps vs → lends (lend s) ps = some (b, qs) → Lent κ η s w b fun I => All2 (RepArg w I) qs vs
  | [], _, _, _, .nil, hl => by
    simp only [lends, Option.some.injEq, Prod.mk.injEq] at hl
    obtain ⟨rfl, rfl⟩ := hl
    exact ⟨fun _ => .nil, .nil⟩
  | p :: ps, _, _, _, .cons hp hr, hl => by
    simp only [lends] at hl
    split at hl
    case h_2 => cases hl
    rename_i b1 q1 h1
    split at hl
    case h_2 => cases hl
    rename_i b2 q2 h2
    simp only [Option.some.injEq, Prod.mk.injEq] at hl
    obtain ⟨rfl, rfl⟩ := hl
    have k := lend_sound h hp h1
    have m := lends_sound h hr h2
    refine ⟨fun e => ?_, .cons k.all m.all⟩
    simp only [Bool.or_eq_false_iff] at e
    exact .cons (k.plain e.1) (m.plain e.2)

theorem run_callFunc {f : FuncId} (hc : Callable P f) (args : Array Value) (w : World) : (callFunc f args).run P w = .ok (.enter f args) w := by
  obtain ⟨fn, h1, h2, h3⟩ := hc
  simp only [callFunc, Sem.run_bind, run_program, Result.andThen_ok, h1, h2, h3, Bool.false_eq_true, if_false]
  rfl

theorem execOp_call {f : FuncId} {args : Array Operand} {ts : Array TypeId} (ho : o.op = .call { callee := .value (.func f), args := args, argTypes := ts }) (hc : Callable P f) :
    (execOp a.eval o).run P w = .ok (.enter f (args.map a.eval)) w := by
  have h0 := run_callFunc hc (args.map a.eval) w
  unfold execOp
  simp only [ho, resolve, Act.eval, Deferred.ofValue, Sem.run_bind, Sem.run_pure, Result.andThen_ok, invoke, Array.empty_append, Array.append_empty]
  exact h0

theorem evs_rep (h : Sim κ η s a w) (xs : List Operand) : All2 (Rep w (imm κ η w) η) (evs s xs) (xs.map a.eval) := All2.map fun x _ => h.ev x

/-- A state behind a call that left alone what was there, its result's blocks reserved. -/
theorem Sim.belowRes (h : Sim κ η s a w) {w' : World} (hb : Below w.heap.size w w') (gs : List Nat) (hgs : ∀ g ∈ gs, w.heap.size ≤ g) :
    Sim (κ.res gs) η s a w' ∧ (∀ g, imm κ η w g → imm (κ.res gs) η w' g) ∧ (∀ g, w.heap.size ≤ g → g < w'.heap.size → g ∉ gs → plain w' g → imm (κ.res gs) η w' g) ∧ ∀ g ∈ gs, ∀ (id : Key) x, η.val id = some x → headOf x ≠ some g := by
  have hlt : ∀ (i : Key) x g, η.val i = some x → headOf x = some g → g < w.heap.size := fun i x g hx hgx => (h.head hx hgx).1
  have hI : ∀ g, imm κ η w g → imm (κ.res gs) η w' g ∧ w'.heap[g]? = w.heap[g]? := fun g hg =>
    ⟨⟨Nat.lt_of_lt_of_le hg.1 hb.size, ⟨(side_keep (hb.block g hg.1) hg.2.1).1, fun hm => by have := hgs g hm; have := hg.1; omega⟩, hg.2.2⟩, hb.block g hg.1⟩
  have hk := h.kept.step hb.os hb.tape hb.output hb.size fun k hk _ => hb.block k (Nat.lt_of_lt_of_le hk h.kept.size)
  refine ⟨⟨h.tmps.mono fun _ _ x => x.mono hI η.le_refl, h.defers, fun i => ?_, h.apart, h.sub, ⟨hk.os, hk.tape, hk.output, hk.size, hk.block⟩⟩, fun g hg => (hI g hg).1, fun g h1 h2 h3 h4 => ?_, fun g hg id x hx he => ?_⟩
  · have hob := h.heap i
    generalize hq : s.H.get i = q at hob
    obtain ⟨ver, b⟩ := q
    cases b with
    | dead => exact hob
    | box cs =>
      obtain ⟨h1, g, arr, el, h2, h3, h4, h5⟩ := hob
      exact ⟨h1, g, arr, el, h2, (hb.block g (hlt i _ g h2 rfl)).trans h3, h4.mono fun _ _ x => x.mono hI η.le_refl, h5⟩
    | row el sz es =>
      obtain ⟨h1, v, vals, h2, h3, h4, h5⟩ := hob
      exact ⟨h1, v, vals, h2, owns_keep h3 fun g hg => hb.block g (hlt i _ g h2 hg), h4.mono hI, h5⟩
    | iter b pos =>
      obtain ⟨h1, g, h2, h3, h4⟩ := hob
      exact ⟨h1, g, h2, (hb.block g (hlt i _ g h2 rfl)).trans h3, h4⟩
    | map es =>
      obtain ⟨h1, g, ents, clock, ks, h2, h3, h4⟩ := hob
      exact ⟨h1, g, ents, clock, ks, h2, (hb.block g (hlt i _ g h2 rfl)).trans h3, h4⟩
    | tree el sz es =>
      obtain ⟨h1, v, vals, h2, h3, h4, h5⟩ := hob
      exact ⟨h1, v, vals, h2, owns_keep h3 fun g hg => hb.block g (hlt i _ g h2 hg), ⟨h4.1, fun p c u hp hu => (h4.2 p c u hp hu).keepR rfl (fun v g hv hg => hb.block g (hlt _ _ g hv hg)) hI⟩, h5⟩
    | wild el sz es =>
      obtain ⟨h1, v, vals, h2, h3, h4, h5⟩ := hob
      exact ⟨h1, v, vals, h2, owns_keep h3 fun g hg => hb.block g (hlt i _ g h2 hg), ⟨h4.1, fun p c u hp hu => (h4.2 p c u hp hu).keepR rfl (fun v g hv hg => hb.block g (hlt _ _ g hv hg)) hI η.le_refl⟩, h5⟩
  · exact ⟨h2, ⟨.inr ⟨.inl (Nat.le_trans h.kept.size h1), h4⟩, h3⟩, fun id x hx he => by have := hlt id x g hx he; omega⟩
  · have := hlt id x g hx he
    have := hgs g hg
    omega

theorem sound_callG (h : Sim κ η s a w) {K : St → Prop} (f : FuncId) (ps : List PV) (vs : List Value) (hr : All2 (Rep w (imm κ η w) η) ps vs) (he : Callable P f → (execOp a.eval o).run P w = .ok (.enter f vs.toArray) w) {b : Bool} {qs : List PV}
    (hl : lends (lend s) ps = some (b, qs)) (hK : std bb P (.call f b qs) fun r => K (bind s o.dst r)) : o.wp P a w (Then κ K) Q' := by
  obtain ⟨Q, hok, hQ⟩ := std_call hK
  have hlent := lends_sound h hr hl
  have fin : ∀ (al : Bool) (I : Nat → Prop), OkG al P f qs Q → (∀ g, I g → g < w.heap.size) → All2 (RepArg w I) qs vs → (al = true → ∀ g, I g → imm κ η w g) → o.wp P a w (Then κ K) Q' := by
    intro al I hok hIlt hargsI hal
    obtain ⟨hcall, hcon⟩ := hok
    obtain ⟨T, t1, _, t3⟩ := NoZ.good (κ := κ)
    have hc := hcon w I _ ⟨hIlt, T, Nat.le_trans t1 h.kept.size, t3 w h.kept⟩ hargsI
    unfold Oper.wp
    rw [he hcall, Oper.upon_enter]
    refine hc.mono ?_
    rintro e w' ⟨v, r, gs, rfl, hq, hb, hrep⟩
    have hgs : ∀ g ∈ gs, w.heap.size ≤ g := fun g hg => (hrep.2.1 g hg).1
    obtain ⟨hres, hi1, hi2, hown⟩ := h.belowRes hb gs hgs
    obtain ⟨η', hs⟩ := bind_sound (h.below hb) h.kept.size hres (fun g hR hn hlt hp => by
      rcases hR with ⟨ha, hI⟩ | hR
      · exact hi1 g (hal ha g hI)
      · exact hi2 g hR hlt hn (hp hR)) hown hrep o.dst
    exact ⟨η', _, hs, hQ r hq⟩
  cases b with
  | true => exact fin false _ (show Ok P f qs Q by simpa using hok) (fun g hg => hg) hlent.all (by simp)
  | false => exact fin true _ (show OkA P f qs Q by simpa using hok) (fun g hg => hg.1) (hlent.plain rfl) (fun _ g hg => hg)

theorem sound_call (h : Sim κ η s a w) {K : St → Prop} (f : FuncId) (args : Array Operand) (ts : Array TypeId) (ho : o.op = .call { callee := .value (.func f), args := args, argTypes := ts }) {b : Bool} {qs : List PV}
    (hl : lends (lend s) (evs s args.toList) = some (b, qs)) (hK : std bb P (.call f b qs) fun r => K (bind s o.dst r)) : o.wp P a w (Then κ K) Q' := by
  have hargs : (args.map a.eval) = (args.toList.map a.eval).toArray := by rw [← Array.toList_map, Array.toArray_toList]
  exact sound_callG h f _ _ (evs_rep h args.toList) (fun hc => by rw [execOp_call ho hc, hargs]) hl hK

theorem RepCs.all2 {I : Nat → Prop} : ∀ {ps : List PV} {vs : List Value}, RepCs w I ps vs → All2 (Rep w I η) ps vs
  | _, _, .nil => .nil
  | _, _, .one h r => .cons (.of h) (RepCs.all2 r)
  | _, _, .agg h r => .cons (.one (.agg _ _ (RepIs.rep1 h))) (RepCs.all2 r)
theorem pures_repA {I : Nat → Prop} : ∀ {ps : List PV} {vs : List Value}, All2 (Rep1 w I η) ps vs → ps.all PV.pure = true → RepIs w I ps vs
  | _, _, .nil, _ => .nil
  | _, _, .cons p q, h => by
    simp only [List.all_cons, Bool.and_eq_true] at h
    exact .cons ((Rep.of1 p).invI h.1) (pures_repA q h.2)
theorem repCs_of {I : Nat → Prop} : ∀ {ps : List PV} {vs : List Value}, All2 (Rep w I η) ps vs → (ps.all fun v => v.cells.all PV.pure) = true → RepCs w I ps vs
  | _, _, .nil, _ => .nil
  | p :: ps, v :: vs, .cons h r, hp => by
    simp only [List.all_cons, Bool.and_eq_true] at hp
    have hr := repCs_of r hp.2
    cases h with
    | tup cs us hh => simp [PV.cells, PV.pure] at hp
    | one h => cases h with
      | one h =>
        have hc : p.cells = [p] := by
          cases h with
          | imm h => cases h <;> rfl
          | _ => rfl
        have h1 := hp.1
        rw [hc] at h1
        simp only [List.all_cons, List.all_nil, Bool.and_true] at h1
        exact .one ((Rep.of1 h).invI h1) hr
      | agg cs us h => exact .agg (pures_repA h (by simpa [PV.cells] using hp.1)) hr

/-- A call of a function value. -/
theorem sound_callV (h : Sim κ η s a w) {K : St → Prop} (t : Nat) (args : Array Operand) (ts : Array TypeId) (ho : o.op = .call { callee := .value (.tmp t), args := args, argTypes := ts }) {f : FuncId} {caps : List PV} (hf : s.T.getD t .undef = .fn f caps) {b : Bool} {qs : List PV}
    (hl : lends (lend s) (evs s args.toList ++ caps) = some (b, qs)) (hK : std bb P (.call f b qs) fun r => K (bind s o.dst r)) : o.wp P a w (Then κ K) Q' := by
  have hfv := h.ev (.tmp t)
  have hfe : s.ev (.tmp t) = .fn f caps := by
    show unv (s.T.getD t .undef) = _
    rw [hf]; rfl
  rw [hfe] at hfv
  have hI := hfv.invI rfl
  generalize hv : a.eval (.tmp t) = v at hI
  cases hI with
  | fn _ _ cs hcs =>
    refine sound_callG h f _ _ ((evs_rep h args.toList).app hcs.all2) (fun hc => ?_) hl hK
    have h0 := run_callFunc hc (args.map a.eval ++ cs.toArray) w
    have hargs : (args.map a.eval ++ cs.toArray) = (args.toList.map a.eval ++ cs).toArray := by simp
    rw [← hargs]
    unfold execOp
    simp only [ho, resolve, hv, Deferred.ofValue, Sem.run_bind, Sem.run_pure, Result.andThen_ok, invoke, Array.empty_append]
    exact h0

theorem sound_makeFunc (h : Sim κ η s a w) {K : St → Prop} (f : FuncId) (captured : Array Operand) (ho : o.op = .makeFunc (.func f) #[] captured) (hp : ((evs s captured.toList).all fun v => v.cells.all PV.pure) = true)
    (hK : K (s.put o.dst (.fn f (evs s captured.toList)))) : o.wp P a w (Then κ K) Q' := by
  refine done_put h (c := .func (.func f) #[] (captured.toList.map a.eval).toArray) ?_ (.of (.fn _ _ _ (repCs_of (evs_rep h captured.toList) hp))) hK
  have hargs : (captured.map a.eval) = (captured.toList.map a.eval).toArray := by rw [← Array.toList_map, Array.toArray_toList]
  simp [execOp, ho, Instr.makeFunc, hargs]
end
end Go.Proofs.Ytngefbdedbbplaa.Ai
