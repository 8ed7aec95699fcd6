/- A box's cell that holds an own row: the row is only read from here on; loops whose states change their shape on the way back. -/
import Derived.Test.YtiaodmfipeoegaaWild
set_option linter.unusedSectionVars false
set_option linter.unusedVariables false
namespace Go.Proofs.Ytiaodmfipeoegaa.Ai
open Go Go.RowKit
set_option linter.unusedSimpArgs false
section
variable {P : Program} {G : Env} {κ : Ctx} {X Y : Req → (PV → Prop) → Prop} {L : Code → (Ex → St → Prop) → St → Prop}
def sealS (s : St) (k b p : Nat) : St := match s.H.get k with
  | (kv, .row e z rs) => match s.H.get b with
    | (bv, .box cs) => ⟨s.T.map (thaw k kv z rs), (s.H.put k (kv, .dead)).put b (bv, .box (cs.set p (.isl z rs)))⟩
    | _ => s
  | _ => s
theorem chg_sealB [NoZ κ] {s : St} {k b p kv bv e z : Nat} {rs : List (List PV)} {cs : List PV} (he : s.H.get k = (kv, .row e z rs)) (hb : s.H.get b = (bv, .box cs)) (hc : cs[p]? = some (.osl k kv)) (hne : b ≠ k) : Chg κ s (sealS s k b p) := fun η a w h => by
  unfold sealS
  rw [he]
  simp only
  rw [hb]
  simp only
  obtain ⟨η', hs, hle, hI, v, hv, hri⟩ := h.freeze he
  have hok := h.heap k
  rw [he] at hok
  have hob := h.heap b
  rw [hb] at hob
  have hnb := hs.heap b
  rw [Heap.get_put, if_neg hne, hb] at hnb
  obtain ⟨c1, g, arr, e1, c2, c3, c4, c5⟩ := hnb
  obtain ⟨d1, g', arr', e1', d2, d3, d4, -⟩ := hob
  have hd := (hle (.o b)).2 (c1.trans d1.symm) _ c2
  rw [d2] at hd
  have eg : g' = g := by injection hd with hd; injection hd with hd; injection hd with hd; injection hd
  rw [eg] at d3
  rw [c3] at d3
  obtain ⟨rfl, -⟩ : arr = arr' ∧ True := by injection d3 with d3; injection d3 with d3; exact ⟨d3, trivial⟩
  obtain ⟨u, hu, hr⟩ := d4.get hc
  obtain rfl := osl_val (.of1 hr) hok.1.symm hv
  refine ⟨η', hs.step (fun g hg => ⟨hg, rfl⟩) η'.le_refl (fun j => ?_) hs.apart (fun j => ?_) hs.kept⟩
  · rw [Heap.get_put]
    by_cases ej : j = b
    · rw [if_pos ej, ej]
      refine ⟨c1, g, arr, e1, c2, c3, ?_, c5⟩
      have := c4.set p (a := .isl z rs) (b := u) (.imm hri)
      have hset : arr.toList.set p u = arr.toList := by
        apply List.ext_getElem?
        intro q
        rw [List.getElem?_set]
        split
        · rename_i e2
          subst e2
          rw [if_pos (List.getElem?_eq_some_iff.1 hu).1, hu]
        · rfl
      rwa [hset] at this
    · rw [if_neg ej]
      exact hs.heap j
  · rw [Heap.get_put]
    by_cases ej : j = b
    · rw [if_pos ej, ej]
      have := hs.sub b
      rw [Heap.get_put, if_neg hne, hb] at this
      exact this
    · rw [if_neg ej]
      exact hs.sub j
theorem r_loopC {α : Type} {body : Code} {Q : Ex → St → Prop} {s : St} (h : Mach P G κ X Y L) (nt : Nat) (keep : List Nat) (own : List Hold) (tb : α → List (Nat × PV)) (hp : α → Heap) (I : α → Prop) (ms : α → Nat)
    (a0 : α) (h1 : headOk s own = true) (h2 : Ai.norm keep own s = St.at nt (tb a0) (hp a0)) (h3 : I a0)
    (step : ∀ a, I a → ∀ E : St → Prop, (∀ s' s'' a', Chg κ s' s'' → headOk s'' own = true → Ai.norm keep own s'' = St.at nt (tb a') (hp a') → I a' → ms a' < ms a → E s') → ∀ F : Ex → St → Prop, (∀ e s', Q e s' → F e s') →
      code X L G body (fun e s' => match e with | .normal => E s' | .exit i => F (.exit i) s' | .ret => F .ret s') (St.at nt (tb a) (hp a))) : L (.loop body) Q s := by
  have := h.z
  rw [h.L]
  refine W_loop keep own (fun n s => ∃ a, I a ∧ ms a = n ∧ s = St.at nt (tb a) (hp a)) (ms a0) ⟨h1, a0, h3, rfl, h2⟩ ?_
  rintro n s ⟨a, ha, rfl, rfl⟩
  have hst := step a ha (fun s' => ∃ s'', Chg κ s' s'' ∧ headOk s'' own = true ∧ ∃ n', n' < ms a ∧ ∃ a', I a' ∧ ms a' = n' ∧ Ai.norm keep own s'' = St.at nt (tb a') (hp a')) (fun s' s'' a' hc e1 e2 e3 e4 => ⟨s'', hc, e1, _, e4, a', e3, rfl, e2⟩) Q fun _ _ x => x
  rw [h.X, h.L] at hst
  refine fun η a' w hs => Go.wp_mono (code_sound h.hG h.hF body _ _ hst η a' w hs) fun e a'' w' hq => ?_
  cases e with
  | normal =>
    obtain ⟨η1, s', hs', s'', hc, hr⟩ := hq
    obtain ⟨η2, hs2⟩ := hc η1 a'' w' hs'
    exact ⟨η2, s'', hs2, hr⟩
  | exit i => exact hq
  | ret => exact hq
  | goto l => exact hq.elim
  | panic ch => exact hq.elim
  | outgrown => exact hq.elim
end
end Go.Proofs.Ytiaodmfipeoegaa.Ai
