/- The rows of a tree are only read from here on: the tree becomes a row of its own whose cells are read. -/
import Derived.Test.YtiaodmfipeoegaaWild
set_option linter.unusedSectionVars false
set_option linter.unusedVariables false
namespace Go.Proofs.Ytiaodmfipeoegaa.Ai
open Go Go.RowKit
set_option linter.unusedSimpArgs false
section
variable {P : Program} {G : Env} {κ : Ctx} {η : Own} {s : St} {a : Act} {w : World} {X Y : Req → (PV → Prop) → Prop} {L : Code → (Ex → St → Prop) → St → Prop}
theorem Sim.freezeT [NoZ κ] (h : Sim κ η s a w) {id ver e sz : Nat} {es : List (List PV)} (he : s.H.get id = (ver, .tree e sz es)) :
    Sim κ (η.cut id 0 (es.length * sz)) ⟨s.T, s.H.put id (ver, .row e sz (coolL es))⟩ a w := by
  rw [coolL_eq]
  have hob := h.heap id
  rw [he] at hob
  obtain ⟨hcur, v, vals, hval, hown, hrep, hlen⟩ := hob
  have hfle : es.flatten.length = es.length * sz := flat_length hlen
  have hle : η.le (η.cut id 0 (es.length * sz)) := Own.le_cut
  have hI : ∀ g, imm κ η w g → imm κ (η.cut id 0 (es.length * sz)) w g := fun g hg => ⟨hg.1, hg.2.1, fun kk x hx => hg.2.2 kk x (Own.cut_src hx).1⟩
  have hnone : ∀ p x, (η.cut id 0 (es.length * sz)).val (.n id p) = some x → False := fun p x hx => by
    obtain ⟨hx1, hx2⟩ := Own.cut_src hx
    obtain ⟨es1, f1, f2, f3, g1, g2⟩ := h.sub id p x hx1
    rw [he] at g1
    obtain rfl := Option.some.inj g1
    have hp := (List.getElem?_eq_some_iff.1 g2).1
    exact hx2 p rfl ⟨Nat.zero_le _, by omega⟩
  have hS : ∀ p u g, η.val (.n id p) = some u → headOf u = some g → imm κ (η.cut id 0 (es.length * sz)) w g := fun p u g hu hg => by
    obtain ⟨es1, e', z', es', hb, hp⟩ := h.sub id p u hu
    rw [he] at hb
    obtain rfl := Option.some.inj hb
    have hlt := (List.getElem?_eq_some_iff.1 hp).1
    obtain ⟨u', hu'⟩ : ∃ u', vals[p]? = some u' := ⟨_, List.getElem?_eq_getElem (by rw [← hrep.1]; exact hlt)⟩
    obtain ⟨b1, _, b2, _⟩ := hrep.2 p _ u' hp hu'
    obtain rfl := Option.some.inj (b1.symm.trans hu)
    refine ⟨(h.head hu hg).1, ⟨.inr ⟨(owns_head b2 hg).2, owns_plain b2.row hg⟩, NoZ.out g⟩, fun j x hx hxg => ?_⟩
    obtain ⟨hx1, hx2⟩ := Own.cut_src hx
    have := h.apart j (.n id p) x u' g hx1 hu hxg hg
    subst this
    exact hnone p x hx
  refine h.step (fun g hg => ⟨hI g hg, rfl⟩) hle (fun j => ?_) (fun j k x x' q hx hx' => h.apart j k x x' q (Own.cut_src hx).1 (Own.cut_src hx').1) (fun j => ?_) h.kept
  · rw [Heap.get_put]
    by_cases ej : j = id
    · rw [if_pos ej, ej]
      refine ⟨hcur, v, vals, hval, by rw [List.length_map]; exact hown, ?_, fun x hx => ?_⟩
      · rw [← List.map_flatten]
        exact cells_cool hI hS 0 es.flatten vals hrep.1 fun p c u hp hu => by rw [Nat.zero_add]; exact hrep.2 p c u hp hu
      · obtain ⟨x', hx', rfl⟩ := List.mem_map.1 hx
        rw [List.length_map]
        exact hlen x' hx'
    · rw [if_neg ej]
      exact (h.heap j).keep rfl (fun k hkk => Own.cut_ne fun p e => absurd (by rw [← hkk, e]; rfl) ej) (fun k x q hkk hx hq => rfl) (fun g hg => ⟨hI g hg, rfl⟩) hle
  · rw [Heap.get_put]
    by_cases ej : j = id
    · rw [if_pos ej, ej]
      exact fun p x hx => (hnone p x hx).elim
    · rw [if_neg ej]
      exact (h.sub j).keep fun k hkk => Own.cut_ne fun p e => absurd (by rw [← hkk, e]; rfl) ej
def freezeS (s : St) (id : Nat) (rs : List (List PV)) : St := match s.H.get id with
  | (ver, .tree e sz _) => ⟨s.T, s.H.put id (ver, .row e sz rs)⟩
  | _ => s
theorem chg_freeze [NoZ κ] {s : St} {id ver e sz : Nat} {es rs : List (List PV)} (he : s.H.get id = (ver, .tree e sz es)) (hr : coolL es = rs) : Chg κ s (freezeS s id rs) := fun η a w h => by
  subst hr
  unfold freezeS
  rw [he]
  exact ⟨_, h.freezeT he⟩
/-- The state may be seen as another one that stands for the same worlds. -/
theorem r_chg {c : Code} {Q : Ex → St → Prop} {s s' : St} (h : Mach P G κ X Y L) (hc : Chg κ s s') (H : L c Q s') : L c Q s := by
  rw [h.L] at H ⊢
  intro η a w hs
  obtain ⟨η', hs'⟩ := hc η a w hs
  exact H η' a w hs'
end
end Go.Proofs.Ytiaodmfipeoegaa.Ai
