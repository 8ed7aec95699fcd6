/- A region that draws its order, behind an own row that is only read from then on. -/
import Derived.Test.YtngefbdedbbplaaAiRules
set_option linter.unusedSectionVars false
namespace Go.Proofs.Ytngefbdedbbplaa.Ai
open Go Go.RowKit
set_option linter.unusedVariables false
set_option linter.unusedSimpArgs false
section
variable {P : Program} {G : Env} {κ : Ctx} {X Y : Req → (PV → Prop) → Prop} {L : Code → (Ex → St → Prop) → St → Prop}
theorem r_drawT (t : Nat) {id i ver : Nat} {os : Array Oper} {Q : Ex → St → Prop} {s s' : St} {p : PV} (h : Mach P G κ X Y L) (ho : s.T.getD t .undef = .osl i ver) (hT : toPure (.osl i ver) s = some (p, s'))
    (hB : drawOk G os.toList (tabOf G os.toList s') = true) (H : opsD Y G os.toList (tabOf G os.toList s') 0 os.toList (touch (regKeys G os.toList) s') (Q .normal)) : L (.region id os true) Q s := by
  have hd := r_draw h hB H (id := id)
  have := h.z
  rw [h.L] at hd ⊢
  intro η a w hs
  have hr := hs.ev (.tmp t)
  have e : s.ev (.tmp t) = .osl i ver := by
    show unv (s.T.getD t .undef) = _
    rw [ho]; rfl
  rw [e] at hr
  obtain ⟨η', hs', _⟩ := toPure_sound hs (hr.inv1 (fun _ e => by cases e) (fun _ e => by cases e)) hT
  exact hd η' a w hs'
/-- An own row is only read from here on. -/
theorem r_seal (t : Nat) {i ver : Nat} {c : Code} {Q : Ex → St → Prop} {s s' : St} {p : PV} (h : Mach P G κ X Y L) (ho : s.T.getD t .undef = .osl i ver) (hT : toPure (.osl i ver) s = some (p, s')) (H : L c Q s') : L c Q s := by
  have := h.z
  rw [h.L] at H ⊢
  intro η a w hs
  have hr := hs.ev (.tmp t)
  have e : s.ev (.tmp t) = .osl i ver := by
    show unv (s.T.getD t .undef) = _
    rw [ho]; rfl
  rw [e] at hr
  obtain ⟨η', hs', _⟩ := toPure_sound hs (hr.inv1 (fun _ e => by cases e) (fun _ e => by cases e)) hT
  exact H η' a w hs'
end
end Go.Proofs.Ytngefbdedbbplaa.Ai
