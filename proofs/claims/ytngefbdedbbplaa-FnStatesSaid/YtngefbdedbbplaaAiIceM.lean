/- A method's answer taken as one that is only read. -/
import Derived.Test.YtngefbdedbbplaaAiIce
namespace Go.Proofs.Ytngefbdedbbplaa.Ai
open Go Go.RowKit Go.Proofs
set_option linter.unusedVariables false
set_option linter.unusedSimpArgs false

theorem OkM.iceE {P : Program} {f : FuncId} {cs args : List PV} {Q : PV → List PV → Prop} (h : OkM P f cs args Q) : OkM P f cs args (fun r cs' => ∃ r0, Q r0 cs' ∧ r = Ai.ice r0) :=
  ⟨h.1, fun w g arr e I vs hI hg hc ha => (h.2 w g arr e I vs hI hg hc ha).mono fun en w' ⟨v, r, gs, cs', arr', e', e1, q, k, ⟨e2, e3, e4⟩, e5, e6⟩ => ⟨v, Ai.ice r, [], cs', arr', e', e1, ⟨r, q, rfl⟩, k,
    ⟨by simp, by simp, Res.ice e4 (fun g hg => ⟨hg.1, hg.2.1, by simp, hg.2.2.2⟩) (fun g hg => ⟨.inr (e3 g hg).1, (e3 g hg).2, by simp, fun _ => e4.plain g hg⟩)⟩, e5, e6.weak fun x hx => ⟨hx.1, hx.2.1, by simp, hx.2.2.2⟩⟩⟩

theorem OkM.mono {P : Program} {f : FuncId} {cs args : List PV} {Q Q' : PV → List PV → Prop} (h : OkM P f cs args Q) (hq : ∀ r cs', Q r cs' → Q' r cs') : OkM P f cs args Q' :=
  ⟨h.1, fun w g arr e I vs hI hg hc ha => (h.2 w g arr e I vs hI hg hc ha).mono fun en w' ⟨v, r, gs, cs', arr', e', e1, q, k⟩ => ⟨v, r, gs, cs', arr', e', e1, hq _ _ q, k⟩⟩
end Go.Proofs.Ytngefbdedbbplaa.Ai
