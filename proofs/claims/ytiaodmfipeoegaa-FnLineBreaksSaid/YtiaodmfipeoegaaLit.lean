/- Rules for rows that are written out. -/
import Derived.Test.YtiaodmfipeoegaaCommon
namespace Go.Proofs.Ytiaodmfipeoegaa.Ai
open Go Go.Proofs
set_option linter.unusedVariables false
set_option linter.unusedSimpArgs false

section
variable {P : Program} {b : Bool} {X : Req → (PV → Prop) → Prop} {K : PV → Prop} {α : Type} {i : Int} {es : List (List PV)}
theorem r_lenN {l : Nat} (N : Int) (h : Std P false X) (e : (l : Int) = N) (hl : N ≤ 9223372036854775807) (H : ∀ r : Int, r = N → K (.int .i64 r)) : X (.len l) K := r_len h fun r e' _ => H r (e'.trans e)
theorem r_appendL (f : α → List PV) (xs : List α) {ys : List α} {l : Nat} (h : Std P b X) (he : es = rows f xs) (h1 : (xs.length + ys.length : Int) * l ≤ 140737488355328) (h2 : (xs.length + ys.length : Int) ≤ 1099511627776)
    (H : ∀ zs, zs = xs ++ ys → K (.isl 0 (rows f zs))) : X (.append es (rows f ys) l) K := by
  subst he; exact r_append h h1 h2 H
theorem OkM.unnil {P : Program} {f : FuncId} {cs args : List PV} {Q : PV → List PV → Prop} (e sz : Nat) (h : OkM P f cs args (fun r cs' => Q (unnilT e sz r) cs')) : OkM P f cs args Q :=
  ⟨h.1, fun w g arr e I vs hI hg hc ha => (h.2 w g arr e I vs hI hg hc ha).mono fun en w' ⟨v, r, gs, cs', arr', e', e1, q, k, ⟨e2, e3, e4⟩, e5, e6⟩ => ⟨v, _, gs, cs', arr', e', e1, q, k, ⟨e2, e3, e4.unnil _ sz⟩, e5, e6⟩⟩
end
theorem noFr_tup2 {a b : PV} (h1 : noFr1 a) (h2 : noFr1 b) : noFr (.tup [a, b]) := fun q hq => by
  rcases List.mem_cons.1 hq with rfl | hq
  · exact h1
  · rw [List.mem_singleton.1 hq]; exact h2
theorem noFr_tup3 {a b c : PV} (h1 : noFr1 a) (h2 : noFr1 b) (h3 : noFr1 c) : noFr (.tup [a, b, c]) := fun q hq => by
  rcases List.mem_cons.1 hq with rfl | hq
  · exact h1
  · exact noFr_tup2 h2 h3 q hq
end Go.Proofs.Ytiaodmfipeoegaa.Ai
