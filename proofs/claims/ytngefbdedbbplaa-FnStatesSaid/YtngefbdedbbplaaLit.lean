/- Rules for rows that are written out. -/
import Derived.Test.YtngefbdedbbplaaCommon
namespace Go.Proofs.Ytngefbdedbbplaa.Ai
open Go Go.Proofs
set_option linter.unusedVariables false
set_option linter.unusedSimpArgs false

section
variable {P : Program} {b : Bool} {X : Req → (PV → Prop) → Prop} {K : PV → Prop} {α : Type} {i : Int} {es : List (List PV)}
theorem r_lenN {l : Nat} (N : Int) (h : Std P false X) (e : (l : Int) = N) (hl : N ≤ 9223372036854775807) (H : ∀ r : Int, r = N → K (.int .i64 r)) : X (.len l) K := r_len h fun r e' _ => H r (e'.trans e)
theorem r_lenNS {l : Nat} (N : Int) (h : Std P true X) (e : (l : Int) = N) (hl : N ≤ 9223372036854775807) (H : ∀ r : Int, r = N → K (.int .i64 r)) : X (.len l) K := r_lenS h (by omega) fun r e' => H r (e'.trans e)
theorem r_oindexN {n : Nat} (N : Int) (h : Std P b X) (e : (n : Int) = N) (h0 : 0 ≤ i) (h1 : i < N) (H : K .undef) : X (.oindex n i) K := by
  rw [h.eq]; exact ⟨h0, by omega, H⟩
theorem r_oloadL (f : α → List PV) (xs : List α) {l o n : Nat} {x : α} (h : Std P b X) (he : es = rows f xs) (hx : xs[l]? = some x) (h1 : o + n ≤ (f x).length) (H : K (.agg (((f x).drop o).take n))) : X (.oload es l o n) K := by
  subst he; exact r_oload h hx h1 H
theorem r_ostoreL (f : α → List PV) (xs : List α) {l o : Nat} {cs : List PV} {x : α} (y : α) (h : Std P b X) (he : es = rows f xs) (hx : xs[l]? = some x) (h1 : o + cs.length ≤ (f x).length) (h2 : splice (f x) o cs = f y)
    (H : ∀ zs, zs = xs.set l y → K (.isl 0 (rows f zs))) : X (.ostore es l o cs) K := by
  subst he; exact r_ostore y h hx h1 h2 H
theorem r_append1L (f : α → List PV) (xs : List α) {l : Nat} {c : List PV} (y : α) (h : Std P b X) (he : es = rows f xs) (hy : c = f y) (h1 : (xs.length + 1 : Int) * l ≤ 140737488355328) (h2 : (xs.length : Int) < 1099511627776)
    (H : ∀ zs, zs = xs ++ [y] → K (.isl 0 (rows f zs))) : X (.append es [c] l) K := by
  subst he; exact r_append1 y h hy h1 h2 H
theorem r_appendL (f : α → List PV) (xs : List α) {ys : List α} {l : Nat} (h : Std P b X) (he : es = rows f xs) (h1 : (xs.length + ys.length : Int) * l ≤ 140737488355328) (h2 : (xs.length + ys.length : Int) ≤ 1099511627776)
    (H : ∀ zs, zs = xs ++ ys → K (.isl 0 (rows f zs))) : X (.append es (rows f ys) l) K := by
  subst he; exact r_append h h1 h2 H
theorem OkM.unnil {P : Program} {f : FuncId} {cs args : List PV} {Q : PV → List PV → Prop} (e sz : Nat) (h : OkM P f cs args (fun r cs' => Q (unnilT e sz r) cs')) : OkM P f cs args Q :=
  ⟨h.1, fun w g arr e I vs hI hg hc ha => (h.2 w g arr e I vs hI hg hc ha).mono fun en w' ⟨v, r, gs, cs', arr', e', e1, q, k, ⟨e2, e3, e4⟩, e5, e6⟩ => ⟨v, _, gs, cs', arr', e', e1, q, k, ⟨e2, e3, e4.unnil _ sz⟩, e5, e6⟩⟩
theorem OkA.unnilR {P : Program} {f : FuncId} {args : List PV} {Q : PV → Prop} (e sz : Nat) (h : OkA P f args (fun r => Q (unnilT e sz r))) : OkA P f args Q :=
  ⟨h.1, fun w I vs hI ha => (h.2 w I vs hI ha).mono fun _ _ ⟨u, r, gs, e1, q, e2, e3, e4, e5⟩ => ⟨u, unnilT e sz r, gs, e1, q, e2, e3, e4, e5.unnil e sz⟩⟩
end
theorem noFr_tup2 {a b : PV} (h1 : noFr1 a) (h2 : noFr1 b) : noFr (.tup [a, b]) := fun q hq => by
  rcases List.mem_cons.1 hq with rfl | hq
  · exact h1
  · rw [List.mem_singleton.1 hq]; exact h2
theorem noFr_tup3 {a b c : PV} (h1 : noFr1 a) (h2 : noFr1 b) (h3 : noFr1 c) : noFr (.tup [a, b, c]) := fun q hq => by
  rcases List.mem_cons.1 hq with rfl | hq
  · exact h1
  · exact noFr_tup2 h2 h3 q hq
end Go.Proofs.Ytngefbdedbbplaa.Ai
