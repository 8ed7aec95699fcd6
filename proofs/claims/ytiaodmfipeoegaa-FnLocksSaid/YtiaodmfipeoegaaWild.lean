/- Rows that come into trees and go out of them: the rules; regions that draw, behind and ahead of changes of the abstract state. -/
import Derived.Test.YtiaodmfipeoegaaAiNest
import Derived.Test.YtiaodmfipeoegaaThaw
set_option linter.unusedSectionVars false
set_option linter.unusedVariables false
namespace Go.Proofs.Ytiaodmfipeoegaa.Ai
open Go Go.RowKit
set_option linter.unusedSimpArgs false
section
variable {P : Program} {G : Env} {κ : Ctx} {X Y : Req → (PV → Prop) → Prop} {L : Code → (Ex → St → Prop) → St → Prop} {b : Bool} {α : Type} {f : α → List PV} {xs : List α} {K : PV → Prop}
/-- Every world that the one state stands for is one that the other stands for. -/
def Chg (κ : Ctx) (s s' : St) : Prop := ∀ (η : Own) (a : Act) (w : World), Sim κ η s a w → ∃ η', Sim κ η' s' a w
theorem Chg.refl (s : St) : Chg κ s s := fun η _ _ h => ⟨η, h⟩
theorem Chg.trans {s s' s'' : St} (h : Chg κ s s') (k : Chg κ s' s'') : Chg κ s s'' := fun η a w hs => by
  obtain ⟨η', hs'⟩ := h η a w hs
  exact k η' a w hs'
theorem r_drawX {id : Nat} {os : Array Oper} {Q : Ex → St → Prop} {s s1 : St} (h : Mach P G κ X Y L) (hc : Chg κ s s1) (hB : drawOk G os.toList (tabOf G os.toList s1) = true)
    (H : ∀ Z : St → Prop, (∀ s2 s3, Chg κ s2 s3 → Q .normal s3 → Z s2) → opsD Y G os.toList (tabOf G os.toList s1) 0 os.toList (touch (regKeys G os.toList) s1) Z) : L (.region id os true) Q s := by
  have hd := r_draw (id := id) (Q := fun e s2 => match e with | .normal => ∃ s3, Chg κ s2 s3 ∧ Q .normal s3 | e => Q e s2) h hB (H _ fun s2 s3 h1 h2 => ⟨s3, h1, h2⟩)
  rw [h.L] at hd ⊢
  intro η a w hs
  obtain ⟨η1, hs1⟩ := hc η a w hs
  refine Go.wp_mono (hd η1 a w hs1) fun e a' w' hq => ?_
  cases e with
  | normal =>
    obtain ⟨η2, s2, hs2, s3, h1, h2⟩ := hq
    obtain ⟨η3, hs3⟩ := h1 η2 a' w' hs2
    exact ⟨η3, s3, hs3, h2⟩
  | exit i => exact hq
  | ret => exact hq
  | goto l => exact hq.elim
  | panic ch => exact hq.elim
  | outgrown => exact hq.elim
/-- The row in a tree's cell becomes an object of its own, under key k. -/
def outS (s : St) (id k e' z : Nat) (es1 rs : List (List PV)) : St := match s.H.get id with
  | (ver, .tree e sz _) => ⟨s.T, (s.H.put id (ver, .wild e sz es1)).put k ((s.H.get k).1 + 1, .row e' z rs)⟩
  | _ => s
theorem chg_out {s : St} {id ver e sz i off k e' z : Nat} {es rs : List (List PV)} {el : List PV} {es1 : List (List PV)} (he : s.H.get id = (ver, .tree e sz es)) (hk : id ≠ k) (hel : es[i]? = some el) (hc : el[off]? = some (.fr e' z rs))
    (h1 : es1 = es.set i (splice el off [.osl k ((s.H.get k).1 + 1)])) : Chg κ s (outS s id k e' z es1 rs) := fun η a w h => by
  have hob := h.heap id
  rw [he] at hob
  obtain ⟨hcur, v0, vals, hval, hown, hrep, hlen⟩ := hob
  obtain ⟨vs, _, hvs, hcs⟩ := tree_elem hlen hel hrep
  obtain ⟨u, hu, hq⟩ := hcs off _ hc
  obtain ⟨η', hs, _⟩ := h.takeOut (k := k) (c' := .osl k ((s.H.get k).1 + 1)) he hel hc hq.1 hk (fun _ _ _ e => by cases e) (fun η' I hv hc => .osl _ _ _ (Nat.le_of_eq hc.symm) fun _ x hx => Option.some.inj (hv.symm.trans hx))
  rw [← h1] at hs
  unfold outS
  rw [he]
  exact ⟨η', hs⟩
/-- The row that a tree's cell refers to is taken over. -/
def inS (s : St) (id k : Nat) (es3 : List (List PV)) : St := match s.H.get id with
  | (ver, .wild e sz _) => ⟨s.T.map (bump id ver), (s.H.put k ((s.H.get k).1, .dead)).put id (ver + 1, .tree e sz es3)⟩
  | _ => s
theorem chg_in [NoZ κ] {s : St} {id ver e sz i off k v e' z : Nat} {es rs : List (List PV)} {el : List PV} {es3 : List (List PV)} (he : s.H.get id = (ver, .wild e sz es)) (hk : s.H.get k = (v, .row e' z rs)) (hne : k ≠ id) (hel : es[i]? = some el) (hc : el[off]? = some (.osl k v))
    (h3 : es3 = es.set i (splice el off [.fr e' z rs])) (hcl : ∀ x ∈ es3, ∀ q ∈ x, (∃ e z rs, q = .fr e z rs) ∨ q.pure = true) : Chg κ s (inS s id k es3) := fun η a w h => by
  have hob := h.heap id
  rw [he] at hob
  obtain ⟨hcur, v0, vals, hval, hown, hrep, hlen⟩ := hob
  have hob2 := h.heap k
  rw [hk] at hob2
  obtain ⟨hcur2, u, vals2, hval2, hown2, hrep2, hlen2⟩ := hob2
  obtain ⟨vs, _, hvs, hcs⟩ := tree_elemR hlen hel hrep
  obtain ⟨u', hu', hq⟩ := hcs off _ hc
  have hq' : Rep1 w (imm κ η w) η (.osl k v) u' := hq
  have huu : u' = u := osl_val (.of1 hq') hcur2.symm hval2
  subst huu
  have hvu := hvs _ _ hu'
  have hset : vals.set (i * sz + off) u' = vals := by
    apply List.ext_getElem?
    intro q
    rw [List.getElem?_set]
    split
    · rename_i e1
      subst e1
      rw [if_pos (List.getElem?_eq_some_iff.1 hvu).1, hvu]
    · rfl
  obtain ⟨η', hs, _⟩ := h.plantIn (w' := w) (c := u') (c' := .fr e' z rs) (kill := some k) (H := s.H.put k (v, .dead)) (by rw [he]) rfl hcur hval hrep hlen hel (List.getElem?_eq_some_iff.1 hc).1
    ⟨.inl ⟨k, v, e', z, rs, rfl, rfl, hk, hval2, rfl⟩⟩ (by simpa using hne) (by rw [hset]; exact hown) (fun _ _ => rfl) (Nat.le_refl _) h.kept (by rw [← h3]; exact hcl)
  rw [← h3] at hs
  unfold inS
  rw [he, hk]
  exact ⟨η', hs⟩
theorem r_clean (h : Std P b X) (hf : ∀ x, ∀ c ∈ f x, (∃ e z rs, c = .fr e z rs) ∨ c.pure = true) (H : K .undef) : X (.clean (rows f xs)) K := by
  rw [h.eq, rows_eq]
  refine ⟨fun x hx c hc => ?_, H⟩
  obtain ⟨y, _, rfl⟩ := List.mem_map.1 hx
  exact hf y c hc
theorem clean_rows (hf : ∀ x, ∀ c ∈ f x, (∃ e z rs, c = .fr e z rs) ∨ c.pure = true) : ∀ x ∈ rows f xs, ∀ c ∈ x, (∃ e z rs, c = .fr e z rs) ∨ c.pure = true := by
  rw [rows_eq]
  intro x hx c hc
  obtain ⟨y, _, rfl⟩ := List.mem_map.1 hx
  exact hf y c hc
/-- One element is set to something that is not kept so. -/
theorem r_ostoreU {l o : Nat} {cs el' : List PV} {x : α} (h : Std P b X) (hx : xs[l]? = some x) (h1 : o + cs.length ≤ (f x).length) (h2 : splice (f x) o cs = el') (H : ∀ es1, es1 = (rows f xs).set l el' → K (.isl 0 es1)) : X (.ostore (rows f xs) l o cs) K := by
  rw [h.eq]
  exact ⟨f x, by rw [rows_eq]; simp [hx], h1, by rw [h2]; exact H _ rfl⟩
theorem r_oloadV {l o n : Nat} {el' : List PV} {es1 : List (List PV)} (h : Std P b X) (he : es1 = (rows f xs).set l el') (hl : l < xs.length) (h1 : o + n ≤ el'.length) (H : K (.agg ((el'.drop o).take n))) : X (.oload es1 l o n) K := by
  rw [h.eq, he]
  exact ⟨el', by rw [List.getElem?_set_self (by rw [rows_length]; exact hl)], h1, H⟩
theorem r_ostoreV {l o : Nat} {cs el' el2 : List PV} {es1 : List (List PV)} (h : Std P b X) (he : es1 = (rows f xs).set l el') (hl : l < xs.length) (h1 : o + cs.length ≤ el'.length) (h2 : splice el' o cs = el2) (H : ∀ es2, es2 = (rows f xs).set l el2 → K (.isl 0 es2)) : X (.ostore es1 l o cs) K := by
  rw [h.eq, he]
  exact ⟨el', by rw [List.getElem?_set_self (by rw [rows_length]; exact hl)], h1, by rw [h2, List.set_set]; exact H _ rfl⟩
theorem r_oindexV {l : Nat} {el' : List PV} {es1 : List (List PV)} {i : Int} (h : Std P b X) (he : es1 = (rows f xs).set l el') (h0 : 0 ≤ i) (h1 : i < xs.length) (H : K .undef) : X (.oindex es1.length i) K := by
  rw [h.eq, he, List.length_set, rows_length]; exact ⟨h0, by omega, H⟩
/-- A row is set into the place that had been left open. -/
theorem r_ostoreR {l o : Nat} {cs el' : List PV} {es1 : List (List PV)} (y : α) (h : Std P b X) (he : es1 = (rows f xs).set l el') (hl : l < xs.length) (h1 : o + cs.length ≤ el'.length) (h2 : splice el' o cs = f y) (H : ∀ zs, zs = xs.set l y → K (.isl 0 (rows f zs))) : X (.ostore es1 l o cs) K := by
  rw [h.eq, he]
  refine ⟨el', by rw [List.getElem?_set_self (by rw [rows_length]; exact hl)], h1, ?_⟩
  have := H _ rfl
  rw [h2, List.set_set]
  rw [rows_eq] at this ⊢
  rw [List.map_set] at this
  exact this
theorem rows_get {i : Nat} {x : α} (h : xs[i]? = some x) : (rows f xs)[i]? = some (f x) := by rw [rows_eq]; simp [h]
theorem rows_set (y : α) (l : Nat) : (rows f xs).set l (f y) = rows f (xs.set l y) := by rw [rows_eq, rows_eq, List.map_set]
end
end Go.Proofs.Ytiaodmfipeoegaa.Ai
