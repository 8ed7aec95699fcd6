/- Rows that come into trees and go out of them: the rules; regions that draw, behind and ahead of changes of the abstract state. -/
import Derived.Test.YtalookmhhkojeaaAiNest
import Derived.Test.YtalookmhhkojeaaThaw
namespace Go.Proofs.Ytalookmhhkojeaa.Ai
open Go Go.RowKit
set_option linter.unusedSectionVars false
set_option linter.unusedVariables false
set_option linter.unusedSimpArgs false
set_option maxHeartbeats 1000000
section
variable {P : Program} {G : Env} {κ : Ctx} {X Y : Req → (PV → Prop) → Prop} {L : Code → (Ex → St → Prop) → St → Prop} {b : Bool} {α : Type} {f : α → List PV} {xs : List α} {K : PV → Prop}
/-- Every world that the one state stands for is one that the other stands for. -/
def Chg (κ : Ctx) (s s' : St) : Prop := ∀ (η : Own) (a : Act) (w : World), Sim κ η s a w → ∃ η', Sim κ η' s' a w
theorem Chg.refl (s : St) : Chg κ s s := fun η _ _ h => ⟨η, h⟩
theorem Chg.trans {s s' s'' : St} (h : Chg κ s s') (k : Chg κ s' s'') : Chg κ s s'' := fun η a w hs => by
  obtain ⟨η', hs'⟩ := h η a w hs
  exact k η' a w hs'
theorem r_drawX {id : Nat} {os : Array Oper} {Q : Ex → St → Prop} {s s1 : St} (h : Mach P G κ X Y L) (hc : Chg κ s s1) (hB : drawOk G os.toList (tabOf G os.toList s1) = true)
    (H : ∀ Z : St → Prop, (∀ s2 s3, Chg κ s2 s3 → Q .normal s3 → Z s2) → opsD Y G os.toList (tabOf G os.toList s1) 0 os.toList (touch (regKeys G os.toList) s1) Z) : L (.region id os true) Q s := by
  have hd := r_draw (id := id) (Q := fun e s2 => match e with | .normal => ∃ s3, Chg κ s2 s3 ∧ Q .normal s3 | e => Q e s2) h hB (H _ fun s2 s3 h1 h2 => ⟨s3, h1, h2⟩)
  rw [h.L] at hd ⊢
  intro η a w hs
  obtain ⟨η1, hs1⟩ := hc η a w hs
  refine Go.wp_mono (hd η1 a w hs1) fun e a' w' hq => ?_
  cases e with
  | normal =>
    obtain ⟨η2, s2, hs2, s3, h1, h2⟩ := hq
    obtain ⟨η3, hs3⟩ := h1 η2 a' w' hs2
    exact ⟨η3, s3, hs3, h2⟩
  | exit i => exact hq
  | ret => exact hq
  | goto l => exact hq.elim
  | panic ch => exact hq.elim
  | outgrown => exact hq.elim
/-- The row in a tree's cell becomes an object of its own, under key k. -/
def outS (s : St) (id k e' z : Nat) (es1 rs : List (List PV)) : St := match s.H.get id with
  | (ver, .tree e sz _) => ⟨s.T, (s.H.put id (ver, .wild e sz es1)).put k ((s.H.get k).1 + 1, .row e' z rs)⟩
  | _ => s
theorem chg_out {s : St} {id ver e sz i off k e' z : Nat} {es rs : List (List PV)} {el : List PV} {es1 : List (List PV)} (he : s.H.get id = (ver, .tree e sz es)) (hk : id ≠ k) (hel : es[i]? = some el) (hc : el[off]? = some (.fr e' z rs))
    (h1 : es1 = es.set i (splice el off [.osl k ((s.H.get k).1 + 1)])) : Chg κ s (outS s id k e' z es1 rs) := fun η a w h => by
  have hob := h.heap id
  rw [he] at hob
  obtain ⟨hcur, v0, vals, hval, hown, hrep, hlen⟩ := hob
  obtain ⟨vs, _, hvs, hcs⟩ := tree_elem hlen hel hrep
  obtain ⟨u, hu, hq⟩ := hcs off _ hc
  obtain ⟨η', hs, _⟩ := h.takeOut (k := k) (c' := .osl k ((s.H.get k).1 + 1)) he hel hc hq.1 hk (fun _ _ _ e => by cases e) (fun η' I hv hc => .osl _ _ _ (Nat.le_of_eq hc.symm) fun _ x hx => Option.some.inj (hv.symm.trans hx))
  rw [← h1] at hs
  unfold outS
  rw [he]
  exact ⟨η', hs⟩
/-- The row that a tree's cell refers to is taken over. -/
def inS (s : St) (id k : Nat) (es3 : List (List PV)) : St := match s.H.get id with
  | (ver, .wild e sz _) => ⟨s.T.map (bump id ver), (s.H.put k ((s.H.get k).1, .dead)).put id (ver + 1, .tree e sz es3)⟩
  | _ => s
theorem chg_in [NoZ κ] {s : St} {id ver e sz i off k v e' z : Nat} {es rs : List (List PV)} {el : List PV} {es3 : List (List PV)} (he : s.H.get id = (ver, .wild e sz es)) (hk : s.H.get k = (v, .row e' z rs)) (hne : k ≠ id) (hel : es[i]? = some el) (hc : el[off]? = some (.osl k v))
    (h3 : es3 = es.set i (splice el off [.fr e' z rs])) (hcl : ∀ x ∈ es3, ∀ q ∈ x, (∃ e z rs, q = .fr e z rs) ∨ q.pure = true) : Chg κ s (inS s id k es3) := fun η a w h => by
  have hob := h.heap id
  rw [he] at hob
  obtain ⟨hcur, v0, vals, hval, hown, hrep, hlen⟩ := hob
  have hob2 := h.heap k
  rw [hk] at hob2
  obtain ⟨hcur2, u, vals2, hval2, hown2, hrep2, hlen2⟩ := hob2
  obtain ⟨vs, _, hvs, hcs⟩ := tree_elemR hlen hel hrep
  obtain ⟨u', hu', hq⟩ := hcs off _ hc
  have hq' : Rep1 w (imm κ η w) η (.osl k v) u' := hq
  have huu : u' = u := osl_val (.of1 hq') hcur2.symm hval2
  subst huu
  have hvu := hvs _ _ hu'
  have hset : vals.set (i * sz + off) u' = vals := by
    apply List.ext_getElem?
    intro q
    rw [List.getElem?_set]
    split
    · rename_i e1
      subst e1
      rw [if_pos (List.getElem?_eq_some_iff.1 hvu).1, hvu]
    · rfl
  obtain ⟨η', hs, _⟩ := h.plantIn (w' := w) (c := u') (c' := .fr e' z rs) (kill := some k) (H := s.H.put k (v, .dead)) (by rw [he]) rfl hcur hval hrep hlen hel (List.getElem?_eq_some_iff.1 hc).1
    ⟨.inl ⟨k, v, e', z, rs, rfl, rfl, hk, hval2, rfl⟩⟩ (by simpa using hne) (by rw [hset]; exact hown) (fun _ _ => rfl) (Nat.le_refl _) h.kept (by rw [← h3]; exact hcl)
  rw [← h3] at hs
  unfold inS
  rw [he, hk]
  exact ⟨η', hs⟩
theorem r_clean (h : Std P b X) (hf : ∀ x, ∀ c ∈ f x, (∃ e z rs, c = .fr e z rs) ∨ c.pure = true) (H : K .undef) : X (.clean (rows f xs)) K := by
  rw [h.eq, rows_eq]
  refine ⟨fun x hx c hc => ?_, H⟩
  obtain ⟨y, _, rfl⟩ := List.mem_map.1 hx
  exact hf y c hc
theorem clean_rows (hf : ∀ x, ∀ c ∈ f x, (∃ e z rs, c = .fr e z rs) ∨ c.pure = true) : ∀ x ∈ rows f xs, ∀ c ∈ x, (∃ e z rs, c = .fr e z rs) ∨ c.pure = true := by
  rw [rows_eq]
  intro x hx c hc
  obtain ⟨y, _, rfl⟩ := List.mem_map.1 hx
  exact hf y c hc
/-- One element is set to something that is not kept so. -/
theorem r_ostoreU {l o : Nat} {cs el' : List PV} {x : α} (h : Std P b X) (hx : xs[l]? = some x) (h1 : o + cs.length ≤ (f x).length) (h2 : splice (f x) o cs = el') (H : ∀ es1, es1 = (rows f xs).set l el' → K (.isl 0 es1)) : X (.ostore (rows f xs) l o cs) K := by
  rw [h.eq]
  exact ⟨f x, by rw [rows_eq]; simp [hx], h1, by rw [h2]; exact H _ rfl⟩
theorem r_oloadV {l o n : Nat} {el' : List PV} {es1 : List (List PV)} (h : Std P b X) (he : es1 = (rows f xs).set l el') (hl : l < xs.length) (h1 : o + n ≤ el'.length) (H : K (.agg ((el'.drop o).take n))) : X (.oload es1 l o n) K := by
  rw [h.eq, he]
  exact ⟨el', by rw [List.getElem?_set_self (by rw [rows_length]; exact hl)], h1, H⟩
theorem r_ostoreV {l o : Nat} {cs el' el2 : List PV} {es1 : List (List PV)} (h : Std P b X) (he : es1 = (rows f xs).set l el') (hl : l < xs.length) (h1 : o + cs.length ≤ el'.length) (h2 : splice el' o cs = el2) (H : ∀ es2, es2 = (rows f xs).set l el2 → K (.isl 0 es2)) : X (.ostore es1 l o cs) K := by
  rw [h.eq, he]
  exact ⟨el', by rw [List.getElem?_set_self (by rw [rows_length]; exact hl)], h1, by rw [h2, List.set_set]; exact H _ rfl⟩
theorem r_oindexV {l : Nat} {el' : List PV} {es1 : List (List PV)} {i : Int} (h : Std P b X) (he : es1 = (rows f xs).set l el') (h0 : 0 ≤ i) (h1 : i < xs.length) (H : K .undef) : X (.oindex es1.length i) K := by
  rw [h.eq, he, List.length_set, rows_length]; exact ⟨h0, by omega, H⟩
/-- A row is set into the place that had been left open. -/
theorem r_ostoreR {l o : Nat} {cs el' : List PV} {es1 : List (List PV)} (y : α) (h : Std P b X) (he : es1 = (rows f xs).set l el') (hl : l < xs.length) (h1 : o + cs.length ≤ el'.length) (h2 : splice el' o cs = f y) (H : ∀ zs, zs = xs.set l y → K (.isl 0 (rows f zs))) : X (.ostore es1 l o cs) K := by
  rw [h.eq, he]
  refine ⟨el', by rw [List.getElem?_set_self (by rw [rows_length]; exact hl)], h1, ?_⟩
  have := H _ rfl
  rw [h2, List.set_set]
  rw [rows_eq] at this ⊢
  rw [List.map_set] at this
  exact this
theorem rows_get {i : Nat} {x : α} (h : xs[i]? = some x) : (rows f xs)[i]? = some (f x) := by rw [rows_eq]; simp [h]
theorem rows_set (y : α) (l : Nat) : (rows f xs).set l (f y) = rows f (xs.set l y) := by rw [rows_eq, rows_eq, List.map_set]
end

/- The rows of a tree are only read from here on: the tree becomes a row of its own whose cells are read. -/
section
variable {P : Program} {G : Env} {κ : Ctx} {η : Own} {s : St} {a : Act} {w : World} {X Y : Req → (PV → Prop) → Prop} {L : Code → (Ex → St → Prop) → St → Prop}
theorem Sim.freezeT [NoZ κ] (h : Sim κ η s a w) {id ver e sz : Nat} {es : List (List PV)} (he : s.H.get id = (ver, .tree e sz es)) :
    Sim κ (η.cut id 0 (es.length * sz)) ⟨s.T, s.H.put id (ver, .row e sz (coolL es))⟩ a w := by
  rw [coolL_eq]
  have hob := h.heap id
  rw [he] at hob
  obtain ⟨hcur, v, vals, hval, hown, hrep, hlen⟩ := hob
  have hfle : es.flatten.length = es.length * sz := flat_length hlen
  have hle : η.le (η.cut id 0 (es.length * sz)) := Own.le_cut
  have hI : ∀ g, imm κ η w g → imm κ (η.cut id 0 (es.length * sz)) w g := fun g hg => ⟨hg.1, hg.2.1, fun kk x hx => hg.2.2 kk x (Own.cut_src hx).1⟩
  have hnone : ∀ p x, (η.cut id 0 (es.length * sz)).val (.n id p) = some x → False := fun p x hx => by
    obtain ⟨hx1, hx2⟩ := Own.cut_src hx
    obtain ⟨es1, f1, f2, f3, g1, g2⟩ := h.sub id p x hx1
    rw [he] at g1
    obtain rfl := Option.some.inj g1
    have hp := (List.getElem?_eq_some_iff.1 g2).1
    exact hx2 p rfl ⟨Nat.zero_le _, by omega⟩
  have hS : ∀ p u g, η.val (.n id p) = some u → headOf u = some g → imm κ (η.cut id 0 (es.length * sz)) w g := fun p u g hu hg => by
    obtain ⟨es1, e', z', es', hb, hp⟩ := h.sub id p u hu
    rw [he] at hb
    obtain rfl := Option.some.inj hb
    have hlt := (List.getElem?_eq_some_iff.1 hp).1
    obtain ⟨u', hu'⟩ : ∃ u', vals[p]? = some u' := ⟨_, List.getElem?_eq_getElem (by rw [← hrep.1]; exact hlt)⟩
    obtain ⟨b1, _, b2, _⟩ := hrep.2 p _ u' hp hu'
    obtain rfl := Option.some.inj (b1.symm.trans hu)
    refine ⟨(h.head hu hg).1, ⟨.inr ⟨(owns_head b2 hg).2, owns_plain b2.row hg⟩, NoZ.out g⟩, fun j x hx hxg => ?_⟩
    obtain ⟨hx1, hx2⟩ := Own.cut_src hx
    have := h.apart j (.n id p) x u' g hx1 hu hxg hg
    subst this
    exact hnone p x hx
  refine h.step (fun g hg => ⟨hI g hg, rfl⟩) hle (fun j => ?_) (fun j k x x' q hx hx' => h.apart j k x x' q (Own.cut_src hx).1 (Own.cut_src hx').1) (fun j => ?_) h.kept
  · rw [Heap.get_put]
    by_cases ej : j = id
    · rw [if_pos ej, ej]
      refine ⟨hcur, v, vals, hval, by rw [List.length_map]; exact hown, ?_, fun x hx => ?_⟩
      · rw [← List.map_flatten]
        exact cells_cool hI hS 0 es.flatten vals hrep.1 fun p c u hp hu => by rw [Nat.zero_add]; exact hrep.2 p c u hp hu
      · obtain ⟨x', hx', rfl⟩ := List.mem_map.1 hx
        rw [List.length_map]
        exact hlen x' hx'
    · rw [if_neg ej]
      exact (h.heap j).keep rfl (fun k hkk => Own.cut_ne fun p e => absurd (by rw [← hkk, e]; rfl) ej) (fun k x q hkk hx hq => rfl) (fun g hg => ⟨hI g hg, rfl⟩) hle
  · rw [Heap.get_put]
    by_cases ej : j = id
    · rw [if_pos ej, ej]
      exact fun p x hx => (hnone p x hx).elim
    · rw [if_neg ej]
      exact (h.sub j).keep fun k hkk => Own.cut_ne fun p e => absurd (by rw [← hkk, e]; rfl) ej
def freezeS (s : St) (id : Nat) (rs : List (List PV)) : St := match s.H.get id with
  | (ver, .tree e sz _) => ⟨s.T, s.H.put id (ver, .row e sz rs)⟩
  | _ => s
theorem chg_freeze [NoZ κ] {s : St} {id ver e sz : Nat} {es rs : List (List PV)} (he : s.H.get id = (ver, .tree e sz es)) (hr : coolL es = rs) : Chg κ s (freezeS s id rs) := fun η a w h => by
  subst hr
  unfold freezeS
  rw [he]
  exact ⟨_, h.freezeT he⟩
/-- The state may be seen as another one that stands for the same worlds. -/
theorem r_chg {c : Code} {Q : Ex → St → Prop} {s s' : St} (h : Mach P G κ X Y L) (hc : Chg κ s s') (H : L c Q s') : L c Q s := by
  rw [h.L] at H ⊢
  intro η a w hs
  obtain ⟨η', hs'⟩ := hc η a w hs
  exact H η' a w hs'
end

/- Code that is walked with some regions left folded: ahead of them the state may be changed. -/
section
variable (X : Req → (PV → Prop) → Prop) (L : Code → (Ex → St → Prop) → St → Prop) (G : Env)
def codeF (ids : List Nat) : Code → (Ex → St → Prop) → St → Prop
  | .skip, Q, s => Q .normal s
  | .region id os draw, Q, s => if draw || ids.contains id then L (.region id os draw) Q s else ops X G os.toList os.toList s (Q .normal)
  | .seq a b, Q, s => codeF ids a (fun e s' => match e with
      | .normal => codeF ids b Q s'
      | .exit j => Q (.exit j) s'
      | .ret => Q .ret s') s
  | .cond c a b, Q, s => match s.ev c with
    | .bool t => if t then codeF ids a Q s else codeF ids b Q s
    | _ => False
  | .block id b, Q, s => codeF ids b (fun e s' => match e with
      | .normal => Q .normal s'
      | .exit j => if j = id then Q .normal s' else Q (.exit j) s'
      | .ret => Q .ret s') s
  | .loop b, Q, s => L (.loop b) Q s
  | .exit id, Q, s => Q (.exit id) s
  | .ret, Q, s => Q .ret s
  | _, _, _ => False
end
section
variable {P : Program} {G : Env} {κ : Ctx}
theorem codeF_sound (ids : List Nat) [NoZ κ] (hG : EnvOk P G) (hF : FieldsOk P G) : ∀ (c : Code) (Q : Ex → St → Prop) (s : St), codeF (std false P) (W P κ) G ids c Q s → W P κ c Q s := by
  intro c
  induction c with
  | skip => exact fun Q s hc η a w h => wp_skip ⟨η, s, h, hc⟩
  | region id os draw =>
    intro Q s hc η a w h
    simp only [codeF] at hc
    split at hc
    · exact hc η a w h
    · rename_i hd
      have hd' : draw = false := by simp only [Bool.or_eq_true, not_or] at hd; simpa using hd.1
      subst hd'
      have := ops_sound (Q' := Post κ Q) hG hF os.toList (fun a w ⟨η, s, hs, hK⟩ => ⟨η, s, hs, hK⟩) os.toList η s a w h hc
      refine wp_region_list ?_
      simpa using this
  | seq x y ihx ihy =>
    intro Q s hc η a w h
    simp only [codeF] at hc
    refine wp_seq (Go.wp_mono (ihx _ s hc η a w h) fun e a' w' hq => ?_)
    cases e with
    | normal => obtain ⟨η', s', hs', hc'⟩ := hq; exact ihy Q s' hc' η' a' w' hs'
    | exit i => obtain ⟨η', s', hs', hc'⟩ := hq; exact ⟨η', s', hs', hc'⟩
    | ret => obtain ⟨η', s', hs', hc'⟩ := hq; exact ⟨η', s', hs', hc'⟩
    | goto l => exact hq.elim
    | panic ch => exact hq.elim
    | outgrown => exact hq.elim
  | cond c x y ihx ihy =>
    intro Q s hc η a w h
    simp only [codeF] at hc
    split at hc
    case h_2 => exact hc.elim
    rename_i t ht
    have hr := h.ev c
    rw [ht] at hr
    refine wp_cond (t := t) hr.bool ?_
    cases t
    · exact ihy Q s (by simpa using hc) η a w h
    · exact ihx Q s (by simpa using hc) η a w h
  | block id b ih =>
    intro Q s hc η a w h
    simp only [codeF] at hc
    refine wp_block (Go.wp_mono (ih _ s hc η a w h) fun e a' w' hq => ?_)
    cases e with
    | normal => exact hq
    | exit i =>
      obtain ⟨η', s', hs', hc'⟩ := hq
      simp only at hc'
      simp only [Exit.inBlock]
      split at hc'
      · rename_i e
        rw [if_pos e]
        exact ⟨η', s', hs', hc'⟩
      · rename_i e
        rw [if_neg e]
        exact ⟨η', s', hs', hc'⟩
    | ret => exact hq
    | goto l => exact hq.elim
    | panic ch => exact hq.elim
    | outgrown => exact hq.elim
  | loop b ih => exact fun Q s hc => hc
  | exit id => exact fun Q s hc η a w h => wp_exit ⟨η, s, h, hc⟩
  | ret => exact fun Q s hc η a w h => wp_ret ⟨η, s, h, hc⟩
  | rangeFunc => exact fun Q s hc => hc.elim
  | scope => exact fun Q s hc => hc.elim
  | label => exact fun Q s hc => hc.elim
  | goto => exact fun Q s hc => hc.elim
  | refuse => exact fun Q s hc => hc.elim
theorem OkM_introW (hG : EnvOk P G) (hF : FieldsOk P G) {f : FuncId} {fn : Func} (hf : P.funcs[f]? = some fn) (hn : (fn.name == "runtime.NumGoroutine") = false) {cs args : List PV} {Q : PV → List PV → Prop} {c : Code} (hc : fn.body = some c)
    (h : ∀ κ : Ctx, NoZ κ → W P κ c (EndsIn (postM G fn.results.toList Q)) (start fn.ntmps (.optr 1 0 0 0 0 :: args) [(1, 0, .box cs)])) : OkM P f cs args Q := by
  refine ⟨⟨fn, hf, hn, by simp [hc]⟩, fun w g arr e I vs hI0 hg hcs hargs => ?_⟩
  obtain ⟨hI, T, hT, hTg, hgood⟩ := hI0
  let κ : Ctx := { B := w.heap.size, M := (· = g), w0 := w, I := I, lent := fun id => if id = 1 then some (.pointer (some ⟨g, 0, none⟩)) else none }
  have hz : NoZ κ := ⟨fun _ h => h, fun id h => if_neg (by omega), T, hT, (fun x (hx : x = g) => hx ▸ hTg), fun w' hk => hgood.on (hk.below (Nat.le_refl _) hT fun x (hx : x = g) => hx ▸ hTg)⟩
  let η : Own := ⟨fun _ => 0, fun id => if id = .o 1 then some (.pointer (some ⟨g, 0, none⟩)) else none⟩
  have hval : ∀ (id : Key) x, η.val id = some x → id = .o 1 ∧ x = .pointer (some ⟨g, 0, none⟩) := fun id x hx => by
    simp only [η] at hx
    split at hx
    · rename_i e; exact ⟨e, (Option.some.inj hx).symm⟩
    · cases hx
  have himm : ∀ x, I x → imm κ η w x := fun x hx => ⟨(hI x hx).1, ⟨.inl hx, fun h => h⟩, fun id v hv he => by
    obtain ⟨_, rfl⟩ := hval id v hv
    exact (hI x hx).2 (Option.some.inj he).symm⟩
  have hrep : All2 (Rep w (imm κ η w) η) (.optr 1 0 0 0 0 :: args) (.pointer (some ⟨g, 0, none⟩) :: vs) := .cons (.of1 (.optr 1 0 0 0 0 _ (Nat.le_refl _) fun _ x hx => by
      obtain ⟨_, rfl⟩ := hval (.o 1) x hx
      exact ⟨g, rfl, rfl⟩)) (hargs.mono fun p v hp => by
    cases hp with
    | one hp => exact .of (hp.weak himm)
    | agg cs vs hp => exact .one (.agg cs vs (RepIs.rep1 (hp.weak himm))))
  have hw := h κ hz
  have hsim : Sim κ η (start fn.ntmps (.optr 1 0 0 0 0 :: args) [(1, 0, .box cs)]) { tmps := (.pointer (some ⟨g, 0, none⟩) :: vs).toArray ++ Array.replicate (fn.ntmps - (.pointer (some ⟨g, 0, none⟩) :: vs).toArray.size) Go.undef, defers := [] } w := by
    refine ⟨start_rep hrep _ _, rfl, fun id => ?_, fun id id' x x' k hx hx' _ _ => by rw [(hval id x hx).1, (hval id' x' hx').1], fun id => SubRep.none fun p => by simp [η], ⟨rfl, rfl, rfl, Nat.le_refl _, fun _ _ _ => rfl⟩⟩
    simp only [start, Heap.get]
    by_cases e1 : 1 = id
    · subst e1
      rw [if_pos rfl]
      exact ⟨rfl, g, arr, e, by simp [η], hg, RepIs.rep1 (hcs.weak himm), fun k hk => .inr (by obtain rfl := Option.some.inj hk; rfl), fun u hu _ => by have hu : (if (1 : Nat) = 1 then some (Value.pointer (some ⟨g, 0, none⟩)) else none) = some u := hu; rw [if_pos rfl] at hu; exact Option.some.inj hu⟩
    · rw [if_neg e1]
      exact ⟨rfl, by simp [η, Ne.symm e1]⟩
  refine calls_of_wp hf hc (Go.wp_mono (hw η _ w hsim) fun en a' w' hq => ?_)
  have fin : ∀ η' s', Sim κ η' s' a' w' → postM G fn.results.toList Q s' → a'.defers = [] ∧ ∃ v, (results fn a'.tmps).run P w' = .ok v w' ∧
      ∃ v0 r gs cs' arr' e', Ending.returned v = .returned v0 ∧ Q r cs' ∧ Kept { B := w.heap.size, M := (· = g), w0 := w } w' ∧ RepR (fun x => I x ∨ w.heap.size ≤ x) w.heap.size w' r v0 gs ∧
        w'.heap[g]? = some (.cells arr' e' (0, 0)) ∧ RepIs w' (fun x => (I x ∨ w.heap.size ≤ x) ∧ x < w'.heap.size ∧ x ∉ gs ∧ (w.heap.size ≤ x → plain w' x)) cs' arr'.toList := by
    intro η' s' hs hp
    unfold postM at hp
    split at hp
    case h_2 => exact hp.elim
    rename_i cs1 h1
    have hob := hs.heap 1
    rw [h1] at hob
    obtain ⟨hcur, g1, arr1, e1, hval1, hh1, hr1, hB1⟩ := hob
    -- the box is still the receiver's
    have hg1 : g1 = g := by
      have := hB1.same (.pointer (some ⟨g, 0, none⟩)) rfl rfl
      simpa using this
    subst hg1
    split at hp
    case h_2 => exact hp.elim
    rename_i cs2 s1 h2
    split at hp
    case h_2 => exact hp.elim
    rename_i vs' s2 hall
    obtain ⟨η1, hs1, hcs2, hle1, hI1⟩ := toPures_sound hs hr1 h2
    obtain ⟨v, gs, η2, hres, hle, hI2, hnd, hgs, hgB, hR, hbx⟩ := all_sound hG hs1 hall
    obtain ⟨⟨_, g3, _, _, hval3, _, _, hB3⟩, hgs3⟩ := hbx 1 0 cs1 (toPures_box h2 h1)
    have hg3 : g3 = g1 := by
      have := hB3.same (.pointer (some ⟨g1, 0, none⟩)) rfl rfl
      simpa using this
    subst hg3
    have hnM : ∀ x, imm κ η2 w' x → x ≠ g3 := fun x hx e => hx.2.2 (.o 1) _ hval3 (by rw [e]; rfl)
    have hgM : ∀ x ∈ gs, w.heap.size ≤ x := fun x hx => (hgB x hx).elim id fun e => absurd (by rw [show x = g3 from e]; rfl) (hgs3 x hx _ hval3)
    have hIm : ∀ x, imm κ η2 w' x → ((I x ∨ w.heap.size ≤ x) ∧ x < w'.heap.size ∧ x ∉ gs ∧ (w.heap.size ≤ x → plain w' x)) := fun x hx => ⟨hx.2.1.1.imp id fun h => h.1.elim id fun e => absurd e (hnM x hx), hx.1, fun hm => (hgs x hm).2 hx, fun hle => by
      rcases hx.2.1.1 with h1 | h1
      · exact absurd (hI x h1).1 (Nat.not_lt.2 hle)
      · exact h1.2⟩
    refine ⟨hs.defers, v, hres, v, oneRes vs', gs, cs2, arr1, e1, rfl, hp, ⟨hs.kept.os, hs.kept.tape, hs.kept.output, hs.kept.size, hs.kept.block⟩, ⟨hnd, fun x hx => ⟨hgM x hx, (hgs x hx).1⟩, ?_⟩, hh1, hcs2.weak fun x hx => hIm x (hI2 x hx)⟩
    exact (hR.mono hIm).up hgM
  cases en with
  | normal => obtain ⟨η', s', hs, hp⟩ := hq; exact fin η' s' hs hp
  | ret => obtain ⟨η', s', hs, hp⟩ := hq; exact fin η' s' hs hp
  | exit i => obtain ⟨η', s', hs, hp⟩ := hq; exact hp.elim
  | goto l => exact hq.elim
  | panic ch => exact hq.elim
  | outgrown => exact hq.elim
variable {X Y : Req → (PV → Prop) → Prop} {L : Code → (Ex → St → Prop) → St → Prop}
theorem fnM_introF (ids : List Nat) (hG : EnvOk P G) (hF : FieldsOk P G) (hm : P.follows .mixedOrders = true) {f : FuncId} {fn : Func} (hf : P.funcs[f]? = some fn) (hn : (fn.name == "runtime.NumGoroutine") = false) {cs args : List PV} {R : PV → List PV → Prop} {c : Code} (hc : fn.body = some c)
    (h : ∀ κ X Y L Q, Mach P G κ X Y L → (∀ r c, R r c → Q r c) → codeF X L G ids c (EndsIn (postM G fn.results.toList Q)) (start fn.ntmps (.optr 1 0 0 0 0 :: args) [(1, 0, .box cs)])) : OkM P f cs args R :=
  OkM_introW hG hF hf hn hc fun κ hz => have := hz; codeF_sound ids hG hF c _ _ (h κ _ _ _ R ⟨hG, hF, hm, hz, rfl, rfl, rfl⟩ fun _ _ x => x)
theorem r_region {id : Nat} {os : Array Oper} {Q : Ex → St → Prop} {s : St} (h : Mach P G κ X Y L) (H : ops X G os.toList os.toList s (Q .normal)) : L (.region id os false) Q s := by
  have := h.z
  rw [h.L]
  rw [h.X] at H
  refine code_sound h.hG h.hF _ Q s ?_
  simp only [code]
  exact H
end

end Go.Proofs.Ytalookmhhkojeaa.Ai
