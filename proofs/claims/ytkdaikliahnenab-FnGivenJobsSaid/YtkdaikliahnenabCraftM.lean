/- Slices of a type may be made as trees: the table of types says so. -/
import Derived.Test.YtkdaikliahnenabAiBase
import Derived.Test.YtkdaikliahnenabThaw
import Derived.Test.YtkdaikliahnenabAiIce
import Derived.Test.YtkdaikliahnenabCommonC
import Derived.Test.YtkdaikliahnenabWithin
namespace Go.Proofs.Ytkdaikliahnenab.Ai
open Go Go.Proofs Go.RowKit
set_option linter.unusedSectionVars false
set_option linter.unusedVariables false
set_option maxRecDepth 10000
set_option maxHeartbeats 4000000

/-- The table in which slices of type T are made as trees. -/
def nestIn (T : Nat) (G : Env) : Env := fun t => match G t with
  | some ti => some ⟨ti.desc, ti.size, ti.bytes, ti.zero, ti.isAgg, Nat.beq t T⟩
  | none => none
theorem nestIn_ok {P : Program} {G : Env} (T : Nat) (h : EnvOk P G) : EnvOk P (nestIn T G) := fun t ti ht => by
  unfold nestIn at ht
  split at ht
  · rename_i t0 h0
    obtain rfl := Option.some.inj ht
    exact h t t0 h0
  · cases ht
theorem nestIn_fields {P : Program} {G : Env} (T : Nat) (h : FieldsOk P G) : FieldsOk P (nestIn T G) := fun t ti F ht hd f hf => by
  unfold nestIn at ht
  split at ht
  · rename_i t0 h0
    obtain rfl := Option.some.inj ht
    exact h t t0 F h0 hd f hf
  · cases ht
theorem cool_rows {α : Type} (f : α → List PV) (l : List α) : coolL (rows f l) = rows (fun x => (f x).map coolC) l := by
  rw [coolL_eq]; simp [rows_eq]
theorem cool_nil : coolL [] = [] := by rw [coolL_eq]; rfl

/- Rows that come into trees and go out of them: the rules; regions that draw, behind and ahead of changes of the abstract state. -/
section
variable {P : Program} {G : Env} {κ : Ctx} {X Y : Req → (PV → Prop) → Prop} {L : Code → (Ex → St → Prop) → St → Prop} {b : Bool} {α : Type} {f : α → List PV} {xs : List α} {K : PV → Prop}
/-- Every world that the one state stands for is one that the other stands for. -/
def Chg (κ : Ctx) (s s' : St) : Prop := ∀ (η : Own) (a : Act) (w : World), Sim κ η s a w → ∃ η', Sim κ η' s' a w
theorem Chg.refl (s : St) : Chg κ s s := fun η _ _ h => ⟨η, h⟩
theorem Chg.trans {s s' s'' : St} (h : Chg κ s s') (k : Chg κ s' s'') : Chg κ s s'' := fun η a w hs => by
  obtain ⟨η', hs'⟩ := h η a w hs
  exact k η' a w hs'
theorem r_drawX {id : Nat} {os : Array Oper} {Q : Ex → St → Prop} {s s1 : St} (h : Mach P G κ X Y L) (hc : Chg κ s s1) (hB : drawOk G os.toList (tabOf G os.toList s1) = true)
    (H : ∀ Z : St → Prop, (∀ s2 s3, Chg κ s2 s3 → Q .normal s3 → Z s2) → opsD Y G os.toList (tabOf G os.toList s1) 0 os.toList (touch (regKeys os.toList) s1) Z) : L (.region id os true) Q s := by
  have hd := r_draw (id := id) (Q := fun e s2 => match e with | .normal => ∃ s3, Chg κ s2 s3 ∧ Q .normal s3 | e => Q e s2) h hB (H _ fun s2 s3 h1 h2 => ⟨s3, h1, h2⟩)
  rw [h.L] at hd ⊢
  intro η a w hs
  obtain ⟨η1, hs1⟩ := hc η a w hs
  refine Go.wp_mono (hd η1 a w hs1) fun e a' w' hq => ?_
  cases e with
  | normal =>
    obtain ⟨η2, s2, hs2, s3, h1, h2⟩ := hq
    obtain ⟨η3, hs3⟩ := h1 η2 a' w' hs2
    exact ⟨η3, s3, hs3, h2⟩
  | exit i => exact hq
  | ret => exact hq
  | goto l => exact hq.elim
  | panic ch => exact hq.elim
  | outgrown => exact hq.elim
/-- The row in a tree's cell becomes an object of its own, under key k. -/
def outS (s : St) (id k e' z : Nat) (es1 rs : List (List PV)) : St := match s.H.get id with
  | (ver, .tree e sz _) => ⟨s.T, (s.H.put id (ver, .wild e sz es1)).put k ((s.H.get k).1 + 1, .row e' z rs)⟩
  | _ => s
theorem chg_out {s : St} {id ver e sz i off k e' z : Nat} {es rs : List (List PV)} {el : List PV} {es1 : List (List PV)} (he : s.H.get id = (ver, .tree e sz es)) (hk : id ≠ k) (hel : es[i]? = some el) (hc : el[off]? = some (.fr e' z rs))
    (h1 : es1 = es.set i (splice el off [.osl k ((s.H.get k).1 + 1)])) : Chg κ s (outS s id k e' z es1 rs) := fun η a w h => by
  have hob := h.heap id
  rw [he] at hob
  obtain ⟨hcur, v0, vals, hval, hown, hrep, hlen⟩ := hob
  obtain ⟨vs, _, hvs, hcs⟩ := tree_elem hlen hel hrep
  obtain ⟨u, hu, hq⟩ := hcs off _ hc
  obtain ⟨η', hs, _⟩ := h.takeOut (k := k) (c' := .osl k ((s.H.get k).1 + 1)) he hel hc hq.1 hk (fun _ _ _ e => by cases e) (fun η' I hv hc => .osl _ _ _ (Nat.le_of_eq hc.symm) fun _ x hx => Option.some.inj (hv.symm.trans hx))
  rw [← h1] at hs
  unfold outS
  rw [he]
  exact ⟨η', hs⟩
/-- The row that a tree's cell refers to is taken over. -/
def inS (s : St) (id k : Nat) (es3 : List (List PV)) : St := match s.H.get id with
  | (ver, .wild e sz _) => ⟨s.T.map (bump id ver), (s.H.put k ((s.H.get k).1, .dead)).put id (ver + 1, .tree e sz es3)⟩
  | _ => s
theorem chg_in [NoZ κ] {s : St} {id ver e sz i off k v e' z : Nat} {es rs : List (List PV)} {el : List PV} {es3 : List (List PV)} (he : s.H.get id = (ver, .wild e sz es)) (hk : s.H.get k = (v, .row e' z rs)) (hne : k ≠ id) (hel : es[i]? = some el) (hc : el[off]? = some (.osl k v))
    (h3 : es3 = es.set i (splice el off [.fr e' z rs])) (hcl : ∀ x ∈ es3, ∀ q ∈ x, (∃ e z rs, q = .fr e z rs) ∨ q.pure = true) : Chg κ s (inS s id k es3) := fun η a w h => by
  have hob := h.heap id
  rw [he] at hob
  obtain ⟨hcur, v0, vals, hval, hown, hrep, hlen⟩ := hob
  have hob2 := h.heap k
  rw [hk] at hob2
  obtain ⟨hcur2, u, vals2, hval2, hown2, hrep2, hlen2⟩ := hob2
  obtain ⟨vs, _, hvs, hcs⟩ := tree_elemR hlen hel hrep
  obtain ⟨u', hu', hq⟩ := hcs off _ hc
  have hq' : Rep1 w (imm κ η w) η (.osl k v) u' := hq
  have huu : u' = u := osl_val (.of1 hq') hcur2.symm hval2
  subst huu
  have hvu := hvs _ _ hu'
  have hset : vals.set (i * sz + off) u' = vals := by
    apply List.ext_getElem?
    intro q
    rw [List.getElem?_set]
    split
    · rename_i e1
      subst e1
      rw [if_pos (List.getElem?_eq_some_iff.1 hvu).1, hvu]
    · rfl
  obtain ⟨η', hs, _⟩ := h.plantIn (w' := w) (c := u') (c' := .fr e' z rs) (kill := some k) (H := s.H.put k (v, .dead)) (by rw [he]) rfl hcur hval hrep hlen hel (List.getElem?_eq_some_iff.1 hc).1
    ⟨.inl ⟨k, v, e', z, rs, rfl, rfl, hk, hval2, rfl⟩⟩ (by simpa using hne) (by rw [hset]; exact hown) (fun _ _ => rfl) (Nat.le_refl _) h.kept (by rw [← h3]; exact hcl)
  rw [← h3] at hs
  unfold inS
  rw [he, hk]
  exact ⟨η', hs⟩
theorem r_clean (h : Std P b X) (hf : ∀ x, ∀ c ∈ f x, (∃ e z rs, c = .fr e z rs) ∨ c.pure = true) (H : K .undef) : X (.clean (rows f xs)) K := by
  rw [h.eq, rows_eq]
  refine ⟨fun x hx c hc => ?_, H⟩
  obtain ⟨y, _, rfl⟩ := List.mem_map.1 hx
  exact hf y c hc
theorem clean_rows (hf : ∀ x, ∀ c ∈ f x, (∃ e z rs, c = .fr e z rs) ∨ c.pure = true) : ∀ x ∈ rows f xs, ∀ c ∈ x, (∃ e z rs, c = .fr e z rs) ∨ c.pure = true := by
  rw [rows_eq]
  intro x hx c hc
  obtain ⟨y, _, rfl⟩ := List.mem_map.1 hx
  exact hf y c hc
/-- One element is set to something that is not kept so. -/
theorem r_ostoreU {l o : Nat} {cs el' : List PV} {x : α} (h : Std P b X) (hx : xs[l]? = some x) (h1 : o + cs.length ≤ (f x).length) (h2 : splice (f x) o cs = el') (H : ∀ es1, es1 = (rows f xs).set l el' → K (.isl 0 es1)) : X (.ostore (rows f xs) l o cs) K := by
  rw [h.eq]
  exact ⟨f x, by rw [rows_eq]; simp [hx], h1, by rw [h2]; exact H _ rfl⟩
theorem r_oloadV {l o n : Nat} {el' : List PV} {es1 : List (List PV)} (h : Std P b X) (he : es1 = (rows f xs).set l el') (hl : l < xs.length) (h1 : o + n ≤ el'.length) (H : K (.agg ((el'.drop o).take n))) : X (.oload es1 l o n) K := by
  rw [h.eq, he]
  exact ⟨el', by rw [List.getElem?_set_self (by rw [rows_length]; exact hl)], h1, H⟩
theorem r_ostoreV {l o : Nat} {cs el' el2 : List PV} {es1 : List (List PV)} (h : Std P b X) (he : es1 = (rows f xs).set l el') (hl : l < xs.length) (h1 : o + cs.length ≤ el'.length) (h2 : splice el' o cs = el2) (H : ∀ es2, es2 = (rows f xs).set l el2 → K (.isl 0 es2)) : X (.ostore es1 l o cs) K := by
  rw [h.eq, he]
  exact ⟨el', by rw [List.getElem?_set_self (by rw [rows_length]; exact hl)], h1, by rw [h2, List.set_set]; exact H _ rfl⟩
theorem r_oindexV {l : Nat} {el' : List PV} {es1 : List (List PV)} {i : Int} (h : Std P b X) (he : es1 = (rows f xs).set l el') (h0 : 0 ≤ i) (h1 : i < xs.length) (H : K .undef) : X (.oindex es1.length i) K := by
  rw [h.eq, he, List.length_set, rows_length]; exact ⟨h0, by omega, H⟩
/-- A row is set into the place that had been left open. -/
theorem r_ostoreR {l o : Nat} {cs el' : List PV} {es1 : List (List PV)} (y : α) (h : Std P b X) (he : es1 = (rows f xs).set l el') (hl : l < xs.length) (h1 : o + cs.length ≤ el'.length) (h2 : splice el' o cs = f y) (H : ∀ zs, zs = xs.set l y → K (.isl 0 (rows f zs))) : X (.ostore es1 l o cs) K := by
  rw [h.eq, he]
  refine ⟨el', by rw [List.getElem?_set_self (by rw [rows_length]; exact hl)], h1, ?_⟩
  have := H _ rfl
  rw [h2, List.set_set]
  rw [rows_eq] at this ⊢
  rw [List.map_set] at this
  exact this
theorem rows_get {i : Nat} {x : α} (h : xs[i]? = some x) : (rows f xs)[i]? = some (f x) := by rw [rows_eq]; simp [h]
theorem rows_set (y : α) (l : Nat) : (rows f xs).set l (f y) = rows f (xs.set l y) := by rw [rows_eq, rows_eq, List.map_set]
end

/- A method's answer taken as one that is only read. -/

theorem OkM.iceE {P : Program} {f : FuncId} {cs args : List PV} {Q : PV → List PV → Prop} (h : OkM P f cs args Q) : OkM P f cs args (fun r cs' => ∃ r0, Q r0 cs' ∧ r = Ai.ice r0) :=
  ⟨h.1, fun w g arr e I vs hI hg hc ha => (h.2 w g arr e I vs hI hg hc ha).mono fun en w' ⟨v, r, gs, cs', arr', e', e1, q, k, ⟨e2, e3, e4⟩, e5, e6⟩ => ⟨v, Ai.ice r, [], cs', arr', e', e1, ⟨r, q, rfl⟩, k,
    ⟨by simp, by simp, Res.ice e4 (fun g hg => ⟨hg.1, hg.2.1, by simp, hg.2.2.2⟩) (fun g hg => ⟨.inr (e3 g hg).1, (e3 g hg).2, by simp, fun _ => e4.plain g hg⟩)⟩, e5, e6.weak fun x hx => ⟨hx.1, hx.2.1, by simp, hx.2.2.2⟩⟩⟩

theorem OkM.mono {P : Program} {f : FuncId} {cs args : List PV} {Q Q' : PV → List PV → Prop} (h : OkM P f cs args Q) (hq : ∀ r cs', Q r cs' → Q' r cs') : OkM P f cs args Q' :=
  ⟨h.1, fun w g arr e I vs hI hg hc ha => (h.2 w g arr e I vs hI hg hc ha).mono fun en w' ⟨v, r, gs, cs', arr', e', e1, q, k⟩ => ⟨v, r, gs, cs', arr', e', e1, hq _ _ q, k⟩⟩

/- Contract of the cursor's crafts, as pg.py prints it without trees: tools/nest.py turns it. -/
noncomputable def cCraftN (c : Craft) : List PV := [.fr 3 1 (rows cInt c.1), .int .i64 c.2]
theorem cool_cCraft (l : List Craft) : coolL (rows cCraftN l) = rows cCraft l := cool_rows cCraftN l
theorem cCraftN_clean : ∀ x, ∀ c ∈ cCraftN x, (∃ e z rs, c = .fr e z rs) ∨ c.pure = true := fun x c hc => by
  simp only [cCraftN, List.mem_cons, List.not_mem_nil, or_false] at hc
  rcases hc with rfl | rfl
  · exact .inl ⟨_, _, _, rfl⟩
  · exact .inr rfl
theorem needs_app {l : List Craft} (h : ∀ c ∈ l, (c.1.length : Int) ≤ 20) {y : Craft} (hy : (y.1.length : Int) ≤ 20) : ∀ c ∈ l ++ [y], (c.1.length : Int) ≤ 20 := fun c hc => by
  rcases List.mem_append.1 hc with hc | hc
  · exact h c hc
  · rw [List.mem_singleton.1 hc]; exact hy
theorem cCrafts_ok (code : List Int) (b0 t0 : Int)  (h : CurIn code) (h0 : 0 ≤ b0) (hk : b0 ≤ 899999999998000000)  : OkM Try.prog 116 (cCur code b0 t0) [] (fun r cs => ∃ (q : List Craft), r = .isl 2 (rows cCraft q) ∧ CurTo code b0 2000 cs ∧ ((q.length : Int) ≤ 11)) :=
  fnM_intro (nestIn_ok 69 envOk) (nestIn_fields 69 fieldsOk) mixed Try.func116 rfl fun κ X Y L Q m hQ => by
    conv => cbv
    refine r_mcall m.sX (cPick_ok code b0 t0 5 h (by omega) (by omega)) ?_
    rintro _ _ ⟨q1, rfl, ⟨a1, s1, rfl, ea1, fa1⟩, bq1, cq1, dq1⟩
    conv => cbv
    refine r_addf m.sX (by omega) (by omega) fun n hn => ?_
    conv => cbv
    refine r_mcall m.sX (cOne_ok code a1 s1 12 h (by omega) (by omega)) ?_
    rintro _ _ ⟨q2, rfl, ⟨a2, s2, rfl, ea2, fa2⟩⟩
    conv => cbv
    rcases Bool.eq_false_or_eq_true q2 with rfl | rfl <;> conv => cbv
    · refine r_mcall m.sX (cAmong_ok code a2 s2 ([0, 10, 11]) (by simp) h (by omega) (by omega)) ?_
      rintro _ _ ⟨n_2, rfl, ⟨a3, s3, rfl, ea3, fa3⟩, bn_2⟩
      simp only [List.mem_cons, List.not_mem_nil, or_false] at bn_2
      conv => cbv
      refine r_loopF (α := Int × Int × List Craft) m 78 [4] [⟨0, 1, 0, 0, 0⟩, ⟨3, 25, 143 + 1000000, 2, 0⟩] (fun σ => [(0, .optr 1 0 0 0 0), (3, .osl 25 0), (4, .int .i64 n_2)]) (fun σ => [(1, 0, .box (cCur code σ.1 σ.2.1)), (25, 0, .tree 143 2 (rows cCraftN σ.2.2))])
        (fun σ => ((σ.2.2.length : Int) ≤ n_2) ∧ (b0 ≤ σ.1 ∧ σ.1 ≤ b0 + 10 + 30 * (σ.2.2.length : Int)) ∧ (∀ c ∈ σ.2.2, (c.1.length : Int) ≤ 20) ∧ ((σ.2.2.length : Int) ≤ 11)) (fun σ => (n_2 - (σ.2.2.length : Int)).toNat) (a3, s3, []) ?_ ?_ ?_ ?_
      · cbv
      · (try dsimp only); simp only [rows_cons, rows_nil]; cbv
      · exact ⟨(by (try dsimp only); first | omega | (simp only [List.length_nil]; omega)), (by (try dsimp only) <;> first | omega | rfl | (simp [*]; done)), (by (try dsimp only) <;> (intro c hc; cases hc)), (by (try dsimp only) <;> first | omega | rfl | (simp [*]; done))⟩
      rintro ⟨a4, s4, l⟩ ⟨ll1, cu, lb, ln⟩ E hE F hF
      dsimp only at ll1 cu lb ln
      conv => cbv
      refine r_lenR m.sX fun n1 hn1 mn1 => ?_
      conv => cbv
      refine r_lss m.sX (fun h1 => ?_) (fun h1 => ?_) <;> conv => cbv
      · refine r_mcall m.sX (cPick_ok code a4 s4 8 h (by omega) (by omega)) ?_
        rintro _ _ ⟨q3, rfl, ⟨a5, s5, rfl, ea5, fa5⟩, bq3, cq3, dq3⟩
        conv => cbv
        refine r_addf m.sX (by omega) (by omega) fun r1 hr1 => ?_
        conv => cbv
        refine r_lenR m.sX fun n2 hn2 mn2 => ?_
        conv => cbv
        refine r_loopF (α := Int × Int × List Int × Int) m 78 [4, 25, 26] [⟨0, 1, 0, 0, 0⟩, ⟨3, 25, 143 + 1000000, 2, 0⟩, ⟨5, 41, 0, 0, 0⟩, ⟨5, 8041, 3, 1, 1⟩] (fun σ => [(0, .optr 1 0 0 0 0), (3, .osl 25 0), (4, .int .i64 n_2), (5, .optr 41 0 2 0 0), (25, .int .i64 n2), (26, .int .i64 σ.2.2.2)]) (fun σ => [(1, 0, .box (cCur code σ.1 σ.2.1)), (25, 0, .tree 143 2 (rows cCraftN l)), (41, 0, .box [.osl 8041 0, .int .i64 r1]), (8041, 0, .row 3 1 (rows cInt σ.2.2.1))])
          (fun σ => (0 ≤ σ.2.2.2) ∧ (σ.2.2.2 ≤ n2) ∧ (a5 ≤ σ.1 ∧ σ.1 ≤ a5 + 2 * σ.2.2.2) ∧ ((σ.2.2.1.length : Int) ≤ σ.2.2.2)) (fun σ => (n2 - σ.2.2.2).toNat) (a5, s5, [], 0) ?_ ?_ ?_ ?_
        · cbv
        · (try dsimp only); simp only [rows_cons, rows_nil]; cbv
        · exact ⟨(by (try dsimp only); first | omega | (simp only [List.length_nil]; omega)), (by (try dsimp only); first | omega | (simp only [List.length_nil]; omega)), (by (try dsimp only) <;> first | omega | rfl | (simp [*]; done)), (by (try dsimp only) <;> first | omega | rfl | (simp [*]; done))⟩
        rintro ⟨a6, s6, ys1, i1⟩ ⟨lo2, hi2, cu, yl⟩ E2 hE2 F2 hF2
        dsimp only at lo2 hi2 cu yl
        conv => cbv
        refine r_lss m.sX (fun h2 => ?_) (fun h2 => ?_) <;> conv => cbv
        · refine r_mcall m.sX (cOne_ok code a6 s6 4 h (by omega) (by omega)) ?_
          rintro _ _ ⟨q4, rfl, ⟨a7, s7, rfl, ea7, fa7⟩⟩
          conv => cbv
          rcases Bool.eq_false_or_eq_true q4 with rfl | rfl <;> conv => cbv
          · refine r_append1 (i1) m.sX rfl (by first | omega | (dsimp only; omega)) (by first | omega | (dsimp only; omega)) fun zs1 hzs1 => ?_
            conv => cbv
            have lzs1 : (zs1.length : Int) = ys1.length + 1 := by rw [hzs1]; first | done | (simp; done) | (simp; omega)
            refine r_addf m.sX (by omega) (by omega) fun r2 hr2 => ?_
            conv => cbv
            try have tr2 : Int.toNat r2 = Int.toNat i1 + 1 := by omega
            refine hE2 _ (a7, s7, zs1, r2) ?_ ?_ ⟨(by (try dsimp only); first | omega | (simp only [List.length_nil]; omega)), (by (try dsimp only); first | omega | (simp only [List.length_nil]; omega)), (by (try dsimp only) <;> first | omega | rfl | (simp [*]; done) | (rw [cu]; simp [*]; done)), (by (try dsimp only) <;> first | omega | rfl | (simp [*]; done) | (rw [yl]; simp [*]; done))⟩ (by first | omega | (dsimp only; omega))
            · cbv
            · cbv
          · refine r_addf m.sX (by omega) (by omega) fun r3 hr3 => ?_
            conv => cbv
            try have tr3 : Int.toNat r3 = Int.toNat i1 + 1 := by omega
            refine hE2 _ (a7, s7, ys1, r3) ?_ ?_ ⟨(by (try dsimp only); first | omega | (simp only [List.length_nil]; omega)), (by (try dsimp only); first | omega | (simp only [List.length_nil]; omega)), (by (try dsimp only) <;> first | omega | rfl | (simp [*]; done) | (rw [cu]; simp [*]; done)), (by (try dsimp only) <;> first | omega | rfl | (simp [*]; done) | (rw [yl]; simp [*]; done))⟩ (by first | omega | (dsimp only; omega))
            · cbv
            · cbv
        · have dz_i1 := drop_end (xs := l) (i := Int.toNat i1) (by omega)
          have tz_i1 := take_end (xs := l) (i := Int.toNat i1) (by omega)
          refine hF2 _ _ ?_
          conv => cbv
          refine r_append1 ((ys1, r1)) m.sX rfl (by first | omega | (dsimp only; omega)) (by first | omega | (dsimp only; omega)) fun l_2 hl_2 => ?_
          conv => cbv
          have ll_2 : (l_2.length : Int) = l.length + 1 := by rw [hl_2]; first | done | (simp; done) | (simp; omega)
          refine hE _ (a6, s6, l_2) ?_ ?_ ⟨(by (try dsimp only); first | omega | (simp only [List.length_nil]; omega)), (by (try dsimp only) <;> first | omega | rfl | (simp [*]; done) | (rw [cu]; simp [*]; done)), (by (try dsimp only) <;> (rw [hl_2]; exact needs_app lb (by dsimp only; omega))), (by (try dsimp only) <;> first | omega | rfl | (simp [*]; done) | (rw [ln]; simp [*]; done))⟩ (by first | omega | (dsimp only; omega))
          · cbv
          · cbv
      · refine hF _ _ ?_
        conv => cbv
        refine r_gtr m.sX (fun h3 => ?_) (fun h3 => ?_) <;> conv => cbv
        · refine r_mcall m.sX (cPick_ok code a4 s4 n_2 h (by omega) (by omega)) ?_
          rintro _ _ ⟨i, rfl, ⟨a8, s8, rfl, ea8, fa8⟩, bi, ci, di⟩
          conv => cbv
          refine r_mcall m.sX (cPick_ok code a8 s8 30 h (by omega) (by omega)) ?_
          rintro _ _ ⟨q5, rfl, ⟨a9, s9, rfl, ea9, fa9⟩, bq5, cq5, dq5⟩
          conv => cbv
          refine r_eql m.sX (fun h4 => ?_) (fun h4 => ?_) <;> conv => cbv
          · refine r_mcall m.sX (cAmong_ok code a9 s9 ([0, 60, 61]) (by simp) h (by omega) (by omega)) ?_
            rintro _ _ ⟨q6, rfl, ⟨a10, s10, rfl, ea10, fa10⟩, bq6⟩
            simp only [List.mem_cons, List.not_mem_nil, or_false] at bq6
            conv => cbv
            refine r_oindex m.sX (by omega) (by omega) ?_
            conv => cbv
            obtain ⟨⟨y1A, y1B⟩, hy1⟩ := get_ex (xs := l) (i := Int.toNat i) (by omega)
            refine r_ostore (l := Int.toNat i) (y1A, q6) m.sX hy1 (Nat.le_of_ble_eq_true rfl) rfl fun l_3 hl_3 => ?_   -- l_3 = l.set i (y1A, q6)
            have ll_3 : (l_3.length : Int) = l.length := by rw [hl_3]; first | done | (simp; done) | (simp; omega)
            conv => cbv
            refine r_clean m.sX cCraftN_clean ?_
            conv => cbv
            exact hQ (.isl 2 (coolL (rows cCraftN l_3))) (cCur code a10 s10) ⟨l_3, by rw [cool_cCraft], ⟨a10, s10, rfl, by omega, by omega⟩, (by first | omega | assumption | (simp; done) | (simp [*]; done) | (simp at *; omega))⟩   -- leaf 1
          · refine r_eql m.sX (fun h5 => ?_) (fun h5 => ?_) <;> conv => cbv
            · obtain ⟨⟨x1A, x1B⟩, hx1⟩ := get_ex (xs := l) (i := Int.toNat i) (by omega)
              have mx1 := get_mem hx1
              have bx := lb _ mx1
              try dsimp only at bx
              have hli : Int.toNat i < l.length := by omega
              have := m.z
              obtain ⟨es1, hes1⟩ : ∃ es1, es1 = (rows cCraftN l).set (Int.toNat i) [.osl 999999 1, .int .i64 x1B] := ⟨_, rfl⟩
              refine r_drawX (s1 := outS _ 25 999999 3 1 es1 (rows cInt x1A)) m (chg_out (i := Int.toNat i) (off := 0) rfl (by decide) (es := rows cCraftN l) (el := cCraftN (x1A, x1B)) (rows_get hx1) rfl hes1) (by kernel_rfl) fun Z hZ => ?_
              conv => cbv
              refine r_oindexV m.sY hes1 (by omega) (by omega) ?_
              conv => cbv
              refine r_oloadV m.sY hes1 hli (Nat.le_of_ble_eq_true rfl) ?_
              conv => cbv
              refine r_subf m.sY (by omega) (by omega) fun r4 hr4 => ?_
              conv => cbv
              refine r_mcallS m.sY (cAmong_ok code a9 s9 ([i, r4, -1]) (by simp) h (by omega) (by omega)) (cAmong_ex code a9 s9 ([i, r4, -1]) (by simp)) (by rintro _ _ ⟨_, rfl, _⟩; first | trivial | (intro x hx; simp at hx; rcases hx with rfl | rfl | rfl <;> trivial)) ?_
              rintro _ _ ⟨q7, rfl, ⟨a11, s11, rfl, ea11, fa11⟩, bq7⟩
              simp only [List.mem_cons, List.not_mem_nil, or_false] at bq7
              conv => cbv
              refine r_append1 (q7) m.sY rfl (by first | omega | (dsimp only; omega)) (by first | omega | (dsimp only; omega)) fun zs2 hzs2 => ?_
              conv => cbv
              refine r_oindexV m.sY hes1 (by omega) (by omega) ?_
              conv => cbv
              refine r_ostoreV (l := Int.toNat i) (el2 := [.osl 592 1, .int .i64 x1B]) m.sY hes1 hli (Nat.le_of_ble_eq_true rfl) rfl fun es2 hes2 => ?_
              conv => cbv
              refine hZ _ (inS _ 25 592 (rows cCraftN (l.set (Int.toNat i) (zs2, x1B)))) (chg_in (es := es2) (i := Int.toNat i) (off := 0) (el := [.osl 592 1, .int .i64 x1B]) rfl rfl (by decide) (by rw [hes2, List.getElem?_set_self (by rw [rows_length]; exact hli)]) rfl (by rw [hes2, List.set_set]; exact (rows_set (zs2, x1B) _).symm) (clean_rows cCraftN_clean)) ?_
              obtain ⟨l_4, hl_4⟩ : ∃ z, z = l.set (Int.toNat i) (zs2, x1B) := ⟨_, rfl⟩
              rw [← hl_4]
              have ll_4 : (l_4.length : Int) = l.length := by rw [hl_4]; first | done | (simp; done) | (simp; omega)
              conv => cbv
              exact hQ (.isl 2 (coolL (rows cCraftN l_4))) (cCur code a11 s11) ⟨l_4, by rw [cool_cCraft], ⟨a11, s11, rfl, by omega, by omega⟩, (by first | omega | assumption | (simp; done) | (simp [*]; done) | (simp at *; omega))⟩   -- leaf 2
            · exact hQ (.isl 2 (coolL (rows cCraftN l))) (cCur code a9 s9) ⟨l, by rw [cool_cCraft], ⟨a9, s9, rfl, by omega, by omega⟩, (by first | omega | assumption | (simp; done) | (simp [*]; done) | (simp at *; omega))⟩   -- leaf 3
        · exact hQ (.isl 2 (coolL (rows cCraftN l))) (cCur code a4 s4) ⟨l, by rw [cool_cCraft], ⟨a4, s4, rfl, by omega, by omega⟩, (by first | omega | assumption | (simp; done) | (simp [*]; done) | (simp at *; omega))⟩   -- leaf 4
    · refine r_loopF (α := Int × Int × List Craft) m 78 [4] [⟨0, 1, 0, 0, 0⟩, ⟨3, 25, 143 + 1000000, 2, 0⟩] (fun σ => [(0, .optr 1 0 0 0 0), (3, .osl 25 0), (4, .int .i64 n)]) (fun σ => [(1, 0, .box (cCur code σ.1 σ.2.1)), (25, 0, .tree 143 2 (rows cCraftN σ.2.2))])
        (fun σ => ((σ.2.2.length : Int) ≤ n) ∧ (b0 ≤ σ.1 ∧ σ.1 ≤ b0 + 10 + 30 * (σ.2.2.length : Int)) ∧ (∀ c ∈ σ.2.2, (c.1.length : Int) ≤ 20) ∧ ((σ.2.2.length : Int) ≤ 11)) (fun σ => (n - (σ.2.2.length : Int)).toNat) (a2, s2, []) ?_ ?_ ?_ ?_
      · cbv
      · (try dsimp only); simp only [rows_cons, rows_nil]; cbv
      · exact ⟨(by (try dsimp only); first | omega | (simp only [List.length_nil]; omega)), (by (try dsimp only) <;> first | omega | rfl | (simp [*]; done)), (by (try dsimp only) <;> (intro c hc; cases hc)), (by (try dsimp only) <;> first | omega | rfl | (simp [*]; done))⟩
      rintro ⟨a12, s12, l_5⟩ ⟨ll3, cu, lb, ln⟩ E hE F hF
      dsimp only at ll3 cu lb ln
      conv => cbv
      refine r_lenR m.sX fun n3 hn3 mn3 => ?_
      conv => cbv
      refine r_lss m.sX (fun h6 => ?_) (fun h6 => ?_) <;> conv => cbv
      · refine r_mcall m.sX (cPick_ok code a12 s12 8 h (by omega) (by omega)) ?_
        rintro _ _ ⟨q8, rfl, ⟨a13, s13, rfl, ea13, fa13⟩, bq8, cq8, dq8⟩
        conv => cbv
        refine r_addf m.sX (by omega) (by omega) fun r5 hr5 => ?_
        conv => cbv
        refine r_lenR m.sX fun n4 hn4 mn4 => ?_
        conv => cbv
        refine r_loopF (α := Int × Int × List Int × Int) m 78 [4, 25, 26] [⟨0, 1, 0, 0, 0⟩, ⟨3, 25, 143 + 1000000, 2, 0⟩, ⟨5, 41, 0, 0, 0⟩, ⟨5, 8041, 3, 1, 1⟩] (fun σ => [(0, .optr 1 0 0 0 0), (3, .osl 25 0), (4, .int .i64 n), (5, .optr 41 0 2 0 0), (25, .int .i64 n4), (26, .int .i64 σ.2.2.2)]) (fun σ => [(1, 0, .box (cCur code σ.1 σ.2.1)), (25, 0, .tree 143 2 (rows cCraftN l_5)), (41, 0, .box [.osl 8041 0, .int .i64 r5]), (8041, 0, .row 3 1 (rows cInt σ.2.2.1))])
          (fun σ => (0 ≤ σ.2.2.2) ∧ (σ.2.2.2 ≤ n4) ∧ (a13 ≤ σ.1 ∧ σ.1 ≤ a13 + 2 * σ.2.2.2) ∧ ((σ.2.2.1.length : Int) ≤ σ.2.2.2)) (fun σ => (n4 - σ.2.2.2).toNat) (a13, s13, [], 0) ?_ ?_ ?_ ?_
        · cbv
        · (try dsimp only); simp only [rows_cons, rows_nil]; cbv
        · exact ⟨(by (try dsimp only); first | omega | (simp only [List.length_nil]; omega)), (by (try dsimp only); first | omega | (simp only [List.length_nil]; omega)), (by (try dsimp only) <;> first | omega | rfl | (simp [*]; done)), (by (try dsimp only) <;> first | omega | rfl | (simp [*]; done))⟩
        rintro ⟨a14, s14, ys2, i2⟩ ⟨lo4, hi4, cu, yl⟩ E2 hE2 F2 hF2
        dsimp only at lo4 hi4 cu yl
        conv => cbv
        refine r_lss m.sX (fun h7 => ?_) (fun h7 => ?_) <;> conv => cbv
        · refine r_mcall m.sX (cOne_ok code a14 s14 4 h (by omega) (by omega)) ?_
          rintro _ _ ⟨q9, rfl, ⟨a15, s15, rfl, ea15, fa15⟩⟩
          conv => cbv
          rcases Bool.eq_false_or_eq_true q9 with rfl | rfl <;> conv => cbv
          · refine r_append1 (i2) m.sX rfl (by first | omega | (dsimp only; omega)) (by first | omega | (dsimp only; omega)) fun zs3 hzs3 => ?_
            conv => cbv
            have lzs3 : (zs3.length : Int) = ys2.length + 1 := by rw [hzs3]; first | done | (simp; done) | (simp; omega)
            refine r_addf m.sX (by omega) (by omega) fun r6 hr6 => ?_
            conv => cbv
            try have tr6 : Int.toNat r6 = Int.toNat i2 + 1 := by omega
            refine hE2 _ (a15, s15, zs3, r6) ?_ ?_ ⟨(by (try dsimp only); first | omega | (simp only [List.length_nil]; omega)), (by (try dsimp only); first | omega | (simp only [List.length_nil]; omega)), (by (try dsimp only) <;> first | omega | rfl | (simp [*]; done) | (rw [cu]; simp [*]; done)), (by (try dsimp only) <;> first | omega | rfl | (simp [*]; done) | (rw [yl]; simp [*]; done))⟩ (by first | omega | (dsimp only; omega))
            · cbv
            · cbv
          · refine r_addf m.sX (by omega) (by omega) fun r7 hr7 => ?_
            conv => cbv
            try have tr7 : Int.toNat r7 = Int.toNat i2 + 1 := by omega
            refine hE2 _ (a15, s15, ys2, r7) ?_ ?_ ⟨(by (try dsimp only); first | omega | (simp only [List.length_nil]; omega)), (by (try dsimp only); first | omega | (simp only [List.length_nil]; omega)), (by (try dsimp only) <;> first | omega | rfl | (simp [*]; done) | (rw [cu]; simp [*]; done)), (by (try dsimp only) <;> first | omega | rfl | (simp [*]; done) | (rw [yl]; simp [*]; done))⟩ (by first | omega | (dsimp only; omega))
            · cbv
            · cbv
        · have dz_i2 := drop_end (xs := l_5) (i := Int.toNat i2) (by omega)
          have tz_i2 := take_end (xs := l_5) (i := Int.toNat i2) (by omega)
          refine hF2 _ _ ?_
          conv => cbv
          refine r_append1 ((ys2, r5)) m.sX rfl (by first | omega | (dsimp only; omega)) (by first | omega | (dsimp only; omega)) fun l_6 hl_6 => ?_
          conv => cbv
          have ll_6 : (l_6.length : Int) = l_5.length + 1 := by rw [hl_6]; first | done | (simp; done) | (simp; omega)
          refine hE _ (a14, s14, l_6) ?_ ?_ ⟨(by (try dsimp only); first | omega | (simp only [List.length_nil]; omega)), (by (try dsimp only) <;> first | omega | rfl | (simp [*]; done) | (rw [cu]; simp [*]; done)), (by (try dsimp only) <;> (rw [hl_6]; exact needs_app lb (by dsimp only; omega))), (by (try dsimp only) <;> first | omega | rfl | (simp [*]; done) | (rw [ln]; simp [*]; done))⟩ (by first | omega | (dsimp only; omega))
          · cbv
          · cbv
      · refine hF _ _ ?_
        conv => cbv
        refine r_gtr m.sX (fun h8 => ?_) (fun h8 => ?_) <;> conv => cbv
        · refine r_mcall m.sX (cPick_ok code a12 s12 n h (by omega) (by omega)) ?_
          rintro _ _ ⟨i_2, rfl, ⟨a16, s16, rfl, ea16, fa16⟩, bi_2, ci_2, di_2⟩
          conv => cbv
          refine r_mcall m.sX (cPick_ok code a16 s16 30 h (by omega) (by omega)) ?_
          rintro _ _ ⟨q10, rfl, ⟨a17, s17, rfl, ea17, fa17⟩, bq10, cq10, dq10⟩
          conv => cbv
          refine r_eql m.sX (fun h9 => ?_) (fun h9 => ?_) <;> conv => cbv
          · refine r_mcall m.sX (cAmong_ok code a17 s17 ([0, 60, 61]) (by simp) h (by omega) (by omega)) ?_
            rintro _ _ ⟨q11, rfl, ⟨a18, s18, rfl, ea18, fa18⟩, bq11⟩
            simp only [List.mem_cons, List.not_mem_nil, or_false] at bq11
            conv => cbv
            refine r_oindex m.sX (by omega) (by omega) ?_
            conv => cbv
            obtain ⟨⟨y3A, y3B⟩, hy3⟩ := get_ex (xs := l_5) (i := Int.toNat i_2) (by omega)
            refine r_ostore (l := Int.toNat i_2) (y3A, q11) m.sX hy3 (Nat.le_of_ble_eq_true rfl) rfl fun l_7 hl_7 => ?_   -- l_7 = l_5.set i_2 (y3A, q11)
            have ll_7 : (l_7.length : Int) = l_5.length := by rw [hl_7]; first | done | (simp; done) | (simp; omega)
            conv => cbv
            refine r_clean m.sX cCraftN_clean ?_
            conv => cbv
            exact hQ (.isl 2 (coolL (rows cCraftN l_7))) (cCur code a18 s18) ⟨l_7, by rw [cool_cCraft], ⟨a18, s18, rfl, by omega, by omega⟩, (by first | omega | assumption | (simp; done) | (simp [*]; done) | (simp at *; omega))⟩   -- leaf 5
          · refine r_eql m.sX (fun h10 => ?_) (fun h10 => ?_) <;> conv => cbv
            · obtain ⟨⟨x2A, x2B⟩, hx2⟩ := get_ex (xs := l_5) (i := Int.toNat i_2) (by omega)
              have mx2 := get_mem hx2
              have bx := lb _ mx2
              try dsimp only at bx
              have hli : Int.toNat i_2 < l_5.length := by omega
              have := m.z
              obtain ⟨es1, hes1⟩ : ∃ es1, es1 = (rows cCraftN l_5).set (Int.toNat i_2) [.osl 999999 1, .int .i64 x2B] := ⟨_, rfl⟩
              refine r_drawX (s1 := outS _ 25 999999 3 1 es1 (rows cInt x2A)) m (chg_out (i := Int.toNat i_2) (off := 0) rfl (by decide) (es := rows cCraftN l_5) (el := cCraftN (x2A, x2B)) (rows_get hx2) rfl hes1) (by kernel_rfl) fun Z hZ => ?_
              conv => cbv
              refine r_oindexV m.sY hes1 (by omega) (by omega) ?_
              conv => cbv
              refine r_oloadV m.sY hes1 hli (Nat.le_of_ble_eq_true rfl) ?_
              conv => cbv
              refine r_subf m.sY (by omega) (by omega) fun r8 hr8 => ?_
              conv => cbv
              refine r_mcallS m.sY (cAmong_ok code a17 s17 ([i_2, r8, -1]) (by simp) h (by omega) (by omega)) (cAmong_ex code a17 s17 ([i_2, r8, -1]) (by simp)) (by rintro _ _ ⟨_, rfl, _⟩; first | trivial | (intro x hx; simp at hx; rcases hx with rfl | rfl | rfl <;> trivial)) ?_
              rintro _ _ ⟨q12, rfl, ⟨a19, s19, rfl, ea19, fa19⟩, bq12⟩
              simp only [List.mem_cons, List.not_mem_nil, or_false] at bq12
              conv => cbv
              refine r_append1 (q12) m.sY rfl (by first | omega | (dsimp only; omega)) (by first | omega | (dsimp only; omega)) fun zs4 hzs4 => ?_
              conv => cbv
              refine r_oindexV m.sY hes1 (by omega) (by omega) ?_
              conv => cbv
              refine r_ostoreV (l := Int.toNat i_2) (el2 := [.osl 592 1, .int .i64 x2B]) m.sY hes1 hli (Nat.le_of_ble_eq_true rfl) rfl fun es2 hes2 => ?_
              conv => cbv
              refine hZ _ (inS _ 25 592 (rows cCraftN (l_5.set (Int.toNat i_2) (zs4, x2B)))) (chg_in (es := es2) (i := Int.toNat i_2) (off := 0) (el := [.osl 592 1, .int .i64 x2B]) rfl rfl (by decide) (by rw [hes2, List.getElem?_set_self (by rw [rows_length]; exact hli)]) rfl (by rw [hes2, List.set_set]; exact (rows_set (zs4, x2B) _).symm) (clean_rows cCraftN_clean)) ?_
              obtain ⟨l_8, hl_8⟩ : ∃ z, z = l_5.set (Int.toNat i_2) (zs4, x2B) := ⟨_, rfl⟩
              rw [← hl_8]
              have ll_8 : (l_8.length : Int) = l_5.length := by rw [hl_8]; first | done | (simp; done) | (simp; omega)
              conv => cbv
              exact hQ (.isl 2 (coolL (rows cCraftN l_8))) (cCur code a19 s19) ⟨l_8, by rw [cool_cCraft], ⟨a19, s19, rfl, by omega, by omega⟩, (by first | omega | assumption | (simp; done) | (simp [*]; done) | (simp at *; omega))⟩   -- leaf 6
            · exact hQ (.isl 2 (coolL (rows cCraftN l_5))) (cCur code a17 s17) ⟨l_5, by rw [cool_cCraft], ⟨a17, s17, rfl, by omega, by omega⟩, (by first | omega | assumption | (simp; done) | (simp [*]; done) | (simp at *; omega))⟩   -- leaf 7
        · exact hQ (.isl 2 (coolL (rows cCraftN l_5))) (cCur code a12 s12) ⟨l_5, by rw [cool_cCraft], ⟨a12, s12, rfl, by omega, by omega⟩, (by first | omega | assumption | (simp; done) | (simp [*]; done) | (simp at *; omega))⟩   -- leaf 8

theorem cCrafts_ex (code : List Int) (b0 t0 : Int) : ∃ r cs, (∃ (q : List Craft), r = PV.isl 2 (rows cCraft q) ∧ CurTo code b0 2000 cs ∧ ((q.length : Int) ≤ 11)) :=
  ⟨_, _, [], rfl, ⟨b0, t0, rfl, by omega, by omega⟩, (by first | omega | simp)⟩


/- Contracts of what the laws on crafts draw. -/
theorem OkM.iceR {P : Program} {f : FuncId} {cs args : List PV} {Q : PV → List PV → Prop} (h : OkM P f cs args (fun r cs' => Q (Ai.ice r) cs')) : OkM P f cs args Q :=
  h.iceE.mono fun r cs' ⟨r0, q, e⟩ => by rw [e]; exact q
theorem OkA.iceR {P : Program} {f : FuncId} {args : List PV} {Q : PV → Prop} (h : OkA P f args (fun r => Q (Ai.ice r))) : OkA P f args Q := (OkA.iceE h).mono fun _ ⟨_, q, e⟩ => by rw [e]; exact q
theorem nextF_new {l : List Craft} {set : List Int} {i : Int} (h : i ∈ nextF l set) : has set i = false := by
  have := (List.mem_filter.1 h).2
  simp only [Bool.and_eq_true, Bool.not_eq_true'] at this
  exact this.1
theorem l1PutNew_ok (l : List Int) (n : Int) (hl : l.length ≤ 100000000) (hn : has l n = false) : OkA Try.prog 105 [.isl 1 (rows cInt l), .int .i64 n] (· = .fr 3 1 (rows cInt (putF l n))) :=
  OkA.unnil 3 1 (fn_intro envOk fieldsOk mixed Try.func105 rfl fun κ X Y L Q m hQ => by
    conv => cbv
    refine r_loopF (α := Int) m 48 [0, 1, 5] [] (fun σ => [(0, .isl 1 (rows cInt l)), (1, .int .i64 n), (5, .int .i64 σ)]) (fun σ => [])
      (fun σ => (0 ≤ σ ∧ σ ≤ l.length) ∧ (∀ z ∈ l.take σ.toNat, z < n)) (fun σ => (l.length - σ).toNat) 0 ?_ ?_ ?_ ?_
    · cbv
    · cbv
    · exact ⟨(by (try dsimp only) <;> (omega)), (by (try dsimp only) <;> (intro z hz; simp at hz))⟩
    rintro k ⟨kb, q⟩ E hE F hF
    conv => cbv
    refine r_lenR m.sX fun n1 hn1 mn1 => ?_
    conv => cbv
    refine r_lss m.sX (fun h1 => ?_) (fun h1 => ?_) <;> conv => cbv
    · refine r_index m.sX (by omega) (by omega) fun x1 hx1 => ?_
      conv => cbv
      have mx1 := get_mem hx1
      have vx1 := nth_some hx1
      refine r_lss m.sX (fun h2 => ?_) (fun h2 => ?_) <;> conv => cbv
      · refine r_addf m.sX (by omega) (by omega) fun k_2 hk_2 => ?_
        conv => cbv
        refine hE _ k_2 ?_ ?_ ⟨(by (try dsimp only) <;> (omega)), (by (try dsimp only) <;> (intro z hz; rw [show k_2.toNat = k.toNat + 1 by omega, List.take_add_one, hx1] at hz; simp only [Option.toList_some, List.mem_append, List.mem_singleton] at hz; rcases hz with hz | hz; (exact q z hz); omega))⟩ (by first | omega | (dsimp only; omega))
        · cbv
        · cbv
      · refine hF _ _ ?_
        conv => cbv
        refine r_lenR m.sX fun n2 hn2 mn2 => ?_
        conv => cbv
        refine r_lss m.sX (fun h3 => ?_) (fun h3 => ?_) <;> conv => cbv
        · refine r_index m.sX (by omega) (by omega) fun x2 hx2 => ?_
          conv => cbv
          have mx2 := get_mem hx2
          have vx2 := nth_some hx2
          obtain rfl : x1 = x2 := Option.some.inj (hx1.symm.trans hx2)
          refine r_eql m.sX (fun h4 => ?_) (fun h4 => ?_) <;> conv => cbv
          · exfalso; have e : has l n = true := (by simp [has]; exact h4 ▸ mx1); rw [hn] at e; cases e   -- leaf 1
          · refine r_islice (i := 0) (j := k) m.sX (by omega) (by omega) (by omega) fun zs1 hzs1 => ?_   -- zs1 = l[None:k]
            have lzs1 : (zs1.length : Int) = k - 0 := by rw [hzs1]; first | done | (simp; done) | (simp; omega)
            conv => cbv
            refine r_append0R m.sX (by first | omega | (dsimp only; omega)) (by first | omega | (dsimp only; omega)) fun out hout => ?_
            conv => cbv
            have lout : (out.length : Int) = zs1.length := by rw [hout]; first | done | (simp; done) | (simp; omega)
            refine r_append1 (n) m.sX rfl (by first | omega | (dsimp only; omega)) (by first | omega | (dsimp only; omega)) fun out_2 hout_2 => ?_
            conv => cbv
            have lout_2 : (out_2.length : Int) = out.length + 1 := by rw [hout_2]; first | done | (simp; done) | (simp; omega)
            refine r_islice' (i := k) m.sX (by omega) (by omega) fun zs2 hzs2 => ?_   -- zs2 = l[k:None]
            have lzs2 : (zs2.length : Int) = l.length - k := by rw [hzs2]; first | done | (simp; done) | (simp; omega)
            conv => cbv
            refine r_append m.sX (by first | omega | (dsimp only; omega)) (by first | omega | (dsimp only; omega)) fun zs3 hzs3 => ?_
            conv => cbv
            have lzs3 : (zs3.length : Int) = out_2.length + zs2.length := by rw [hzs3]; first | done | (simp; done) | (simp; omega)
            exact hQ (.fr 3 1 (rows cInt zs3)) (Eq.trans (by first | rfl | (simp only [lb, lbI, rows_cons, rows_nil, unnilT, unnil, unnilTI, unnilI]; done) | (simp only [lb, lbI, rows_cons, rows_nil, unnilT, unnil, unnilTI, unnilI]; rfl)) (congrArg (fun l => PV.fr 3 1 (rows cInt l)) (show zs3 = putF l n from by first | (rw [put_some q hx1 (by omega)]; subst_vars; simp; done) | (rw [put_some q hx3 (by omega)]; subst_vars; simp; done) | (rw [put_none q (by omega)]; subst_vars; simp; done))))   -- leaf 2
        · refine r_islice (i := 0) (j := k) m.sX (by omega) (by omega) (by omega) fun zs4 hzs4 => ?_   -- zs4 = l[None:k]
          have lzs4 : (zs4.length : Int) = k - 0 := by rw [hzs4]; first | done | (simp; done) | (simp; omega)
          conv => cbv
          refine r_append0R m.sX (by first | omega | (dsimp only; omega)) (by first | omega | (dsimp only; omega)) fun out_3 hout_3 => ?_
          conv => cbv
          have lout_3 : (out_3.length : Int) = zs4.length := by rw [hout_3]; first | done | (simp; done) | (simp; omega)
          refine r_append1 (n) m.sX rfl (by first | omega | (dsimp only; omega)) (by first | omega | (dsimp only; omega)) fun out_4 hout_4 => ?_
          conv => cbv
          have lout_4 : (out_4.length : Int) = out_3.length + 1 := by rw [hout_4]; first | done | (simp; done) | (simp; omega)
          refine r_islice' (i := k) m.sX (by omega) (by omega) fun zs5 hzs5 => ?_   -- zs5 = l[k:None]
          have lzs5 : (zs5.length : Int) = l.length - k := by rw [hzs5]; first | done | (simp; done) | (simp; omega)
          conv => cbv
          refine r_append m.sX (by first | omega | (dsimp only; omega)) (by first | omega | (dsimp only; omega)) fun zs6 hzs6 => ?_
          conv => cbv
          have lzs6 : (zs6.length : Int) = out_4.length + zs5.length := by rw [hzs6]; first | done | (simp; done) | (simp; omega)
          exact hQ (.fr 3 1 (rows cInt zs6)) (Eq.trans (by first | rfl | (simp only [lb, lbI, rows_cons, rows_nil, unnilT, unnil, unnilTI, unnilI]; done) | (simp only [lb, lbI, rows_cons, rows_nil, unnilT, unnil, unnilTI, unnilI]; rfl)) (congrArg (fun l => PV.fr 3 1 (rows cInt l)) (show zs6 = putF l n from by first | (rw [put_some q hx1 (by omega)]; subst_vars; simp; done) | (rw [put_some q hx3 (by omega)]; subst_vars; simp; done) | (rw [put_none q (by omega)]; subst_vars; simp; done))))   -- leaf 3
    · refine hF _ _ ?_
      conv => cbv
      refine r_lenR m.sX fun n3 hn3 mn3 => ?_
      conv => cbv
      refine r_lss m.sX (fun h5 => ?_) (fun h5 => ?_) <;> conv => cbv
      · refine r_index m.sX (by omega) (by omega) fun x3 hx3 => ?_
        conv => cbv
        have mx3 := get_mem hx3
        have vx3 := nth_some hx3
        refine r_eql m.sX (fun h6 => ?_) (fun h6 => ?_) <;> conv => cbv
        · exfalso; omega   -- leaf 4
        · refine r_islice (i := 0) (j := k) m.sX (by omega) (by omega) (by omega) fun zs7 hzs7 => ?_   -- zs7 = l[None:k]
          have lzs7 : (zs7.length : Int) = k - 0 := by rw [hzs7]; first | done | (simp; done) | (simp; omega)
          conv => cbv
          refine r_append0R m.sX (by first | omega | (dsimp only; omega)) (by first | omega | (dsimp only; omega)) fun out_5 hout_5 => ?_
          conv => cbv
          have lout_5 : (out_5.length : Int) = zs7.length := by rw [hout_5]; first | done | (simp; done) | (simp; omega)
          refine r_append1 (n) m.sX rfl (by first | omega | (dsimp only; omega)) (by first | omega | (dsimp only; omega)) fun out_6 hout_6 => ?_
          conv => cbv
          have lout_6 : (out_6.length : Int) = out_5.length + 1 := by rw [hout_6]; first | done | (simp; done) | (simp; omega)
          refine r_islice' (i := k) m.sX (by omega) (by omega) fun zs8 hzs8 => ?_   -- zs8 = l[k:None]
          have lzs8 : (zs8.length : Int) = l.length - k := by rw [hzs8]; first | done | (simp; done) | (simp; omega)
          conv => cbv
          refine r_append m.sX (by first | omega | (dsimp only; omega)) (by first | omega | (dsimp only; omega)) fun zs9 hzs9 => ?_
          conv => cbv
          have lzs9 : (zs9.length : Int) = out_6.length + zs8.length := by rw [hzs9]; first | done | (simp; done) | (simp; omega)
          exact hQ (.fr 3 1 (rows cInt zs9)) (Eq.trans (by first | rfl | (simp only [lb, lbI, rows_cons, rows_nil, unnilT, unnil, unnilTI, unnilI]; done) | (simp only [lb, lbI, rows_cons, rows_nil, unnilT, unnil, unnilTI, unnilI]; rfl)) (congrArg (fun l => PV.fr 3 1 (rows cInt l)) (show zs9 = putF l n from by first | (rw [put_some q hx1 (by omega)]; subst_vars; simp; done) | (rw [put_some q hx3 (by omega)]; subst_vars; simp; done) | (rw [put_none q (by omega)]; subst_vars; simp; done))))   -- leaf 5
      · refine r_islice (i := 0) (j := k) m.sX (by omega) (by omega) (by omega) fun zs10 hzs10 => ?_   -- zs10 = l[None:k]
        have lzs10 : (zs10.length : Int) = k - 0 := by rw [hzs10]; first | done | (simp; done) | (simp; omega)
        conv => cbv
        refine r_append0R m.sX (by first | omega | (dsimp only; omega)) (by first | omega | (dsimp only; omega)) fun out_7 hout_7 => ?_
        conv => cbv
        have lout_7 : (out_7.length : Int) = zs10.length := by rw [hout_7]; first | done | (simp; done) | (simp; omega)
        refine r_append1 (n) m.sX rfl (by first | omega | (dsimp only; omega)) (by first | omega | (dsimp only; omega)) fun out_8 hout_8 => ?_
        conv => cbv
        have lout_8 : (out_8.length : Int) = out_7.length + 1 := by rw [hout_8]; first | done | (simp; done) | (simp; omega)
        refine r_islice' (i := k) m.sX (by omega) (by omega) fun zs11 hzs11 => ?_   -- zs11 = l[k:None]
        have lzs11 : (zs11.length : Int) = l.length - k := by rw [hzs11]; first | done | (simp; done) | (simp; omega)
        conv => cbv
        refine r_append m.sX (by first | omega | (dsimp only; omega)) (by first | omega | (dsimp only; omega)) fun zs12 hzs12 => ?_
        conv => cbv
        have lzs12 : (zs12.length : Int) = out_8.length + zs11.length := by rw [hzs12]; first | done | (simp; done) | (simp; omega)
        exact hQ (.fr 3 1 (rows cInt zs12)) (Eq.trans (by first | rfl | (simp only [lb, lbI, rows_cons, rows_nil, unnilT, unnil, unnilTI, unnilI]; done) | (simp only [lb, lbI, rows_cons, rows_nil, unnilT, unnil, unnilTI, unnilI]; rfl)) (congrArg (fun l => PV.fr 3 1 (rows cInt l)) (show zs12 = putF l n from by first | (rw [put_some q hx1 (by omega)]; subst_vars; simp; done) | (rw [put_some q hx3 (by omega)]; subst_vars; simp; done) | (rw [put_none q (by omega)]; subst_vars; simp; done)))))   -- leaf 6

theorem cLearnt_ok (code : List Int) (b0 t0 : Int) (l : List Craft) (h : CurIn code) (h0 : 0 ≤ b0) (hk : b0 ≤ 899999999999940000) (hll : l.length ≤ 11) : OkM Try.prog 131 (cCur code b0 t0) [.isl 2 (rows cCraft l)] (fun r cs => ∃ (q : List Int), r = .isl 1 (rows cInt q) ∧ CurTo code b0 60 cs ∧ ((q.length : Int) ≤ 20)) :=
  OkM.iceR (fnM_intro envOk fieldsOk mixed Try.func131 rfl fun κ X Y L Q m hQ => by
    conv => cbv
    refine r_lenR m.sX fun n1 hn1 mn1 => ?_
    conv => cbv
    refine r_addf m.sX (by omega) (by omega) fun r1 hr1 => ?_
    conv => cbv
    refine r_mcall m.sX (cPick_ok code b0 t0 r1 h (by omega) (by omega)) ?_
    rintro _ _ ⟨n, rfl, ⟨a1, s1, rfl, ea1, fa1⟩, bn, cn, dn⟩
    conv => cbv
    refine r_loopF (α := Int × Int × List Int × Int) m 50 [1, 6] [⟨0, 1, 0, 0, 0⟩, ⟨5, 41, 3, 1, 0⟩] (fun σ => [(0, .optr 1 0 0 0 0), (1, .isl 2 (rows cCraft l)), (5, .osl 41 0), (6, .int .i64 σ.2.2.2)]) (fun σ => [(1, 0, .box (cCur code σ.1 σ.2.1)), (41, 0, .row 3 1 (rows cInt σ.2.2.1))])
      (fun σ => (0 ≤ σ.2.2.2 ∧ σ.2.2.2 ≤ 11) ∧ (b0 ≤ σ.1 ∧ σ.1 ≤ b0 + 2 + 2 * (11 - σ.2.2.2)) ∧ ((σ.2.2.1.length : Int) ≤ 11 - σ.2.2.2)) (fun σ => (σ.2.2.2).toNat) (a1, s1, [], n) ?_ ?_ ?_ ?_
    · cbv
    · (try dsimp only); simp only [rows_cons, rows_nil]; cbv
    · exact ⟨(by (try dsimp only) <;> first | omega | rfl | (simp [*]; done)), (by (try dsimp only) <;> first | omega | rfl | (simp [*]; done)), (by (try dsimp only) <;> (simp only [List.length_nil]; omega))⟩
    rintro ⟨a2, s2, set, n_2⟩ ⟨nb, cu, ls⟩ E hE F hF
    dsimp only at nb cu ls
    conv => cbv
    refine r_gtr m.sX (fun h1 => ?_) (fun h1 => ?_) <;> conv => cbv
    · refine r_callB m.sX (apGood_ok l) (fun h2 => ?_) (fun h2 => ?_) <;> conv => cbv
      · refine .inl (r_callFO (fun l => PV.fr _ _ (rows _ l)) m.sX ((apNext_ok l set (by first | rfl | assumption | omega | (simp only [List.length_append, List.length_cons, List.length_nil] at *; omega))).ok (flat_fr flat_cInt)) fun next hnext => ?_)
        conv => cbv
        refine r_lenR m.sX fun n2 hn2 mn2 => ?_
        conv => cbv
        refine r_gtr m.sX (fun h3 => ?_) (fun h3 => ?_) <;> conv => cbv
        · refine r_lenR m.sX fun n3 hn3 mn3 => ?_
          conv => cbv
          refine r_mcall m.sX (cPick_ok code a2 s2 n3 h (by omega) (by omega)) ?_
          rintro _ _ ⟨q1, rfl, ⟨a3, s3, rfl, ea3, fa3⟩, bq1, cq1, dq1⟩
          conv => cbv
          refine r_oindex m.sX (by omega) (by omega) ?_
          conv => cbv
          obtain ⟨x1, hx1⟩ := get_ex (xs := next) (i := Int.toNat q1) (by omega)
          have mx1 := get_mem hx1
          have vx1 := nth_some hx1
          have hnew := nextF_new (by rw [← hnext]; exact mx1)
          refine r_oload m.sX hx1 (Nat.le_of_ble_eq_true rfl) ?_
          conv => cbv
          refine .inl (r_callFO (fun l => PV.fr _ _ (rows _ l)) m.sX ((l1PutNew_ok set x1 (by omega) hnew).ok (flat_fr flat_cInt)) fun set_2 hset_2 => ?_)
          conv => cbv
          have pl := put_len set x1
          rw [← hset_2] at pl
          refine r_subf m.sX (by omega) (by omega) fun n_3 hn_3 => ?_
          conv => cbv
          refine hE _ (a3, s3, set_2, n_3) ?_ ?_ ⟨(by (try dsimp only) <;> first | omega | rfl | (simp [*]; done) | (rw [nb]; simp [*]; done)), (by (try dsimp only) <;> first | omega | rfl | (simp [*]; done) | (rw [cu]; simp [*]; done)), (by (try dsimp only) <;> first | omega | rfl | (simp [*]; done) | (rw [ls]; simp [*]; done))⟩ (by first | omega | (dsimp only; omega))
          · cbv
          · cbv
        · refine r_subf m.sX (by omega) (by omega) fun n_4 hn_4 => ?_
          conv => cbv
          refine hE _ (a2, s2, set, n_4) ?_ ?_ ⟨(by (try dsimp only) <;> first | omega | rfl | (simp [*]; done) | (rw [nb]; simp [*]; done)), (by (try dsimp only) <;> first | omega | rfl | (simp [*]; done) | (rw [cu]; simp [*]; done)), (by (try dsimp only) <;> first | omega | rfl | (simp [*]; done) | (rw [ls]; simp [*]; done))⟩ (by first | omega | (dsimp only; omega))
          · cbv
          · cbv
      · refine hF _ _ ?_
        conv => cbv
        refine r_mcall m.sX (cOne_ok code a2 s2 16 h (by omega) (by omega)) ?_
        rintro _ _ ⟨q2, rfl, ⟨a4, s4, rfl, ea4, fa4⟩⟩
        conv => cbv
        rcases Bool.eq_false_or_eq_true q2 with rfl | rfl <;> conv => cbv
        · refine r_lenR m.sX fun n4 hn4 mn4 => ?_
          conv => cbv
          refine r_subf m.sX (by omega) (by omega) fun r2 hr2 => ?_
          conv => cbv
          refine r_lenR m.sX fun n5 hn5 mn5 => ?_
          conv => cbv
          refine r_mcall m.sX (cAmong_ok code a4 s4 ([r2, n5, 0, -1]) (by simp) h (by omega) (by omega)) ?_
          rintro _ _ ⟨q3, rfl, ⟨a5, s5, rfl, ea5, fa5⟩, bq3⟩
          simp only [List.mem_cons, List.not_mem_nil, or_false] at bq3
          conv => cbv
          refine r_append1 (q3) m.sX rfl (by first | omega | (dsimp only; omega)) (by first | omega | (dsimp only; omega)) fun set_3 hset_3 => ?_
          conv => cbv
          have lset_3 : (set_3.length : Int) = set.length + 1 := by rw [hset_3]; first | done | (simp; done) | (simp; omega)
          exact hQ (.fr 3 1 (rows cInt set_3)) (cCur code a5 s5) ⟨set_3, rfl, ⟨a5, s5, rfl, by omega, by omega⟩, (by first | omega | assumption | (simp; done) | (simp [*]; done) | (simp at *; omega))⟩   -- leaf 1
        · exact hQ (.fr 3 1 (rows cInt set)) (cCur code a4 s4) ⟨set, rfl, ⟨a4, s4, rfl, by omega, by omega⟩, (by first | omega | assumption | (simp; done) | (simp [*]; done) | (simp at *; omega))⟩   -- leaf 2
    · refine hF _ _ ?_
      conv => cbv
      refine r_mcall m.sX (cOne_ok code a2 s2 16 h (by omega) (by omega)) ?_
      rintro _ _ ⟨q4, rfl, ⟨a6, s6, rfl, ea6, fa6⟩⟩
      conv => cbv
      rcases Bool.eq_false_or_eq_true q4 with rfl | rfl <;> conv => cbv
      · refine r_lenR m.sX fun n6 hn6 mn6 => ?_
        conv => cbv
        refine r_subf m.sX (by omega) (by omega) fun r3 hr3 => ?_
        conv => cbv
        refine r_lenR m.sX fun n7 hn7 mn7 => ?_
        conv => cbv
        refine r_mcall m.sX (cAmong_ok code a6 s6 ([r3, n7, 0, -1]) (by simp) h (by omega) (by omega)) ?_
        rintro _ _ ⟨q5, rfl, ⟨a7, s7, rfl, ea7, fa7⟩, bq5⟩
        simp only [List.mem_cons, List.not_mem_nil, or_false] at bq5
        conv => cbv
        refine r_append1 (q5) m.sX rfl (by first | omega | (dsimp only; omega)) (by first | omega | (dsimp only; omega)) fun set_4 hset_4 => ?_
        conv => cbv
        have lset_4 : (set_4.length : Int) = set.length + 1 := by rw [hset_4]; first | done | (simp; done) | (simp; omega)
        exact hQ (.fr 3 1 (rows cInt set_4)) (cCur code a7 s7) ⟨set_4, rfl, ⟨a7, s7, rfl, by omega, by omega⟩, (by first | omega | assumption | (simp; done) | (simp [*]; done) | (simp at *; omega))⟩   -- leaf 3
      · exact hQ (.fr 3 1 (rows cInt set)) (cCur code a6 s6) ⟨set, rfl, ⟨a6, s6, rfl, by omega, by omega⟩, (by first | omega | assumption | (simp; done) | (simp [*]; done) | (simp at *; omega))⟩)   -- leaf 4

theorem cLearnt_ex (code : List Int) (b0 t0 : Int) : ∃ r cs, (∃ (q : List Int), r = PV.fr 3 1 (rows cInt q) ∧ CurTo code b0 60 cs ∧ ((q.length : Int) ≤ 20)) :=
  ⟨_, _, [], rfl, ⟨b0, t0, rfl, by omega, by omega⟩, (by first | omega | simp)⟩

theorem cCraftOf_ok (code : List Int) (b0 t0 : Int) (n : Int) (h : CurIn code) (h0 : 0 ≤ b0) (hk : b0 ≤ 899999999999980000) (hn : 0 ≤ n ∧ n ≤ 100) : OkM Try.prog 119 (cCur code b0 t0) [.int .i64 n] (fun r cs => ∃ (q : Int), r = .int .i64 q ∧ CurTo code b0 20 cs) :=
  fnM_intro envOk fieldsOk mixed Try.func119 rfl fun κ X Y L Q m hQ => by
    conv => cbv
    refine r_subf m.sX (by omega) (by omega) fun r1 hr1 => ?_
    conv => cbv
    refine r_addf m.sX (by omega) (by omega) fun r2 hr2 => ?_
    conv => cbv
    refine r_mcall m.sX (cPick_ok code b0 t0 r2 h (by omega) (by omega)) ?_
    rintro _ _ ⟨q1, rfl, ⟨a1, s1, rfl, ea1, fa1⟩, bq1, cq1, dq1⟩
    conv => cbv
    refine r_addf m.sX (by omega) (by omega) fun r3 hr3 => ?_
    conv => cbv
    refine r_mcall m.sX (cPick_ok code a1 s1 r3 h (by omega) (by omega)) ?_
    rintro _ _ ⟨q2, rfl, ⟨a2, s2, rfl, ea2, fa2⟩, bq2, cq2, dq2⟩
    conv => cbv
    refine r_mcall m.sX (cAmong_ok code a2 s2 ([n, -1, -9223372036854775808]) (by simp) h (by omega) (by omega)) ?_
    rintro _ _ ⟨q3, rfl, ⟨a3, s3, rfl, ea3, fa3⟩, bq3⟩
    simp only [List.mem_cons, List.not_mem_nil, or_false] at bq3
    conv => cbv
    refine r_mcall m.sX (cAmong_ok code a3 s3 ([r1, q1, q2, 0, q3]) (by simp) h (by omega) (by omega)) ?_
    rintro _ _ ⟨q4, rfl, ⟨a4, s4, rfl, ea4, fa4⟩, bq4⟩
    simp only [List.mem_cons, List.not_mem_nil, or_false] at bq4
    conv => cbv
    exact hQ (.int .i64 q4) (cCur code a4 s4) ⟨q4, rfl, ⟨a4, s4, rfl, by omega, by omega⟩⟩   -- leaf 1

theorem cCraftOf_ex (code : List Int) (b0 t0 : Int) : ∃ r cs, (∃ (q : Int), r = PV.int .i64 q ∧ CurTo code b0 20 cs) :=
  ⟨_, _, 0, rfl, ⟨b0, t0, rfl, by omega, by omega⟩⟩

end Go.Proofs.Ytkdaikliahnenab.Ai
