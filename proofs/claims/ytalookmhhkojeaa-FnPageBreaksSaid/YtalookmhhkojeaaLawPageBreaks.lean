/- Long bodies, part by part. -/
import Derived.Test.YtalookmhhkojeaaAiRules
import Derived.Test.YtalookmhhkojeaaEvenB
import Derived.Test.YtalookmhhkojeaaLeaveV
import Derived.Test.YtalookmhhkojeaaLeaveS
import Derived.Test.YtalookmhhkojeaaPageDraw
import Derived.Test.YtalookmhhkojeaaLit
namespace Go.Proofs.Ytalookmhhkojeaa.Ai
open Go Go.RowKit Go.Proofs
set_option linter.unusedSectionVars false
set_option linter.unusedVariables false
set_option linter.unusedSimpArgs false
set_option maxRecDepth 10000
set_option maxHeartbeats 4000000

/-- The first k statements of a body, and those behind. -/
def front : Nat → Code → Code
  | k + 1, .seq a b => .seq a (front k b)
  | _, _ => .skip
def rest : Nat → Code → Code
  | k + 1, .seq a b => rest k b
  | _, c => c

section
variable {P : Program} {G : Env} {κ : Ctx} {X Y : Req → (PV → Prop) → Prop} {L : Code → (Ex → St → Prop) → St → Prop}

/-- What stands at a cut, as at a loop's head. -/
def Cut {α : Type} (nt : Nat) (keep : List Nat) (own : List Hold) (tb : α → List (Nat × PV)) (hp : α → Heap) (I : α → Prop) (s' : St) : Prop :=
  headOk s' own = true ∧ ∃ a, Ai.norm keep own s' = St.at nt (tb a) (hp a) ∧ I a

theorem W_front (m : Mach P G κ X Y L) {E : St → Prop} {Q : Ex → St → Prop} : ∀ (k : Nat) (c : Code) (s : St),
    (∀ (η : Own) (s : St) (a : Act) (w : World), Sim κ η s a w → E s → (rest k c).wp P (Post κ Q) a w) →
    code X L G (front k c) (fun e s' => match e with | .normal => E s' | .exit i => Q (.exit i) s' | .ret => Q .ret s') s → W P κ c Q s := by
  have := m.z
  have hX := m.X
  have hL := m.L
  subst hX hL
  intro k
  induction k with
  | zero =>
    intro c s hE hc η a w hs
    cases c <;> exact hE η s a w hs hc
  | succ k ih =>
    intro c s hE hc η a w hs
    cases c
    case seq x y =>
      have hx : code (std false P) (W P κ) G x (fun e s' => match e with
        | .normal => code (std false P) (W P κ) G (front k y) (fun e s' => match e with | .normal => E s' | .exit i => Q (.exit i) s' | .ret => Q .ret s') s'
        | .exit j => Q (.exit j) s'
        | .ret => Q .ret s') s := hc
      refine wp_seq (Go.wp_mono (code_sound m.hG m.hF x _ _ hx η a w hs) fun e a' w' hq => ?_)
      cases e with
      | normal =>
        obtain ⟨η', s', hs', hq⟩ := hq
        exact ih y s' hE hq η' a' w' hs'
      | exit i => exact hq
      | ret => exact hq
      | goto l => exact hq.elim
      | panic ch => exact hq.elim
      | outgrown => exact hq.elim
    all_goals exact hE η s a w hs hc

/-- **A cut**: the first k statements, then those behind, from what is kept. -/
theorem W_cut {α : Type} (m : Mach P G κ X Y L) {Q : Ex → St → Prop} {c : Code} {s : St} (k nt : Nat) (keep : List Nat) (own : List Hold) (tb : α → List (Nat × PV)) (hp : α → Heap) (I : α → Prop)
    (first : ∀ E : St → Prop, (∀ s' a, headOk s' own = true → Ai.norm keep own s' = St.at nt (tb a) (hp a) → I a → E s') →
      code X L G (front k c) (fun e s' => match e with | .normal => E s' | .exit i => Q (.exit i) s' | .ret => Q .ret s') s)
    (second : ∀ a, I a → W P κ (rest k c) Q (St.at nt (tb a) (hp a))) : W P κ c Q s := by
  have := m.z
  refine W_front m (E := Cut nt keep own tb hp I) k c s ?_ (first _ fun s' a h1 h2 h3 => ⟨h1, a, h2, h3⟩)
  rintro η s a w hs ⟨hk, a0, e1, h3⟩
  simp only [headOk, Bool.and_eq_true] at hk
  have hs' := hs.norm keep hk.1 (recvOk_spec hk.2)
  rw [e1] at hs'
  exact second a0 h3 _ a w hs'

/-- The last part. -/
theorem W_last (m : Mach P G κ X Y L) {Q : Ex → St → Prop} {c : Code} {s : St} (h : code X L G c Q s) : W P κ c Q s := by
  have := m.z
  rw [m.X, m.L] at h
  exact code_sound m.hG m.hF c Q s h

theorem fn_introW (hG : EnvOk P G) (hF : FieldsOk P G) (hm : P.follows .mixedOrders = true) {f : FuncId} {fn : Func} (hf : P.funcs[f]? = some fn) (hn : (fn.name == "runtime.NumGoroutine") = false) {args : List PV} {R : PV → Prop} {c : Code} (hc : fn.body = some c)
    (h : ∀ κ X Y L Q, Mach P G κ X Y L → (∀ r, R r → Q r) → W P κ c (EndsIn (post G fn.results.toList Q)) (start fn.ntmps args [])) : OkA P f args R :=
  OkA_introW hG hF hf hn hc fun κ hz => h κ _ _ _ R ⟨hG, hF, hm, hz, rfl, rfl, rfl⟩ fun _ x => x
end

/- The law FnPageBreaks: its body returns true. -/
theorem pg_one {l : List (List Int)} {d n : Int} {b e : List Int} {ok one : Bool} (hb : (b, ok) = pagesAns l d) (he : (e, n, one) = evenAns l d) : one = ok := by
  unfold pagesAns at hb
  unfold evenAns at he
  split at hb
  · rename_i h
    rw [if_pos h] at he
    rw [(Prod.mk.inj hb).2, (Prod.mk.inj (Prod.mk.inj he).2).2]
  · rename_i h
    rw [if_neg h] at he
    rw [(Prod.mk.inj hb).2, (Prod.mk.inj (Prod.mk.inj he).2).2]
theorem pg_three {l : List (List Int)} {d : Int} {b h : List Int} {three : Bool} (hb : (b, true) = pagesAns l d) (hh : (h, three) = heightsAns l) : three = true := by
  unfold pagesAns at hb
  split at hb
  · rename_i hr
    have hp := (rowsB_spec hr).1
    unfold heightsAns at hh
    rw [if_pos hp] at hh
    exact (Prod.mk.inj hh).2
  · cases (Prod.mk.inj hb).2
/-- What a page break's law asks. -/
structure PgFacts (l : List (List Int)) (d : Int) (b e : List Int) (n : Int) (hs : List Int) (Q : Int) : Prop where
  len : hs.length = l.length ∧ l.length ≤ 24
  hd : 1 ≤ d ∧ d ≤ 1000
  hx : ∀ x ∈ hs, 0 ≤ x ∧ x ≤ d
  el : e.length = b.length ∧ e.length ≤ 24
  nb : 0 ≤ n ∧ n ≤ Q ∧ Q ≤ 25000000
  part : hs ≠ [] → Part d hs 0 e n ∧ Part d hs 0 b Q
  none : hs = [] → n = 0 ∧ Q = 0
theorem pg_facts {l : List (List Int)} {d n : Int} {b e hs : List Int} (hb : (b, true) = pagesAns l d) (he : (e, n, true) = evenAns l d) (hh : (hs, true) = heightsAns l) : ∃ Q, PgFacts l d b e n hs Q := by
  unfold pagesAns at hb
  split at hb
  · rename_i h
    unfold evenAns at he
    rw [if_pos h] at he
    obtain ⟨hp, hd, hx, hl, h24⟩ := rowsB_spec h
    unfold heightsAns at hh
    rw [if_pos hp] at hh
    obtain ⟨rfl, -⟩ := Prod.mk.inj hh
    obtain ⟨rfl, -⟩ := Prod.mk.inj hb
    obtain ⟨rfl, he2⟩ := Prod.mk.inj he
    obtain ⟨rfl, -⟩ := Prod.mk.inj he2
    by_cases hn : heightsF l = []
    · rw [hn]
      exact ⟨0, by rw [← hn]; exact ⟨hl, h24⟩, hd, fun x hx => (by cases hx), ⟨rfl, Nat.zero_le _⟩, ⟨Int.le_refl _, Int.le_refl _, by omega⟩, fun h => absurd rfl h, fun _ => ⟨rfl, rfl⟩⟩
    · have p1 := even_part hx (by omega) hn
      obtain ⟨t, p2⟩ := breaksF_part hx hn
      have c := breaks_cost hx (by omega) hn p2
      have b1 := p2.le hx hd.2
      have b2 := p2.length
      have b3 := p1.length
      exact ⟨t, ⟨hl, h24⟩, hd, hx, ⟨even_breaks_length, by omega⟩, ⟨p1.nonneg, c, by omega⟩, fun _ => ⟨p1, p2⟩, fun h => absurd h hn⟩
  · cases (Prod.mk.inj hb).2
/-- The squares of one of the two lists, while they are summed. -/
structure SqI (d : Int) (hs : List Int) (n Q i : Int) (list sq : List Int) (fr p : Int) : Prop where
  ex : ∃ v, sq = (if i = 0 then [v, 0] else [n, v]) ∧ 0 ≤ v ∧ v ≤ 25000000 ∧ (hs = [] → v = 0) ∧ (hs ≠ [] → (p ≤ list.length → ∃ q, Part d hs fr.toNat (list.drop p.toNat) q ∧ v + q = (if i = 0 then n else Q)) ∧ (p = list.length + 1 → v = if i = 0 then n else Q))
  pb : 0 ≤ p ∧ p ≤ (list.length : Int) + 1
  fb : 0 ≤ fr ∧ fr ≤ hs.length
theorem sq_start {l : List (List Int)} {d n Q i : Int} {b e hs list sq : List Int} (F : PgFacts l d b e n hs Q) (hi : i = 0 ∨ i = 1) (hl : [e, b][i.toNat]? = some list) (hsq : sq = [if 1 ≤ i then n else 0, if 2 ≤ i then Q else 0]) : SqI d hs n Q i list sq 0 0 := by
  refine ⟨⟨0, ?_, Int.le_refl _, by omega, fun _ => rfl, fun hn => ⟨fun _ => ?_, fun h => by omega⟩⟩, ⟨Int.le_refl _, by omega⟩, ⟨Int.le_refl _, by omega⟩⟩
  · rcases hi with rfl | rfl <;> simpa using hsq
  · have p := F.part hn
    rcases hi with rfl | rfl
    · obtain rfl : e = list := by simpa using hl
      exact ⟨n, p.1, by simp⟩
    · obtain rfl : b = list := by simpa using hl
      exact ⟨Q, p.2, by simp⟩
theorem sq_at {n i v : Int} (hi : i = 0 ∨ i = 1) : (if i = 0 then [v, 0] else [n, v])[i.toNat]? = some v ∧ ∀ x, (if i = 0 then [v, 0] else [n, v]).set i.toNat x = if i = 0 then [x, 0] else [n, x] := by
  rcases hi with rfl | rfl <;> simp
theorem SqI.more {l : List (List Int)} {d n Q i fr p t : Int} {b e hs list sq : List Int} (F : PgFacts l d b e n hs Q) (hi : i = 0 ∨ i = 1) (h : SqI d hs n Q i list sq fr p) (hn : hs ≠ []) (hp : p < list.length) (ht : list[p.toNat]? = some t) :
    fr < t ∧ t < hs.length ∧ segF hs fr.toNat t.toNat ≤ d ∧ 0 ≤ segF hs fr.toNat t.toNat ∧ ∃ v, sq[i.toNat]? = some v ∧ 0 ≤ v ∧ v ≤ 25000000 ∧ SqI d hs n Q i list (sq.set i.toNat (v + sqF d (segF hs fr.toNat t.toNat))) t (p + 1) := by
  obtain ⟨⟨v, rfl, v0, v1, -, hv⟩, pb, fb⟩ := h
  obtain ⟨q, hq, e1⟩ := (hv hn).1 (by omega)
  rw [drop_cons ht] at hq
  have sn := F.nb
  generalize hr : list.drop (p.toNat + 1) = r at hq
  cases hq with
  | @more s e' bs t' a1 a2 a3 a4 =>
    have nn := a4.nonneg
    have s0 := sq_nonneg d (segF hs fr.toNat e')
    rw [Int.toNat_natCast]
    refine ⟨by omega, by omega, a3, seg_bound F.hx _ _, v, (sq_at hi).1, v0, v1, ⟨_, (sq_at hi).2 _, by omega, ?_, fun h => absurd h hn, fun _ => ⟨fun _ => ⟨t', ?_, by rw [← e1]; omega⟩, fun h => ?_⟩⟩, ⟨by omega, by omega⟩, ⟨by omega, by omega⟩⟩
    · rcases hi with rfl | rfl <;> simp at e1 <;> omega
    · rw [Int.toNat_natCast, show (p + 1).toNat = p.toNat + 1 by omega, hr]; exact a4
    · omega
theorem SqI.last {l : List (List Int)} {d n Q i fr p : Int} {b e hs list sq : List Int} (F : PgFacts l d b e n hs Q) (hi : i = 0 ∨ i = 1) (h : SqI d hs n Q i list sq fr p) (hn : hs ≠ []) (hp : p = list.length) :
    fr < hs.length ∧ segF hs fr.toNat hs.length ≤ d ∧ 0 ≤ segF hs fr.toNat hs.length ∧ ∃ v, sq[i.toNat]? = some v ∧ 0 ≤ v ∧ v ≤ 25000000 ∧ SqI d hs n Q i list (sq.set i.toNat (v + sqF d (segF hs fr.toNat hs.length))) hs.length (p + 1) := by
  obtain ⟨⟨v, rfl, v0, v1, -, hv⟩, pb, fb⟩ := h
  obtain ⟨q, hq, e1⟩ := (hv hn).1 (by omega)
  rw [List.drop_eq_nil_of_le (by omega)] at hq
  have sn := F.nb
  generalize hr : ([] : List Int) = r at hq
  cases hq with
  | @one s a1 a2 =>
    have s0 := sq_nonneg d (segF hs fr.toNat hs.length)
    refine ⟨by omega, a2, seg_bound F.hx _ _, v, (sq_at hi).1, v0, v1, ⟨_, (sq_at hi).2 _, by omega, ?_, fun h => absurd h hn, fun _ => ⟨fun h => by omega, fun _ => e1⟩⟩, ⟨by omega, by omega⟩, ⟨by omega, by omega⟩⟩
    rcases hi with rfl | rfl <;> simp at e1 <;> omega
  | more a1 a2 a3 a4 => cases hr
theorem SqI.done {l : List (List Int)} {d n Q i fr p : Int} {b e hs list sq : List Int} (F : PgFacts l d b e n hs Q) (hi : i = 0 ∨ i = 1) (h : SqI d hs n Q i list sq fr p) (hp : ¬ p ≤ list.length ∨ hs.length = 0) : sq = [if 1 ≤ i + 1 then n else 0, if 2 ≤ i + 1 then Q else 0] := by
  obtain ⟨⟨v, rfl, v0, v1, vz, hv⟩, pb, fb⟩ := h
  have ev : v = if i = 0 then n else Q := by
    by_cases hn : hs = []
    · have := F.none hn
      rw [vz hn, this.1, this.2]; simp
    · refine (hv hn).2 ?_
      rcases hp with h | h
      · omega
      · exact absurd (List.length_eq_zero_iff.1 h) hn
  rcases hi with rfl | rfl
  · simpa using ev
  · simpa using ev
theorem SqI.len {d n Q i fr p : Int} {hs list sq : List Int} (h : SqI d hs n Q i list sq fr p) : sq.length = 2 := by
  obtain ⟨⟨v, rfl, -⟩, -⟩ := h
  split <;> rfl
theorem seg_sum {hs zs : List Int} {i j : Int} (h : zs = (hs.take j.toNat).drop i.toNat) : zs.sum = segF hs i.toNat j.toNat := by
  rw [h, List.drop_take]; rfl
theorem seg_fits {hs zs : List Int} {d : Int} {a b : Nat} (hx : ∀ x ∈ hs, 0 ≤ x ∧ x ≤ d) (hd : d ≤ 1000) (h24 : hs.length ≤ 24) (h : zs = (hs.take a).drop b) : SumFits zs := by
  subst h
  exact sumfits_of 1000 (fun x h => by have := hx x (List.mem_of_mem_take (List.mem_of_mem_drop h)); omega) (by rw [List.length_drop, List.length_take]; omega)
theorem lv_ok {u : List (List Int)} {k t : Int} {m : List Int} (h : (m, t, true) = leaveAns u k) : leaveOk u k = true ∧ m = (leaveF u k).1 ∧ t = (leaveF u k).2 := by
  unfold leaveAns at h
  split at h
  · rename_i hc
    obtain ⟨h1, h2⟩ := Prod.mk.inj h
    exact ⟨hc, h1, (Prod.mk.inj h2).1⟩
  · cases (Prod.mk.inj (Prod.mk.inj h).2).2
theorem lv_par {u : List (List Int)} {k : Int} (h : leaveOk u k = true) : parB u = true := by
  simp only [leaveOk, Bool.and_eq_true] at h
  exact h.1.1
theorem lv_facts {u : List (List Int)} {k t all : Int} {m : List Int} {five : Bool} (h : (m, t, true) = leaveAns u k) (ha : (all, five) = totalAns u) : five = true ∧ t ≤ all ∧ (m.length : Int) = k ∧ (k = 0 → t = all) ∧ 0 ≤ all ∧ all ≤ 4800 := by
  obtain ⟨h1, rfl, rfl⟩ := lv_ok h
  obtain ⟨f1, f2, f3, f4, f5⟩ := leave_facts h1
  have hp := lv_par h1
  have ti := total_in hp
  unfold totalAns at ha
  rw [if_pos hp] at ha
  obtain ⟨rfl, rfl⟩ := Prod.mk.inj ha
  exact ⟨rfl, f4, f2, fun e => by subst e; exact leave_zero u, ti⟩
theorem lv_one {u : List (List Int)} {k t all v saved : Int} {m : List Int} {five six : Bool} (hk : k = 1) (h : (m, t, true) = leaveAns u k) (ha : (all, five) = totalAns u) (hs : (v, saved, six) = bestPAns u) : six = true ∧ t = all - saved ∧ -100000 ≤ saved ∧ saved ≤ 100000 := by
  subst hk
  have hf := lv_facts h ha
  obtain ⟨h1, rfl, rfl⟩ := lv_ok h
  obtain ⟨f1, f2⟩ := leave_one h1
  have hp := lv_par h1
  unfold totalAns at ha
  rw [if_pos hp] at ha
  obtain ⟨rfl, rfl⟩ := Prod.mk.inj ha
  rw [f1] at hs
  obtain ⟨rfl, hs2⟩ := Prod.mk.inj hs
  obtain ⟨rfl, rfl⟩ := Prod.mk.inj hs2
  have := (leave_facts h1).2.2.2.2
  exact ⟨rfl, f2, by omega, by omega⟩
noncomputable abbrev midPageBreaks (more : List Int) : List (Nat × PV) := [(1, .isl 1 (rows cU8 more))]

section
variable {κ : Ctx} {X Y : Req → (PV → Prop) → Prop} {L : Code → (Ex → St → Prop) → St → Prop} {Q : PV → Prop}

theorem pageBreaks_part1 (m : Mach Try.prog G κ X Y L) (hQ : ∀ r, r = PV.bool true → Q r) (code more : List Int) (hf : ∀ x ∈ code, 0 ≤ x ∧ x ≤ 255) (E0 : St → Prop)
    (hE0 : ∀ (s' : St) (a : Unit), headOk s' [] = true → Ai.norm [1] [] s' = St.at 289 (midPageBreaks more) [] → (more.length : Int) ≤ 9223372036854775807 → E0 s') :
    Ai.code X L G (front 9 (Try.f3.body.getD .skip)) (fun e s' => match e with | .normal => E0 s' | .exit i => EndsIn (post G Try.f3.results.toList Q) (.exit i) s' | .ret => EndsIn (post G Try.f3.results.toList Q) .ret s') (start 289 [.isl 1 (rows cU8 code), .isl 1 (rows cU8 more)] []) := by
  conv => cbv
  refine r_callB m.sX (big_ok code more) (fun h1 => ?_) (fun h1 => ?_) <;> conv => cbv
  · exact hQ _ (congrArg PV.bool (by first | rfl | omega | (simp [*]; done) | (subst_vars; simp [*]; done)))   -- leaf 1
  · rw [Bool.or_eq_false_iff, decide_eq_false_iff_not, decide_eq_false_iff_not] at h1
    have h : CurIn code := ⟨by omega, hf⟩
    have hmr : (more.length : Int) ≤ 9223372036854775807 := by omega
    refine r_callE m.sX ((drawPageBreaks_ok code h).iceE) ?_
    rintro _ ⟨_, ⟨l, depth, rfl, bl_1⟩, rfl⟩
    conv => cbv
    refine r_callF (lbI 1 cInt) m.sX ((PageBreaks_ok l depth).ice) fun v hb => ?_
    obtain ⟨b, ok⟩ := v
    conv => cbv
    refine r_callF (lbI 1 cInt) m.sX ((specPageBreaks_ok l depth).ice) fun y1 hy1 => ?_
    obtain rfl := hb.trans hy1.symm
    clear hy1
    conv => cbv
    refine r_callF (licI 1 cInt) m.sX ((EvenBreaks_ok l depth).ice) fun v he => ?_
    obtain ⟨e, n, one⟩ := v
    conv => cbv
    refine r_callF (licI 1 cInt) m.sX ((specEvenBreaks_ok l depth).ice) fun y2 hy2 => ?_
    obtain rfl := he.trans hy2.symm
    clear hy2
    conv => cbv
    rcases Bool.eq_false_or_eq_true ok with rfl | rfl <;> conv => cbv
    · refine r_callBT m.sX (sameInts_ok b b) (by first | assumption | exact decide_eq_true rfl | (simp [*]; done) | omega) ?_   -- h2
      conv => cbv
      obtain rfl : one = true := by exact pg_one hb he
      conv => cbv
      refine r_callBT m.sX (sameInts_ok e e) (by first | assumption | exact decide_eq_true rfl | (simp [*]; done) | omega) ?_   -- h3
      conv => cbv
      refine r_neqF m.sX (by first | omega | rfl) ?_
      conv => cbv
      refine r_callF (lbI 1 cInt) m.sX ((RowHeights_ok l).ice) fun v hheights => ?_
      obtain ⟨heights, three⟩ := v
      conv => cbv
      refine r_callF (lbI 1 cInt) m.sX ((specRowHeights_ok l).ice) fun y3 hy3 => ?_
      obtain rfl := hheights.trans hy3.symm
      clear hy3
      conv => cbv
      obtain rfl : three = true := by exact pg_three hb hheights
      conv => cbv
      refine r_callBT m.sX (sameInts_ok heights heights) (by first | assumption | exact decide_eq_true rfl | (simp [*]; done) | omega) ?_   -- h5
      conv => cbv
      refine r_lenR m.sX fun n1 hn1 mn1 => ?_
      conv => cbv
      obtain ⟨Q_, PG⟩ := pg_facts hb he hheights
      have PG1 := PG.len; have PG2 := PG.hd; have PG3 := PG.hx; have PG4 := PG.el; have PG5 := PG.nb
      refine r_lenR m.sX fun n2 hn2 mn2 => ?_
      conv => cbv
      refine r_neqF m.sX (by first | omega | rfl) ?_
      conv => cbv
      refine r_lenN 2 m.sX rfl (by omega) fun n3 hn3 => ?_   -- n3 = length of [e, b]
      conv => cbv
      refine r_loopF (α := List Int × List (List Int) × Int) m 289 [1, 5, 6, 15, 19, 138, 139] [⟨21, 169, 3, 1, 0⟩, ⟨137, 1097, 27, 1, 0⟩] (fun σ => [(1, .isl 1 (rows cU8 more)), (5, .isl 1 (rows (cSl 1 cInt) l)), (6, .int .i64 depth), (15, .int .i64 n), (19, .isl 1 (rows cInt heights)), (21, .osl 169 0), (137, .osl 1097 0), (138, .int .i64 n3), (139, .int .i64 σ.2.2)]) (fun σ => [(169, 0, .row 3 1 (rows cInt σ.1)), (1097, 0, .row 27 1 (rows (cSl 1 cInt) σ.2.1))])
        (fun σ => (0 ≤ σ.2.2) ∧ (σ.2.2 ≤ n3) ∧ (σ.2.2 ≤ 2) ∧ (σ.2.1 = [e, b]) ∧ (σ.1 = [if 1 ≤ σ.2.2 then n else 0, if 2 ≤ σ.2.2 then Q_ else 0])) (fun σ => (n3 - σ.2.2).toNat) ([0, 0], [e, b], 0) ?_ ?_ ?_ ?_
      · cbv
      · (try dsimp only); (try simp only [rows_cons, rows_nil]); cbv
      · exact ⟨(by (try dsimp only); first | omega | (simp only [List.length_nil]; omega) | (simp only [List.length_cons, List.length_nil]; omega)), (by (try dsimp only); first | omega | (simp only [List.length_nil]; omega) | (simp only [List.length_cons, List.length_nil]; omega)), (by (try dsimp only) <;> first | omega | rfl | (simp [*]; done)), (by (try dsimp only) <;> (rfl)), (by (try dsimp only) <;> (rfl))⟩
      rintro ⟨squares, ys1, i1⟩ ⟨lo1, hi1, ib, yq, sq⟩ E hE F hF
      dsimp only at lo1 hi1 ib yq sq
      conv => cbv
      refine r_lss m.sX (fun h7 => ?_) (fun h7 => ?_) <;> conv => cbv
      · have yl : ys1.length = 2 := by rw [yq]; rfl
        have il : i1 = 0 ∨ i1 = 1 := by omega
        refine r_oindex m.sX (by omega) (by omega) ?_
        conv => cbv
        obtain ⟨list, hlist⟩ := get_ex (xs := ys1) (i := Int.toNat i1) (by omega)
        have mlist := get_mem hlist
        have dlist := drop_cons hlist
        have klist := take_snoc hlist
        have jlist : (i1 + 1).toNat = Int.toNat i1 + 1 := by omega
        have ll : [e, b][i1.toNat]? = some list := by rw [← yq]; exact hlist
        have lb24 : list.length ≤ 24 := by rcases il with rfl | rfl <;> simp at ll <;> subst ll <;> omega
        refine r_oload m.sX hlist (Nat.le_of_ble_eq_true rfl) ?_
        conv => cbv
        refine r_loopF (α := List Int × Int × Int) m 289 [1, 5, 6, 15, 19, 22, 23, 24, 25, 138, 139] [⟨21, 169, 3, 1, 0⟩, ⟨137, 1097, 27, 1, 0⟩] (fun σ => [(1, .isl 1 (rows cU8 more)), (5, .isl 1 (rows (cSl 1 cInt) l)), (6, .int .i64 depth), (15, .int .i64 n), (19, .isl 1 (rows cInt heights)), (21, .osl 169 0), (22, .int .i64 i1), (23, .isl 1 (rows cInt list)), (24, .int .i64 σ.2.1), (25, .int .i64 σ.2.2), (137, .osl 1097 0), (138, .int .i64 n3), (139, .int .i64 i1)]) (fun σ => [(169, 0, .row 3 1 (rows cInt σ.1)), (1097, 0, .row 27 1 (rows (cSl 1 cInt) ys1))])
          (fun σ => SqI depth heights n Q_ i1 list σ.1 σ.2.1 σ.2.2) (fun σ => ((list.length : Int) + 1 - σ.2.2).toNat) (squares, 0, 0) ?_ ?_ ?_ ?_
        · cbv
        · cbv
        · exact (by (try dsimp only) <;> (exact sq_start PG il ll sq))
        rintro ⟨squares_2, from_, p⟩ si E2 hE2 F2 hF2
        dsimp only at si
        conv => cbv
        refine r_lenR m.sX fun n4 hn4 mn4 => ?_
        conv => cbv
        refine r_leq m.sX (fun h8 => ?_) (fun h8 => ?_) <;> conv => cbv
        · have pb := si.pb; have fb := si.fb; have sl := si.len
          refine r_lenR m.sX fun n5 hn5 mn5 => ?_
          conv => cbv
          refine r_gtr m.sX (fun h9 => ?_) (fun h9 => ?_) <;> conv => cbv
          · have hne : heights ≠ [] := by intro e0; rw [e0] at PG1; simp at PG1; omega
            refine r_lenR m.sX fun to_ hto_ mto_ => ?_
            conv => cbv
            refine r_lenR m.sX fun n6 hn6 mn6 => ?_
            conv => cbv
            refine r_lss m.sX (fun h10 => ?_) (fun h10 => ?_) <;> conv => cbv
            · refine r_index m.sX (by omega) (by omega) fun to__2 hto__2 => ?_
              conv => cbv
              have mto__2 := get_mem hto__2
              have vto__2 := nth_some hto__2
              obtain ⟨m1, m2, m3, m4, v_, mv, mv0, mv1, si2⟩ := si.more PG il hne (by omega) hto__2
              refine r_leqF m.sX (by first | omega | rfl) ?_
              conv => cbv
              refine r_islice (i := from_) (j := to__2) m.sX (by omega) (by omega) (by omega) fun zs1 hzs1 => ?_   -- zs1 = heights[from_:to__2]
              have lzs1 : (zs1.length : Int) = to__2 - from_ := by rw [hzs1]; first | done | (simp; done) | (simp; omega)
              have zf1 : SumFits zs1 := seg_fits PG3 PG2.2 (by omega) hzs1
              have zq1 := seg_sum hzs1
              conv => cbv
              refine r_callF (PV.int .i64) m.sX (pSum_ok zs1 (by first | rfl | assumption | omega | (simp only [List.length_append, List.length_cons, List.length_nil] at *; omega))) fun r1 hr1 => ?_
              conv => cbv
              refine r_gtrF m.sX (by first | omega | rfl) ?_
              conv => cbv
              refine r_draw m (by kernel_rfl) ?_
              conv => cbv
              refine r_oindex m.sY (by omega) (by omega) ?_
              conv => cbv
              obtain ⟨x1, hx1⟩ := get_ex (xs := squares_2) (i := Int.toNat i1) (by omega)
              have mx1 := get_mem hx1
              have dx1 := drop_cons hx1
              have kx1 := take_snoc hx1
              have jx1 : (i1 + 1).toNat = Int.toNat i1 + 1 := by omega
              have vx1 := nth_some hx1
              have xv : x1 = v_ := Option.some.inj (hx1.symm.trans mv)
              refine r_oload m.sY hx1 (Nat.le_of_ble_eq_true rfl) ?_
              conv => cbv
              refine r_islice (i := from_) (j := to__2) m.sY (by omega) (by omega) (by omega) fun zs2 hzs2 => ?_   -- zs2 = heights[from_:to__2]
              have lzs2 : (zs2.length : Int) = to__2 - from_ := by rw [hzs2]; first | done | (simp; done) | (simp; omega)
              have zf2 : SumFits zs2 := seg_fits PG3 PG2.2 (by omega) hzs2
              have zq2 := seg_sum hzs2
              conv => cbv
              refine r_callFS (PV.int .i64) m.sY (pSum_ok zs2 (by first | rfl | assumption | omega | (simp only [List.length_append, List.length_cons, List.length_nil] at *; omega))) trivial fun r2 hr2 => ?_
              conv => cbv
              refine r_subf m.sY (by omega) (by omega) fun r3 hr3 => ?_
              conv => cbv
              refine r_islice (i := from_) (j := to__2) m.sY (by omega) (by omega) (by omega) fun zs3 hzs3 => ?_   -- zs3 = heights[from_:to__2]
              have lzs3 : (zs3.length : Int) = to__2 - from_ := by rw [hzs3]; first | done | (simp; done) | (simp; omega)
              have zf3 : SumFits zs3 := seg_fits PG3 PG2.2 (by omega) hzs3
              have zq3 := seg_sum hzs3
              conv => cbv
              refine r_callFS (PV.int .i64) m.sY (pSum_ok zs3 (by first | rfl | assumption | omega | (simp only [List.length_append, List.length_cons, List.length_nil] at *; omega))) trivial fun r4 hr4 => ?_
              conv => cbv
              refine r_subf m.sY (by omega) (by omega) fun r5 hr5 => ?_
              conv => cbv
              have mb := mul_bound (show 0 ≤ r3 by omega) (show r3 ≤ 1000 by omega) (show 0 ≤ r5 by omega) (show r5 ≤ 1000 by omega)
              refine r_mulf m.sY (by first | omega | (subst_vars; omega)) (by first | omega | (subst_vars; omega)) fun r6 hr6 => ?_
              conv => cbv
              refine r_addf m.sY (by omega) (by omega) fun r7 hr7 => ?_
              conv => cbv
              refine r_oindex m.sY (by omega) (by omega) ?_
              conv => cbv
              obtain ⟨y4, hy4⟩ := get_ex (xs := squares_2) (i := Int.toNat i1) (by omega)
              refine r_ostore (l := Int.toNat i1) r7 m.sY hy4 (Nat.le_of_ble_eq_true rfl) rfl fun squares_3 hsquares_3 => ?_   -- squares_3 = squares_2.set i1 r7
              have lsquares_3 : (squares_3.length : Int) = squares_2.length := by rw [hsquares_3]; first | done | (simp; done) | (simp; omega)
              conv => cbv
              refine r_addf m.sX (by omega) (by omega) fun p_2 hp_2 => ?_
              conv => cbv
              refine hE2 _ (squares_3, to__2, p_2) ?_ ?_ (by (try dsimp only) <;> (first | (rw [hsquares_3, hr7, xv, hr6, hr3, hr5, hr2, hr4, zq2, zq3, show p_2 = p + 1 from hp_2]; exact si2) | (rw [hsquares_4, hr14, xv, hr13, hr10, hr12, hr9, hr11, zq5, zq6, show p_3 = p + 1 from hp_3, show to_ = (heights.length : Int) by omega]; exact si2))) (by first | omega | (dsimp only; omega))
              · cbv
              · cbv
            · obtain ⟨m1, m3, m4, v_, mv, mv0, mv1, si2⟩ := si.last PG il hne (by omega)
              refine r_leqF m.sX (by first | omega | rfl) ?_
              conv => cbv
              refine r_islice (i := from_) (j := to_) m.sX (by omega) (by omega) (by omega) fun zs4 hzs4 => ?_   -- zs4 = heights[from_:to_]
              have lzs4 : (zs4.length : Int) = to_ - from_ := by rw [hzs4]; first | done | (simp; done) | (simp; omega)
              have zf4 : SumFits zs4 := seg_fits PG3 PG2.2 (by omega) hzs4
              have zq4 := seg_sum hzs4
              have tl : to_.toNat = heights.length := by omega
              rw [tl] at zq4
              conv => cbv
              refine r_callF (PV.int .i64) m.sX (pSum_ok zs4 (by first | rfl | assumption | omega | (simp only [List.length_append, List.length_cons, List.length_nil] at *; omega))) fun r8 hr8 => ?_
              conv => cbv
              refine r_gtrF m.sX (by first | omega | rfl) ?_
              conv => cbv
              refine r_draw m (by kernel_rfl) ?_
              conv => cbv
              refine r_oindex m.sY (by omega) (by omega) ?_
              conv => cbv
              obtain ⟨x2, hx2⟩ := get_ex (xs := squares_2) (i := Int.toNat i1) (by omega)
              have mx2 := get_mem hx2
              have dx2 := drop_cons hx2
              have kx2 := take_snoc hx2
              have jx2 : (i1 + 1).toNat = Int.toNat i1 + 1 := by omega
              have vx2 := nth_some hx2
              have xv : x2 = v_ := Option.some.inj (hx2.symm.trans mv)
              refine r_oload m.sY hx2 (Nat.le_of_ble_eq_true rfl) ?_
              conv => cbv
              refine r_islice (i := from_) (j := to_) m.sY (by omega) (by omega) (by omega) fun zs5 hzs5 => ?_   -- zs5 = heights[from_:to_]
              have lzs5 : (zs5.length : Int) = to_ - from_ := by rw [hzs5]; first | done | (simp; done) | (simp; omega)
              have zf5 : SumFits zs5 := seg_fits PG3 PG2.2 (by omega) hzs5
              have zq5 := seg_sum hzs5
              rw [tl] at zq5
              conv => cbv
              refine r_callFS (PV.int .i64) m.sY (pSum_ok zs5 (by first | rfl | assumption | omega | (simp only [List.length_append, List.length_cons, List.length_nil] at *; omega))) trivial fun r9 hr9 => ?_
              conv => cbv
              refine r_subf m.sY (by omega) (by omega) fun r10 hr10 => ?_
              conv => cbv
              refine r_islice (i := from_) (j := to_) m.sY (by omega) (by omega) (by omega) fun zs6 hzs6 => ?_   -- zs6 = heights[from_:to_]
              have lzs6 : (zs6.length : Int) = to_ - from_ := by rw [hzs6]; first | done | (simp; done) | (simp; omega)
              have zf6 : SumFits zs6 := seg_fits PG3 PG2.2 (by omega) hzs6
              have zq6 := seg_sum hzs6
              rw [tl] at zq6
              conv => cbv
              refine r_callFS (PV.int .i64) m.sY (pSum_ok zs6 (by first | rfl | assumption | omega | (simp only [List.length_append, List.length_cons, List.length_nil] at *; omega))) trivial fun r11 hr11 => ?_
              conv => cbv
              refine r_subf m.sY (by omega) (by omega) fun r12 hr12 => ?_
              conv => cbv
              have mb := mul_bound (show 0 ≤ r10 by omega) (show r10 ≤ 1000 by omega) (show 0 ≤ r12 by omega) (show r12 ≤ 1000 by omega)
              refine r_mulf m.sY (by first | omega | (subst_vars; omega)) (by first | omega | (subst_vars; omega)) fun r13 hr13 => ?_
              conv => cbv
              refine r_addf m.sY (by omega) (by omega) fun r14 hr14 => ?_
              conv => cbv
              refine r_oindex m.sY (by omega) (by omega) ?_
              conv => cbv
              obtain ⟨y5, hy5⟩ := get_ex (xs := squares_2) (i := Int.toNat i1) (by omega)
              refine r_ostore (l := Int.toNat i1) r14 m.sY hy5 (Nat.le_of_ble_eq_true rfl) rfl fun squares_4 hsquares_4 => ?_   -- squares_4 = squares_2.set i1 r14
              have lsquares_4 : (squares_4.length : Int) = squares_2.length := by rw [hsquares_4]; first | done | (simp; done) | (simp; omega)
              conv => cbv
              refine r_addf m.sX (by omega) (by omega) fun p_3 hp_3 => ?_
              conv => cbv
              refine hE2 _ (squares_4, to_, p_3) ?_ ?_ (by (try dsimp only) <;> (first | (rw [hsquares_3, hr7, xv, hr6, hr3, hr5, hr2, hr4, zq2, zq3, show p_2 = p + 1 from hp_2]; exact si2) | (rw [hsquares_4, hr14, xv, hr13, hr10, hr12, hr9, hr11, zq5, zq6, show p_3 = p + 1 from hp_3, show to_ = (heights.length : Int) by omega]; exact si2))) (by first | omega | (dsimp only; omega))
              · cbv
              · cbv
          · have dn := si.done PG il (.inr (by omega))
            refine hF2 _ _ ?_
            conv => cbv
            refine r_addf m.sX (by omega) (by omega) fun r15 hr15 => ?_
            conv => cbv
            try have tr15 : Int.toNat r15 = Int.toNat i1 + 1 := by omega
            refine hE _ (squares_2, ys1, r15) ?_ ?_ ⟨(by (try dsimp only); first | omega | (simp only [List.length_nil]; omega) | (simp only [List.length_cons, List.length_nil]; omega)), (by (try dsimp only); first | omega | (simp only [List.length_nil]; omega) | (simp only [List.length_cons, List.length_nil]; omega)), (by (try dsimp only) <;> first | omega | rfl | (simp [*]; done) | (rw [ib]; simp [*]; done)), (by (try dsimp only) <;> (exact yq)), (by (try dsimp only) <;> (first | (rw [show r15 = i1 + 1 by omega]; exact dn) | (rw [show r16 = i1 + 1 by omega]; exact dn)))⟩ (by first | omega | (dsimp only; omega))
            · cbv
            · cbv
        · have pb := si.pb
          have dn := si.done PG il (.inl (by omega))
          refine hF2 _ _ ?_
          conv => cbv
          refine r_addf m.sX (by omega) (by omega) fun r16 hr16 => ?_
          conv => cbv
          try have tr16 : Int.toNat r16 = Int.toNat i1 + 1 := by omega
          refine hE _ (squares_2, ys1, r16) ?_ ?_ ⟨(by (try dsimp only); first | omega | (simp only [List.length_nil]; omega) | (simp only [List.length_cons, List.length_nil]; omega)), (by (try dsimp only); first | omega | (simp only [List.length_nil]; omega) | (simp only [List.length_cons, List.length_nil]; omega)), (by (try dsimp only) <;> first | omega | rfl | (simp [*]; done) | (rw [ib]; simp [*]; done)), (by (try dsimp only) <;> (exact yq)), (by (try dsimp only) <;> (first | (rw [show r15 = i1 + 1 by omega]; exact dn) | (rw [show r16 = i1 + 1 by omega]; exact dn)))⟩ (by first | omega | (dsimp only; omega))
          · cbv
          · cbv
      · have i2 : i1 = 2 := by omega
        have sq2 : squares = [n, Q_] := by rw [sq, i2]; rfl
        have sl2 : squares.length = 2 := by rw [sq2]; rfl
        have dz_i1 := drop_end (xs := [e, b]) (i := Int.toNat i1) (by simp only [List.length_cons, List.length_nil]; omega)
        have tz_i1 := take_end (xs := [e, b]) (i := Int.toNat i1) (by simp only [List.length_cons, List.length_nil]; omega)
        refine hF _ _ ?_
        conv => cbv
        refine r_oindex m.sX (by omega) (by omega) ?_
        conv => cbv
        obtain ⟨x3, hx3⟩ := get_ex (xs := squares) (i := Int.toNat 0) (by omega)
        have mx3 := get_mem hx3
        have vx3 := nth_some hx3
        have x3q : x3 = n := by rw [sq2] at hx3; simpa using hx3.symm
        refine r_oload m.sX hx3 (Nat.le_of_ble_eq_true rfl) ?_
        conv => cbv
        refine r_neqF m.sX (by first | omega | rfl) ?_
        conv => cbv
        refine r_oindex m.sX (by omega) (by omega) ?_
        conv => cbv
        obtain ⟨x4, hx4⟩ := get_ex (xs := squares) (i := Int.toNat 1) (by omega)
        have mx4 := get_mem hx4
        have vx4 := nth_some hx4
        have x4q : x4 = Q_ := by rw [sq2] at hx4; simpa using hx4.symm
        refine r_oload m.sX hx4 (Nat.le_of_ble_eq_true rfl) ?_
        conv => cbv
        refine r_lssF m.sX (by first | omega | rfl) ?_
        conv => cbv
        exact hE0 _ () (by cbv) (by cbv) hmr
    · refine r_callBT m.sX (sameInts_ok b b) (by first | assumption | exact decide_eq_true rfl | (simp [*]; done) | omega) ?_   -- h17
      conv => cbv
      obtain rfl : one = false := by exact pg_one hb he
      conv => cbv
      refine r_callBT m.sX (sameInts_ok e e) (by first | assumption | exact decide_eq_true rfl | (simp [*]; done) | omega) ?_   -- h18
      conv => cbv
      refine r_neqF m.sX (by first | omega | rfl) ?_
      conv => cbv
      exact hE0 _ () (by cbv) (by cbv) hmr

theorem pageBreaks_part2 (m : Mach Try.prog G κ X Y L) (hQ : ∀ r, r = PV.bool true → Q r) (more : List Int) (h : CurIn more) :
    Ai.code X L G (rest 9 (Try.f3.body.getD .skip)) (EndsIn (post G Try.f3.results.toList Q)) (St.at 289 (midPageBreaks more) []) := by
  conv => cbv
  refine r_callE m.sX ((drawLeaveMarks_ok more h).iceE) ?_
  rintro _ ⟨_, ⟨u, k, rfl, bu_1⟩, rfl⟩
  conv => cbv
  refine r_callF (licI 1 cInt) m.sX ((LeaveMarks_ok u k).ice) fun v hm_ => ?_
  obtain ⟨m_, t, three⟩ := v
  conv => cbv
  refine r_callF (licI 1 cInt) m.sX (specLeaveMarks_ok u k) fun y1 hy1 => ?_
  obtain rfl := hm_.trans hy1.symm
  clear hy1
  conv => cbv
  rcases Bool.eq_false_or_eq_true three with rfl | rfl <;> conv => cbv
  · refine r_callBT m.sX (sameInts_ok m_ m_) (by first | assumption | exact decide_eq_true rfl | (simp [*]; done) | omega) ?_   -- h1
    conv => cbv
    refine r_neqF m.sX (by first | omega | rfl) ?_
    conv => cbv
    refine r_callF ib m.sX (TotalHeight_ok u) fun v hall => ?_
    obtain ⟨all, five⟩ := v
    conv => cbv
    obtain ⟨-, w2, w3, w4, w5⟩ := lv_facts hm_ hall
    obtain rfl : five = true := by exact (lv_facts hm_ hall).1
    conv => cbv
    refine r_gtrF m.sX (by first | omega | rfl) ?_
    conv => cbv
    refine r_lenR m.sX fun n1 hn1 mn1 => ?_
    conv => cbv
    refine r_neqF m.sX (by first | omega | rfl) ?_
    conv => cbv
    refine r_eql m.sX (fun h5 => ?_) (fun h5 => ?_) <;> conv => cbv
    · refine r_neqF m.sX (by first | omega | rfl) ?_
      conv => cbv
      refine r_eql m.sX (fun h7 => ?_) (fun h7 => ?_) <;> conv => cbv
      · refine r_callF iib m.sX (BestJoin_ok u) fun v hv1 => ?_
        obtain ⟨v1, saved, six⟩ := v
        conv => cbv
        have lo := lv_one h7 hm_ hall hv1
        obtain rfl : six = true := by first | (exfalso; omega) | exact (lv_one h7 hm_ hall hv1).1
        conv => cbv
        refine r_subf m.sX (by omega) (by omega) fun r1 hr1 => ?_
        conv => cbv
        refine r_eqlT m.sX (by first | omega | rfl) ?_
        conv => cbv
        exact hQ _ (congrArg PV.bool (by first | rfl | omega | (simp [*]; done) | (subst_vars; simp [*]; done)))   -- leaf 2
      · exact hQ _ (congrArg PV.bool (by first | rfl | omega | (simp [*]; done) | (subst_vars; simp [*]; done)))   -- leaf 3
    · refine r_eql m.sX (fun h9 => ?_) (fun h9 => ?_) <;> conv => cbv
      · refine r_callF iib m.sX (BestJoin_ok u) fun v hv2 => ?_
        obtain ⟨v2, saved_2, six_2⟩ := v
        conv => cbv
        have lo := lv_one h9 hm_ hall hv2
        obtain rfl : six_2 = true := by exact (lv_one h9 hm_ hall hv2).1
        conv => cbv
        refine r_subf m.sX (by omega) (by omega) fun r2 hr2 => ?_
        conv => cbv
        refine r_eqlT m.sX (by first | omega | rfl) ?_
        conv => cbv
        exact hQ _ (congrArg PV.bool (by first | rfl | omega | (simp [*]; done) | (subst_vars; simp [*]; done)))   -- leaf 4
      · exact hQ _ (congrArg PV.bool (by first | rfl | omega | (simp [*]; done) | (subst_vars; simp [*]; done)))   -- leaf 5
  · refine r_callBT m.sX (sameInts_ok m_ m_) (by first | assumption | exact decide_eq_true rfl | (simp [*]; done) | omega) ?_   -- h11
    conv => cbv
    refine r_neqF m.sX (by first | omega | rfl) ?_
    conv => cbv
    exact hQ _ (congrArg PV.bool (by first | rfl | omega | (simp [*]; done) | (subst_vars; simp [*]; done)))   -- leaf 6

end

theorem lawPageBreaks_ok (code more : List Int) (hf : ∀ x ∈ code, 0 ≤ x ∧ x ≤ 255) (hg : ∀ x ∈ more, 0 ≤ x ∧ x ≤ 255) : OkA Try.prog 3 [.isl 1 (rows cU8 code), .isl 1 (rows cU8 more)] (· = .bool true) :=
  fn_introW envOk fieldsOk mixed Try.func3 rfl (c := Try.f3.body.getD .skip) rfl fun κ X Y L Q m hQ =>
    W_cut m 9 289 [1] [] (fun _ : Unit => midPageBreaks more) (fun _ => []) (fun _ => (more.length : Int) ≤ 9223372036854775807) (pageBreaks_part1 m hQ code more hf) fun _ hl =>
    W_last m (pageBreaks_part2 m hQ more ⟨hl, hg⟩)


end Go.Proofs.Ytalookmhhkojeaa.Ai
