/- Plain laws on crafts: what is missing can be learnt in its order; what is learnt within months takes no longer. -/
import Derived.Test.YtnamefdhmlbcpaaOrder
import Derived.Test.YtnamefdhmlbcpaaCraftM
import Derived.Test.YtnamefdhmlbcpaaAiCut
namespace Go.Proofs.Ytnamefdhmlbcpaa.Ai
open Go Go.Proofs
set_option linter.unusedVariables false
set_option maxRecDepth 10000
set_option maxHeartbeats 4000000

theorem has_not (xs : List Int) (i : Int) : has xs i = false ↔ i ∉ xs := by
  rw [← has_mem]; cases has xs i <;> simp
theorem miss_closed {l : List Craft} {set : List Int} (h : asked l set = true) : ∀ (n : Nat) (W L : List Int),
    (∀ z ∈ L, z ∈ missI l set n W L) ∧
    (∀ j ∈ W, 0 ≤ j → j < n → has set j = false → j ∈ missI l set n W L) ∧
    (∀ z ∈ missI l set n W L, z ∈ L ∨ (has set z = false ∧ ∀ k ∈ needsAt l z.toNat, has set k = true ∨ k ∈ missI l set n W L))
  | 0, W, L => ⟨fun z hz => hz, fun j _ h0 h1 _ => by omega, fun z hz => .inl hz⟩
  | n + 1, W, L => by
    rw [missI]
    split
    · rename_i hc
      obtain ⟨i1, i2, i3⟩ := miss_closed h n (putsM W (needsAt l n)) (L ++ [(n : Int)])
      refine ⟨fun z hz => i1 z (List.mem_append_left _ hz), fun j hj h0 h1 hs => ?_, fun z hz => ?_⟩
      · by_cases e : j = n
        · exact i1 j (by rw [e]; simp)
        · exact i2 j ((mem_putsM _ _ _).2 (.inl hj)) h0 (by omega) hs
      · rcases i3 z hz with hz' | hz'
        · rcases List.mem_append.1 hz' with hz' | hz'
          · exact .inl hz'
          · right
            obtain rfl := List.mem_singleton.1 hz'
            refine ⟨hc.2, fun k hk => ?_⟩
            have hk' : k ∈ needsAt l n := hk
            have hb := needs_in h n k hk'
            cases hs : has set k with
            | true => exact .inl rfl
            | false => exact .inr (i2 k ((mem_putsM _ _ _).2 (.inr hk')) hb.1 hb.2 hs)
        · exact .inr hz'
    · rename_i hc
      obtain ⟨i1, i2, i3⟩ := miss_closed h n W L
      refine ⟨i1, fun j hj h0 h1 hs => ?_, i3⟩
      have : j ≠ n := fun e => hc ⟨e ▸ hj, e ▸ hs⟩
      exact i2 j hj h0 (by omega) hs
theorem missS_sorted {l : List Craft} {set : List Int} : ∀ (n : Nat) {out : List Int}, out.Pairwise (fun x y => x < y) → (missS l set n out).Pairwise (fun x y => x < y)
  | 0, _, h => h
  | n + 1, out, h => by
    rw [missS]
    split
    · exact missS_sorted n (putsS_sorted set _ h)
    · exact missS_sorted n h
structure Missed (l : List Craft) (set : List Int) (craft : Int) (M : List Int) : Prop where
  sorted : M.Pairwise (fun x y => x < y)
  inn : ∀ z ∈ M, 0 ≤ z ∧ z < l.length
  not : ∀ z ∈ M, z ∉ set
  closed : ∀ z ∈ M, ∀ k ∈ needsAt l z.toNat, (k ∈ set ∨ k ∈ M) ∧ k < z
  craft : craft ∈ set ∨ craft ∈ M
theorem missed {l : List Craft} {set : List Int} {craft : Int} (h : asked l set = true) (h0 : 0 ≤ craft) (h1 : craft < l.length) : Missed l set craft (missF l set craft) := by
  have hm : ∀ z, z ∈ missF l set craft ↔ z ∈ missI l set (craft + 1).toNat [craft] [] := fun z => (sortI_perm _).mem_iff
  obtain ⟨i1, i2, i3⟩ := miss_closed h (craft + 1).toNat [craft] []
  have hz : ∀ z ∈ missF l set craft, has set z = false ∧ ∀ k ∈ needsAt l z.toNat, has set k = true ∨ k ∈ missF l set craft := fun z hz => by
    rcases i3 z ((hm z).1 hz) with hz | hz
    · cases hz
    · exact ⟨hz.1, fun k hk => (hz.2 k hk).imp_right (hm k).2⟩
  refine ⟨?_, missF_in h0 h1, fun z hz' => (has_not _ _).1 (hz z hz').1, fun z hz' k hk => ⟨((hz z hz').2 k hk).imp_left (has_mem _ _).1, ?_⟩, ?_⟩
  · cases hs : has set craft with
    | true => rw [miss_set h0 hs]; exact .nil
    | false => rw [← miss_eq h h0 hs]; exact missS_sorted _ (by simp)
  · have := needs_in h z.toNat k hk
    have := missF_in h0 h1 z hz'
    omega
  · cases hs : has set craft with
    | true => exact .inl ((has_mem _ _).1 hs)
    | false => exact .inr ((hm _).2 (i2 craft (by simp) h0 (by omega) hs))
theorem next_mem {l : List Craft} {now : List Int} {i : Int} (h0 : 0 ≤ i) (h1 : i < l.length) (hn : i ∉ now) (hr : ∀ k ∈ needsAt l i.toNat, k ∈ now) : has (nextF l now) i = true := by
  rw [has_mem]
  unfold nextF nextT
  refine List.mem_filter.2 ⟨List.mem_map.2 ⟨i.toNat, List.mem_range.2 (by omega), by omega⟩, ?_⟩
  rw [(has_not _ _).2 hn]
  have hl : i.toNat < l.length := by omega
  have e : l[i.toNat]? = some l[i.toNat] := List.getElem?_eq_getElem hl
  rw [needsAt_some e] at hr
  simp only [Bool.not_false, Bool.true_and]
  unfold ready
  rw [e]
  exact List.all_eq_true.2 fun k hk => (has_mem _ _).2 (hr k hk)
theorem sumMo_cons (l : List Craft) (i : Int) (r : List Int) : sumMo l (i :: r) = monthsAt l i + sumMo l r := by simp [sumMo]
theorem order_run {l : List Craft} {set : List Int} {craft : Int} {M : List Int} (H : Missed l set craft M) : ∀ (r p : List Int) (s : Int), M = p ++ r → orderG l r (set ++ p) s = some (set ++ p ++ r, s + sumMo l r)
  | [], p, s, e => by simp [orderG, sumMo]
  | i :: r, p, s, e => by
    have hi : i ∈ M := by rw [e]; simp
    have hs := H.sorted
    rw [e] at hs
    obtain ⟨s1, s2, s3⟩ := List.pairwise_append.1 hs
    rw [orderG, if_pos (next_mem (H.inn i hi).1 (H.inn i hi).2 (fun hm => ?_) fun k hk => ?_)]
    · have := order_run H r (p ++ [i]) (s + monthsAt l i) (by rw [e]; simp)
      rw [← List.append_assoc] at this
      rw [this, sumMo_cons]
      simp only [List.append_assoc, List.singleton_append, List.cons_append, List.nil_append, Int.add_assoc]
    · rcases List.mem_append.1 hm with hm | hm
      · exact H.not i hi hm
      · have := s3 i hm i (by simp)
        omega
    · obtain ⟨c1, c2⟩ := H.closed i hi k hk
      rcases c1 with c1 | c1
      · exact List.mem_append_left _ c1
      · rw [e] at c1
        refine List.mem_append_right _ ?_
        rcases List.mem_append.1 c1 with c1 | c1
        · exact c1
        · rcases List.mem_cons.1 c1 with c1 | c1
          · omega
          · have := (List.pairwise_cons.1 s2).1 k c1
            omega
theorem miss_order {l : List Craft} {set : List Int} {craft : Int} (h : asked l set = true) (hc : inB craft 0 (l.length - 1) = true) :
    ∃ zs, orderAns l set (missF l set craft) = (zs, sumMo l (missF l set craft), true) ∧ craft ∈ zs ∧ good l = true := by
  have hb := inB_spec hc
  have H := missed h hb.1 (by omega : craft < l.length)
  have := order_run H (missF l set craft) [] 0 rfl
  rw [List.append_nil] at this
  refine ⟨sortI (set ++ missF l set craft), ?_, (sortI_perm _).mem_iff.2 (List.mem_append.2 H.craft), ?_⟩
  · rw [orderAns, if_pos h, this]
    simp [ordA]
  · simp only [asked, Bool.and_eq_true] at h; exact h.1
theorem one_order {l : List Craft} {set : List Int} {i : Int} (h : asked l set = true) (hi : i ∈ nextF l set) : orderAns l set [i] = (sortI (set ++ [i]), monthsAt l i, true) := by
  rw [orderAns, if_pos h, orderG, if_pos ((has_mem _ _).2 hi), orderG]
  simp [ordA]
theorem bestF_mem {l : List Craft} : ∀ {zs : List Int} {b : Int}, bestF l zs b = b ∨ bestF l zs b ∈ zs
  | [], b => .inl rfl
  | i :: r, b => by
    rw [bestF]
    rcases bestF_mem (zs := r) (b := better l b i) with e | e
    · rw [e]
      unfold better
      split
      · exact .inr (by simp)
      · exact .inl rfl
    · exact .inr (List.mem_cons_of_mem _ e)
theorem learn_run {l : List Craft} : ∀ (f : Nat) (now : List Int) (mo s : Int), 0 ≤ mo → ∃ p t, orderG l (learnG l f now mo) now s = some (p, s + t) ∧ t ≤ mo
  | 0, now, mo, s, h => ⟨now, 0, by rw [learnG, orderG]; simp, h⟩
  | f + 1, now, mo, s, h => by
    rw [learnG_succ]
    split
    · exact ⟨now, 0, by rw [orderG]; simp, h⟩
    · rename_i hc
      simp only [not_or] at hc
      have hb : bestF l (nextF l now) (-1) ∈ nextF l now := by
        rcases bestF_mem (l := l) (zs := nextF l now) (b := -1) with e | e
        · omega
        · exact e
      rw [orderG, if_pos ((has_mem _ _).2 hb)]
      obtain ⟨p, t, e, ht⟩ := learn_run f (now ++ [bestF l (nextF l now) (-1)]) (mo - monthsAt l (bestF l (nextF l now) (-1))) (s + monthsAt l (bestF l (nextF l now) (-1))) (by omega)
      exact ⟨p, monthsAt l (bestF l (nextF l now) (-1)) + t, by rw [e]; simp only [Int.add_assoc], by omega⟩
theorem learn_order {l : List Craft} {set : List Int} {mo : Int} (h : asked l set = true) (hc : inB mo 0 600 = true) : ∃ zs t, orderAns l set (learnG l 601 set mo) = (zs, t, true) ∧ t ≤ mo := by
  obtain ⟨p, t, e, ht⟩ := learn_run (l := l) 601 set mo 0 (inB_spec hc).1
  refine ⟨sortI p, t, ?_, ht⟩
  rw [orderAns, if_pos h, e]
  simp [ordA]
theorem orderAns_len2 {l : List Craft} {set order zs : List Int} {t : Int} (h : orderAns l set order = (zs, t, true)) : zs.length = set.length + order.length := by
  unfold orderAns at h
  split at h
  · cases e : orderG l order set 0 with
    | none => rw [e] at h; simp [ordA] at h
    | some p =>
      rw [e] at h
      simp only [Option.map_some, ordA, Prod.mk.injEq] at h
      rw [← h.1, sortI_len, orderG_len e]
  · simp at h
theorem missing_law {l : List Craft} {set : List Int} {craft : Int} {m : List Int} {ok : Bool} {n : Int} {one : Bool} (hm : (m, ok) = missAns l set craft) (hn : (n, one) = monthAns l set craft) :
    one = ok ∧ m.length ≤ 10 ∧ (ok = true → good l = true ∧ ∀ after time three, (after, time, three) = orderAns l set m → three = true ∧ time = n ∧ craft ∈ after) := by
  have hl : m.length ≤ 10 := by have := missAns_len l set craft; rw [← hm] at this; exact this
  unfold missAns at hm
  unfold monthAns at hn
  split at hm
  · rename_i hc
    rw [if_pos hc] at hn
    simp only [Prod.mk.injEq] at hm hn
    simp only [Bool.and_eq_true] at hc
    obtain ⟨zs, e1, e2, e3⟩ := miss_order hc.1 hc.2
    refine ⟨hn.2.trans hm.2.symm, hl, fun _ => ⟨e3, fun after time three ha => ?_⟩⟩
    rw [hm.1, e1] at ha
    simp only [Prod.mk.injEq] at ha
    exact ⟨ha.2.2, by rw [ha.2.1, hn.1], by rw [ha.1]; exact e2⟩
  · rename_i hc
    rw [if_neg hc] at hn
    simp only [Prod.mk.injEq] at hm hn
    exact ⟨hn.2.trans hm.2.symm, hl, fun e => by rw [hm.2] at e; cases e⟩
theorem next_law {u : List Craft} {v x : List Int} {three : Bool} (hx : (x, three) = nextAns u v) :
    x.length ≤ 10 ∧ (three = false → x.length = 0) ∧ (three = true → ∀ i ∈ x, 0 ≤ i ∧ i < u.length ∧ i ∉ v ∧ ∀ y t five, (y, t, five) = orderAns u v [i] → five = true ∧ t = monthsAt u i) := by
  have hl : x.length ≤ 10 := by have := nextAns_len u v; rw [← hx] at this; exact this
  unfold nextAns at hx
  split at hx
  · rename_i hc
    simp only [Prod.mk.injEq] at hx
    refine ⟨hl, fun e => (by rw [hx.2] at e; cases e), fun _ i hi => ?_⟩
    rw [hx.1] at hi
    obtain ⟨a1, a2, a3⟩ := next_not ((has_mem _ _).2 hi)
    refine ⟨a2, a3, a1, fun y t five h => ?_⟩
    rw [one_order hc hi] at h
    simp only [Prod.mk.injEq] at h
    exact ⟨h.2.2, h.2.1⟩
  · simp only [Prod.mk.injEq] at hx
    exact ⟨hl, fun _ => by rw [hx.1]; rfl, fun e => by rw [hx.2] at e; cases e⟩
theorem within_law {w : List Craft} {s y : List Int} {mo : Int} {five : Bool} (hy : (y, five) = learnAns w s mo) :
    y.length ≤ 601 ∧ (five = true → ∀ z t seven, (z, t, seven) = orderAns w s y → seven = true ∧ t ≤ mo) := by
  have hl : y.length ≤ 601 := by have := learnAns_len w s mo; rw [← hy] at this; exact this
  unfold learnAns at hy
  split at hy
  · rename_i hc
    simp only [Prod.mk.injEq] at hy
    simp only [Bool.and_eq_true] at hc
    obtain ⟨zs, t', e1, e2⟩ := learn_order hc.1 hc.2
    refine ⟨hl, fun _ z t seven h => ?_⟩
    rw [hy.1, e1] at h
    simp only [Prod.mk.injEq] at h
    exact ⟨h.2.2, by rw [h.2.1]; exact e2⟩
  · simp only [Prod.mk.injEq] at hy
    exact ⟨hl, fun e => by rw [hy.2] at e; cases e⟩

/- The law FnCrafts: its body returns true. -/
theorem learnOne_ok (u : List Craft) (v : List Int) (i : Int) (hv : (v.length : Int) ≤ 1048576) : OkA Try.prog 27 [.isl 2 (rows cCraft u), .isl 1 (rows cInt v), .isl 1 [[.int .i64 i]]] (· = lic 3 1 cInt (orderAns u v [i])) := by
  have h := LearnInOrder_ok u v [i] hv (by simp)
  rwa [rows_cons, rows_nil] at h
noncomputable abbrev midCrafts (more : List Int) : List (Nat × PV) := [(1, .isl 1 (rows cU8 more))]

section
variable {κ : Ctx} {X Y : Req → (PV → Prop) → Prop} {L : Code → (Ex → St → Prop) → St → Prop} {Q : PV → Prop}

theorem crafts_part1 (m : Mach Try.prog G κ X Y L) (hQ : ∀ r, r = PV.bool true → Q r) (code more : List Int) (hf : ∀ x ∈ code, 0 ≤ x ∧ x ≤ 255) (E0 : St → Prop)
    (hE0 : ∀ (s' : St) (a : Unit), headOk s' [] = true → Ai.norm [1] [] s' = St.at 343 (midCrafts more) [] → (more.length : Int) ≤ 9223372036854775807 → E0 s') :
    Ai.code X L G (front 9 (Try.f7.body.getD .skip)) (fun e s' => match e with | .normal => E0 s' | .exit i => EndsIn (post G Try.f7.results.toList Q) (.exit i) s' | .ret => EndsIn (post G Try.f7.results.toList Q) .ret s') (start 343 [.isl 1 (rows cU8 code), .isl 1 (rows cU8 more)] []) := by
  conv => cbv
  refine r_callB m.sX (big_ok code more) (fun h1 => ?_) (fun h1 => ?_) <;> conv => cbv
  · exact hQ _ (congrArg PV.bool (by first | rfl | omega | (simp [*]; done) | (subst_vars; simp [*]; done)))   -- leaf 1
  · rw [Bool.or_eq_false_iff, decide_eq_false_iff_not, decide_eq_false_iff_not] at h1
    have h : CurIn code := ⟨by omega, hf⟩
    have hmr : (more.length : Int) ≤ 9223372036854775807 := by omega
    refine r_callE m.sX ((drawMissingCrafts_ok code h).iceE) ?_
    rintro _ ⟨_, ⟨l, set, craft, rfl, bl_1, bl_2⟩, rfl⟩
    conv => cbv
    refine r_callF (lbI 1 cInt) m.sX ((MissingCrafts_ok l set craft).ice) fun v hm_ => ?_
    obtain ⟨m_, ok⟩ := v
    conv => cbv
    refine r_callF (lbI 1 cInt) m.sX (specMissingCrafts_ok l set craft) fun y1 hy1 => ?_
    obtain rfl := hm_.trans hy1.symm
    clear hy1
    conv => cbv
    refine r_callF ib m.sX (MonthsTo_ok l set craft) fun v hn => ?_
    obtain ⟨n, one⟩ := v
    conv => cbv
    obtain ⟨f1, f2, f3⟩ := missing_law hm_ hn
    refine r_callF ib m.sX (specMonthsTo_ok l set craft) fun y2 hy2 => ?_
    obtain rfl := hn.trans hy2.symm
    clear hy2
    conv => cbv
    rcases Bool.eq_false_or_eq_true ok with rfl | rfl <;> conv => cbv
    · obtain ⟨f4, f5⟩ := f3 rfl
      refine r_callBT m.sX (sameInts_ok m_ m_) (by first | omega | assumption | exact decide_eq_true rfl | (subst_vars; omega)) ?_   -- h2
      conv => cbv
      obtain rfl : one = true := by exact f1
      conv => cbv
      refine r_neqF m.sX ((by first | omega | assumption | exact decide_eq_true rfl | (subst_vars; omega))) ?_
      conv => cbv
      refine r_callF (lic 3 1 cInt) m.sX (LearnInOrder_ok l set m_ (by first | rfl | assumption | omega | (simp only [List.length_append, List.length_cons, List.length_nil] at *; omega)) (by first | rfl | assumption | omega | (simp only [List.length_append, List.length_cons, List.length_nil] at *; omega))) fun v hafter => ?_
      obtain ⟨after, time, three⟩ := v
      conv => cbv
      obtain ⟨g1, g2, g3⟩ := f5 _ _ _ hafter
      refine r_callF (licI 1 cInt) m.sX (specLearnInOrder_ok l set m_ (by first | rfl | assumption | omega | (simp only [List.length_append, List.length_cons, List.length_nil] at *; omega)) (by first | rfl | assumption | omega | (simp only [List.length_append, List.length_cons, List.length_nil] at *; omega))) fun y3 hy3 => ?_
      obtain rfl := hafter.trans hy3.symm
      clear hy3
      conv => cbv
      obtain rfl : three = true := by exact (f5 _ _ _ hafter).1
      conv => cbv
      refine .inl (r_callBTO m.sX ((sameInts_ok after after).ok flat_bool) (by first | omega | assumption | exact decide_eq_true rfl | (subst_vars; omega)) ?_)   -- h4
      conv => cbv
      refine r_neqF m.sX ((by exact g2)) ?_
      conv => cbv
      refine r_callBT m.sX (pIn_ok after craft) (by exact decide_eq_true g3) ?_   -- h6
      conv => cbv
      refine r_callBT m.sX (areCrafts_ok l) (by exact f4) ?_   -- h7
      conv => cbv
      exact hE0 _ () (by cbv) (by cbv) hmr
    · refine r_callBT m.sX (sameInts_ok m_ m_) (by first | omega | assumption | exact decide_eq_true rfl | (subst_vars; omega)) ?_   -- h8
      conv => cbv
      obtain rfl : one = false := by exact f1
      conv => cbv
      refine r_neqF m.sX ((by first | omega | assumption | exact decide_eq_true rfl | (subst_vars; omega))) ?_
      conv => cbv
      exact hE0 _ () (by cbv) (by cbv) hmr

theorem crafts_part2 (m : Mach Try.prog G κ X Y L) (hQ : ∀ r, r = PV.bool true → Q r) (more : List Int) (h : CurIn more) (E0 : St → Prop)
    (hE0 : ∀ (s' : St) (a : Unit), headOk s' [] = true → Ai.norm [1] [] s' = St.at 343 (midCrafts more) [] → True → E0 s') :
    Ai.code X L G (front 5 (rest 9 (Try.f7.body.getD .skip))) (fun e s' => match e with | .normal => E0 s' | .exit i => EndsIn (post G Try.f7.results.toList Q) (.exit i) s' | .ret => EndsIn (post G Try.f7.results.toList Q) .ret s') (St.at 343 (midCrafts more) []) := by
  conv => cbv
  refine r_callE m.sX ((drawNextCrafts_ok more h).iceE) ?_
  rintro _ ⟨_, ⟨u, v, rfl, bu_1, bu_2⟩, rfl⟩
  conv => cbv
  refine r_callF (lbI 1 cInt) m.sX ((NextCrafts_ok u v).ice) fun v hx => ?_
  obtain ⟨x, three⟩ := v
  conv => cbv
  obtain ⟨f1, f2, f3⟩ := next_law hx
  refine r_callF (lbI 1 cInt) m.sX ((specNextCrafts_ok u v).ice) fun y1 hy1 => ?_
  obtain rfl := hx.trans hy1.symm
  clear hy1
  conv => cbv
  rcases Bool.eq_false_or_eq_true three with rfl | rfl <;> conv => cbv
  · have f4 := f3 rfl
    refine r_callBT m.sX (sameInts_ok x x) (by first | omega | assumption | exact decide_eq_true rfl | (subst_vars; omega)) ?_   -- h1
    conv => cbv
    refine r_lenR m.sX fun n1 hn1 mn1 => ?_
    conv => cbv
    refine r_loopF (α := Int) m 343 [1, 22, 23, 190, 191, 192] [] (fun σ => [(1, .isl 1 (rows cU8 more)), (22, .isl 2 (rows cCraft u)), (23, .isl 1 (rows cInt v)), (190, .isl 1 (rows cInt x)), (191, .int .i64 n1), (192, .int .i64 σ)]) (fun σ => [])
      (fun σ => (0 ≤ σ) ∧ (σ ≤ n1)) (fun σ => (n1 - σ).toNat) 0 ?_ ?_ ?_ ?_
    · cbv
    · cbv
    · exact ⟨(by (try dsimp only); first | omega | (simp only [List.length_nil]; omega)), (by (try dsimp only); first | omega | (simp only [List.length_nil]; omega))⟩
    rintro i1 ⟨lo1, hi1⟩ E hE F hF
    conv => cbv
    refine r_lss m.sX (fun h2 => ?_) (fun h2 => ?_) <;> conv => cbv
    · refine r_index m.sX (by omega) (by omega) fun i hi => ?_
      conv => cbv
      have mi := get_mem hi
      have di := drop_cons hi
      have ki := take_snoc hi
      have ji : (i1 + 1).toNat = Int.toNat i1 + 1 := by omega
      have vi := nth_some hi
      obtain ⟨g1, g2, g3, g4⟩ := f4 i mi
      refine .inl (r_callFO (lic 3 1 cInt) m.sX ((learnOne_ok u v i (by omega)).ok (flat_lic flat_cInt)) fun v hv1 => ?_)
      obtain ⟨v1, time, five⟩ := v
      conv => cbv
      obtain rfl : five = true := by first | exact (g4 _ _ _ hv1).1 | omega
      conv => cbv
      refine r_index m.sX (by omega) (by omega) fun v hx1A => ?_
      obtain ⟨x1A, x1B⟩ := v
      conv => cbv
      have hx1 := hx1A
      have mx1 := get_mem hx1
      have g5 := (g4 _ _ _ hv1).2
      try dsimp only at g5
      have g6 := monthsAt_some hx1
      try dsimp only at g6
      refine r_neqF m.sX ((by first | omega | assumption | exact decide_eq_true rfl | (subst_vars; omega))) ?_
      conv => cbv
      refine r_callBF m.sX (pIn_ok v i) (by exact decide_eq_false g3) ?_   -- h4
      conv => cbv
      refine r_addf m.sX (by omega) (by omega) fun r1 hr1 => ?_
      conv => cbv
      try have tr1 : Int.toNat r1 = Int.toNat i1 + 1 := by omega
      refine hE _ r1 ?_ ?_ ⟨(by (try dsimp only); first | omega | (simp only [List.length_nil]; omega)), (by (try dsimp only); first | omega | (simp only [List.length_nil]; omega))⟩ (by first | omega | (dsimp only; omega))
      · cbv
      · cbv
    · have dz_i1 := drop_end (xs := x) (i := Int.toNat i1) (by omega)
      have tz_i1 := take_end (xs := x) (i := Int.toNat i1) (by omega)
      refine hF _ _ ?_
      conv => cbv
      exact hE0 _ () (by cbv) (by cbv) trivial
  · have f4 := f2 rfl
    try dsimp only at f4
    refine r_callBT m.sX (sameInts_ok x x) (by first | omega | assumption | exact decide_eq_true rfl | (subst_vars; omega)) ?_   -- h5
    conv => cbv
    refine r_lenR m.sX fun n2 hn2 mn2 => ?_
    conv => cbv
    refine r_loopF (α := Int) m 343 [1, 22, 23, 190, 191, 192] [] (fun σ => [(1, .isl 1 (rows cU8 more)), (22, .isl 2 (rows cCraft u)), (23, .isl 1 (rows cInt v)), (190, .isl 1 (rows cInt x)), (191, .int .i64 n2), (192, .int .i64 σ)]) (fun σ => [])
      (fun σ => (0 ≤ σ) ∧ (σ ≤ n2)) (fun σ => (n2 - σ).toNat) 0 ?_ ?_ ?_ ?_
    · cbv
    · cbv
    · exact ⟨(by (try dsimp only); first | omega | (simp only [List.length_nil]; omega)), (by (try dsimp only); first | omega | (simp only [List.length_nil]; omega))⟩
    rintro i2 ⟨lo2, hi2⟩ E hE F hF
    conv => cbv
    refine r_lss m.sX (fun h6 => ?_) (fun h6 => ?_) <;> conv => cbv
    · refine r_index m.sX (by omega) (by omega) fun i_2 hi_2 => ?_
      conv => cbv
      have mi_2 := get_mem hi_2
      have di_2 := drop_cons hi_2
      have ki_2 := take_snoc hi_2
      have ji_2 : (i2 + 1).toNat = Int.toNat i2 + 1 := by omega
      have vi_2 := nth_some hi_2
      refine .inl (r_callFO (lic 3 1 cInt) m.sX ((learnOne_ok u v i_2 (by omega)).ok (flat_lic flat_cInt)) fun v hv2 => ?_)
      obtain ⟨v2, time_2, five_2⟩ := v
      conv => cbv
      try dsimp only at hv2
      obtain rfl : five_2 = true := by first | exact (g4 _ _ _ hv1).1 | omega
      conv => cbv
      refine r_index m.sX (by omega) (by omega) fun v hx2A => ?_
      obtain ⟨x2A, x2B⟩ := v
      conv => cbv
      have hx2 := hx2A
      have mx2 := get_mem hx2
      refine r_neqF m.sX ((by first | omega | assumption | exact decide_eq_true rfl | (subst_vars; omega))) ?_
      conv => cbv
      refine r_callBF m.sX (pIn_ok v i_2) (by first | omega | assumption | exact decide_eq_true rfl | (subst_vars; omega)) ?_   -- h8
      conv => cbv
      refine r_addf m.sX (by omega) (by omega) fun r2 hr2 => ?_
      conv => cbv
      try have tr2 : Int.toNat r2 = Int.toNat i2 + 1 := by omega
      refine hE _ r2 ?_ ?_ ⟨(by (try dsimp only); first | omega | (simp only [List.length_nil]; omega)), (by (try dsimp only); first | omega | (simp only [List.length_nil]; omega))⟩ (by first | omega | (dsimp only; omega))
      · cbv
      · cbv
    · have dz_i2 := drop_end (xs := x) (i := Int.toNat i2) (by omega)
      have tz_i2 := take_end (xs := x) (i := Int.toNat i2) (by omega)
      refine hF _ _ ?_
      conv => cbv
      exact hE0 _ () (by cbv) (by cbv) trivial

theorem crafts_part3 (m : Mach Try.prog G κ X Y L) (hQ : ∀ r, r = PV.bool true → Q r) (more : List Int) (h : CurIn more) (E0 : St → Prop)
    (hE0 : ∀ (s' : St) (a : Unit), headOk s' [] = true → Ai.norm [1] [] s' = St.at 343 (midCrafts more) [] → True → E0 s') :
    Ai.code X L G (front 5 (rest 5 (rest 9 (Try.f7.body.getD .skip)))) (fun e s' => match e with | .normal => E0 s' | .exit i => EndsIn (post G Try.f7.results.toList Q) (.exit i) s' | .ret => EndsIn (post G Try.f7.results.toList Q) .ret s') (St.at 343 (midCrafts more) []) := by
  conv => cbv
  refine r_callE m.sX ((drawLearnWithin_ok more h).iceE) ?_
  rintro _ ⟨_, ⟨w, s_, within, rfl, bw_1, bw_2⟩, rfl⟩
  conv => cbv
  refine r_callF (lbI 1 cInt) m.sX ((LearnWithin_ok w s_ within (by first | rfl | assumption | omega | (simp only [List.length_append, List.length_cons, List.length_nil] at *; omega))).ice) fun v hy => ?_
  obtain ⟨y, five⟩ := v
  conv => cbv
  obtain ⟨f1, f2⟩ := within_law hy
  refine r_callF (lbI 1 cInt) m.sX ((specLearnWithin_ok w s_ within (by first | rfl | assumption | omega | (simp only [List.length_append, List.length_cons, List.length_nil] at *; omega))).ice) fun y1 hy1 => ?_
  obtain rfl := hy.trans hy1.symm
  clear hy1
  conv => cbv
  rcases Bool.eq_false_or_eq_true five with rfl | rfl <;> conv => cbv
  · refine r_callBT m.sX (sameInts_ok y y) (by first | omega | assumption | exact decide_eq_true rfl | (subst_vars; omega)) ?_   -- h1
    conv => cbv
    refine r_callF (lic 3 1 cInt) m.sX (LearnInOrder_ok w s_ y (by first | rfl | assumption | omega | (simp only [List.length_append, List.length_cons, List.length_nil] at *; omega)) (by first | rfl | assumption | omega | (simp only [List.length_append, List.length_cons, List.length_nil] at *; omega))) fun v hv1 => ?_
    obtain ⟨v1, time, seven⟩ := v
    conv => cbv
    have f3 := (f2 rfl _ _ _ hv1).2
    obtain rfl : seven = true := by exact (f2 rfl _ _ _ hv1).1
    conv => cbv
    refine r_gtrF m.sX ((by first | omega | assumption | exact decide_eq_true rfl | (subst_vars; omega))) ?_
    conv => cbv
    exact hE0 _ () (by cbv) (by cbv) trivial
  · refine r_callBT m.sX (sameInts_ok y y) (by first | omega | assumption | exact decide_eq_true rfl | (subst_vars; omega)) ?_   -- h3
    conv => cbv
    exact hE0 _ () (by cbv) (by cbv) trivial

theorem crafts_part4 (m : Mach Try.prog G κ X Y L) (hQ : ∀ r, r = PV.bool true → Q r) (more : List Int) (h : CurIn more) :
    Ai.code X L G (rest 5 (rest 5 (rest 9 (Try.f7.body.getD .skip)))) (EndsIn (post G Try.f7.results.toList Q)) (St.at 343 (midCrafts more) []) := by
  conv => cbv
  refine r_callE m.sX ((drawLearnInOrder_ok more h).iceE) ?_
  rintro _ ⟨_, ⟨a, b, c, rfl, ba_1, ba_2, ba_3⟩, rfl⟩
  conv => cbv
  refine r_callF (lic 3 1 cInt) m.sX (LearnInOrder_ok a b c (by first | rfl | assumption | omega | (simp only [List.length_append, List.length_cons, List.length_nil] at *; omega)) (by first | rfl | assumption | omega | (simp only [List.length_append, List.length_cons, List.length_nil] at *; omega))) fun v hd => ?_
  obtain ⟨d, t, seven⟩ := v
  conv => cbv
  refine r_callF (licI 1 cInt) m.sX (specLearnInOrder_ok a b c (by first | rfl | assumption | omega | (simp only [List.length_append, List.length_cons, List.length_nil] at *; omega)) (by first | rfl | assumption | omega | (simp only [List.length_append, List.length_cons, List.length_nil] at *; omega))) fun y1 hy1 => ?_
  obtain rfl := hd.trans hy1.symm
  clear hy1
  conv => cbv
  refine r_callE m.sX ((drawIsLearnt_ok more h).iceE) ?_
  rintro _ ⟨_, ⟨e, f, rfl, be_1, be_2⟩, rfl⟩
  conv => cbv
  refine r_callF bb m.sX (IsLearnt_ok e f) fun v hg => ?_
  obtain ⟨g, nine⟩ := v
  conv => cbv
  refine r_callF bb m.sX (specIsLearnt_ok e f) fun y2 hy2 => ?_
  obtain rfl := hg.trans hy2.symm
  clear hy2
  conv => cbv
  rcases Bool.eq_false_or_eq_true seven with rfl | rfl <;> conv => cbv
  · have f1 := orderAns_len2 hd.symm
    refine .inl (r_callBTO m.sX ((sameInts_ok d d).ok flat_bool) (by first | omega | assumption | exact decide_eq_true rfl | (subst_vars; omega)) ?_)   -- h1
    conv => cbv
    refine r_eqlT m.sX ((by first | omega | assumption | exact decide_eq_true rfl | (subst_vars; omega))) ?_
    conv => cbv
    rcases Bool.eq_false_or_eq_true nine with rfl | rfl <;> conv => cbv
    · rcases Bool.eq_false_or_eq_true g with rfl | rfl <;> conv => cbv
      · refine r_lenR m.sX fun n1 hn1 mn1 => ?_
        conv => cbv
        refine r_lenR m.sX fun n2 hn2 mn2 => ?_
        conv => cbv
        refine r_lenR m.sX fun n3 hn3 mn3 => ?_
        conv => cbv
        refine r_addf m.sX (by omega) (by omega) fun r1 hr1 => ?_
        conv => cbv
        refine r_eqlT m.sX ((by first | omega | assumption | exact decide_eq_true rfl | (subst_vars; omega))) ?_
        conv => cbv
        exact hQ _ (congrArg PV.bool (by first | rfl | omega | (simp [*]; done) | (subst_vars; simp [*]; done)))   -- leaf 2
      · refine r_lenR m.sX fun n4 hn4 mn4 => ?_
        conv => cbv
        refine r_lenR m.sX fun n5 hn5 mn5 => ?_
        conv => cbv
        refine r_lenR m.sX fun n6 hn6 mn6 => ?_
        conv => cbv
        refine r_addf m.sX (by omega) (by omega) fun r2 hr2 => ?_
        conv => cbv
        refine r_eqlT m.sX ((by first | omega | assumption | exact decide_eq_true rfl | (subst_vars; omega))) ?_
        conv => cbv
        exact hQ _ (congrArg PV.bool (by first | rfl | omega | (simp [*]; done) | (subst_vars; simp [*]; done)))   -- leaf 3
    · rcases Bool.eq_false_or_eq_true g with rfl | rfl <;> conv => cbv
      · refine r_lenR m.sX fun n7 hn7 mn7 => ?_
        conv => cbv
        refine r_lenR m.sX fun n8 hn8 mn8 => ?_
        conv => cbv
        refine r_lenR m.sX fun n9 hn9 mn9 => ?_
        conv => cbv
        refine r_addf m.sX (by omega) (by omega) fun r3 hr3 => ?_
        conv => cbv
        refine r_eqlT m.sX ((by first | omega | assumption | exact decide_eq_true rfl | (subst_vars; omega))) ?_
        conv => cbv
        exact hQ _ (congrArg PV.bool (by first | rfl | omega | (simp [*]; done) | (subst_vars; simp [*]; done)))   -- leaf 4
      · refine r_lenR m.sX fun n10 hn10 mn10 => ?_
        conv => cbv
        refine r_lenR m.sX fun n11 hn11 mn11 => ?_
        conv => cbv
        refine r_lenR m.sX fun n12 hn12 mn12 => ?_
        conv => cbv
        refine r_addf m.sX (by omega) (by omega) fun r4 hr4 => ?_
        conv => cbv
        refine r_eqlT m.sX ((by first | omega | assumption | exact decide_eq_true rfl | (subst_vars; omega))) ?_
        conv => cbv
        exact hQ _ (congrArg PV.bool (by first | rfl | omega | (simp [*]; done) | (subst_vars; simp [*]; done)))   -- leaf 5
  · refine .inl (r_callBTO m.sX ((sameInts_ok d d).ok flat_bool) (by first | omega | assumption | exact decide_eq_true rfl | (subst_vars; omega)) ?_)   -- h7
    conv => cbv
    refine r_eqlT m.sX ((by first | omega | assumption | exact decide_eq_true rfl | (subst_vars; omega))) ?_
    conv => cbv
    rcases Bool.eq_false_or_eq_true nine with rfl | rfl <;> conv => cbv
    · rcases Bool.eq_false_or_eq_true g with rfl | rfl <;> conv => cbv
      · exact hQ _ (congrArg PV.bool (by first | rfl | omega | (simp [*]; done) | (subst_vars; simp [*]; done)))   -- leaf 6
      · exact hQ _ (congrArg PV.bool (by first | rfl | omega | (simp [*]; done) | (subst_vars; simp [*]; done)))   -- leaf 7
    · rcases Bool.eq_false_or_eq_true g with rfl | rfl <;> conv => cbv
      · exact hQ _ (congrArg PV.bool (by first | rfl | omega | (simp [*]; done) | (subst_vars; simp [*]; done)))   -- leaf 8
      · exact hQ _ (congrArg PV.bool (by first | rfl | omega | (simp [*]; done) | (subst_vars; simp [*]; done)))   -- leaf 9

end

theorem lawCrafts_ok (code more : List Int) (hf : ∀ x ∈ code, 0 ≤ x ∧ x ≤ 255) (hg : ∀ x ∈ more, 0 ≤ x ∧ x ≤ 255) : OkA Try.prog 7 [.isl 1 (rows cU8 code), .isl 1 (rows cU8 more)] (· = .bool true) :=
  fn_introW envOk fieldsOk mixed Try.func7 rfl (c := Try.f7.body.getD .skip) rfl fun κ X Y L Q m hQ =>
    W_cut m 9 343 [1] [] (fun _ : Unit => midCrafts more) (fun _ => []) (fun _ => (more.length : Int) ≤ 9223372036854775807) (crafts_part1 m hQ code more hf) fun _ hl =>
    W_cut m 5 343 [1] [] (fun _ : Unit => midCrafts more) (fun _ => []) (fun _ => True) (crafts_part2 m hQ more ⟨hl, hg⟩) fun _ _ =>
    W_cut m 5 343 [1] [] (fun _ : Unit => midCrafts more) (fun _ => []) (fun _ => True) (crafts_part3 m hQ more ⟨hl, hg⟩) fun _ _ =>
    W_last m (crafts_part4 m hQ more ⟨hl, hg⟩)


end Go.Proofs.Ytnamefdhmlbcpaa.Ai
