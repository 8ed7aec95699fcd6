/- The law FnCleanPages: its body returns true. -/
import Derived.Test.YtnanackogloioaaPageDraw
import Derived.Test.YtnanackogloioaaAiCut
namespace Go.Proofs.Ytnanackogloioaa.Ai
open Go Go.Proofs
set_option maxRecDepth 10000
set_option maxHeartbeats 4000000
set_option linter.unusedVariables false

theorem clean_ok {l : List SLine} {d : Int} {c : List Int} {b : Bool} (h : (c, b) = cleanF l d) : (okPg l d && decide (0 ≤ fewG l d 0)) = b := by
  unfold cleanF at h
  split at h <;> simp_all
theorem clean_val {l : List SLine} {d : Int} {c : List Int} (h : (c, true) = cleanF l d) : c = chainF (edgeB l d) l.length 0 := by
  have e := clean_ok h
  rw [cleanF, if_pos e] at h
  exact (Prod.mk.inj h).1
theorem pages_ok {l : List SLine} {d n : Int} {b : Bool} (h : (n, b) = pagesF l d) : okPg l d = b := by
  unfold pagesF at h
  split at h <;> simp_all
theorem pages_val {l : List SLine} {d n : Int} (h : (n, true) = pagesF l d) : n = grd d 0 l := by
  have e := pages_ok h
  rw [pagesF, if_pos e] at h
  exact (Prod.mk.inj h).1
theorem wid_ok {l : List SLine} {c w : List Int} {b : Bool} (h : (w, b) = widF l c) : okEnds l c = b := by
  unfold widF at h
  split at h <;> simp_all
theorem wid_val {l : List SLine} {c w : List Int} (h : (w, true) = widF l c) : w = markL (widowB l) 1 (c.take (c.length - 1)) := by
  have e := wid_ok h
  rw [widF, if_pos e] at h
  exact (Prod.mk.inj h).1
theorem orp_ok {l : List SLine} {c w : List Int} {b : Bool} (h : (w, b) = orpF l c) : okEnds l c = b := by
  unfold orpF at h
  split at h <;> simp_all
theorem orp_val {l : List SLine} {c w : List Int} (h : (w, true) = orpF l c) : w = markL (orphanB l) 0 c := by
  have e := orp_ok h
  rw [orpF, if_pos e] at h
  exact (Prod.mk.inj h).1
theorem dep_ok {l : List SLine} {c w : List Int} {b : Bool} (h : (w, b) = depF l c) : okEnds l c = b := by
  unfold depF at h
  split at h <;> simp_all
theorem dep_val {l : List SLine} {c w : List Int} (h : (w, true) = depF l c) : w = deepsL l 0 c := by
  have e := dep_ok h
  rw [depF, if_pos e] at h
  exact (Prod.mk.inj h).1
theorem not_ok {l : List SLine} {c w : List Int} {b : Bool} (h : (w, b) = notF l c) : okEnds l c = b := by
  unfold notF at h
  split at h <;> simp_all
theorem not_val {l : List SLine} {c w : List Int} (h : (w, true) = notF l c) : w = notesL l 0 c := by
  have e := not_ok h
  rw [notF, if_pos e] at h
  exact (Prod.mk.inj h).1
theorem chain_rising {E : Int → Int → Bool} {n i : Int} {c : List Int} (h : Chain E n i c) : ∀ (lo : Int) (p : Option Int), lo ≤ i + 1 → (∀ y, p = some y → y ≤ i) → rising lo n p c = true := by
  induction h with
  | nil => intro _ _ _ _; rfl
  | @cons j r i h1 h2 he hr ih =>
    intro lo p hlo hp
    rw [rising_cons, ih lo (some j) (by omega) fun y hy => by obtain rfl := Option.some.inj hy; exact Int.le_refl _]
    have e1 : inB j lo n = true := by simp [inB]; omega
    rw [e1]
    cases p with
    | none => rfl
    | some y => show ((true && decide (y < j)) && true) = true; rw [decide_eq_true (show y < j by have := hp y rfl; omega)]; rfl
/-- What is known of the ends of clean pages. -/
theorem clean_facts {l : List SLine} {d : Int} (h : okPg l d = true) (hf : 0 ≤ fewG l d 0) : Chain (edgeB l d) l.length 0 (chainF (edgeB l d) l.length 0) ∧ ((chainF (edgeB l d) l.length 0).length : Int) = fewG l d 0 ∧ okEnds l (chainF (edgeB l d) l.length 0) = true ∧ grd d 0 l ≤ fewG l d 0 := by
  obtain ⟨os, oh, ol, od, og⟩ := okPg_spec h
  have hc : Chain (edgeB l d) l.length 0 (chainF (edgeB l d) l.length 0) := chainE_chain (Int.le_refl 0) (by omega) hf (by omega)
  have hl := hc.last (by omega)
  refine ⟨hc, chainE_length (Int.le_refl 0) (by omega) hf (by omega), ?_, ?_⟩
  · rw [okEnds, og, decide_eq_true (by have := List.length_pos_iff.2 hl.1; omega), chain_rising hc 1 none (by omega) (fun y hy => by cases hy), decide_eq_true hl.2]; rfl
  · exact grd_path oh ((fewE_spec (edgeB l d) l.length 0).mem hf) (Int.le_refl 0) (by omega)
theorem clean_widows {l : List SLine} {d : Int} {c : List Int} (hc : Chain (edgeB l d) l.length 0 c) (he : okEnds l c = true) : markL (widowB l) 1 (c.take (c.length - 1)) = [] := by
  have oe := okEnds_spec he
  refine markL_none fun j hj => ?_
  obtain ⟨q, hq⟩ := List.getElem?_of_mem hj
  rw [List.getElem?_take] at hq
  split at hq
  · have hlt := (oe.early hq (by omega)).2
    obtain ⟨_, _, i', _, _, h3⟩ := hc.mem j (List.mem_of_getElem? hq)
    exact ((edge_split h3).2 hlt).2
  · cases hq
theorem clean_orphans {l : List SLine} {d : Int} {c : List Int} (hc : Chain (edgeB l d) l.length 0 c) : markL (orphanB l) 0 c = [] := by
  refine markL_none fun j hj => ?_
  obtain ⟨_, h2, i', _, _, h3⟩ := hc.mem j hj
  rcases Int.lt_or_le j l.length with h | h
  · exact ((edge_split h3).2 h).1
  · exact orphan_end l (by omega)
theorem notes_all {l : List SLine} {c : List Int} (he : okEnds l c = true) : (notesL l 0 c).sum = noteN l := by
  have oe := okEnds_spec he
  have hp := oe.pos
  rw [notes_sum (Int.le_refl 0) oe.le oe.up (fun e => by rw [e] at hp; simp at hp), oe.last, List.take_of_length_le (by omega)]; rfl

noncomputable abbrev midCleanPages (more : List Int) : List (Nat × PV) := [(1, .isl 1 (rows cU8 more))]

section
variable {κ : Ctx} {X Y : Req → (PV → Prop) → Prop} {L : Code → (Ex → St → Prop) → St → Prop} {Q : PV → Prop}

theorem cleanPages_part1 (m : Mach Try.prog G κ X Y L) (hQ : ∀ r, r = PV.bool true → Q r) (code more : List Int) (hf : ∀ x ∈ code, 0 ≤ x ∧ x ≤ 255) (E0 : St → Prop)
    (hE0 : ∀ (s' : St) (a : Unit), headOk s' [] = true → Ai.norm [1] [] s' = St.at 289 (midCleanPages more) [] → (more.length : Int) ≤ 9223372036854775807 → E0 s') :
    Ai.code X L G (front 8 (Try.f6.body.getD .skip)) (fun e s' => match e with | .normal => E0 s' | .exit i => EndsIn (post G Try.f6.results.toList Q) (.exit i) s' | .ret => EndsIn (post G Try.f6.results.toList Q) .ret s') (start 289 [.isl 1 (rows cU8 code), .isl 1 (rows cU8 more)] []) := by
  conv => cbv
  refine r_lenR m.sX fun n1 hn1 mn1 => ?_
  conv => cbv
  refine r_lenR m.sX fun n2 hn2 mn2 => ?_
  conv => cbv
  refine r_add m.sX fun r1 hr1 => ?_
  conv => cbv
  refine r_gtr m.sX (fun h1 => ?_) (fun h1 => ?_) <;> conv => cbv
  · exact hQ _ (congrArg PV.bool (by first | rfl | omega | (simp [*]; done) | (subst_vars; simp [*]; done)))   -- leaf 1
  · have h : CurIn code := ⟨by omega, hf⟩
    have hmr : (more.length : Int) ≤ 9223372036854775807 := by omega
    refine r_callE m.sX ((drawCleanPages_ok code h).iceE) ?_
    rintro _ ⟨_, ⟨l, depth, rfl, bl_1, bl_2⟩, rfl⟩
    have hp1 : ∀ x ∈ l, -1000 ≤ x.2.2 ∧ x.2.2 ≤ 1000 := fun x hx => by have := bl_2 x hx; omega
    have hs1 : ∀ x ∈ l, -100000 ≤ x.1 + x.2.1 ∧ x.1 + x.2.1 ≤ 100000 := fun x hx => by have := bl_2 x hx; omega
    have hl1 : (l.length : Int) ≤ 1000 := by omega
    conv => cbv
    refine r_callF (lbI 1 cInt) m.sX ((CleanPages_ok l depth (by first | rfl | assumption | omega | (simp only [List.length_append, List.length_cons, List.length_nil] at *; omega)) (by first | rfl | assumption | omega | (simp only [List.length_append, List.length_cons, List.length_nil] at *; omega)) (by first | rfl | assumption | omega | (simp only [List.length_append, List.length_cons, List.length_nil] at *; omega))).ice) fun v hc => ?_
    obtain ⟨c, ok⟩ := v
    conv => cbv
    have o1 := clean_ok hc
    refine r_callF (lbI 1 cInt) m.sX ((specCleanPages_ok l depth (by first | rfl | assumption | omega | (simp only [List.length_append, List.length_cons, List.length_nil] at *; omega)) (by first | rfl | assumption | omega | (simp only [List.length_append, List.length_cons, List.length_nil] at *; omega))).ice) fun y1 hy1 => ?_
    obtain rfl := hc.trans hy1.symm
    clear hy1
    conv => cbv
    refine r_callF ib m.sX (PagesOfGalley_ok l depth (by first | rfl | assumption | omega | (simp only [List.length_append, List.length_cons, List.length_nil] at *; omega)) (by first | rfl | assumption | omega | (simp only [List.length_append, List.length_cons, List.length_nil] at *; omega)) (by first | rfl | assumption | omega | (simp only [List.length_append, List.length_cons, List.length_nil] at *; omega))) fun v hn => ?_
    obtain ⟨n, one⟩ := v
    conv => cbv
    rcases Bool.eq_false_or_eq_true ok with rfl | rfl <;> conv => cbv
    · have p1 : okPg l depth = true := by rw [Bool.and_eq_true] at o1; exact o1.1
      have p2 : 0 ≤ fewG l depth 0 := by rw [Bool.and_eq_true] at o1; exact of_decide_eq_true o1.2
      have cv := clean_val hc
      obtain ⟨f1, f2, f3, f4⟩ := clean_facts p1 p2
      rw [← cv] at f1 f2 f3
      refine r_callBT m.sX (qInts_ok c c) (by first | assumption | exact decide_eq_true rfl | (simp [*]; done) | omega) ?_   -- h2
      conv => cbv
      obtain rfl : one = true := by exact (pages_ok hn).symm.trans p1
      conv => cbv
      refine r_lenR m.sX fun n3 hn3 mn3 => ?_
      conv => cbv
      refine r_lssF m.sX ((by have := pages_val hn; omega)) ?_
      conv => cbv
      refine r_callF (lbI 1 cInt) m.sX ((WidowsOf_ok l c (by first | rfl | assumption | omega | (simp only [List.length_append, List.length_cons, List.length_nil] at *; omega)) (by first | rfl | assumption | omega | (simp only [List.length_append, List.length_cons, List.length_nil] at *; omega))).ice) fun v hw => ?_
      obtain ⟨w, two⟩ := v
      conv => cbv
      refine r_callF (lbI 1 cInt) m.sX ((OrphansOf_ok l c (by first | rfl | assumption | omega | (simp only [List.length_append, List.length_cons, List.length_nil] at *; omega)) (by first | rfl | assumption | omega | (simp only [List.length_append, List.length_cons, List.length_nil] at *; omega))).ice) fun v ho => ?_
      obtain ⟨o, three⟩ := v
      conv => cbv
      refine r_callF (lbI 1 cInt) m.sX ((PageDepths_ok l c (by first | rfl | assumption | omega | (simp only [List.length_append, List.length_cons, List.length_nil] at *; omega)) (by first | rfl | assumption | omega | (simp only [List.length_append, List.length_cons, List.length_nil] at *; omega))).ice) fun v hd => ?_
      obtain ⟨d, four⟩ := v
      conv => cbv
      obtain rfl : two = true := by exact (wid_ok hw).symm.trans f3
      conv => cbv
      have wn : w = [] := (wid_val hw).trans (clean_widows f1 f3)
      refine r_lenR m.sX fun n4 hn4 mn4 => ?_
      conv => cbv
      refine r_gtrF m.sX ((by rw [wn] at hn4; simp at hn4; omega)) ?_
      conv => cbv
      obtain rfl : three = true := by exact (orp_ok ho).symm.trans f3
      conv => cbv
      have on : o = [] := (orp_val ho).trans (clean_orphans f1)
      refine r_lenR m.sX fun n5 hn5 mn5 => ?_
      conv => cbv
      refine r_gtrF m.sX ((by rw [on] at hn5; simp at hn5; omega)) ?_
      conv => cbv
      obtain rfl : four = true := by exact (dep_ok hd).symm.trans f3
      conv => cbv
      have dv := dep_val hd
      refine r_lenR m.sX fun n6 hn6 mn6 => ?_
      conv => cbv
      refine r_loopF (α := Int) m 289 [1, 6, 132, 133, 134] [] (fun σ => [(1, .isl 1 (rows cU8 more)), (6, .int .i64 depth), (132, .isl 1 (rows cInt d)), (133, .int .i64 n6), (134, .int .i64 σ)]) (fun σ => [])
        (fun σ => (0 ≤ σ) ∧ (σ ≤ n6)) (fun σ => (n6 - σ).toNat) 0 ?_ ?_ ?_ ?_
      · cbv
      · cbv
      · exact ⟨(by (try dsimp only); first | omega | (simp only [List.length_nil]; omega)), (by (try dsimp only); first | omega | (simp only [List.length_nil]; omega))⟩
      rintro i1 ⟨lo1, hi1⟩ E hE F hF
      conv => cbv
      refine r_lss m.sX (fun h6 => ?_) (fun h6 => ?_) <;> conv => cbv
      · refine r_index m.sX (by omega) (by omega) fun x hx => ?_
        conv => cbv
        have mx := get_mem hx
        have dx := drop_cons hx
        have kx := take_snoc hx
        have jx : (i1 + 1).toNat = Int.toNat i1 + 1 := by omega
        have vx := nth_some hx
        have xb := f1.deeps x (by rw [← dv]; exact mx)
        refine r_gtrF m.sX ((by omega)) ?_
        conv => cbv
        refine r_addf m.sX (by omega) (by omega) fun r2 hr2 => ?_
        conv => cbv
        have tr2 : Int.toNat r2 = Int.toNat i1 + 1 := by omega
        refine hE _ r2 ?_ ?_ ⟨(by (try dsimp only); first | omega | (simp only [List.length_nil]; omega)), (by (try dsimp only); first | omega | (simp only [List.length_nil]; omega))⟩ (by first | omega | (dsimp only; omega))
        · cbv
        · cbv
      · have dz_i1 := drop_end (xs := d) (i := Int.toNat i1) (by omega)
        have tz_i1 := take_end (xs := d) (i := Int.toNat i1) (by omega)
        refine hF _ _ ?_
        conv => cbv
        exact hE0 _ () (by cbv) (by cbv) hmr
    · refine r_callBT m.sX (qInts_ok c c) (by first | assumption | exact decide_eq_true rfl | (simp [*]; done) | omega) ?_   -- h8
      conv => cbv
      exact hE0 _ () (by cbv) (by cbv) hmr

theorem cleanPages_part2 (m : Mach Try.prog G κ X Y L) (hQ : ∀ r, r = PV.bool true → Q r) (more : List Int) (h : CurIn more) :
    Ai.code X L G (rest 8 (Try.f6.body.getD .skip)) (EndsIn (post G Try.f6.results.toList Q)) (St.at 289 (midCleanPages more) []) := by
  conv => cbv
  refine r_callE m.sX ((drawWidowsOf_ok more h).iceE) ?_
  rintro _ ⟨_, ⟨u, ends, rfl, bu_1, bu_2, bu_3⟩, rfl⟩
  have hp2 : ∀ x ∈ u, -1000 ≤ x.2.2 ∧ x.2.2 ≤ 1000 := fun x hx => by have := bu_2 x hx; omega
  have hl2 : (u.length : Int) ≤ 1000 := by omega
  conv => cbv
  refine r_callF (lbI 1 cInt) m.sX ((WidowsOf_ok u ends (by first | rfl | assumption | omega | (simp only [List.length_append, List.length_cons, List.length_nil] at *; omega)) (by first | rfl | assumption | omega | (simp only [List.length_append, List.length_cons, List.length_nil] at *; omega))).ice) fun v hw => ?_
  obtain ⟨w, two⟩ := v
  conv => cbv
  have ow := wid_ok hw
  refine r_callF (lbI 1 cInt) m.sX ((specWidowsOf_ok u ends (by first | rfl | assumption | omega | (simp only [List.length_append, List.length_cons, List.length_nil] at *; omega)) (by first | rfl | assumption | omega | (simp only [List.length_append, List.length_cons, List.length_nil] at *; omega))).ice) fun y1 hy1 => ?_
  obtain rfl := hw.trans hy1.symm
  clear hy1
  conv => cbv
  refine r_callF (lbI 1 cInt) m.sX ((OrphansOf_ok u ends (by first | rfl | assumption | omega | (simp only [List.length_append, List.length_cons, List.length_nil] at *; omega)) (by first | rfl | assumption | omega | (simp only [List.length_append, List.length_cons, List.length_nil] at *; omega))).ice) fun v ho => ?_
  obtain ⟨o, four⟩ := v
  conv => cbv
  refine r_callF (lbI 1 cInt) m.sX ((specOrphansOf_ok u ends (by first | rfl | assumption | omega | (simp only [List.length_append, List.length_cons, List.length_nil] at *; omega)) (by first | rfl | assumption | omega | (simp only [List.length_append, List.length_cons, List.length_nil] at *; omega))).ice) fun y2 hy2 => ?_
  obtain rfl := ho.trans hy2.symm
  clear hy2
  conv => cbv
  refine r_callF (lbI 1 cInt) m.sX ((NotesOnPages_ok u ends (by first | rfl | assumption | omega | (simp only [List.length_append, List.length_cons, List.length_nil] at *; omega)) (by first | rfl | assumption | omega | (simp only [List.length_append, List.length_cons, List.length_nil] at *; omega))).ice) fun v hk => ?_
  obtain ⟨k, six⟩ := v
  conv => cbv
  refine r_callF (lbI 1 cInt) m.sX ((specNotesOnPages_ok u ends (by first | rfl | assumption | omega | (simp only [List.length_append, List.length_cons, List.length_nil] at *; omega)) (by first | rfl | assumption | omega | (simp only [List.length_append, List.length_cons, List.length_nil] at *; omega))).ice) fun y3 hy3 => ?_
  obtain rfl := hk.trans hy3.symm
  clear hy3
  conv => cbv
  refine r_callF (lbI 1 cInt) m.sX ((PageDepths_ok u ends (by first | rfl | assumption | omega | (simp only [List.length_append, List.length_cons, List.length_nil] at *; omega)) (by first | rfl | assumption | omega | (simp only [List.length_append, List.length_cons, List.length_nil] at *; omega))).ice) fun v hd => ?_
  obtain ⟨d, eight⟩ := v
  conv => cbv
  refine r_callF (lbI 1 cInt) m.sX ((specPageDepths_ok u ends (by first | rfl | assumption | omega | (simp only [List.length_append, List.length_cons, List.length_nil] at *; omega)) (by first | rfl | assumption | omega | (simp only [List.length_append, List.length_cons, List.length_nil] at *; omega))).ice) fun y4 hy4 => ?_
  obtain rfl := hd.trans hy4.symm
  clear hy4
  conv => cbv
  rcases Bool.eq_false_or_eq_true two with rfl | rfl <;> conv => cbv
  · have oe := okEnds_spec ow
    have op := oe.pos
    refine r_callBT m.sX (qInts_ok w w) (by first | assumption | exact decide_eq_true rfl | (simp [*]; done) | omega) ?_   -- h1
    conv => cbv
    obtain rfl : four = true := by exact (orp_ok ho).symm.trans ow
    conv => cbv
    refine r_callBT m.sX (qInts_ok o o) (by first | assumption | exact decide_eq_true rfl | (simp [*]; done) | omega) ?_   -- h2
    conv => cbv
    obtain rfl : six = true := by exact (not_ok hk).symm.trans ow
    conv => cbv
    refine r_callBT m.sX (qInts_ok k k) (by first | assumption | exact decide_eq_true rfl | (simp [*]; done) | omega) ?_   -- h3
    conv => cbv
    obtain rfl : eight = true := by exact (dep_ok hd).symm.trans ow
    conv => cbv
    refine r_callBT m.sX (qInts_ok d d) (by first | assumption | exact decide_eq_true rfl | (simp [*]; done) | omega) ?_   -- h4
    conv => cbv
    refine r_lenR m.sX fun n1 hn1 mn1 => ?_
    conv => cbv
    have kv := not_val hk
    have kl : k.length = ends.length := by rw [kv, notesL_length]
    have sf : SumFits k := sumfits_of 40 (fun z hz => by obtain ⟨q, hq⟩ := List.getElem?_of_mem hz; have := notes_bound (m := u.length) oe.few (c := ends) (k := 0) q; rw [List.take_length, ← kv, nth_some hq] at this; omega) (by omega)
    refine r_loopF (α := Int × Int) m 289 [22, 25, 29, 33, 39, 253, 254, 255] [] (fun σ => [(22, .isl 1 (rows cInt ends)), (25, .isl 1 (rows cInt w)), (29, .isl 1 (rows cInt o)), (33, .isl 1 (rows cInt k)), (39, .int .i64 σ.1), (253, .isl 3 (rows cSetLine u)), (254, .int .i64 n1), (255, .int .i64 σ.2)]) (fun σ => [])
      (fun σ => (0 ≤ σ.2) ∧ (σ.2 ≤ n1) ∧ (σ.1 = noteN (u.take σ.2.toNat)) ∧ (0 ≤ σ.1 ∧ σ.1 ≤ σ.2)) (fun σ => (n1 - σ.2).toNat) (0, 0) ?_ ?_ ?_ ?_
    · cbv
    · cbv
    · exact ⟨(by (try dsimp only); first | omega | (simp only [List.length_nil]; omega)), (by (try dsimp only); first | omega | (simp only [List.length_nil]; omega)), (by (try dsimp only) <;> first | omega | rfl | (simp [*]; done)), (by (try dsimp only) <;> first | omega | rfl | (simp [*]; done))⟩
    rintro ⟨all, i1⟩ ⟨lo2, hi2, q, b⟩ E hE F hF
    dsimp only at lo2 hi2 q b
    conv => cbv
    refine r_lss m.sX (fun h5 => ?_) (fun h5 => ?_) <;> conv => cbv
    · refine r_index m.sX (by omega) (by omega) fun v hxA => ?_
      obtain ⟨xA, xB, xC⟩ := v
      conv => cbv
      have hx := hxA
      have mx := get_mem hx
      have dx := drop_cons hx
      have kx := take_snoc hx
      have jx : (i1 + 1).toNat = Int.toNat i1 + 1 := by omega
      refine r_gtr m.sX (fun h6 => ?_) (fun h6 => ?_) <;> conv => cbv
      · have nt : noteN (u.take (Int.toNat i1 + 1)) = noteN (u.take (Int.toNat i1)) + 1 := noteN_take hx (by show (if 0 < xB then (1 : Int) else 0) = 1; rw [if_pos (by omega)])
        refine r_addf m.sX (by omega) (by omega) fun all_2 hall_2 => ?_
        conv => cbv
        refine r_addf m.sX (by omega) (by omega) fun r1 hr1 => ?_
        conv => cbv
        have tr1 : Int.toNat r1 = Int.toNat i1 + 1 := by omega
        refine hE _ (all_2, r1) ?_ ?_ ⟨(by (try dsimp only); first | omega | (simp only [List.length_nil]; omega)), (by (try dsimp only); first | omega | (simp only [List.length_nil]; omega)), (by (try dsimp only) <;> (rw [tr1, nt, ← q]; omega)), (by (try dsimp only) <;> first | omega | rfl | (simp [*]; done) | (rw [b]; simp [*]; done))⟩ (by first | omega | (dsimp only; omega))
        · cbv
        · cbv
      · have nt : noteN (u.take (Int.toNat i1 + 1)) = noteN (u.take (Int.toNat i1)) + 0 := noteN_take hx (by show (if 0 < xB then (1 : Int) else 0) = 0; rw [if_neg (by omega)])
        refine r_addf m.sX (by omega) (by omega) fun r2 hr2 => ?_
        conv => cbv
        have tr2 : Int.toNat r2 = Int.toNat i1 + 1 := by omega
        refine hE _ (all, r2) ?_ ?_ ⟨(by (try dsimp only); first | omega | (simp only [List.length_nil]; omega)), (by (try dsimp only); first | omega | (simp only [List.length_nil]; omega)), (by (try dsimp only) <;> (rw [tr2, nt, ← q]; omega)), (by (try dsimp only) <;> first | omega | rfl | (simp [*]; done) | (rw [b]; simp [*]; done))⟩ (by first | omega | (dsimp only; omega))
        · cbv
        · cbv
    · have dz_i1 := drop_end (xs := u) (i := Int.toNat i1) (by omega)
      have tz_i1 := take_end (xs := u) (i := Int.toNat i1) (by omega)
      refine hF _ _ ?_
      conv => cbv
      refine r_callF (PV.int .i64) m.sX (qSum_ok k (by first | rfl | assumption | omega | (simp only [List.length_append, List.length_cons, List.length_nil] at *; omega))) fun r3 hr3 => ?_
      conv => cbv
      try dsimp only at hr3
      refine r_eqlT m.sX ((by rw [hr3, kv, notes_all ow, q, tz_i1])) ?_
      conv => cbv
      refine r_lenR m.sX fun n2 hn2 mn2 => ?_
      conv => cbv
      refine r_lenR m.sX fun n3 hn3 mn3 => ?_
      conv => cbv
      refine r_eqlT m.sX ((by omega)) ?_
      conv => cbv
      refine r_callBF m.sX (qHas_ok w 0) (by rw [wid_val hw]; exact decide_eq_false fun e => by have := (markL_mem e).1; omega) ?_   -- h9
      conv => cbv
      refine r_lenR m.sX fun n4 hn4 mn4 => ?_
      conv => cbv
      refine r_subf m.sX (by omega) (by omega) fun r4 hr4 => ?_
      conv => cbv
      refine r_callBF m.sX (qHas_ok o r4) (by rw [orp_val ho]; exact decide_eq_false fun e => by have := (markL_mem e).2.2; rw [show (r4 - 0).toNat = ends.length - 1 by omega, oe.last, orphan_end u rfl] at this; cases this) ?_   -- h10
      conv => cbv
      exact hQ _ (congrArg PV.bool (by first | rfl | omega | (simp [*]; done) | (subst_vars; simp [*]; done) | (rw [q]; simp [*]; done) | (rw [b]; simp [*]; done)))   -- leaf 2
  · refine r_callBT m.sX (qInts_ok w w) (by first | assumption | exact decide_eq_true rfl | (simp [*]; done) | omega) ?_   -- h11
    conv => cbv
    obtain rfl : four = false := by exact (orp_ok ho).symm.trans ow
    conv => cbv
    refine r_callBT m.sX (qInts_ok o o) (by first | assumption | exact decide_eq_true rfl | (simp [*]; done) | omega) ?_   -- h12
    conv => cbv
    obtain rfl : six = false := by exact (not_ok hk).symm.trans ow
    conv => cbv
    refine r_callBT m.sX (qInts_ok k k) (by first | assumption | exact decide_eq_true rfl | (simp [*]; done) | omega) ?_   -- h13
    conv => cbv
    obtain rfl : eight = false := by exact (dep_ok hd).symm.trans ow
    conv => cbv
    refine r_callBT m.sX (qInts_ok d d) (by first | assumption | exact decide_eq_true rfl | (simp [*]; done) | omega) ?_   -- h14
    conv => cbv
    exact hQ _ (congrArg PV.bool (by first | rfl | omega | (simp [*]; done) | (subst_vars; simp [*]; done)))   -- leaf 3

end

theorem lawCleanPages_ok (code more : List Int) (hf : ∀ x ∈ code, 0 ≤ x ∧ x ≤ 255) (hg : ∀ x ∈ more, 0 ≤ x ∧ x ≤ 255) : OkA Try.prog 6 [.isl 1 (rows cU8 code), .isl 1 (rows cU8 more)] (· = .bool true) :=
  fn_introW envOk fieldsOk mixed Try.func6 rfl (c := Try.f6.body.getD .skip) rfl fun κ X Y L Q m hQ =>
    W_cut m 8 289 [1] [] (fun _ : Unit => midCleanPages more) (fun _ => []) (fun _ => (more.length : Int) ≤ 9223372036854775807) (cleanPages_part1 m hQ code more hf) fun _ hl =>
    W_last m (cleanPages_part2 m hQ more ⟨hl, hg⟩)

end Go.Proofs.Ytnanackogloioaa.Ai
