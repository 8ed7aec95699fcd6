/- The law FnCastOrders: its body returns true. -/
import Derived.Test.YtjmjepdlclehoaaBestS
import Derived.Test.YtjmjepdlclehoaaCastDraw
import Derived.Test.YtjmjepdlclehoaaAiCut
namespace Go.Proofs.Ytjmjepdlclehoaa.Ai
open Go Go.Proofs
set_option linter.unusedSimpArgs false
set_option maxRecDepth 10000
set_option maxHeartbeats 4000000
set_option linter.unusedVariables false
theorem specBestCastOrder_ok (m_ : CMach) (l : List Casting)  : OkA Try.prog 26 [.agg (cMachine m_), .isl 2 (rows cCasting l)] (· = (licI 1 cInt) (bestAns m_ l)) := by
  obtain ⟨m_A, m_B, m_C⟩ := m_
  try dsimp only at *
  exact OkA.iceI 1 (fn_intro envOk fieldsOk mixed Try.func26 rfl fun κ X Y L Q m hQ => by
    conv => cbv
    refine r_callB m.sX (csMachine_ok (m_A, m_B, m_C)) (fun h1 => ?_) (fun h1 => ?_) <;> conv => cbv
    · refine r_callB m.sX (csGood_ok l) (fun h2 => ?_) (fun h2 => ?_) <;> conv => cbv
      · refine r_lenR m.sX fun n1 hn1 mn1 => ?_
        conv => cbv
        refine r_eql m.sX (fun h3 => ?_) (fun h3 => ?_) <;> conv => cbv
        · exact hQ (.tup [.nil, .int .i64 0, .bool true]) (Eq.trans (by first | rfl | (simp only [lic, licI, lb, lbI, rows_cons, rows_nil, unnilT, unnil, unnilTI, unnilI]; done) | (simp only [lic, licI, lb, lbI, rows_cons, rows_nil, unnilT, unnil, unnilTI, unnilI]; rfl)) (congrArg ((licI 1 cInt)) (show ([], 0, true) = bestAns (m_A, m_B, m_C) l from by rw [bestAns, h1, h2, List.length_eq_zero_iff.1 (show l.length = 0 by omega)]; rfl)))   -- leaf 1
        · refine r_callF (liI 1 cInt) m.sX (csBest_ok (m_A, m_B, m_C) l (by assumption) (by assumption) (by omega)) fun v hbest => ?_
          obtain ⟨best, least⟩ := v
          conv => cbv
          try dsimp only at hbest
          exact hQ (.tup [.isl 1 (rows cInt best), .int .i64 least, .bool true]) (Eq.trans (by first | rfl | (simp only [lic, licI, lb, lbI, rows_cons, rows_nil, unnilT, unnil, unnilTI, unnilI]; done) | (simp only [lic, licI, lb, lbI, rows_cons, rows_nil, unnilT, unnil, unnilTI, unnilI]; rfl)) (congrArg ((licI 1 cInt)) (show (best, least, true) = bestAns (m_A, m_B, m_C) l from by rw [bestAns, h1, h2, ← hbest]; rfl)))   -- leaf 2
      · exact hQ (.tup [.nil, .int .i64 0, .bool false]) (Eq.trans (by first | rfl | (simp only [lic, licI, lb, lbI, rows_cons, rows_nil, unnilT, unnil, unnilTI, unnilI]; done) | (simp only [lic, licI, lb, lbI, rows_cons, rows_nil, unnilT, unnil, unnilTI, unnilI]; rfl)) (congrArg ((licI 1 cInt)) (show ([], 0, false) = bestAns (m_A, m_B, m_C) l from by simp [bestAns, *])))   -- leaf 3
    · exact hQ (.tup [.nil, .int .i64 0, .bool false]) (Eq.trans (by first | rfl | (simp only [lic, licI, lb, lbI, rows_cons, rows_nil, unnilT, unnil, unnilTI, unnilI]; done) | (simp only [lic, licI, lb, lbI, rows_cons, rows_nil, unnilT, unnil, unnilTI, unnilI]; rfl)) (congrArg ((licI 1 cInt)) (show ([], 0, false) = bestAns (m_A, m_B, m_C) l from by simp [bestAns, *]))))   -- leaf 4

/-- How a run goes on. -/
def RunS (m : CMach) (l : List Casting) (order ends : List Int) (time changes : Int) (k : Nat) (last sum : Int) : Prop :=
  ∃ b ch : Int, endsG m l b last (order.drop k) = ends.drop k ∧ lastG m l b last (order.drop k) = time ∧ changes = ch + chgG l b (order.drop k) ∧ last = sum + ch * m.2.2
theorem RunS.zero {m : CMach} {l : List Casting} {order ends : List Int} {time changes : Int} (h1 : ends = endsG m l m.1 0 order) (h2 : time = timeF m l order) (h3 : changes = chgG l m.1 order) : RunS m l order ends time changes 0 0 0 :=
  ⟨m.1, 0, by rw [h1]; rfl, by rw [h2]; rfl, by rw [h3]; simp, by simp⟩
theorem RunS.next {m : CMach} {l : List Casting} {order ends : List Int} {time changes : Int} {k : Nat} {last sum i : Int} {x : Casting} (hm : okM m = true) (h : RunS m l order ends time changes k last sum) (hi : order[k]? = some i) (hx : l[i.toNat]? = some x) :
    ∃ e, ends[k]? = some e ∧ last + timeC m x ≤ e ∧ RunS m l order ends time changes (k + 1) e (sum + timeC m x) := by
  obtain ⟨b, ch, h1, h2, h3, h4⟩ := h
  rw [drop_cons hi, endsG, castAt_some hx] at h1
  rw [drop_cons hi, lastG, castAt_some hx] at h2
  rw [drop_cons hi, chgG, castAt_some hx] at h3
  have he : ends[k]? = some (stepT m l b last i) := by
    have := congrArg List.head? h1
    rw [List.head?_drop] at this
    exact this.symm
  have hq := okM_spec hm
  have hs : stepT m l b last i = last + (if x.1 = b then 0 else m.2.2) + timeC m x := by rw [stepT, castAt_some hx]
  refine ⟨_, he, ?_, x.1, ch + (if x.1 = b then 0 else 1), ?_, h2, by omega, ?_⟩
  · rw [hs]; split <;> omega
  · rw [drop_cons he] at h1
    exact (List.cons.inj h1).2
  · rw [hs, h4]
    split
    · rw [Int.add_zero, Int.add_zero]; omega
    · rw [Int.add_mul, Int.one_mul]; omega
theorem RunS.done {m : CMach} {l : List Casting} {order ends : List Int} {time changes : Int} {k : Nat} {last sum : Int} (h : RunS m l order ends time changes k last sum) (hk : order.length ≤ k) : last = time ∧ time = sum + changes * m.2.2 := by
  obtain ⟨b, ch, -, h2, h3, h4⟩ := h
  rw [List.drop_of_length_le hk] at h2 h3
  simp only [lastG, chgG] at h2 h3
  have : changes = ch := by omega
  subst this
  exact ⟨h2, by omega⟩
theorem chg_bound (l : List Casting) : ∀ (o : List Int) (b : Int), 0 ≤ chgG l b o ∧ chgG l b o ≤ o.length
  | [], _ => by simp [chgG]
  | i :: r, b => by
    have := chg_bound l r (castAt l i).1
    rw [chgG]
    simp only [List.length_cons]
    split <;> omega
theorem ends_take (m : CMach) (l : List Casting) : ∀ (o : List Int) (b t : Int) (d : Nat), endsG m l b t (o.take d) = (endsG m l b t o).take d
  | [], _, _, d => by simp [endsG]
  | i :: r, b, t, 0 => by simp [endsG]
  | i :: r, b, t, d + 1 => by rw [List.take_succ_cons, endsG, endsG, List.take_succ_cons, ends_take m l r]
theorem ends_sorted {m : CMach} {l : List Casting} (hm : okM m = true) (hl : okAll l) : ∀ (o : List Int) (b t : Int), (endsG m l b t o).Pairwise (fun x y => x ≤ y) ∧ ∀ e ∈ endsG m l b t o, t ≤ e
  | [], _, _ => ⟨.nil, (fun e he => by cases he)⟩
  | i :: r, b, t => by
    obtain ⟨h1, h2⟩ := ends_sorted hm hl r (castAt l i).1 (stepT m l b t i)
    have h3 := timeC_pos hm (hl i)
    have h4 := okM_spec hm
    have h5 : t ≤ stepT m l b t i := by unfold stepT; split <;> omega
    rw [endsG]
    refine ⟨List.pairwise_cons.2 ⟨h2, h1⟩, fun e he => ?_⟩
    rcases List.mem_cons.1 he with rfl | he
    · exact h5
    · have := h2 e he; omega
theorem done_at {minutes : Int} : ∀ {es : List Int}, es.Pairwise (fun x y => x ≤ y) → ∀ (k : Nat) (e : Int), k < (es.filter fun e => decide (e ≤ minutes)).length → es[k]? = some e → e ≤ minutes
  | [], _, k, e, hk, _ => by simp at hk
  | x :: r, h, k, e, hk, he => by
    obtain ⟨h1, h2⟩ := List.pairwise_cons.1 h
    by_cases hx : x ≤ minutes
    · rw [List.filter_cons, if_pos (decide_eq_true hx)] at hk
      cases k with
      | zero => simp at he; omega
      | succ k => exact done_at h2 k e (by simpa using hk) (by simpa using he)
    · rw [List.filter_cons, if_neg (by simpa using hx)] at hk
      have : (r.filter fun e => decide (e ≤ minutes)) = [] := List.filter_eq_nil_iff.2 fun y hy => by have := h1 y hy; simp; omega
      rw [this] at hk; simp at hk
theorem done_facts {m : CMach} {l : List Casting} {o : List Int} {minutes d : Int} (h : (d, true) = doneAns m l o minutes) : okM m = true ∧ okCs l = true ∧ fineB l.length o = true ∧ 0 ≤ d ∧ d ≤ o.length ∧ (0 < d → timeF m l (o.take d.toNat) ≤ minutes) := by
  unfold doneAns at h
  split at h
  · rename_i hc
    simp only [Bool.and_eq_true] at hc
    obtain ⟨h1, h2, h3⟩ := askB_spec hc.1
    obtain ⟨hd, -⟩ := Prod.mk.inj h
    have hle : (((endsG m l m.1 0 o).filter fun e => decide (e ≤ minutes)).length : Int) ≤ o.length := by
      have := List.length_filter_le (fun e => decide (e ≤ minutes)) (endsG m l m.1 0 o)
      rw [endsG_length] at this
      omega
    have hdn : d = (((endsG m l m.1 0 o).filter fun e => decide (e ≤ minutes)).length : Int) := hd
    refine ⟨h1, h2, h3, by omega, by omega, fun h0 => ?_⟩
    have hlen := endsG_length m l o m.1 0
    obtain ⟨e, he⟩ : ∃ e, (endsG m l m.1 0 o)[d.toNat - 1]? = some e := ⟨_, List.getElem?_eq_getElem (by omega)⟩
    have := done_at (minutes := minutes) (ends_sorted h1 (okAll_of h2) o m.1 0).1 (d.toNat - 1) e (by omega) he
    rw [timeF, lastG_last, ends_take, List.getLast?_eq_getElem?, List.length_take, List.getElem?_take, if_pos (by omega), show min d.toNat (endsG m l m.1 0 o).length - 1 = d.toNat - 1 by omega, he]
    exact this
  · simp at h
theorem best_facts {m : CMach} {l : List Casting} {o : List Int} {t : Int} (h : (o, t, true) = bestAns m l) : okM m = true ∧ okCs l = true ∧ fineB l.length o = true ∧ t = timeF m l o ∧ ∀ p, Diff l.length p → p.length = l.length → t ≤ timeF m l p := by
  unfold bestAns at h
  split at h
  · rename_i hc
    simp only [Bool.and_eq_true] at hc
    obtain ⟨h1, h2, h3, h4⟩ := bestO_spec hc.1 (okAll_of hc.2)
    obtain ⟨a1, a2⟩ := Prod.mk.inj h
    obtain ⟨a3, a4⟩ := Prod.mk.inj a2
    subst a1; subst a3
    exact ⟨hc.1, hc.2, fineB_diff.2 h1, h3, h4⟩
  · simp at h
theorem time_both {m : CMach} {l : List Casting} {o : List Int} {t : Int} {b : Bool} (h : (t, b) = timeAns m l o) : b = askB m l o ∧ (b = true → t = timeF m l o) := by
  unfold timeAns at h
  split at h
  · rename_i hc; rw [hc]; exact ⟨(Prod.mk.inj h).2, fun _ => (Prod.mk.inj h).1⟩
  · rename_i hc; rw [Bool.not_eq_true] at hc; rw [hc]; exact ⟨(Prod.mk.inj h).2, fun e => by rw [(Prod.mk.inj h).2] at e; cases e⟩
theorem ends_both {m : CMach} {l : List Casting} {o e : List Int} {b : Bool} (h : (e, b) = endsAns m l o) : b = askB m l o ∧ (b = true → e = endsG m l m.1 0 o) := by
  unfold endsAns at h
  split at h
  · rename_i hc; rw [hc]; exact ⟨(Prod.mk.inj h).2, fun _ => (Prod.mk.inj h).1⟩
  · rename_i hc; rw [Bool.not_eq_true] at hc; rw [hc]; exact ⟨(Prod.mk.inj h).2, fun e => by rw [(Prod.mk.inj h).2] at e; cases e⟩
theorem chg_both {m : CMach} {l : List Casting} {o : List Int} {c : Int} {b : Bool} (h : (c, b) = chgAns m l o) : b = askB m l o ∧ (b = true → c = chgG l m.1 o) := by
  unfold chgAns at h
  split at h
  · rename_i hc; rw [hc]; exact ⟨(Prod.mk.inj h).2, fun _ => (Prod.mk.inj h).1⟩
  · rename_i hc; rw [Bool.not_eq_true] at hc; rw [hc]; exact ⟨(Prod.mk.inj h).2, fun e => by rw [(Prod.mk.inj h).2] at e; cases e⟩
theorem best_of_ask {m : CMach} {l : List Casting} {o b : List Int} {n : Int} {five : Bool} (ha : askB m l o = true) (h : (b, n, five) = bestAns m l) : five = true := by
  obtain ⟨h1, h2, -⟩ := askB_spec ha
  rw [bestAns, h1, h2] at h
  exact (Prod.mk.inj (Prod.mk.inj h).2).2
theorem time_at2 {m : CMach} {l : List Casting} {o : List Int} {t : Int} {b : Bool} (hm : okM m = true) (hl : okCs l = true) (ho : fineB l.length o = true) (h : (t, b) = timeAns m l o) : t = timeF m l o ∧ b = true := by
  rw [timeAns, askB, hm, hl, ho] at h
  exact Prod.mk.inj h
theorem cast_true {m : CMach} {x : Casting} {t : Int} {b : Bool} (hm : okM m = true) (hx : okX x = true) (h : (t, b) = if okM m && okX x then (timeC m x, true) else (0, false)) : t = timeC m x ∧ b = true := by
  rw [hm, hx] at h
  exact Prod.mk.inj h
noncomputable abbrev midCastOrders (more : List Int) : List (Nat × PV) := [(1, .isl 1 (rows cU8 more))]

section
variable {κ : Ctx} {X Y : Req → (PV → Prop) → Prop} {L : Code → (Ex → St → Prop) → St → Prop} {Q : PV → Prop}

theorem castOrders_part1 (m : Mach Try.prog G κ X Y L) (hQ : ∀ r, r = PV.bool true → Q r) (code more : List Int) (hf : ∀ x ∈ code, 0 ≤ x ∧ x ≤ 255) (E0 : St → Prop)
    (hE0 : ∀ (s' : St) (a : Unit), headOk s' [] = true → Ai.norm [1] [] s' = St.at 346 (midCastOrders more) [] → (more.length : Int) ≤ 9223372036854775807 → E0 s') :
    Ai.code X L G (front 14 (Try.f4.body.getD .skip)) (fun e s' => match e with | .normal => E0 s' | .exit i => EndsIn (post G Try.f4.results.toList Q) (.exit i) s' | .ret => EndsIn (post G Try.f4.results.toList Q) .ret s') (start 346 [.isl 1 (rows cU8 code), .isl 1 (rows cU8 more)] []) := by
  conv => cbv
  refine r_callB m.sX (big_ok code more) (fun h1 => ?_) (fun h1 => ?_) <;> conv => cbv
  · exact hQ _ (congrArg PV.bool (by first | rfl | omega | (simp [*]; done) | (subst_vars; simp [*]; done)))   -- leaf 1
  · rw [Bool.or_eq_false_iff, decide_eq_false_iff_not, decide_eq_false_iff_not] at h1
    have h : CurIn code := ⟨by omega, hf⟩
    have hmr : (more.length : Int) ≤ 9223372036854775807 := by omega
    refine r_callE m.sX ((drawOrderTime_ok code h).iceE) ?_
    rintro _ ⟨_, ⟨⟨m_A, m_B, m_C⟩, l, order, rfl, bm__1, bm__2⟩, rfl⟩
    conv => cbv
    refine r_callF ib m.sX (OrderTime_ok (m_A, m_B, m_C) l order) fun v ht => ?_
    obtain ⟨t, ok⟩ := v
    conv => cbv
    try dsimp only at ht
    have F1 := time_both ht
    try dsimp only at F1
    refine r_callF ib m.sX (specOrderTime_ok (m_A, m_B, m_C) l order) fun y1 hy1 => ?_
    obtain rfl := ht.trans hy1.symm
    clear hy1
    conv => cbv
    refine r_callF (lbI 1 cInt) m.sX ((EndsOf_ok (m_A, m_B, m_C) l order).ice) fun v he => ?_
    obtain ⟨e, one⟩ := v
    conv => cbv
    try dsimp only at he
    have F2 := ends_both he
    try dsimp only at F2
    refine r_callF (lbI 1 cInt) m.sX ((specEndsOf_ok (m_A, m_B, m_C) l order).ice) fun y2 hy2 => ?_
    obtain rfl := he.trans hy2.symm
    clear hy2
    conv => cbv
    refine r_callF ib m.sX (ChangesIn_ok (m_A, m_B, m_C) l order) fun v hc => ?_
    obtain ⟨c, three⟩ := v
    conv => cbv
    try dsimp only at hc
    have F3 := chg_both hc
    try dsimp only at F3
    refine r_callF ib m.sX (specChangesIn_ok (m_A, m_B, m_C) l order) fun y3 hy3 => ?_
    obtain rfl := hc.trans hy3.symm
    clear hy3
    conv => cbv
    refine r_callF (licI 1 cInt) m.sX ((BestCastOrder_ok (m_A, m_B, m_C) l).ice) fun v hb => ?_
    obtain ⟨b, n, five⟩ := v
    conv => cbv
    try dsimp only at hb
    refine r_callF (licI 1 cInt) m.sX (specBestCastOrder_ok (m_A, m_B, m_C) l) fun y4 hy4 => ?_
    obtain rfl := hb.trans hy4.symm
    clear hy4
    conv => cbv
    rcases Bool.eq_false_or_eq_true ok with rfl | rfl <;> conv => cbv
    · have ask : askB (m_A, m_B, m_C) l order = true := F1.1.symm
      obtain ⟨g1, g2, g3⟩ := askB_spec ask
      have tv := F1.2 rfl
      try dsimp only at tv
      refine r_neqF m.sX (by first | omega | rfl) ?_
      conv => cbv
      obtain rfl : one = true := by exact F2.1.trans F1.1.symm
      conv => cbv
      refine r_callBT m.sX (sameInts_ok e e) (by first | assumption | exact decide_eq_true rfl | (simp [*]; done) | omega) ?_   -- h3
      conv => cbv
      obtain rfl : three = true := by exact F3.1.trans F1.1.symm
      conv => cbv
      refine r_neqF m.sX (by first | omega | rfl) ?_
      conv => cbv
      obtain rfl : five = true := by exact best_of_ask ask hb
      conv => cbv
      obtain ⟨b1, b2, b3, b4, b5⟩ := best_facts hb
      refine r_callBT m.sX (sameInts_ok b b) (by first | assumption | exact decide_eq_true rfl | (simp [*]; done) | omega) ?_   -- h5
      conv => cbv
      refine r_neqF m.sX (by first | omega | rfl) ?_
      conv => cbv
      refine r_lenR m.sX fun n1 hn1 mn1 => ?_
      conv => cbv
      have ev := F2.2 rfl
      try dsimp only at ev
      have cv := F3.2 rfl
      try dsimp only at cv
      have elen : e.length = order.length := by rw [ev, endsG_length]
      obtain ⟨b1, b2, b3, b4, b5⟩ := best_facts hb
      have ol := diff_len _ _ (fineB_diff.1 g3)
      try dsimp only at ol
      have ll := okCs_len g2
      try dsimp only at ll
      refine r_loopF (α := Int × Int × Int) m 346 [1, 6, 7, 10, 14, 18, 20, 22, 24, 26, 27, 178, 179, 180] [⟨5, 41, 0, 0, 0⟩] (fun σ => [(1, .isl 1 (rows cU8 more)), (5, .optr 41 0 3 0 0), (6, .isl 2 (rows cCasting l)), (7, .isl 1 (rows cInt order)), (10, .int .i64 t), (14, .isl 1 (rows cInt e)), (18, .int .i64 c), (20, .isl 1 (rows cInt b)), (22, .bool true), (24, .int .i64 n), (26, .int .i64 σ.1), (27, .int .i64 σ.2.1), (178, .isl 1 (rows cInt order)), (179, .int .i64 n1), (180, .int .i64 σ.2.2)]) (fun σ => [(41, 0, .box [.int .i64 m_A, .int .i64 m_B, .int .i64 m_C])])
        (fun σ => (0 ≤ σ.2.2) ∧ (σ.2.2 ≤ n1) ∧ (RunS (m_A, m_B, m_C) l order e t c σ.2.2.toNat σ.1 σ.2.1) ∧ (0 ≤ σ.2.1 ∧ σ.2.1 ≤ 6010000 * σ.2.2) ∧ (0 ≤ σ.1 ∧ σ.1 ≤ 56000000)) (fun σ => (n1 - σ.2.2).toNat) (0, 0, 0) ?_ ?_ ?_ ?_
      · cbv
      · cbv
      · exact ⟨(by (try dsimp only); first | omega | (simp only [List.length_nil]; omega) | (simp only [List.length_cons, List.length_nil]; omega)), (by (try dsimp only); first | omega | (simp only [List.length_nil]; omega) | (simp only [List.length_cons, List.length_nil]; omega)), (by (try dsimp only) <;> (exact RunS.zero ev tv cv)), (by (try dsimp only) <;> first | omega | rfl | (simp [*]; done)), (by (try dsimp only) <;> first | omega | rfl | (simp [*]; done))⟩
      rintro ⟨last, sum, i1⟩ ⟨lo1, hi1, rs, sb, lb⟩ E hE F hF
      dsimp only at lo1 hi1 rs sb lb
      conv => cbv
      refine r_lss m.sX (fun h7 => ?_) (fun h7 => ?_) <;> conv => cbv
      · refine r_index m.sX (by omega) (by omega) fun i hi => ?_
        conv => cbv
        have mi := get_mem hi
        have di := drop_cons hi
        have ki := take_snoc hi
        have ji : (i1 + 1).toNat = Int.toNat i1 + 1 := by omega
        have vi := nth_some hi
        have bi := (fineB_iff.1 g3).2 i mi
        try dsimp only at bi
        refine r_draw m (by kernel_rfl) ?_
        conv => cbv
        refine r_index m.sY (by omega) (by omega) fun v hx1A => ?_
        obtain ⟨x1A, x1B⟩ := v
        conv => cbv
        have hx1 := hx1A
        have mx1 := get_mem hx1
        have xk := okCs_mem g2 mx1
        try dsimp only at xk
        have xb := timeC_bound g1 xk
        try dsimp only at xb
        obtain ⟨e3, he3, hle, hrs⟩ := RunS.next g1 rs hi hx1
        refine r_callFS ib m.sY (CastTime_ok (m_A, m_B, m_C) (x1A, x1B)) (by first | trivial | exact noFr_tup2 trivial trivial | exact noFr_tup3 trivial trivial trivial) fun v hminutes => ?_
        obtain ⟨minutes, seven⟩ := v
        conv => cbv
        try dsimp only at hminutes
        obtain ⟨mv, sv⟩ := cast_true g1 xk hminutes
        obtain rfl : seven = true := by first | assumption | (simp [*]; done) | omega
        conv => cbv
        refine r_index m.sX (by omega) (by omega) fun x2 hx2 => ?_
        conv => cbv
        have mx2 := get_mem hx2
        have dx2 := drop_cons hx2
        have kx2 := take_snoc hx2
        have jx2 : (i1 + 1).toNat = Int.toNat i1 + 1 := by omega
        have vx2 := nth_some hx2
        have e4 : e3 = x2 := Option.some.inj (he3.symm.trans hx2)
        rw [e4] at hle hrs
        have eb := (ends_fits ask).2.1 x2 (by rw [← ev]; exact get_mem hx2)
        try dsimp only at eb
        refine r_addf m.sX (by omega) (by omega) fun r1 hr1 => ?_
        conv => cbv
        refine r_lssF m.sX (by first | omega | rfl) ?_
        conv => cbv
        refine r_index m.sX (by omega) (by omega) fun last_2 hlast_2 => ?_
        conv => cbv
        have mlast_2 := get_mem hlast_2
        have dlast_2 := drop_cons hlast_2
        have klast_2 := take_snoc hlast_2
        have jlast_2 : (i1 + 1).toNat = Int.toNat i1 + 1 := by omega
        have vlast_2 := nth_some hlast_2
        obtain rfl : x2 = last_2 := Option.some.inj (hx2.symm.trans hlast_2)
        refine r_addf m.sX (by omega) (by omega) fun sum_2 hsum_2 => ?_
        conv => cbv
        refine r_addf m.sX (by omega) (by omega) fun r2 hr2 => ?_
        conv => cbv
        try have tr2 : Int.toNat r2 = Int.toNat i1 + 1 := by omega
        refine hE _ (x2, sum_2, r2) ?_ ?_ ⟨(by (try dsimp only); first | omega | (simp only [List.length_nil]; omega) | (simp only [List.length_cons, List.length_nil]; omega)), (by (try dsimp only); first | omega | (simp only [List.length_nil]; omega) | (simp only [List.length_cons, List.length_nil]; omega)), (by (try dsimp only) <;> (rw [tr2, hsum_2, mv]; exact hrs)), (by (try dsimp only) <;> first | omega | rfl | (simp [*]; done) | (rw [sb]; simp [*]; done)), (by (try dsimp only) <;> first | omega | rfl | (simp [*]; done) | (rw [lb]; simp [*]; done))⟩ (by first | omega | (dsimp only; omega))
        · cbv
        · cbv
      · obtain ⟨d1, d2⟩ := rs.done (by omega)
        have cb := chg_bound l order m_A
        try dsimp only at cb
        have mq := okM_spec g1
        try dsimp only at mq
        have tb := timeF_bound ask
        try dsimp only at tb
        rw [← tv] at tb
        have cv2 : c = chgG l m_A order := cv
        try dsimp only at d2 mq
        have mb := mul_bound (a := c) (b := m_C) (A := 8) (B := 600) (by omega) (by omega) mq.2.2.1 mq.2.2.2
        try dsimp only at mb
        have dz_i1 := drop_end (xs := order) (i := Int.toNat i1) (by omega)
        have tz_i1 := take_end (xs := order) (i := Int.toNat i1) (by omega)
        refine hF _ _ ?_
        conv => cbv
        refine r_neqF m.sX (by first | omega | rfl) ?_
        conv => cbv
        refine r_mulf m.sX (by first | omega | (subst_vars; omega)) (by first | omega | (subst_vars; omega)) fun r3 hr3 => ?_
        conv => cbv
        refine r_addf m.sX (by omega) (by omega) fun r4 hr4 => ?_
        conv => cbv
        refine r_neqF m.sX (by first | omega | rfl) ?_
        conv => cbv
        refine r_lenR m.sX fun n2 hn2 mn2 => ?_
        conv => cbv
        refine r_lenR m.sX fun n3 hn3 mn3 => ?_
        conv => cbv
        refine r_eql m.sX (fun h11 => ?_) (fun h11 => ?_) <;> conv => cbv
        · have bo := b5 order (fineB_diff.1 g3) (by omega)
          try dsimp only at bo
          rw [← tv] at bo
          refine r_lssF m.sX (by first | omega | rfl) ?_
          conv => cbv
          refine r_callF ib m.sX (OrderTime_ok (m_A, m_B, m_C) l b) fun v hown => ?_
          obtain ⟨own, seven_2⟩ := v
          conv => cbv
          try dsimp only at hown
          obtain ⟨ow, sv⟩ := time_at2 b1 b2 b3 hown
          obtain rfl : seven_2 = true := by first | assumption | (simp [*]; done) | omega
          conv => cbv
          refine r_neqF m.sX (by first | omega | rfl) ?_
          conv => cbv
          refine r_callBT m.sX (IsMachine_ok (m_A, m_B, m_C)) (by first | assumption | exact decide_eq_true rfl | (simp [*]; done) | omega) ?_   -- h14
          conv => cbv
          refine r_callBT m.sX (AreCastings_ok l) (by first | assumption | exact decide_eq_true rfl | (simp [*]; done) | omega) ?_   -- h15
          conv => cbv
          exact hE0 _ () (by cbv) (by cbv) hmr
        · refine r_callF ib m.sX (OrderTime_ok (m_A, m_B, m_C) l b) fun v hown_2 => ?_
          obtain ⟨own_2, seven_3⟩ := v
          conv => cbv
          try dsimp only at hown_2
          obtain ⟨ow, sv⟩ := time_at2 b1 b2 b3 hown_2
          obtain rfl : seven_3 = true := by first | assumption | (simp [*]; done) | omega
          conv => cbv
          refine r_neqF m.sX (by first | omega | rfl) ?_
          conv => cbv
          refine r_callBT m.sX (IsMachine_ok (m_A, m_B, m_C)) (by first | assumption | exact decide_eq_true rfl | (simp [*]; done) | omega) ?_   -- h17
          conv => cbv
          refine r_callBT m.sX (AreCastings_ok l) (by first | assumption | exact decide_eq_true rfl | (simp [*]; done) | omega) ?_   -- h18
          conv => cbv
          exact hE0 _ () (by cbv) (by cbv) hmr
    · refine r_neqF m.sX (by first | omega | rfl) ?_
      conv => cbv
      obtain rfl : one = false := by exact F2.1.trans F1.1.symm
      conv => cbv
      refine r_callBT m.sX (sameInts_ok e e) (by first | assumption | exact decide_eq_true rfl | (simp [*]; done) | omega) ?_   -- h20
      conv => cbv
      obtain rfl : three = false := by exact F3.1.trans F1.1.symm
      conv => cbv
      refine r_neqF m.sX (by first | omega | rfl) ?_
      conv => cbv
      rcases Bool.eq_false_or_eq_true five with rfl | rfl <;> conv => cbv
      · obtain ⟨b1, b2, b3, b4, b5⟩ := best_facts hb
        refine r_callBT m.sX (sameInts_ok b b) (by first | assumption | exact decide_eq_true rfl | (simp [*]; done) | omega) ?_   -- h22
        conv => cbv
        refine r_neqF m.sX (by first | omega | rfl) ?_
        conv => cbv
        refine r_callF ib m.sX (OrderTime_ok (m_A, m_B, m_C) l b) fun v hown_3 => ?_
        obtain ⟨own_3, seven_4⟩ := v
        conv => cbv
        try dsimp only at hown_3
        obtain ⟨ow, sv⟩ := time_at2 b1 b2 b3 hown_3
        obtain rfl : seven_4 = true := by first | assumption | (simp [*]; done) | omega
        conv => cbv
        refine r_neqF m.sX (by first | omega | rfl) ?_
        conv => cbv
        refine r_callBT m.sX (IsMachine_ok (m_A, m_B, m_C)) (by first | assumption | exact decide_eq_true rfl | (simp [*]; done) | omega) ?_   -- h25
        conv => cbv
        refine r_callBT m.sX (AreCastings_ok l) (by first | assumption | exact decide_eq_true rfl | (simp [*]; done) | omega) ?_   -- h26
        conv => cbv
        exact hE0 _ () (by cbv) (by cbv) hmr
      · refine r_callBT m.sX (sameInts_ok b b) (by first | assumption | exact decide_eq_true rfl | (simp [*]; done) | omega) ?_   -- h27
        conv => cbv
        refine r_neqF m.sX (by first | omega | rfl) ?_
        conv => cbv
        exact hE0 _ () (by cbv) (by cbv) hmr

theorem castOrders_part2 (m : Mach Try.prog G κ X Y L) (hQ : ∀ r, r = PV.bool true → Q r) (more : List Int) (h : CurIn more) :
    Ai.code X L G (rest 14 (Try.f4.body.getD .skip)) (EndsIn (post G Try.f4.results.toList Q)) (St.at 346 (midCastOrders more) []) := by
  conv => cbv
  refine r_callE m.sX ((drawDoneBy_ok more h).iceE) ?_
  rintro _ ⟨_, ⟨⟨uA, uB, uC⟩, v, w, minutes, rfl, bu_1, bu_2⟩, rfl⟩
  conv => cbv
  refine r_callF ib m.sX (DoneBy_ok (uA, uB, uC) v w minutes) fun v hd => ?_
  obtain ⟨d, seven⟩ := v
  conv => cbv
  try dsimp only at hd
  refine r_callF ib m.sX (specDoneBy_ok (uA, uB, uC) v w minutes) fun y1 hy1 => ?_
  obtain rfl := hd.trans hy1.symm
  clear hy1
  conv => cbv
  refine r_callF iib m.sX (MeanEnd_ok (uA, uB, uC) v w) fun v hs_ => ?_
  obtain ⟨s_, k, nine⟩ := v
  conv => cbv
  try dsimp only at hs_
  refine r_callF iib m.sX (specMeanEnd_ok (uA, uB, uC) v w) fun y2 hy2 => ?_
  obtain rfl := hs_.trans hy2.symm
  clear hy2
  conv => cbv
  rcases Bool.eq_false_or_eq_true seven with rfl | rfl <;> conv => cbv
  · obtain ⟨k1, k2, k3, k4, k5, k6⟩ := done_facts hd
    refine r_neqF m.sX (by first | omega | rfl) ?_
    conv => cbv
    rcases Bool.eq_false_or_eq_true nine with rfl | rfl <;> conv => cbv
    · refine r_neqF m.sX (by first | omega | rfl) ?_
      conv => cbv
      refine r_neqF m.sX (by first | omega | rfl) ?_
      conv => cbv
      refine r_gtr m.sX (fun h4 => ?_) (fun h4 => ?_) <;> conv => cbv
      · refine r_draw m (by kernel_rfl) ?_
        conv => cbv
        refine r_islice (i := 0) (j := d) m.sY (by omega) (by omega) (by omega) fun zs1 hzs1 => ?_   -- zs1 = w[None:d]
        have lzs1 : (zs1.length : Int) = d - 0 := by rw [hzs1]; first | done | (simp; done) | (simp; omega)
        have zq : zs1 = w.take d.toNat := by rw [hzs1]; simp
        have zf : fineB v.length zs1 = true := by rw [zq]; exact fine_take k3 _
        have tl := k6 (by omega)
        try dsimp only at tl
        conv => cbv
        refine r_callFS ib m.sY (OrderTime_ok (uA, uB, uC) v zs1) (by first | trivial | exact noFr_tup2 trivial trivial | exact noFr_tup3 trivial trivial trivial) fun v htime => ?_
        obtain ⟨time, eleven⟩ := v
        conv => cbv
        try dsimp only at htime
        obtain ⟨tv, ev⟩ := time_at2 k1 k2 zf htime
        rw [← zq, ← tv] at tl
        obtain rfl : eleven = true := by first | assumption | (simp [*]; done) | omega
        conv => cbv
        refine r_leqT m.sX (by first | omega | rfl) ?_
        conv => cbv
        exact hQ _ (congrArg PV.bool (by first | rfl | omega | (simp [*]; done) | (subst_vars; simp [*]; done)))   -- leaf 2
      · exact hQ _ (congrArg PV.bool (by first | rfl | omega | (simp [*]; done) | (subst_vars; simp [*]; done)))   -- leaf 3
    · refine r_neqF m.sX (by first | omega | rfl) ?_
      conv => cbv
      refine r_neqF m.sX (by first | omega | rfl) ?_
      conv => cbv
      refine r_gtr m.sX (fun h8 => ?_) (fun h8 => ?_) <;> conv => cbv
      · refine r_draw m (by kernel_rfl) ?_
        conv => cbv
        refine r_islice (i := 0) (j := d) m.sY (by omega) (by omega) (by omega) fun zs2 hzs2 => ?_   -- zs2 = w[None:d]
        have lzs2 : (zs2.length : Int) = d - 0 := by rw [hzs2]; first | done | (simp; done) | (simp; omega)
        have zq : zs2 = w.take d.toNat := by rw [hzs2]; simp
        have zf : fineB v.length zs2 = true := by rw [zq]; exact fine_take k3 _
        have tl := k6 (by omega)
        try dsimp only at tl
        conv => cbv
        refine r_callFS ib m.sY (OrderTime_ok (uA, uB, uC) v zs2) (by first | trivial | exact noFr_tup2 trivial trivial | exact noFr_tup3 trivial trivial trivial) fun v htime_2 => ?_
        obtain ⟨time_2, eleven_2⟩ := v
        conv => cbv
        try dsimp only at htime_2
        obtain ⟨tv, ev⟩ := time_at2 k1 k2 zf htime_2
        rw [← zq, ← tv] at tl
        obtain rfl : eleven_2 = true := by first | assumption | (simp [*]; done) | omega
        conv => cbv
        refine r_leqT m.sX (by first | omega | rfl) ?_
        conv => cbv
        exact hQ _ (congrArg PV.bool (by first | rfl | omega | (simp [*]; done) | (subst_vars; simp [*]; done)))   -- leaf 4
      · exact hQ _ (congrArg PV.bool (by first | rfl | omega | (simp [*]; done) | (subst_vars; simp [*]; done)))   -- leaf 5
  · refine r_neqF m.sX (by first | omega | rfl) ?_
    conv => cbv
    rcases Bool.eq_false_or_eq_true nine with rfl | rfl <;> conv => cbv
    · refine r_neqF m.sX (by first | omega | rfl) ?_
      conv => cbv
      refine r_neqF m.sX (by first | omega | rfl) ?_
      conv => cbv
      exact hQ _ (congrArg PV.bool (by first | rfl | omega | (simp [*]; done) | (subst_vars; simp [*]; done)))   -- leaf 6
    · refine r_neqF m.sX (by first | omega | rfl) ?_
      conv => cbv
      refine r_neqF m.sX (by first | omega | rfl) ?_
      conv => cbv
      exact hQ _ (congrArg PV.bool (by first | rfl | omega | (simp [*]; done) | (subst_vars; simp [*]; done)))   -- leaf 7

end

theorem lawCastOrders_ok (code more : List Int) (hf : ∀ x ∈ code, 0 ≤ x ∧ x ≤ 255) (hg : ∀ x ∈ more, 0 ≤ x ∧ x ≤ 255) : OkA Try.prog 4 [.isl 1 (rows cU8 code), .isl 1 (rows cU8 more)] (· = .bool true) :=
  fn_introW envOk fieldsOk mixed Try.func4 rfl (c := Try.f4.body.getD .skip) rfl fun κ X Y L Q m hQ =>
    W_cut m 14 346 [1] [] (fun _ : Unit => midCastOrders more) (fun _ => []) (fun _ => (more.length : Int) ≤ 9223372036854775807) (castOrders_part1 m hQ code more hf) fun _ hl =>
    W_last m (castOrders_part2 m hQ more ⟨hl, hg⟩)

end Go.Proofs.Ytjmjepdlclehoaa.Ai
