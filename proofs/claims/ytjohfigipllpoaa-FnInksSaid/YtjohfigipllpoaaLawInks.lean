/- The law FnInks: its body returns true. -/
import Derived.Test.YtjohfigipllpoaaInkDraw
import Derived.Test.YtjohfigipllpoaaInkC
import Derived.Test.YtjohfigipllpoaaAiCut
namespace Go.Proofs.Ytjohfigipllpoaa.Ai
open Go Go.Proofs
set_option linter.unusedSimpArgs false
set_option maxRecDepth 10000
set_option maxHeartbeats 4000000
set_option linter.unusedVariables false
theorem swap_fact {x y : Inked} {b : Bool} (e : (y, b) = swapA x) : okInked x = b ∧ (b = true → y = swF x) := by
  unfold swapA at e
  split at e
  · rename_i h
    obtain ⟨h1, h2⟩ := Prod.mk.inj e
    exact ⟨h.trans h2.symm, fun _ => h1⟩
  · rename_i h
    obtain ⟨h1, h2⟩ := Prod.mk.inj e
    exact ⟨by rw [h2]; simpa using h, fun hb => by rw [h2] at hb; cases hb⟩
theorem text_fact {x : Inked} {t : List UInt8} {b : Bool} (e : (t, b) = textA x) : okInked x = b ∧ (b = true → t = zipU upC x.1 x.2) := by
  unfold textA at e
  split at e
  · rename_i h
    obtain ⟨h1, h2⟩ := Prod.mk.inj e
    exact ⟨h.trans h2.symm, fun _ => h1⟩
  · rename_i h
    obtain ⟨h1, h2⟩ := Prod.mk.inj e
    exact ⟨by rw [h2]; simpa using h, fun hb => by rw [h2] at hb; cases hb⟩
theorem cnt_fact {x : Inked} {k f : List UInt8} {n : Int} {b c : Bool} (e1 : (n, b) = countA x k) (e2 : (f, c) = formeA x k) : b = c := by
  unfold countA at e1
  unfold formeA at e2
  split at e1 <;> rename_i h
  · rw [if_pos h] at e2; rw [(Prod.mk.inj e1).2, (Prod.mk.inj e2).2]
  · rw [if_neg h] at e2; rw [(Prod.mk.inj e1).2, (Prod.mk.inj e2).2]
theorem strs_eq {p q : Inked} (h : p = q) : [PV.str p.1, PV.str p.2] = [PV.str q.1, PV.str q.2] := by rw [h]
theorem InkedText_ok (x : Inked)  : OkA Try.prog 7 [.agg (cInked x)] (· = sb (textA x)) := by
  obtain ⟨xA, xB⟩ := x
  try dsimp only at *
  exact fn_intro envOk fieldsOk mixed Try.func7 rfl fun κ X Y L Q m hQ => by
    conv => cbv
    refine r_callB m.sX (IsInked_ok (xA, xB)) (fun h1 => ?_) (fun h1 => ?_) <;> conv => cbv
    · refine r_callF .str m.sX (inkedText_ok (xA, xB) (by assumption)) fun v1 hv1 => ?_
      conv => cbv
      try dsimp only at hv1
      exact hQ (.tup [.str v1, .bool true]) (Eq.trans (by first | rfl | (simp only [lb, lbI, rows_cons, rows_nil, unnilT, unnil, unnilTI, unnilI]; done) | (simp only [lb, lbI, rows_cons, rows_nil, unnilT, unnil, unnilTI, unnilI]; rfl)) (congrArg (sb) (show (v1, true) = textA (xA, xB) from by rw [textA, if_pos h1, hv1])))   -- leaf 1
    · exact hQ (.tup [.str ([] : List UInt8), .bool false]) (Eq.trans (by first | rfl | (simp only [lb, lbI, rows_cons, rows_nil, unnilT, unnil, unnilTI, unnilI]; done) | (simp only [lb, lbI, rows_cons, rows_nil, unnilT, unnil, unnilTI, unnilI]; rfl)) (congrArg (sb) (show (([] : List UInt8), false) = textA (xA, xB) from by rw [textA, h1]; rfl)))   -- leaf 2

noncomputable abbrev midInks (more : List Int) : List (Nat × PV) := [(1, .isl 1 (rows cU8 more))]

section
variable {κ : Ctx} {X Y : Req → (PV → Prop) → Prop} {L : Code → (Ex → St → Prop) → St → Prop} {Q : PV → Prop}

theorem inks_part1 (m : Mach Try.prog G κ X Y L) (hQ : ∀ r, r = PV.bool true → Q r) (code more : List Int) (hf : ∀ x ∈ code, 0 ≤ x ∧ x ≤ 255) (E0 : St → Prop)
    (hE0 : ∀ (s' : St) (a : Unit), headOk s' [] = true → Ai.norm [1] [] s' = St.at 307 (midInks more) [] → (more.length : Int) ≤ 9223372036854775807 → E0 s') :
    Ai.code X L G (front 9 (Try.f3.body.getD .skip)) (fun e s' => match e with | .normal => E0 s' | .exit i => EndsIn (post G Try.f3.results.toList Q) (.exit i) s' | .ret => EndsIn (post G Try.f3.results.toList Q) .ret s') (start 307 [.isl 1 (rows cU8 code), .isl 1 (rows cU8 more)] []) := by
  conv => cbv
  refine r_lenR m.sX fun n1 hn1 mn1 => ?_
  conv => cbv
  refine r_lenR m.sX fun n2 hn2 mn2 => ?_
  conv => cbv
  refine r_add m.sX fun r1 hr1 => ?_
  conv => cbv
  refine r_gtr m.sX (fun h1 => ?_) (fun h1 => ?_) <;> conv => cbv
  · exact hQ _ (congrArg PV.bool (by first | rfl | omega | (simp [*]; done) | (subst_vars; simp [*]; done)))   -- leaf 1
  · have h : CurIn code := ⟨by omega, hf⟩
    have hmr : (more.length : Int) ≤ 9223372036854775807 := by omega
    refine r_callE m.sX (drawSwapInks_ok code h) ?_
    rintro _ ⟨⟨xA, xB⟩, rfl, bx_1⟩
    conv => cbv
    refine r_callF inkR m.sX (SwapInks_ok (xA, xB)) fun v hs_A => ?_
    obtain ⟨⟨s_A, s_B⟩, ok⟩ := v
    conv => cbv
    try dsimp only at hs_
    obtain ⟨o1, o3⟩ := swap_fact hs_A
    have hs_ := hs_A
    refine r_callF inkR m.sX (specSwapInks_ok (xA, xB)) fun y1 hy1 => ?_
    obtain rfl := hs_.trans hy1.symm
    clear hy1
    conv => cbv
    refine r_callF sb m.sX (InkedText_ok (xA, xB)) fun v ht => ?_
    obtain ⟨t, one⟩ := v
    conv => cbv
    try dsimp only at ht
    obtain ⟨o2, o4⟩ := text_fact ht
    refine r_callF sb m.sX (specInkedText_ok (xA, xB)) fun y2 hy2 => ?_
    obtain rfl := ht.trans hy2.symm
    clear hy2
    conv => cbv
    rcases Bool.eq_false_or_eq_true ok with rfl | rfl <;> conv => cbv
    · have xo := okInked_spec o1
      try dsimp only at xo
      have xl := xo.len
      try dsimp only at xl
      have xf := xo.few
      try dsimp only at xf
      obtain ⟨K1, K2, K3, K4, K5, K6, K7, K8⟩ := inks_law o1
      have es := o3 rfl
      try dsimp only at es
      refine r_aeq_same [.str [], .str []] m.sX (by kernel_rfl) rfl ?_
      conv => cbv
      obtain rfl : one = true := by exact o2.symm.trans o1
      conv => cbv
      have et := o4 rfl
      try dsimp only at et
      have tl : t.length ≤ 1000 := by rw [et, zipU_length _ xl]; omega
      refine r_sneqF m.sX (by first | omega | rfl) ?_
      conv => cbv
      refine r_callBT m.sX (IsInked_ok (xA, xB)) (by first | assumption | exact decide_eq_true rfl | (simp [*]; done) | omega) ?_   -- h3
      conv => cbv
      refine r_callF sb m.sX (FormeOf_ok (xA, xB) ([98] : List UInt8)) fun v hb => ?_
      obtain ⟨b, three⟩ := v
      conv => cbv
      try dsimp only at hb
      refine r_callF sb m.sX (FormeOf_ok (xA, xB) ([114] : List UInt8)) fun v hr => ?_
      obtain ⟨r, four⟩ := v
      conv => cbv
      try dsimp only at hr
      refine r_callF inkR m.sX (LayFormes_ok b r) fun v hbothA => ?_
      obtain ⟨⟨bothA, bothB⟩, five⟩ := v
      conv => cbv
      try dsimp only at hboth
      have hboth := hbothA
      refine r_callF inkR m.sX (SwapInks_ok (s_A, s_B)) fun v hbackA => ?_
      obtain ⟨⟨backA, backB⟩, six⟩ := v
      conv => cbv
      try dsimp only at hback
      have hback := hbackA
      refine r_callF inkR m.sX (ParseInked_ok t (by omega)) fun v hreadA => ?_
      obtain ⟨⟨readA, readB⟩, seven⟩ := v
      conv => cbv
      try dsimp only at hread
      have hread := hreadA
      refine r_callF ib m.sX (CountInk_ok (xA, xB) ([98] : List UInt8)) fun v hn => ?_
      obtain ⟨n, eight⟩ := v
      conv => cbv
      try dsimp only at hn
      refine r_callF ib m.sX (CountInk_ok (xA, xB) ([114] : List UInt8)) fun v hm_ => ?_
      obtain ⟨m_, nine⟩ := v
      conv => cbv
      try dsimp only at hm_
      have eb := (Prod.mk.inj (hb.trans K1)).1
      try dsimp only at eb
      have er := (Prod.mk.inj (hr.trans K2)).1
      try dsimp only at er
      have F5 := hbothA.trans (show layA b r = ((xA, xB), true) from by rw [eb, er]; exact K3)
      try dsimp only at F5
      have F6 := hbackA.trans (show swapA (s_A, s_B) = ((xA, xB), true) from by rw [es]; exact K4)
      try dsimp only at F6
      have F7 := hreadA.trans ((congrArg Go.Proofs.Ytjohfigipllpoaa.Ai.readA et).trans K5)
      try dsimp only at F7
      have F8 := hn.trans K6
      try dsimp only at F8
      have F9 := hm_.trans K7
      try dsimp only at F9
      have n8 := (Prod.mk.inj F8).1
      try dsimp only at n8
      have n9 := (Prod.mk.inj F9).1
      try dsimp only at n9
      have nb := cntU_bound 98 xA xB
      try dsimp only at nb
      have mb := cntU_bound 114 xA xB
      try dsimp only at mb
      refine r_loopF (α := Int × Nat) m 307 [1, 15, 17, 19, 21, 23, 24, 25, 26, 27, 28] [⟨5, 41, 0, 0, 0⟩, ⟨18, 145, 0, 0, 0⟩, ⟨20, 161, 0, 0, 0⟩, ⟨22, 177, 0, 0, 0⟩, ⟨147, 1177, 0, 0, 0⟩] (fun σ => [(1, .isl 1 (rows cU8 more)), (5, .optr 41 0 2 0 0), (15, .bool three), (17, .bool four), (18, .optr 145 0 2 0 0), (19, .bool five), (20, .optr 161 0 2 0 0), (21, .bool six), (22, .optr 177 0 2 0 0), (23, .bool seven), (24, .int .i64 n), (25, .bool eight), (26, .int .i64 m_), (27, .bool nine), (28, .int .i64 σ.1), (147, .optr 1177 0 0 0 0)]) (fun σ => [(41, 0, .box [.str xA, .str xB]), (145, 0, .box [.str bothA, .str bothB]), (161, 0, .box [.str backA, .str backB]), (177, 0, .box [.str readA, .str readB]), (1177, 0, .iter xA σ.2)])
        (fun σ => (σ.2 ≤ xA.length) ∧ (σ.1 = letU (xA.take σ.2)) ∧ (0 ≤ σ.1 ∧ σ.1 ≤ (σ.2 : Int))) (fun σ => xA.length - σ.2) (0, 0) ?_ ?_ ?_ ?_
      · cbv
      · cbv
      · exact ⟨(by (try dsimp only); first | omega | (simp only [List.length_nil]; omega) | (simp only [List.length_cons, List.length_nil]; omega)), (by (try dsimp only) <;> (rfl)), (by (try dsimp only) <;> first | omega | rfl | (simp [*]; done))⟩
      rintro ⟨letters, p1⟩ ⟨lp1, q, lb⟩ E hE F hF
      dsimp only at lp1 q lb
      conv => cbv
      refine r_snext (u := xA) (p := p1) m.sX (fun hp1 => ?_) (fun x1 hx1 => ⟨by exact plain_low xo.plain hx1, fun i1 c1 hi1 hc1 => ?_⟩) <;> conv => cbv
      · have dz_p1 := drop_end (xs := xA) (i := p1) (by omega)
        have tz_p1 := take_end (xs := xA) (i := p1) (by omega)
        refine hF _ _ ?_
        conv => cbv
        obtain rfl : three = true := by exact (Prod.mk.inj (hb.trans K1)).2
        conv => cbv
        obtain rfl : four = true := by exact (Prod.mk.inj (hr.trans K2)).2
        conv => cbv
        obtain rfl : five = true := by exact (Prod.mk.inj F5).2
        conv => cbv
        refine r_aeq [.str [], .str []] m.sX (by kernel_rfl) rfl rfl (fun h4 => ?_) (fun h4 => ?_) <;> conv => cbv   -- (bothA, bothB) neq (xA, xB)
        · obtain rfl : six = true := by exact (Prod.mk.inj F6).2
          conv => cbv
          refine r_aeq [.str [], .str []] m.sX (by kernel_rfl) rfl rfl (fun h5 => ?_) (fun h5 => ?_) <;> conv => cbv   -- (backA, backB) neq (xA, xB)
          · obtain rfl : seven = true := by exact (Prod.mk.inj F7).2
            conv => cbv
            refine r_aeq [.str [], .str []] m.sX (by kernel_rfl) rfl rfl (fun h6 => ?_) (fun h6 => ?_) <;> conv => cbv   -- (readA, readB) neq (xA, xB)
            · obtain rfl : eight = true := by exact (Prod.mk.inj F8).2
              conv => cbv
              obtain rfl : nine = true := by exact (Prod.mk.inj F9).2
              conv => cbv
              refine r_addf m.sX (by omega) (by omega) fun r2 hr2 => ?_
              conv => cbv
              refine r_neqF m.sX ((by first | (rw [q, List.take_of_length_le (by omega)]; dsimp only at K8; omega) | rfl)) ?_
              conv => cbv
              exact hE0 _ () (by cbv) (by cbv) hmr
            · exfalso; exact h6 (strs_eq (Prod.mk.inj F7).1)   -- leaf 2
          · exfalso; exact h5 (strs_eq (Prod.mk.inj F6).1)   -- leaf 3
        · exfalso; exact h4 (strs_eq (Prod.mk.inj F5).1)   -- leaf 4
      · have ltx1 := (List.getElem?_eq_some_iff.1 hx1).1
        have ti1 : Int.toNat i1 = p1 := by omega
        have gx1 : xA[Int.toNat i1]? = some x1 := by rw [ti1]; exact hx1
        have dx1 := drop_cons hx1
        have kx1 := take_snoc hx1
        have mx1 := get_mem hx1
        have bc1 : 0 ≤ c1 ∧ c1 ≤ 255 := by have := x1.toNat_lt; omega
        have hx1_g := gx1
        refine r_sidx (u := xA) (i := i1) m.sX (by omega) (by first | omega | (simp only [List.length_cons, List.length_nil]; omega) | (simp; omega)) fun x2 hx2 c2 hc2 bc2 => ?_   -- x2 = xA[i1]
        obtain rfl := Option.some.inj (hx1_g.symm.trans hx2)
        obtain rfl := hc1.trans hc2.symm
        conv => cbv
        refine r_neq m.sX (fun h8 => ?_) (fun h8 => ?_) <;> conv => cbv
        · refine r_addf m.sX (by omega) (by omega) fun letters_2 hletters_2 => ?_
          conv => cbv
          refine hE _ (letters_2, p1 + 1) ?_ ?_ ⟨(by (try dsimp only); first | omega | (simp only [List.length_nil]; omega) | (simp only [List.length_cons, List.length_nil]; omega)), (by (try dsimp only) <;> (first | (rw [letU_take hx1, ← q, if_pos (by omega)]; omega) | (rw [letU_take hx1, ← q, if_neg (by omega)]; omega))), (by (try dsimp only) <;> first | omega | rfl | (simp [*]; done) | (rw [lb]; simp [*]; done))⟩ (by first | omega | (dsimp only; omega))
          · cbv
          · cbv
        · refine hE _ (letters, p1 + 1) ?_ ?_ ⟨(by (try dsimp only); first | omega | (simp only [List.length_nil]; omega) | (simp only [List.length_cons, List.length_nil]; omega)), (by (try dsimp only) <;> (first | (rw [letU_take hx1, ← q, if_pos (by omega)]; omega) | (rw [letU_take hx1, ← q, if_neg (by omega)]; omega))), (by (try dsimp only) <;> first | omega | rfl | (simp [*]; done) | (rw [lb]; simp [*]; done))⟩ (by first | omega | (dsimp only; omega))
          · cbv
          · cbv
    · refine r_aeq_same [.str [], .str []] m.sX (by kernel_rfl) rfl ?_
      conv => cbv
      obtain rfl : one = false := by exact o2.symm.trans o1
      conv => cbv
      refine r_sneqF m.sX (by first | omega | rfl) ?_
      conv => cbv
      refine r_callBF m.sX (IsInked_ok (xA, xB)) (by first | assumption | exact decide_eq_true rfl | (simp [*]; done) | omega) ?_   -- h10
      conv => cbv
      exact hE0 _ () (by cbv) (by cbv) hmr

theorem inks_part2 (m : Mach Try.prog G κ X Y L) (hQ : ∀ r, r = PV.bool true → Q r) (more : List Int) (h : CurIn more) :
    Ai.code X L G (rest 9 (Try.f3.body.getD .skip)) (EndsIn (post G Try.f3.results.toList Q)) (St.at 307 (midInks more) []) := by
  conv => cbv
  refine r_callE m.sX (drawLayFormes_ok more h) ?_
  rintro _ ⟨a, b, rfl, ba_1, ba_2⟩
  conv => cbv
  refine r_callF inkR m.sX (LayFormes_ok a b) fun v hlA => ?_
  obtain ⟨⟨lA, lB⟩, three⟩ := v
  conv => cbv
  try dsimp only at hl
  have hl := hlA
  refine r_callF inkR m.sX (specLayFormes_ok a b) fun y1 hy1 => ?_
  obtain rfl := hl.trans hy1.symm
  clear hy1
  conv => cbv
  refine r_callE m.sX (drawFormeOf_ok more h) ?_
  rintro _ ⟨⟨uA, uB⟩, ink, rfl, bu_1, bu_2⟩
  conv => cbv
  refine r_callF sb m.sX (FormeOf_ok (uA, uB) ink) fun v hf => ?_
  obtain ⟨f, five⟩ := v
  conv => cbv
  try dsimp only at hf
  refine r_callF sb m.sX (specFormeOf_ok (uA, uB) ink) fun y2 hy2 => ?_
  obtain rfl := hf.trans hy2.symm
  clear hy2
  conv => cbv
  refine r_callF ib m.sX (CountInk_ok (uA, uB) ink) fun v hn => ?_
  obtain ⟨n, seven⟩ := v
  conv => cbv
  try dsimp only at hn
  have sv := cnt_fact hn hf
  try dsimp only at sv
  refine r_callF ib m.sX (specCountInk_ok (uA, uB) ink) fun y3 hy3 => ?_
  obtain rfl := hn.trans hy3.symm
  clear hy3
  conv => cbv
  refine r_callE m.sX (drawParseInked_ok more h) ?_
  rintro _ ⟨y, rfl, by_1⟩
  conv => cbv
  refine r_callF inkR m.sX (ParseInked_ok y (by omega)) fun v hpA => ?_
  obtain ⟨⟨pA, pB⟩, nine⟩ := v
  conv => cbv
  try dsimp only at hp
  have hp := hpA
  refine r_callF inkR m.sX (specParseInked_ok y) fun y4 hy4 => ?_
  obtain rfl := hp.trans hy4.symm
  clear hy4
  conv => cbv
  rcases Bool.eq_false_or_eq_true three with rfl | rfl <;> conv => cbv
  · refine r_aeq_same [.str [], .str []] m.sX (by kernel_rfl) rfl ?_
    conv => cbv
    rcases Bool.eq_false_or_eq_true five with rfl | rfl <;> conv => cbv
    · refine r_seqlT m.sX (by first | omega | rfl) ?_
      conv => cbv
      obtain rfl : seven = true := by first | exact sv | exact sv.trans rfl
      conv => cbv
      refine r_eqlT m.sX (by first | omega | rfl) ?_
      conv => cbv
      rcases Bool.eq_false_or_eq_true nine with rfl | rfl <;> conv => cbv
      · refine r_aeq_same [.str [], .str []] m.sX (by kernel_rfl) rfl ?_
        conv => cbv
        exact hQ _ (congrArg PV.bool (by first | rfl | omega | (simp [*]; done) | (subst_vars; simp [*]; done)))   -- leaf 5
      · refine r_aeq_same [.str [], .str []] m.sX (by kernel_rfl) rfl ?_
        conv => cbv
        exact hQ _ (congrArg PV.bool (by first | rfl | omega | (simp [*]; done) | (subst_vars; simp [*]; done)))   -- leaf 6
    · refine r_seqlT m.sX (by first | omega | rfl) ?_
      conv => cbv
      obtain rfl : seven = false := by first | exact sv | exact sv.trans rfl
      conv => cbv
      refine r_eqlT m.sX (by first | omega | rfl) ?_
      conv => cbv
      rcases Bool.eq_false_or_eq_true nine with rfl | rfl <;> conv => cbv
      · refine r_aeq_same [.str [], .str []] m.sX (by kernel_rfl) rfl ?_
        conv => cbv
        exact hQ _ (congrArg PV.bool (by first | rfl | omega | (simp [*]; done) | (subst_vars; simp [*]; done)))   -- leaf 7
      · refine r_aeq_same [.str [], .str []] m.sX (by kernel_rfl) rfl ?_
        conv => cbv
        exact hQ _ (congrArg PV.bool (by first | rfl | omega | (simp [*]; done) | (subst_vars; simp [*]; done)))   -- leaf 8
  · refine r_aeq_same [.str [], .str []] m.sX (by kernel_rfl) rfl ?_
    conv => cbv
    rcases Bool.eq_false_or_eq_true five with rfl | rfl <;> conv => cbv
    · refine r_seqlT m.sX (by first | omega | rfl) ?_
      conv => cbv
      obtain rfl : seven = true := by first | exact sv | exact sv.trans rfl
      conv => cbv
      refine r_eqlT m.sX (by first | omega | rfl) ?_
      conv => cbv
      rcases Bool.eq_false_or_eq_true nine with rfl | rfl <;> conv => cbv
      · refine r_aeq_same [.str [], .str []] m.sX (by kernel_rfl) rfl ?_
        conv => cbv
        exact hQ _ (congrArg PV.bool (by first | rfl | omega | (simp [*]; done) | (subst_vars; simp [*]; done)))   -- leaf 9
      · refine r_aeq_same [.str [], .str []] m.sX (by kernel_rfl) rfl ?_
        conv => cbv
        exact hQ _ (congrArg PV.bool (by first | rfl | omega | (simp [*]; done) | (subst_vars; simp [*]; done)))   -- leaf 10
    · refine r_seqlT m.sX ((by first | (rw [q, List.take_of_length_le (by omega)]; dsimp only at K8; omega) | rfl)) ?_
      conv => cbv
      obtain rfl : seven = false := by first | exact sv | exact sv.trans rfl
      conv => cbv
      refine r_eqlT m.sX (by first | omega | rfl) ?_
      conv => cbv
      rcases Bool.eq_false_or_eq_true nine with rfl | rfl <;> conv => cbv
      · refine r_aeq_same [.str [], .str []] m.sX (by kernel_rfl) rfl ?_
        conv => cbv
        exact hQ _ (congrArg PV.bool (by first | rfl | omega | (simp [*]; done) | (subst_vars; simp [*]; done)))   -- leaf 11
      · refine r_aeq_same [.str [], .str []] m.sX (by kernel_rfl) rfl ?_
        conv => cbv
        exact hQ _ (congrArg PV.bool (by first | rfl | omega | (simp [*]; done) | (subst_vars; simp [*]; done)))   -- leaf 12

end

theorem lawInks_ok (code more : List Int) (hf : ∀ x ∈ code, 0 ≤ x ∧ x ≤ 255) (hg : ∀ x ∈ more, 0 ≤ x ∧ x ≤ 255) : OkA Try.prog 3 [.isl 1 (rows cU8 code), .isl 1 (rows cU8 more)] (· = .bool true) :=
  fn_introW envOk fieldsOk mixed Try.func3 rfl (c := Try.f3.body.getD .skip) rfl fun κ X Y L Q m hQ =>
    W_cut m 9 307 [1] [] (fun _ : Unit => midInks more) (fun _ => []) (fun _ => (more.length : Int) ≤ 9223372036854775807) (inks_part1 m hQ code more hf) fun _ hl =>
    W_last m (inks_part2 m hQ more ⟨hl, hg⟩)

end Go.Proofs.Ytjohfigipllpoaa.Ai
