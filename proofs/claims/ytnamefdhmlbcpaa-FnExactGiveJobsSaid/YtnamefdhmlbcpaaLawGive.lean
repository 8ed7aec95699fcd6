/- The law FnExactGiveJobs: its body returns true. -/
import Derived.Test.YtnamefdhmlbcpaaJobs
import Derived.Test.YtnamefdhmlbcpaaNew
namespace Go.Proofs.Ytnamefdhmlbcpaa.Ai
open Go Go.RowKit Go.Proofs
set_option maxRecDepth 100000
set_option maxHeartbeats 4000000
set_option linter.unusedVariables false

section
variable {κ κ0 : Ctx} {X Y : Req → (PV → Prop) → Prop} {L : Code → (Ex → St → Prop) → St → Prop}

theorem fnExactGiveJobs_p1 {Q : PV → Prop} (m : Mach Try.prog G κ X Y L) (hQ : ∀ r, r = PV.bool true → Q r) (cs : List Craft) (ps : List (List Int)) (js : List Int) (E : St → Prop)
    (hE : ∀ (s' : St) (σ : List Int × Bool), headOk s' [] = true → Ai.norm [0, 1, 2, 8, 9] [] s' = St.at 140 [(0, .isl 2 (rows cCraft cs)), (1, .isl 1 (rows (cSl 1 cInt) ps)), (2, .isl 1 (rows cInt js)), (8, .isl 1 (rows cInt σ.1)), (9, .bool σ.2)] [] → (SmallCraftS cs ∧ SmallSS ps ∧ (js.length : Int) ≤ 1048576 ∧ σ = giveAns cs ps js) → E s') :
    Ai.code X L G (front 8 (Try.f3.body.getD .skip)) (fun e s' => match e with | .normal => E s' | .exit i => EndsIn (post G Try.f3.results.toList Q) (.exit i) s' | .ret => EndsIn (post G Try.f3.results.toList Q) .ret s') (start 140 [.isl 2 (rows cCraft cs), .isl 1 (rows (cSl 1 cInt) ps), .isl 1 (rows cInt js)] []) := by
  conv => cbv
  refine r_lenR m.sX fun n1 hn1 mn1 => ?_
  conv => cbv
  refine r_gtr m.sX (fun h1 => ?_) (fun h1 => ?_) <;> conv => cbv
  · exact hQ _ rfl
  have h_js : (js.length : Int) ≤ 1048576 := by omega
  refine r_callE m.sX (szCraftS_ok cs 1048576 (by omega) (by omega)) ?_
  rintro _ ⟨q_cs, rfl, l_cs, k_cs⟩
  conv => cbv
  refine r_lss m.sX (fun j_cs => ?_) (fun j_cs => ?_) <;> conv => cbv
  · exact hQ _ rfl
  have h_cs := k_cs j_cs
  refine r_callE m.sX (szIntSS_ok ps q_cs j_cs (by omega)) ?_
  rintro _ ⟨q_ps, rfl, l_ps, k_ps⟩
  conv => cbv
  refine r_lss m.sX (fun j_ps => ?_) (fun j_ps => ?_) <;> conv => cbv
  · exact hQ _ rfl
  have h_ps := k_ps j_ps
  refine r_call m.sX ((toCraftS_ok cs h_cs).ice) ?_
  conv => cbv
  refine r_call m.sX ((toIntSS_ok ps h_ps).ice) ?_
  conv => cbv
  refine r_call m.sX ((toIntS_ok js h_js).ice) ?_
  conv => cbv
  refine r_callF (lbI 1 cInt) m.sX ((specGiveJobs_ok cs ps js).ice) fun v hv => ?_
  obtain ⟨gl, gb⟩ := v
  conv => cbv
  exact hE _ (gl, gb) (by cbv) (by cbv) ⟨h_cs, h_ps, h_js, hv⟩

theorem fnExactGiveJobs_p2 (m : Mach Try.prog G κ X Y L) (cs : List Craft) (ps : List (List Int)) (js : List Int) (h_cs : SmallCraftS cs) (h_ps : SmallSS ps) (h_js : (js.length : Int) ≤ 1048576) (gl : List Int) (gb : Bool) (hv : (gl, gb) = giveAns cs ps js) (hlen : gl.length ≤ 1000000000) (v_cs v_ps v_js vw x_cs x_ps x_js vg : Value) (E : St → Prop)
    (hE : ∀ (s' : St) (σ : Unit), headOk s' [] = true → Ai.norm [0, 1, 2, 8, 9, 10, 11, 12, 13, 14, 15] [] s' = St.at 140 [(0, .isv v_cs 2 (rows cCraft cs)), (1, .isv v_ps 1 (rows (cSl 1 cInt) ps)), (2, .isv v_js 1 (rows cInt js)), (8, .isv vw 1 (rows cInt gl)), (9, .bool gb), (10, .isv x_cs 2 (rows cCraft cs)), (11, .isv x_ps 1 (rows (cSl 1 cInt) ps)), (12, .isv x_js 1 (rows cInt js)), (13, .isv vg 1 (rows cInt gl)), (14, .bool gb), (15, .int .i64 1)] [] → True → E s') :
    Ai.code X L G (front 5 (rest 12 (Try.f3.body.getD .skip))) (fun e s' => match e with | .normal => E s' | .exit i => QT 6 (.exit i) s' | .ret => QT 6 .ret s') (St.at 140 [(0, .isv v_cs 2 (rows cCraft cs)), (1, .isv v_ps 1 (rows (cSl 1 cInt) ps)), (2, .isv v_js 1 (rows cInt js)), (8, .isv vw 1 (rows cInt gl)), (9, .bool gb), (10, .isv x_cs 2 (rows cCraft cs)), (11, .isv x_ps 1 (rows (cSl 1 cInt) ps)), (12, .isv x_js 1 (rows cInt js)), (13, .isv vg 1 (rows cInt gl)), (14, .bool gb)] []) := by
  conv => cbv
  refine r_call m.sX (eqIntS_ok gl) ?_
  conv => cbv
  cases gb <;> conv => cbv
  all_goals
    refine r_call m.sX (toCraftS_ok cs h_cs) ?_
    conv => cbv
    refine .inl (r_callO m.sX ((eqCraftS_ok cs).ok flat_bool) ?_)
    conv => cbv
    refine r_call m.sX (toIntSS_ok ps h_ps) ?_
    conv => cbv
    refine .inl (r_callO m.sX ((eqIntSS_ok ps).ok flat_bool) ?_)
    conv => cbv
    refine r_call m.sX (toIntS_ok js h_js) ?_
    conv => cbv
    refine .inl (r_callO m.sX ((eqIntS_ok js).ok flat_bool) ?_)
    conv => cbv
    exact hE _ () (by cbv) (by cbv) trivial

theorem fnExactGiveJobs_p3 (m : Mach Try.prog G κ X Y L) (cs : List Craft) (ps : List (List Int)) (js : List Int) (h_cs : SmallCraftS cs) (h_ps : SmallSS ps) (h_js : (js.length : Int) ≤ 1048576) (gl : List Int) (gb : Bool) (hv : (gl, gb) = giveAns cs ps js) (hlen : gl.length ≤ 1000000000) (v_cs v_ps v_js vw x_cs x_ps x_js vg : Value) (kk : Int) (hkk : 0 ≤ kk) (E : St → Prop)
    (hE : ∀ (s' : St) (σ : Unit), headOk s' [] = true → Ai.norm [0, 1, 2, 8, 9, 13, 14, 16] [] s' = St.at 140 [(0, .isv v_cs 2 (rows cCraft cs)), (1, .isv v_ps 1 (rows (cSl 1 cInt) ps)), (2, .isv v_js 1 (rows cInt js)), (8, .isv vw 1 (rows cInt gl)), (9, .bool gb), (13, .isv vg 1 (rows cInt gl)), (14, .bool gb), (16, .int .i64 1)] [] → True → E s') :
    Ai.code X L G (front 2 (rest 20 (Try.f3.body.getD .skip))) (fun e s' => match e with | .normal => E s' | .exit i => QT 6 (.exit i) s' | .ret => QT 6 .ret s') (St.at 140 [(0, .isv v_cs 2 (rows cCraft cs)), (1, .isv v_ps 1 (rows (cSl 1 cInt) ps)), (2, .isv v_js 1 (rows cInt js)), (8, .isv vw 1 (rows cInt gl)), (9, .bool gb), (13, .isv vg 1 (rows cInt gl)), (14, .bool gb), (15, .int .i64 kk)] []) := by
  conv => cbv
  refine r_lssF m.sX ((by omega)) ?_
  conv => cbv
  refine r_call m.sX (eqIntS_ok gl) ?_
  conv => cbv
  cases gb <;> conv => cbv
  all_goals exact hE _ () (by cbv) (by cbv) trivial

theorem fnExactGiveJobs_p4 (m : Mach Try.prog G κ X Y L) (cs : List Craft) (ps : List (List Int)) (js : List Int) (h_cs : SmallCraftS cs) (h_ps : SmallSS ps) (h_js : (js.length : Int) ≤ 1048576) (gl : List Int) (gb : Bool) (hv : (gl, gb) = giveAns cs ps js) (hlen : gl.length ≤ 1000000000) (v_cs v_ps v_js vw x_cs x_ps x_js vg : Value) (zs : List Int) (hz : zs = upM 1 gl.length) (mm : Int) (hmm : mm = 1 + gl.length) :
    Ai.code X L G (rest 23 (Try.f3.body.getD .skip)) (QT 6) (St.at 140 [(0, .isv v_cs 2 (rows cCraft cs)), (1, .isv v_ps 1 (rows (cSl 1 cInt) ps)), (2, .isv v_js 1 (rows cInt js)), (8, .isv vw 1 (rows cInt gl)), (9, .bool gb), (13, .isv vg 1 (rows cInt zs)), (14, .bool gb), (16, .int .i64 mm)] []) := by
  conv => cbv
  refine r_callF (PV.int .i64) m.sX (heldZ_ok zs gl.length hz hlen) fun q1 hq1 => ?_
  conv => cbv
  refine r_lssF m.sX ((by omega)) ?_
  conv => cbv
  refine r_neqF m.sX ((by omega)) ?_
  conv => cbv
  refine r_call m.sX (toCraftS_ok cs h_cs) ?_
  conv => cbv
  refine r_call m.sX (toIntSS_ok ps h_ps) ?_
  conv => cbv
  refine r_call m.sX (toIntS_ok js h_js) ?_
  conv => cbv
  refine .inl (r_callFO (lbI 1 cInt) m.sX (((GiveJobs_ok cs ps js).ok (flat_lb flat_cInt)).ice) fun v' hv' => ?_)
  obtain rfl := hv'.trans hv.symm
  conv => cbv
  refine r_call m.sX (eqIntS_ok gl) ?_
  conv => cbv
  cases gb <;> conv => cbv
  all_goals
    refine r_callF (PV.int .i64) m.sX (heldZ_ok zs gl.length hz hlen) fun q2 hq2 => ?_
    conv => cbv
    refine r_lssF m.sX ((by omega)) ?_
    conv => cbv
    refine r_neqF m.sX ((by omega)) ?_
    conv => cbv
    trivial

theorem fnExactGiveJobs_chain (m0 : Mach Try.prog G κ X Y L) (cs : List Craft) (ps : List (List Int)) (js : List Int) (h_cs : SmallCraftS cs) (h_ps : SmallSS ps) (h_js : (js.length : Int) ≤ 1048576) (gl : List Int) (gb : Bool) (hv : (gl, gb) = giveAns cs ps js) (hlen : gl.length ≤ 1000000000) :
    ∀ η a w, Sim κ η (St.at 140 [(0, .isl 2 (rows cCraft cs)), (1, .isl 1 (rows (cSl 1 cInt) ps)), (2, .isl 1 (rows cInt js)), (8, .isl 1 (rows cInt gl)), (9, .bool gb)] []) a w → Code.wp Try.prog (rest 8 (Try.f3.body.getD .skip)) (Post κ (QT 6)) a w := by
  refine W2_pin m0 rfl fun κ1 L1 m1 l1 vs hvs => ?_
  show W2 Try.prog κ1 κ (rest 8 (Try.f3.body.getD .skip)) 6 (St.at 140 [(0, .isv (vs 0) 2 (rows cCraft cs)), (1, .isv (vs 1) 1 (rows (cSl 1 cInt) ps)), (2, .isv (vs 2) 1 (rows cInt js)), (8, .isv (vs 8) 1 (rows cInt gl)), (9, .bool gb)] [])
  have f_cs := hvs 0 _ _ rfl
  generalize vs 0 = v_cs at *
  have f_ps := hvs 1 _ _ rfl
  generalize vs 1 = v_ps at *
  have f_js := hvs 2 _ _ rfl
  generalize vs 2 = v_js at *
  have f_w := hvs 8 _ _ rfl
  generalize vs 8 = vw at *
  clear hvs
  refine W2_call (c := rest 9 (Try.f3.body.getD .skip)) m1 l1 rfl 1 rfl rfl rfl rfl rfl rfl [0, 1, 2, 8, 9, 10] (toCraftS_new cs h_cs) (.inl ⟨_, _, rfl⟩) fun κ2 L2 m2 l2 b2 s2 qq x_cs hq => ?_
  cases hq with
  | isl _ _ _ g_cs =>
  refine ⟨_, rfl, ?_⟩
  replace f_cs := low_move f_cs fun g hg => s2 g (by omega)
  replace f_ps := low_move f_ps fun g hg => s2 g (by omega)
  replace f_js := low_move f_js fun g hg => s2 g (by omega)
  replace f_w := low_move f_w fun g hg => s2 g (by omega)
  replace g_cs : RepI κ2.w0 (seg κ2.w0 κ1.B κ2.B) _ x_cs := g_cs
  show W2 Try.prog κ2 κ (rest 9 (Try.f3.body.getD .skip)) 6 (St.at 140 [(0, .isv v_cs 2 (rows cCraft cs)), (1, .isv v_ps 1 (rows (cSl 1 cInt) ps)), (2, .isv v_js 1 (rows cInt js)), (8, .isv vw 1 (rows cInt gl)), (9, .bool gb), (10, .isv x_cs 2 (rows cCraft cs))] [])
  refine W2_call (c := rest 10 (Try.f3.body.getD .skip)) m2 l2 rfl 1 rfl rfl rfl rfl rfl rfl [0, 1, 2, 8, 9, 10, 11] (toIntSS_new ps h_ps) (.inl ⟨_, _, rfl⟩) fun κ3 L3 m3 l3 b3 s3 qq x_ps hq => ?_
  cases hq with
  | isl _ _ _ g_ps =>
  refine ⟨_, rfl, ?_⟩
  replace f_cs := low_move f_cs fun g hg => s3 g (by omega)
  replace f_ps := low_move f_ps fun g hg => s3 g (by omega)
  replace f_js := low_move f_js fun g hg => s3 g (by omega)
  replace f_w := low_move f_w fun g hg => s3 g (by omega)
  replace g_cs := seg_move g_cs fun g hg1 hg2 => s3 g (by omega)
  replace g_ps : RepI κ3.w0 (seg κ3.w0 κ2.B κ3.B) _ x_ps := g_ps
  show W2 Try.prog κ3 κ (rest 10 (Try.f3.body.getD .skip)) 6 (St.at 140 [(0, .isv v_cs 2 (rows cCraft cs)), (1, .isv v_ps 1 (rows (cSl 1 cInt) ps)), (2, .isv v_js 1 (rows cInt js)), (8, .isv vw 1 (rows cInt gl)), (9, .bool gb), (10, .isv x_cs 2 (rows cCraft cs)), (11, .isv x_ps 1 (rows (cSl 1 cInt) ps))] [])
  refine W2_call (c := rest 11 (Try.f3.body.getD .skip)) m3 l3 rfl 1 rfl rfl rfl rfl rfl rfl [0, 1, 2, 8, 9, 10, 11, 12] (toIntS_new js h_js) (.inl ⟨_, _, rfl⟩) fun κ4 L4 m4 l4 b4 s4 qq x_js hq => ?_
  cases hq with
  | isl _ _ _ g_js =>
  refine ⟨_, rfl, ?_⟩
  replace f_cs := low_move f_cs fun g hg => s4 g (by omega)
  replace f_ps := low_move f_ps fun g hg => s4 g (by omega)
  replace f_js := low_move f_js fun g hg => s4 g (by omega)
  replace f_w := low_move f_w fun g hg => s4 g (by omega)
  replace g_cs := seg_move g_cs fun g hg1 hg2 => s4 g (by omega)
  replace g_ps := seg_move g_ps fun g hg1 hg2 => s4 g (by omega)
  replace g_js : RepI κ4.w0 (seg κ4.w0 κ3.B κ4.B) _ x_js := g_js
  show W2 Try.prog κ4 κ (rest 11 (Try.f3.body.getD .skip)) 6 (St.at 140 [(0, .isv v_cs 2 (rows cCraft cs)), (1, .isv v_ps 1 (rows (cSl 1 cInt) ps)), (2, .isv v_js 1 (rows cInt js)), (8, .isv vw 1 (rows cInt gl)), (9, .bool gb), (10, .isv x_cs 2 (rows cCraft cs)), (11, .isv x_ps 1 (rows (cSl 1 cInt) ps)), (12, .isv x_js 1 (rows cInt js))] [])
  refine W2_call (c := rest 12 (Try.f3.body.getD .skip)) m4 l4 rfl 3 rfl rfl rfl rfl rfl rfl [0, 1, 2, 8, 9, 10, 11, 12, 13, 14] (res := lbI 1 cInt (gl, gb)) (by rw [hv]; exact (((GiveJobs_ok cs ps js).ok (flat_lb flat_cInt)).ice)) (.inr (.inl ⟨_, _, _, rfl⟩)) fun κ5 L5 m5 l5 b5 s5 qq vv hq => ?_
  obtain ⟨vg, rfl, g_g⟩ := PinR.inv hq
  refine ⟨_, rfl, ?_⟩
  replace f_cs := low_move f_cs fun g hg => s5 g (by omega)
  replace f_ps := low_move f_ps fun g hg => s5 g (by omega)
  replace f_js := low_move f_js fun g hg => s5 g (by omega)
  replace f_w := low_move f_w fun g hg => s5 g (by omega)
  replace g_cs := seg_move g_cs fun g hg1 hg2 => s5 g (by omega)
  replace g_ps := seg_move g_ps fun g hg1 hg2 => s5 g (by omega)
  replace g_js := seg_move g_js fun g hg1 hg2 => s5 g (by omega)
  replace g_g : RepI κ5.w0 (seg κ5.w0 κ4.B κ5.B) _ vg := g_g
  show W2 Try.prog κ5 κ (rest 12 (Try.f3.body.getD .skip)) 6 (St.at 140 [(0, .isv v_cs 2 (rows cCraft cs)), (1, .isv v_ps 1 (rows (cSl 1 cInt) ps)), (2, .isv v_js 1 (rows cInt js)), (8, .isv vw 1 (rows cInt gl)), (9, .bool gb), (10, .isv x_cs 2 (rows cCraft cs)), (11, .isv x_ps 1 (rows (cSl 1 cInt) ps)), (12, .isv x_js 1 (rows cInt js)), (13, .isv vg 1 (rows cInt gl)), (14, .bool gb)] [])
  refine W2_cut m5 l5 5 140 [0, 1, 2, 8, 9, 10, 11, 12, 13, 14, 15] (fun _ : Unit => [(0, .isv v_cs 2 (rows cCraft cs)), (1, .isv v_ps 1 (rows (cSl 1 cInt) ps)), (2, .isv v_js 1 (rows cInt js)), (8, .isv vw 1 (rows cInt gl)), (9, .bool gb), (10, .isv x_cs 2 (rows cCraft cs)), (11, .isv x_ps 1 (rows (cSl 1 cInt) ps)), (12, .isv x_js 1 (rows cInt js)), (13, .isv vg 1 (rows cInt gl)), (14, .bool gb), (15, .int .i64 1)]) (fun _ => True) (fnExactGiveJobs_p2 m5 cs ps js h_cs h_ps h_js gl gb hv hlen v_cs v_ps v_js vw x_cs x_ps x_js vg) fun _ _ => ?_
  show W2 Try.prog κ5 κ (rest 17 (Try.f3.body.getD .skip)) 6 (St.at 140 [(0, .isv v_cs 2 (rows cCraft cs)), (1, .isv v_ps 1 (rows (cSl 1 cInt) ps)), (2, .isv v_js 1 (rows cInt js)), (8, .isv vw 1 (rows cInt gl)), (9, .bool gb), (10, .isv x_cs 2 (rows cCraft cs)), (11, .isv x_ps 1 (rows (cSl 1 cInt) ps)), (12, .isv x_js 1 (rows cInt js)), (13, .isv vg 1 (rows cInt gl)), (14, .bool gb), (15, .int .i64 1)] [])
  have c_cs : sumN (cs.map fun c => c.1.length + 1) ≤ 2000000000000 := craftN_le cs h_cs
  refine W2_mark (c := rest 18 (Try.f3.body.getD .skip)) m5 l5 rfl 2 rfl rfl rfl rfl rfl rfl rfl g_cs (fun g hg => ⟨by have := hg.1; have := l1.B; omega, by have := hg.2.1; omega, hg.2.2⟩) (by omega) (by omega) (markCraftS_ok cs) [0, 1, 2, 8, 9, 11, 12, 13, 14] [0, 1, 2, 8, 9, 11, 12, 13, 14, 15] ?_ fun κ6 L6 m6 l6 b6 s6 _ => ?_
  · intro i hi
    simp only [List.mem_cons, List.not_mem_nil, or_false] at hi
    rcases hi with rfl | rfl | rfl | rfl | rfl | rfl | rfl | rfl | rfl
    · exact .inr ⟨_, _, _, _, rfl, f_cs, fun g hg => ⟨by omega, fun hj => by have := hj.1; omega⟩⟩
    · exact .inr ⟨_, _, _, _, rfl, f_ps, fun g hg => ⟨by omega, fun hj => by have := hj.1; omega⟩⟩
    · exact .inr ⟨_, _, _, _, rfl, f_js, fun g hg => ⟨by omega, fun hj => by have := hj.1; omega⟩⟩
    · exact .inr ⟨_, _, _, _, rfl, f_w, fun g hg => ⟨by omega, fun hj => by have := hj.1; omega⟩⟩
    · exact .inl rfl
    · exact .inr ⟨_, _, _, _, rfl, g_ps, fun g hg => ⟨by have := hg.2.1; omega, fun hj => by have := hj.2.1; have := hg.1; omega⟩⟩
    · exact .inr ⟨_, _, _, _, rfl, g_js, fun g hg => ⟨by have := hg.2.1; omega, fun hj => by have := hj.2.1; have := hg.1; omega⟩⟩
    · exact .inr ⟨_, _, _, _, rfl, g_g, fun g hg => ⟨by have := hg.2.1; omega, fun hj => by have := hj.2.1; have := hg.1; omega⟩⟩
    · exact .inl rfl
  refine ⟨_, rfl, ?_⟩
  replace f_cs := low_move f_cs fun g hg => s6 g (by omega) fun hj => by have := hj.1; omega
  replace f_ps := low_move f_ps fun g hg => s6 g (by omega) fun hj => by have := hj.1; omega
  replace f_js := low_move f_js fun g hg => s6 g (by omega) fun hj => by have := hj.1; omega
  replace f_w := low_move f_w fun g hg => s6 g (by omega) fun hj => by have := hj.1; omega
  replace g_ps := seg_move g_ps fun g hg1 hg2 => s6 g (by omega) fun hj => by have := hj.2.1; omega
  replace g_js := seg_move g_js fun g hg1 hg2 => s6 g (by omega) fun hj => by have := hj.2.1; omega
  replace g_g := seg_move g_g fun g hg1 hg2 => s6 g (by omega) fun hj => by have := hj.2.1; omega
  clear g_cs
  obtain ⟨k6, ek6⟩ : ∃ k6 : Int, k6 = 1 + (sumN (cs.map fun c => c.1.length + 1) : Nat) := ⟨_, rfl⟩
  rw [← ek6]
  show W2 Try.prog κ6 κ (rest 18 (Try.f3.body.getD .skip)) 6 (St.at 140 [(0, .isv v_cs 2 (rows cCraft cs)), (1, .isv v_ps 1 (rows (cSl 1 cInt) ps)), (2, .isv v_js 1 (rows cInt js)), (8, .isv vw 1 (rows cInt gl)), (9, .bool gb), (11, .isv x_ps 1 (rows (cSl 1 cInt) ps)), (12, .isv x_js 1 (rows cInt js)), (13, .isv vg 1 (rows cInt gl)), (14, .bool gb), (15, .int .i64 k6)] [])
  have c_ps : sumN (ps.map List.length) ≤ 2000000000000 := ssN_le ps h_ps
  refine W2_mark (c := rest 19 (Try.f3.body.getD .skip)) m6 l6 rfl 2 rfl rfl rfl rfl rfl rfl rfl g_ps (fun g hg => ⟨by have := hg.1; have := l1.B; omega, by have := hg.2.1; omega, hg.2.2⟩) (by omega) (by omega) (markIntSS_ok ps) [0, 1, 2, 8, 9, 12, 13, 14] [0, 1, 2, 8, 9, 12, 13, 14, 15] ?_ fun κ7 L7 m7 l7 b7 s7 _ => ?_
  · intro i hi
    simp only [List.mem_cons, List.not_mem_nil, or_false] at hi
    rcases hi with rfl | rfl | rfl | rfl | rfl | rfl | rfl | rfl
    · exact .inr ⟨_, _, _, _, rfl, f_cs, fun g hg => ⟨by omega, fun hj => by have := hj.1; omega⟩⟩
    · exact .inr ⟨_, _, _, _, rfl, f_ps, fun g hg => ⟨by omega, fun hj => by have := hj.1; omega⟩⟩
    · exact .inr ⟨_, _, _, _, rfl, f_js, fun g hg => ⟨by omega, fun hj => by have := hj.1; omega⟩⟩
    · exact .inr ⟨_, _, _, _, rfl, f_w, fun g hg => ⟨by omega, fun hj => by have := hj.1; omega⟩⟩
    · exact .inl rfl
    · exact .inr ⟨_, _, _, _, rfl, g_js, fun g hg => ⟨by have := hg.2.1; omega, fun hj => by have := hj.2.1; have := hg.1; omega⟩⟩
    · exact .inr ⟨_, _, _, _, rfl, g_g, fun g hg => ⟨by have := hg.2.1; omega, fun hj => by have := hj.2.1; have := hg.1; omega⟩⟩
    · exact .inl rfl
  refine ⟨_, rfl, ?_⟩
  replace f_cs := low_move f_cs fun g hg => s7 g (by omega) fun hj => by have := hj.1; omega
  replace f_ps := low_move f_ps fun g hg => s7 g (by omega) fun hj => by have := hj.1; omega
  replace f_js := low_move f_js fun g hg => s7 g (by omega) fun hj => by have := hj.1; omega
  replace f_w := low_move f_w fun g hg => s7 g (by omega) fun hj => by have := hj.1; omega
  replace g_js := seg_move g_js fun g hg1 hg2 => s7 g (by omega) fun hj => by have := hj.2.1; omega
  replace g_g := seg_move g_g fun g hg1 hg2 => s7 g (by omega) fun hj => by have := hj.2.1; omega
  clear g_ps
  obtain ⟨k7, ek7⟩ : ∃ k7 : Int, k7 = k6 + (sumN (ps.map List.length) : Nat) := ⟨_, rfl⟩
  rw [← ek7]
  show W2 Try.prog κ7 κ (rest 19 (Try.f3.body.getD .skip)) 6 (St.at 140 [(0, .isv v_cs 2 (rows cCraft cs)), (1, .isv v_ps 1 (rows (cSl 1 cInt) ps)), (2, .isv v_js 1 (rows cInt js)), (8, .isv vw 1 (rows cInt gl)), (9, .bool gb), (12, .isv x_js 1 (rows cInt js)), (13, .isv vg 1 (rows cInt gl)), (14, .bool gb), (15, .int .i64 k7)] [])
  have c_js : js.length ≤ 2000000000000 := intN_le js h_js
  refine W2_mark (c := rest 20 (Try.f3.body.getD .skip)) m7 l7 rfl 2 rfl rfl rfl rfl rfl rfl rfl g_js (fun g hg => ⟨by have := hg.1; have := l1.B; omega, by have := hg.2.1; omega, hg.2.2⟩) (by omega) (by omega) (markIntS_ok js) [0, 1, 2, 8, 9, 13, 14] [0, 1, 2, 8, 9, 13, 14, 15] ?_ fun κ8 L8 m8 l8 b8 s8 _ => ?_
  · intro i hi
    simp only [List.mem_cons, List.not_mem_nil, or_false] at hi
    rcases hi with rfl | rfl | rfl | rfl | rfl | rfl | rfl
    · exact .inr ⟨_, _, _, _, rfl, f_cs, fun g hg => ⟨by omega, fun hj => by have := hj.1; omega⟩⟩
    · exact .inr ⟨_, _, _, _, rfl, f_ps, fun g hg => ⟨by omega, fun hj => by have := hj.1; omega⟩⟩
    · exact .inr ⟨_, _, _, _, rfl, f_js, fun g hg => ⟨by omega, fun hj => by have := hj.1; omega⟩⟩
    · exact .inr ⟨_, _, _, _, rfl, f_w, fun g hg => ⟨by omega, fun hj => by have := hj.1; omega⟩⟩
    · exact .inl rfl
    · exact .inr ⟨_, _, _, _, rfl, g_g, fun g hg => ⟨by have := hg.2.1; omega, fun hj => by have := hj.2.1; have := hg.1; omega⟩⟩
    · exact .inl rfl
  refine ⟨_, rfl, ?_⟩
  replace f_cs := low_move f_cs fun g hg => s8 g (by omega) fun hj => by have := hj.1; omega
  replace f_ps := low_move f_ps fun g hg => s8 g (by omega) fun hj => by have := hj.1; omega
  replace f_js := low_move f_js fun g hg => s8 g (by omega) fun hj => by have := hj.1; omega
  replace f_w := low_move f_w fun g hg => s8 g (by omega) fun hj => by have := hj.1; omega
  replace g_g := seg_move g_g fun g hg1 hg2 => s8 g (by omega) fun hj => by have := hj.2.1; omega
  clear g_js
  obtain ⟨k8, ek8⟩ : ∃ k8 : Int, k8 = k7 + (js.length : Nat) := ⟨_, rfl⟩
  rw [← ek8]
  show W2 Try.prog κ8 κ (rest 20 (Try.f3.body.getD .skip)) 6 (St.at 140 [(0, .isv v_cs 2 (rows cCraft cs)), (1, .isv v_ps 1 (rows (cSl 1 cInt) ps)), (2, .isv v_js 1 (rows cInt js)), (8, .isv vw 1 (rows cInt gl)), (9, .bool gb), (13, .isv vg 1 (rows cInt gl)), (14, .bool gb), (15, .int .i64 k8)] [])
  refine W2_cut m8 l8 2 140 [0, 1, 2, 8, 9, 13, 14, 16] (fun _ : Unit => [(0, .isv v_cs 2 (rows cCraft cs)), (1, .isv v_ps 1 (rows (cSl 1 cInt) ps)), (2, .isv v_js 1 (rows cInt js)), (8, .isv vw 1 (rows cInt gl)), (9, .bool gb), (13, .isv vg 1 (rows cInt gl)), (14, .bool gb), (16, .int .i64 1)]) (fun _ => True) (fnExactGiveJobs_p3 m8 cs ps js h_cs h_ps h_js gl gb hv hlen v_cs v_ps v_js vw x_cs x_ps x_js vg k8 (by omega)) fun _ _ => ?_
  show W2 Try.prog κ8 κ (rest 22 (Try.f3.body.getD .skip)) 6 (St.at 140 [(0, .isv v_cs 2 (rows cCraft cs)), (1, .isv v_ps 1 (rows (cSl 1 cInt) ps)), (2, .isv v_js 1 (rows cInt js)), (8, .isv vw 1 (rows cInt gl)), (9, .bool gb), (13, .isv vg 1 (rows cInt gl)), (14, .bool gb), (16, .int .i64 1)] [])
  refine W2_markX (c := rest 23 (Try.f3.body.getD .skip)) m8 l8 rfl 2 rfl rfl rfl rfl rfl rfl rfl g_g (fun g hg => ⟨by have := hg.1; have := l1.B; omega, by have := hg.2.1; omega, hg.2.2⟩) (by omega) (by omega) (markIntS_ok gl) (fun w J hr => hr) 13 rfl [0, 1, 2, 8, 9, 14] [0, 1, 2, 8, 9, 13, 14, 16] ?_ fun κ9 L9 m9 l9 b9 s9 _ => ?_
  · intro i hi
    simp only [List.mem_cons, List.not_mem_nil, or_false] at hi
    rcases hi with rfl | rfl | rfl | rfl | rfl | rfl
    · exact .inr ⟨_, _, _, _, rfl, f_cs, fun g hg => ⟨by omega, fun hj => by have := hj.1; omega⟩⟩
    · exact .inr ⟨_, _, _, _, rfl, f_ps, fun g hg => ⟨by omega, fun hj => by have := hj.1; omega⟩⟩
    · exact .inr ⟨_, _, _, _, rfl, f_js, fun g hg => ⟨by omega, fun hj => by have := hj.1; omega⟩⟩
    · exact .inr ⟨_, _, _, _, rfl, f_w, fun g hg => ⟨by omega, fun hj => by have := hj.1; omega⟩⟩
    · exact .inl rfl
    · exact .inl rfl
  refine ⟨_, rfl, ?_⟩
  exact W2_last m9 l9 (fnExactGiveJobs_p4 m9 cs ps js h_cs h_ps h_js gl gb hv hlen v_cs v_ps v_js vw x_cs x_ps x_js vg _ rfl (1 + (gl.length : Nat)) rfl)
end

theorem lawGiveJobs_ok (cs : List Craft) (ps : List (List Int)) (js : List Int) : OkA Try.prog 3 [.isl 2 (rows cCraft cs), .isl 1 (rows (cSl 1 cInt) ps), .isl 1 (rows cInt js)] (· = .bool true) :=
  fn_introW envOk fieldsOk mixed Try.func3 rfl (c := Try.f3.body.getD .skip) rfl fun κ X Y L Q m hQ => by
    refine W_cut m 8 140 [0, 1, 2, 8, 9] [] (fun σ : List Int × Bool => [(0, .isl 2 (rows cCraft cs)), (1, .isl 1 (rows (cSl 1 cInt) ps)), (2, .isl 1 (rows cInt js)), (8, .isl 1 (rows cInt σ.1)), (9, .bool σ.2)]) (fun σ => []) (fun σ => SmallCraftS cs ∧ SmallSS ps ∧ (js.length : Int) ≤ 1048576 ∧ σ = giveAns cs ps js) (fnExactGiveJobs_p1 m hQ cs ps js) fun ⟨gl, gb⟩ ⟨h_cs, h_ps, h_js, hv⟩ => ?_
    have hlen : gl.length ≤ 1000000000 := by have e := congrArg (fun z : List Int × Bool => z.1.length) hv; dsimp only at e; rw [e]; exact Nat.le_trans (giveAns_len cs ps js) (by omega)
    exact W_of2 (fnExactGiveJobs_chain m cs ps js h_cs h_ps h_js gl gb hv hlen) (hQ _ rfl)
end Go.Proofs.Ytnamefdhmlbcpaa.Ai
