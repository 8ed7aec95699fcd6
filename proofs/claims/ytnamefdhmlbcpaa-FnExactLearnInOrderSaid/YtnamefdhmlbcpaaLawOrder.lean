/- The law FnExactLearnInOrder: its body returns true. -/
import Derived.Test.YtnamefdhmlbcpaaOrder
import Derived.Test.YtnamefdhmlbcpaaNew
namespace Go.Proofs.Ytnamefdhmlbcpaa.Ai
open Go Go.RowKit Go.Proofs
set_option maxRecDepth 100000
set_option maxHeartbeats 4000000
set_option linter.unusedVariables false

section
variable {κ κ0 : Ctx} {X Y : Req → (PV → Prop) → Prop} {L : Code → (Ex → St → Prop) → St → Prop}

theorem fnExactLearnInOrder_p1 {Q : PV → Prop} (m : Mach Try.prog G κ X Y L) (hQ : ∀ r, r = PV.bool true → Q r) (cs : List Craft) (set : List Int) (od : List Int) (E : St → Prop)
    (hE : ∀ (s' : St) (σ : List Int × Int × Bool), headOk s' [] = true → Ai.norm [0, 1, 2, 8, 9, 10] [] s' = St.at 159 [(0, .isl 2 (rows cCraft cs)), (1, .isl 1 (rows cInt set)), (2, .isl 1 (rows cInt od)), (8, .isl 1 (rows cInt σ.1)), (9, .int .i64 σ.2.1), (10, .bool σ.2.2)] [] → (SmallCraftS cs ∧ (set.length : Int) ≤ 1048576 ∧ (od.length : Int) ≤ 1048576 ∧ σ = orderAns cs set od) → E s') :
    Ai.code X L G (front 7 (Try.f6.body.getD .skip)) (fun e s' => match e with | .normal => E s' | .exit i => EndsIn (post G Try.f6.results.toList Q) (.exit i) s' | .ret => EndsIn (post G Try.f6.results.toList Q) .ret s') (start 159 [.isl 2 (rows cCraft cs), .isl 1 (rows cInt set), .isl 1 (rows cInt od)] []) := by
  conv => cbv
  refine r_lenR m.sX fun n1 hn1 mn1 => ?_
  conv => cbv
  refine r_gtr m.sX (fun h1 => ?_) (fun h1 => ?_) <;> conv => cbv
  · exact hQ _ rfl
  have h_set : (set.length : Int) ≤ 1048576 := by omega
  refine r_lenR m.sX fun n2 hn2 mn2 => ?_
  conv => cbv
  refine r_gtr m.sX (fun h2 => ?_) (fun h2 => ?_) <;> conv => cbv
  · exact hQ _ rfl
  have h_od : (od.length : Int) ≤ 1048576 := by omega
  refine r_callE m.sX (szCraftS_ok cs 1048576 (by omega) (by omega)) ?_
  rintro _ ⟨q_cs, rfl, l_cs, k_cs⟩
  conv => cbv
  refine r_lss m.sX (fun j_cs => ?_) (fun j_cs => ?_) <;> conv => cbv
  · exact hQ _ rfl
  have h_cs := k_cs j_cs
  refine r_call m.sX ((toCraftS_ok cs h_cs).ice) ?_
  conv => cbv
  refine r_call m.sX ((toIntS_ok set h_set).ice) ?_
  conv => cbv
  refine r_call m.sX ((toIntS_ok od h_od).ice) ?_
  conv => cbv
  refine r_callF (licI 1 cInt) m.sX (specLearnInOrder_ok cs set od h_set h_od) fun v hv => ?_
  obtain ⟨gl, gi, gb⟩ := v
  conv => cbv
  exact hE _ (gl, gi, gb) (by cbv) (by cbv) ⟨h_cs, h_set, h_od, hv⟩

theorem fnExactLearnInOrder_p2 (m : Mach Try.prog G κ X Y L) (cs : List Craft) (set : List Int) (od : List Int) (h_cs : SmallCraftS cs) (h_set : (set.length : Int) ≤ 1048576) (h_od : (od.length : Int) ≤ 1048576) (gl : List Int) (gi : Int) (gb : Bool) (hv : (gl, gi, gb) = orderAns cs set od) (hlen : gl.length ≤ 1000000000) (v_cs v_set v_od vw x_cs x_set x_od vg : Value) (E : St → Prop)
    (hE : ∀ (s' : St) (σ : Unit), headOk s' [] = true → Ai.norm [0, 1, 2, 8, 9, 10, 11, 12, 13, 14, 15, 16, 17] [] s' = St.at 159 [(0, .isv v_cs 2 (rows cCraft cs)), (1, .isv v_set 1 (rows cInt set)), (2, .isv v_od 1 (rows cInt od)), (8, .isv vw 1 (rows cInt gl)), (9, .int .i64 gi), (10, .bool gb), (11, .isv x_cs 2 (rows cCraft cs)), (12, .isv x_set 1 (rows cInt set)), (13, .isv x_od 1 (rows cInt od)), (14, .isv vg 1 (rows cInt gl)), (15, .int .i64 gi), (16, .bool gb), (17, .int .i64 1)] [] → True → E s') :
    Ai.code X L G (front 5 (rest 11 (Try.f6.body.getD .skip))) (fun e s' => match e with | .normal => E s' | .exit i => QT 6 (.exit i) s' | .ret => QT 6 .ret s') (St.at 159 [(0, .isv v_cs 2 (rows cCraft cs)), (1, .isv v_set 1 (rows cInt set)), (2, .isv v_od 1 (rows cInt od)), (8, .isv vw 1 (rows cInt gl)), (9, .int .i64 gi), (10, .bool gb), (11, .isv x_cs 2 (rows cCraft cs)), (12, .isv x_set 1 (rows cInt set)), (13, .isv x_od 1 (rows cInt od)), (14, .isv vg 1 (rows cInt gl)), (15, .int .i64 gi), (16, .bool gb)] []) := by
  conv => cbv
  refine r_call m.sX (eqIntS_ok gl) ?_
  conv => cbv
  refine r_neqF m.sX ((by omega)) ?_
  conv => cbv
  cases gb <;> conv => cbv
  all_goals
    refine r_call m.sX (toCraftS_ok cs h_cs) ?_
    conv => cbv
    refine .inl (r_callO m.sX ((eqCraftS_ok cs).ok flat_bool) ?_)
    conv => cbv
    refine r_call m.sX (toIntS_ok set h_set) ?_
    conv => cbv
    refine .inl (r_callO m.sX ((eqIntS_ok set).ok flat_bool) ?_)
    conv => cbv
    refine r_call m.sX (toIntS_ok od h_od) ?_
    conv => cbv
    refine .inl (r_callO m.sX ((eqIntS_ok od).ok flat_bool) ?_)
    conv => cbv
    exact hE _ () (by cbv) (by cbv) trivial

theorem fnExactLearnInOrder_p3 (m : Mach Try.prog G κ X Y L) (cs : List Craft) (set : List Int) (od : List Int) (h_cs : SmallCraftS cs) (h_set : (set.length : Int) ≤ 1048576) (h_od : (od.length : Int) ≤ 1048576) (gl : List Int) (gi : Int) (gb : Bool) (hv : (gl, gi, gb) = orderAns cs set od) (hlen : gl.length ≤ 1000000000) (v_cs v_set v_od vw x_cs x_set x_od vg : Value) (kk : Int) (hkk : 0 ≤ kk) (E : St → Prop)
    (hE : ∀ (s' : St) (σ : Unit), headOk s' [] = true → Ai.norm [0, 1, 2, 8, 9, 10, 14, 15, 16, 18] [] s' = St.at 159 [(0, .isv v_cs 2 (rows cCraft cs)), (1, .isv v_set 1 (rows cInt set)), (2, .isv v_od 1 (rows cInt od)), (8, .isv vw 1 (rows cInt gl)), (9, .int .i64 gi), (10, .bool gb), (14, .isv vg 1 (rows cInt gl)), (15, .int .i64 gi), (16, .bool gb), (18, .int .i64 1)] [] → True → E s') :
    Ai.code X L G (front 2 (rest 19 (Try.f6.body.getD .skip))) (fun e s' => match e with | .normal => E s' | .exit i => QT 6 (.exit i) s' | .ret => QT 6 .ret s') (St.at 159 [(0, .isv v_cs 2 (rows cCraft cs)), (1, .isv v_set 1 (rows cInt set)), (2, .isv v_od 1 (rows cInt od)), (8, .isv vw 1 (rows cInt gl)), (9, .int .i64 gi), (10, .bool gb), (14, .isv vg 1 (rows cInt gl)), (15, .int .i64 gi), (16, .bool gb), (17, .int .i64 kk)] []) := by
  conv => cbv
  refine r_lssF m.sX ((by omega)) ?_
  conv => cbv
  refine r_call m.sX (eqIntS_ok gl) ?_
  conv => cbv
  refine r_neqF m.sX ((by omega)) ?_
  conv => cbv
  cases gb <;> conv => cbv
  all_goals exact hE _ () (by cbv) (by cbv) trivial

theorem fnExactLearnInOrder_p4 (m : Mach Try.prog G κ X Y L) (cs : List Craft) (set : List Int) (od : List Int) (h_cs : SmallCraftS cs) (h_set : (set.length : Int) ≤ 1048576) (h_od : (od.length : Int) ≤ 1048576) (gl : List Int) (gi : Int) (gb : Bool) (hv : (gl, gi, gb) = orderAns cs set od) (hlen : gl.length ≤ 1000000000) (v_cs v_set v_od vw x_cs x_set x_od vg : Value) (zs : List Int) (hz : zs = upM 1 gl.length) (mm : Int) (hmm : mm = 1 + gl.length) :
    Ai.code X L G (rest 22 (Try.f6.body.getD .skip)) (QT 6) (St.at 159 [(0, .isv v_cs 2 (rows cCraft cs)), (1, .isv v_set 1 (rows cInt set)), (2, .isv v_od 1 (rows cInt od)), (8, .isv vw 1 (rows cInt gl)), (9, .int .i64 gi), (10, .bool gb), (14, .isv vg 1 (rows cInt zs)), (15, .int .i64 gi), (16, .bool gb), (18, .int .i64 mm)] []) := by
  conv => cbv
  refine r_callF (PV.int .i64) m.sX (heldZ_ok zs gl.length hz hlen) fun q1 hq1 => ?_
  conv => cbv
  refine r_lssF m.sX ((by omega)) ?_
  conv => cbv
  refine r_neqF m.sX ((by omega)) ?_
  conv => cbv
  refine r_call m.sX (toCraftS_ok cs h_cs) ?_
  conv => cbv
  refine r_call m.sX (toIntS_ok set h_set) ?_
  conv => cbv
  refine r_call m.sX (toIntS_ok od h_od) ?_
  conv => cbv
  refine .inl (r_callFO (licI 1 cInt) m.sX (((LearnInOrder_ok cs set od h_set h_od).ok (flat_lic flat_cInt)).ice) fun v' hv' => ?_)
  obtain rfl := hv'.trans hv.symm
  conv => cbv
  refine r_call m.sX (eqIntS_ok gl) ?_
  conv => cbv
  refine r_neqF m.sX ((by omega)) ?_
  conv => cbv
  cases gb <;> conv => cbv
  all_goals
    refine r_callF (PV.int .i64) m.sX (heldZ_ok zs gl.length hz hlen) fun q2 hq2 => ?_
    conv => cbv
    refine r_lssF m.sX ((by omega)) ?_
    conv => cbv
    refine r_neqF m.sX ((by omega)) ?_
    conv => cbv
    trivial

theorem fnExactLearnInOrder_chain (m0 : Mach Try.prog G κ X Y L) (cs : List Craft) (set : List Int) (od : List Int) (h_cs : SmallCraftS cs) (h_set : (set.length : Int) ≤ 1048576) (h_od : (od.length : Int) ≤ 1048576) (gl : List Int) (gi : Int) (gb : Bool) (hv : (gl, gi, gb) = orderAns cs set od) (hlen : gl.length ≤ 1000000000) :
    ∀ η a w, Sim κ η (St.at 159 [(0, .isl 2 (rows cCraft cs)), (1, .isl 1 (rows cInt set)), (2, .isl 1 (rows cInt od)), (8, .isl 1 (rows cInt gl)), (9, .int .i64 gi), (10, .bool gb)] []) a w → Code.wp Try.prog (rest 7 (Try.f6.body.getD .skip)) (Post κ (QT 6)) a w := by
  refine W2_pin m0 rfl fun κ1 L1 m1 l1 vs hvs => ?_
  show W2 Try.prog κ1 κ (rest 7 (Try.f6.body.getD .skip)) 6 (St.at 159 [(0, .isv (vs 0) 2 (rows cCraft cs)), (1, .isv (vs 1) 1 (rows cInt set)), (2, .isv (vs 2) 1 (rows cInt od)), (8, .isv (vs 8) 1 (rows cInt gl)), (9, .int .i64 gi), (10, .bool gb)] [])
  have f_cs := hvs 0 _ _ rfl
  generalize vs 0 = v_cs at *
  have f_set := hvs 1 _ _ rfl
  generalize vs 1 = v_set at *
  have f_od := hvs 2 _ _ rfl
  generalize vs 2 = v_od at *
  have f_w := hvs 8 _ _ rfl
  generalize vs 8 = vw at *
  clear hvs
  refine W2_call (c := rest 8 (Try.f6.body.getD .skip)) m1 l1 rfl 1 rfl rfl rfl rfl rfl rfl [0, 1, 2, 8, 9, 10, 11] (toCraftS_new cs h_cs) (.inl ⟨_, _, rfl⟩) fun κ2 L2 m2 l2 b2 s2 qq x_cs hq => ?_
  cases hq with
  | isl _ _ _ g_cs =>
  refine ⟨_, rfl, ?_⟩
  replace f_cs := low_move f_cs fun g hg => s2 g (by omega)
  replace f_set := low_move f_set fun g hg => s2 g (by omega)
  replace f_od := low_move f_od fun g hg => s2 g (by omega)
  replace f_w := low_move f_w fun g hg => s2 g (by omega)
  replace g_cs : RepI κ2.w0 (seg κ2.w0 κ1.B κ2.B) _ x_cs := g_cs
  show W2 Try.prog κ2 κ (rest 8 (Try.f6.body.getD .skip)) 6 (St.at 159 [(0, .isv v_cs 2 (rows cCraft cs)), (1, .isv v_set 1 (rows cInt set)), (2, .isv v_od 1 (rows cInt od)), (8, .isv vw 1 (rows cInt gl)), (9, .int .i64 gi), (10, .bool gb), (11, .isv x_cs 2 (rows cCraft cs))] [])
  refine W2_call (c := rest 9 (Try.f6.body.getD .skip)) m2 l2 rfl 1 rfl rfl rfl rfl rfl rfl [0, 1, 2, 8, 9, 10, 11, 12] (toIntS_new set h_set) (.inl ⟨_, _, rfl⟩) fun κ3 L3 m3 l3 b3 s3 qq x_set hq => ?_
  cases hq with
  | isl _ _ _ g_set =>
  refine ⟨_, rfl, ?_⟩
  replace f_cs := low_move f_cs fun g hg => s3 g (by omega)
  replace f_set := low_move f_set fun g hg => s3 g (by omega)
  replace f_od := low_move f_od fun g hg => s3 g (by omega)
  replace f_w := low_move f_w fun g hg => s3 g (by omega)
  replace g_cs := seg_move g_cs fun g hg1 hg2 => s3 g (by omega)
  replace g_set : RepI κ3.w0 (seg κ3.w0 κ2.B κ3.B) _ x_set := g_set
  show W2 Try.prog κ3 κ (rest 9 (Try.f6.body.getD .skip)) 6 (St.at 159 [(0, .isv v_cs 2 (rows cCraft cs)), (1, .isv v_set 1 (rows cInt set)), (2, .isv v_od 1 (rows cInt od)), (8, .isv vw 1 (rows cInt gl)), (9, .int .i64 gi), (10, .bool gb), (11, .isv x_cs 2 (rows cCraft cs)), (12, .isv x_set 1 (rows cInt set))] [])
  refine W2_call (c := rest 10 (Try.f6.body.getD .skip)) m3 l3 rfl 1 rfl rfl rfl rfl rfl rfl [0, 1, 2, 8, 9, 10, 11, 12, 13] (toIntS_new od h_od) (.inl ⟨_, _, rfl⟩) fun κ4 L4 m4 l4 b4 s4 qq x_od hq => ?_
  cases hq with
  | isl _ _ _ g_od =>
  refine ⟨_, rfl, ?_⟩
  replace f_cs := low_move f_cs fun g hg => s4 g (by omega)
  replace f_set := low_move f_set fun g hg => s4 g (by omega)
  replace f_od := low_move f_od fun g hg => s4 g (by omega)
  replace f_w := low_move f_w fun g hg => s4 g (by omega)
  replace g_cs := seg_move g_cs fun g hg1 hg2 => s4 g (by omega)
  replace g_set := seg_move g_set fun g hg1 hg2 => s4 g (by omega)
  replace g_od : RepI κ4.w0 (seg κ4.w0 κ3.B κ4.B) _ x_od := g_od
  show W2 Try.prog κ4 κ (rest 10 (Try.f6.body.getD .skip)) 6 (St.at 159 [(0, .isv v_cs 2 (rows cCraft cs)), (1, .isv v_set 1 (rows cInt set)), (2, .isv v_od 1 (rows cInt od)), (8, .isv vw 1 (rows cInt gl)), (9, .int .i64 gi), (10, .bool gb), (11, .isv x_cs 2 (rows cCraft cs)), (12, .isv x_set 1 (rows cInt set)), (13, .isv x_od 1 (rows cInt od))] [])
  refine W2_call (c := rest 11 (Try.f6.body.getD .skip)) m4 l4 rfl 3 rfl rfl rfl rfl rfl rfl [0, 1, 2, 8, 9, 10, 11, 12, 13, 14, 15, 16] (res := licI 1 cInt (gl, gi, gb)) (by rw [hv]; exact (((LearnInOrder_ok cs set od h_set h_od).ok (flat_lic flat_cInt)).ice)) (.inr (.inr ⟨_, _, _, _, _, rfl⟩)) fun κ5 L5 m5 l5 b5 s5 qq vv hq => ?_
  obtain ⟨vg, rfl, g_g⟩ := PinR.inv3 hq
  refine ⟨_, rfl, ?_⟩
  replace f_cs := low_move f_cs fun g hg => s5 g (by omega)
  replace f_set := low_move f_set fun g hg => s5 g (by omega)
  replace f_od := low_move f_od fun g hg => s5 g (by omega)
  replace f_w := low_move f_w fun g hg => s5 g (by omega)
  replace g_cs := seg_move g_cs fun g hg1 hg2 => s5 g (by omega)
  replace g_set := seg_move g_set fun g hg1 hg2 => s5 g (by omega)
  replace g_od := seg_move g_od fun g hg1 hg2 => s5 g (by omega)
  replace g_g : RepI κ5.w0 (seg κ5.w0 κ4.B κ5.B) _ vg := g_g
  show W2 Try.prog κ5 κ (rest 11 (Try.f6.body.getD .skip)) 6 (St.at 159 [(0, .isv v_cs 2 (rows cCraft cs)), (1, .isv v_set 1 (rows cInt set)), (2, .isv v_od 1 (rows cInt od)), (8, .isv vw 1 (rows cInt gl)), (9, .int .i64 gi), (10, .bool gb), (11, .isv x_cs 2 (rows cCraft cs)), (12, .isv x_set 1 (rows cInt set)), (13, .isv x_od 1 (rows cInt od)), (14, .isv vg 1 (rows cInt gl)), (15, .int .i64 gi), (16, .bool gb)] [])
  refine W2_cut m5 l5 5 159 [0, 1, 2, 8, 9, 10, 11, 12, 13, 14, 15, 16, 17] (fun _ : Unit => [(0, .isv v_cs 2 (rows cCraft cs)), (1, .isv v_set 1 (rows cInt set)), (2, .isv v_od 1 (rows cInt od)), (8, .isv vw 1 (rows cInt gl)), (9, .int .i64 gi), (10, .bool gb), (11, .isv x_cs 2 (rows cCraft cs)), (12, .isv x_set 1 (rows cInt set)), (13, .isv x_od 1 (rows cInt od)), (14, .isv vg 1 (rows cInt gl)), (15, .int .i64 gi), (16, .bool gb), (17, .int .i64 1)]) (fun _ => True) (fnExactLearnInOrder_p2 m5 cs set od h_cs h_set h_od gl gi gb hv hlen v_cs v_set v_od vw x_cs x_set x_od vg) fun _ _ => ?_
  show W2 Try.prog κ5 κ (rest 16 (Try.f6.body.getD .skip)) 6 (St.at 159 [(0, .isv v_cs 2 (rows cCraft cs)), (1, .isv v_set 1 (rows cInt set)), (2, .isv v_od 1 (rows cInt od)), (8, .isv vw 1 (rows cInt gl)), (9, .int .i64 gi), (10, .bool gb), (11, .isv x_cs 2 (rows cCraft cs)), (12, .isv x_set 1 (rows cInt set)), (13, .isv x_od 1 (rows cInt od)), (14, .isv vg 1 (rows cInt gl)), (15, .int .i64 gi), (16, .bool gb), (17, .int .i64 1)] [])
  have c_cs : sumN (cs.map fun c => c.1.length + 1) ≤ 2000000000000 := craftN_le cs h_cs
  refine W2_mark (c := rest 17 (Try.f6.body.getD .skip)) m5 l5 rfl 2 rfl rfl rfl rfl rfl rfl rfl g_cs (fun g hg => ⟨by have := hg.1; have := l1.B; omega, by have := hg.2.1; omega, hg.2.2⟩) (by omega) (by omega) (markCraftS_ok cs) [0, 1, 2, 8, 9, 10, 12, 13, 14, 15, 16] [0, 1, 2, 8, 9, 10, 12, 13, 14, 15, 16, 17] ?_ fun κ6 L6 m6 l6 b6 s6 _ => ?_
  · intro i hi
    simp only [List.mem_cons, List.not_mem_nil, or_false] at hi
    rcases hi with rfl | rfl | rfl | rfl | rfl | rfl | rfl | rfl | rfl | rfl | rfl
    · exact .inr ⟨_, _, _, _, rfl, f_cs, fun g hg => ⟨by omega, fun hj => by have := hj.1; omega⟩⟩
    · exact .inr ⟨_, _, _, _, rfl, f_set, fun g hg => ⟨by omega, fun hj => by have := hj.1; omega⟩⟩
    · exact .inr ⟨_, _, _, _, rfl, f_od, fun g hg => ⟨by omega, fun hj => by have := hj.1; omega⟩⟩
    · exact .inr ⟨_, _, _, _, rfl, f_w, fun g hg => ⟨by omega, fun hj => by have := hj.1; omega⟩⟩
    · exact .inl rfl
    · exact .inl rfl
    · exact .inr ⟨_, _, _, _, rfl, g_set, fun g hg => ⟨by have := hg.2.1; omega, fun hj => by have := hj.2.1; have := hg.1; omega⟩⟩
    · exact .inr ⟨_, _, _, _, rfl, g_od, fun g hg => ⟨by have := hg.2.1; omega, fun hj => by have := hj.2.1; have := hg.1; omega⟩⟩
    · exact .inr ⟨_, _, _, _, rfl, g_g, fun g hg => ⟨by have := hg.2.1; omega, fun hj => by have := hj.2.1; have := hg.1; omega⟩⟩
    · exact .inl rfl
    · exact .inl rfl
  refine ⟨_, rfl, ?_⟩
  replace f_cs := low_move f_cs fun g hg => s6 g (by omega) fun hj => by have := hj.1; omega
  replace f_set := low_move f_set fun g hg => s6 g (by omega) fun hj => by have := hj.1; omega
  replace f_od := low_move f_od fun g hg => s6 g (by omega) fun hj => by have := hj.1; omega
  replace f_w := low_move f_w fun g hg => s6 g (by omega) fun hj => by have := hj.1; omega
  replace g_set := seg_move g_set fun g hg1 hg2 => s6 g (by omega) fun hj => by have := hj.2.1; omega
  replace g_od := seg_move g_od fun g hg1 hg2 => s6 g (by omega) fun hj => by have := hj.2.1; omega
  replace g_g := seg_move g_g fun g hg1 hg2 => s6 g (by omega) fun hj => by have := hj.2.1; omega
  clear g_cs
  obtain ⟨k6, ek6⟩ : ∃ k6 : Int, k6 = 1 + (sumN (cs.map fun c => c.1.length + 1) : Nat) := ⟨_, rfl⟩
  rw [← ek6]
  show W2 Try.prog κ6 κ (rest 17 (Try.f6.body.getD .skip)) 6 (St.at 159 [(0, .isv v_cs 2 (rows cCraft cs)), (1, .isv v_set 1 (rows cInt set)), (2, .isv v_od 1 (rows cInt od)), (8, .isv vw 1 (rows cInt gl)), (9, .int .i64 gi), (10, .bool gb), (12, .isv x_set 1 (rows cInt set)), (13, .isv x_od 1 (rows cInt od)), (14, .isv vg 1 (rows cInt gl)), (15, .int .i64 gi), (16, .bool gb), (17, .int .i64 k6)] [])
  have c_set : set.length ≤ 2000000000000 := intN_le set h_set
  refine W2_mark (c := rest 18 (Try.f6.body.getD .skip)) m6 l6 rfl 2 rfl rfl rfl rfl rfl rfl rfl g_set (fun g hg => ⟨by have := hg.1; have := l1.B; omega, by have := hg.2.1; omega, hg.2.2⟩) (by omega) (by omega) (markIntS_ok set) [0, 1, 2, 8, 9, 10, 13, 14, 15, 16] [0, 1, 2, 8, 9, 10, 13, 14, 15, 16, 17] ?_ fun κ7 L7 m7 l7 b7 s7 _ => ?_
  · intro i hi
    simp only [List.mem_cons, List.not_mem_nil, or_false] at hi
    rcases hi with rfl | rfl | rfl | rfl | rfl | rfl | rfl | rfl | rfl | rfl
    · exact .inr ⟨_, _, _, _, rfl, f_cs, fun g hg => ⟨by omega, fun hj => by have := hj.1; omega⟩⟩
    · exact .inr ⟨_, _, _, _, rfl, f_set, fun g hg => ⟨by omega, fun hj => by have := hj.1; omega⟩⟩
    · exact .inr ⟨_, _, _, _, rfl, f_od, fun g hg => ⟨by omega, fun hj => by have := hj.1; omega⟩⟩
    · exact .inr ⟨_, _, _, _, rfl, f_w, fun g hg => ⟨by omega, fun hj => by have := hj.1; omega⟩⟩
    · exact .inl rfl
    · exact .inl rfl
    · exact .inr ⟨_, _, _, _, rfl, g_od, fun g hg => ⟨by have := hg.2.1; omega, fun hj => by have := hj.2.1; have := hg.1; omega⟩⟩
    · exact .inr ⟨_, _, _, _, rfl, g_g, fun g hg => ⟨by have := hg.2.1; omega, fun hj => by have := hj.2.1; have := hg.1; omega⟩⟩
    · exact .inl rfl
    · exact .inl rfl
  refine ⟨_, rfl, ?_⟩
  replace f_cs := low_move f_cs fun g hg => s7 g (by omega) fun hj => by have := hj.1; omega
  replace f_set := low_move f_set fun g hg => s7 g (by omega) fun hj => by have := hj.1; omega
  replace f_od := low_move f_od fun g hg => s7 g (by omega) fun hj => by have := hj.1; omega
  replace f_w := low_move f_w fun g hg => s7 g (by omega) fun hj => by have := hj.1; omega
  replace g_od := seg_move g_od fun g hg1 hg2 => s7 g (by omega) fun hj => by have := hj.2.1; omega
  replace g_g := seg_move g_g fun g hg1 hg2 => s7 g (by omega) fun hj => by have := hj.2.1; omega
  clear g_set
  obtain ⟨k7, ek7⟩ : ∃ k7 : Int, k7 = k6 + (set.length : Nat) := ⟨_, rfl⟩
  rw [← ek7]
  show W2 Try.prog κ7 κ (rest 18 (Try.f6.body.getD .skip)) 6 (St.at 159 [(0, .isv v_cs 2 (rows cCraft cs)), (1, .isv v_set 1 (rows cInt set)), (2, .isv v_od 1 (rows cInt od)), (8, .isv vw 1 (rows cInt gl)), (9, .int .i64 gi), (10, .bool gb), (13, .isv x_od 1 (rows cInt od)), (14, .isv vg 1 (rows cInt gl)), (15, .int .i64 gi), (16, .bool gb), (17, .int .i64 k7)] [])
  have c_od : od.length ≤ 2000000000000 := intN_le od h_od
  refine W2_mark (c := rest 19 (Try.f6.body.getD .skip)) m7 l7 rfl 2 rfl rfl rfl rfl rfl rfl rfl g_od (fun g hg => ⟨by have := hg.1; have := l1.B; omega, by have := hg.2.1; omega, hg.2.2⟩) (by omega) (by omega) (markIntS_ok od) [0, 1, 2, 8, 9, 10, 14, 15, 16] [0, 1, 2, 8, 9, 10, 14, 15, 16, 17] ?_ fun κ8 L8 m8 l8 b8 s8 _ => ?_
  · intro i hi
    simp only [List.mem_cons, List.not_mem_nil, or_false] at hi
    rcases hi with rfl | rfl | rfl | rfl | rfl | rfl | rfl | rfl | rfl
    · exact .inr ⟨_, _, _, _, rfl, f_cs, fun g hg => ⟨by omega, fun hj => by have := hj.1; omega⟩⟩
    · exact .inr ⟨_, _, _, _, rfl, f_set, fun g hg => ⟨by omega, fun hj => by have := hj.1; omega⟩⟩
    · exact .inr ⟨_, _, _, _, rfl, f_od, fun g hg => ⟨by omega, fun hj => by have := hj.1; omega⟩⟩
    · exact .inr ⟨_, _, _, _, rfl, f_w, fun g hg => ⟨by omega, fun hj => by have := hj.1; omega⟩⟩
    · exact .inl rfl
    · exact .inl rfl
    · exact .inr ⟨_, _, _, _, rfl, g_g, fun g hg => ⟨by have := hg.2.1; omega, fun hj => by have := hj.2.1; have := hg.1; omega⟩⟩
    · exact .inl rfl
    · exact .inl rfl
  refine ⟨_, rfl, ?_⟩
  replace f_cs := low_move f_cs fun g hg => s8 g (by omega) fun hj => by have := hj.1; omega
  replace f_set := low_move f_set fun g hg => s8 g (by omega) fun hj => by have := hj.1; omega
  replace f_od := low_move f_od fun g hg => s8 g (by omega) fun hj => by have := hj.1; omega
  replace f_w := low_move f_w fun g hg => s8 g (by omega) fun hj => by have := hj.1; omega
  replace g_g := seg_move g_g fun g hg1 hg2 => s8 g (by omega) fun hj => by have := hj.2.1; omega
  clear g_od
  obtain ⟨k8, ek8⟩ : ∃ k8 : Int, k8 = k7 + (od.length : Nat) := ⟨_, rfl⟩
  rw [← ek8]
  show W2 Try.prog κ8 κ (rest 19 (Try.f6.body.getD .skip)) 6 (St.at 159 [(0, .isv v_cs 2 (rows cCraft cs)), (1, .isv v_set 1 (rows cInt set)), (2, .isv v_od 1 (rows cInt od)), (8, .isv vw 1 (rows cInt gl)), (9, .int .i64 gi), (10, .bool gb), (14, .isv vg 1 (rows cInt gl)), (15, .int .i64 gi), (16, .bool gb), (17, .int .i64 k8)] [])
  refine W2_cut m8 l8 2 159 [0, 1, 2, 8, 9, 10, 14, 15, 16, 18] (fun _ : Unit => [(0, .isv v_cs 2 (rows cCraft cs)), (1, .isv v_set 1 (rows cInt set)), (2, .isv v_od 1 (rows cInt od)), (8, .isv vw 1 (rows cInt gl)), (9, .int .i64 gi), (10, .bool gb), (14, .isv vg 1 (rows cInt gl)), (15, .int .i64 gi), (16, .bool gb), (18, .int .i64 1)]) (fun _ => True) (fnExactLearnInOrder_p3 m8 cs set od h_cs h_set h_od gl gi gb hv hlen v_cs v_set v_od vw x_cs x_set x_od vg k8 (by omega)) fun _ _ => ?_
  show W2 Try.prog κ8 κ (rest 21 (Try.f6.body.getD .skip)) 6 (St.at 159 [(0, .isv v_cs 2 (rows cCraft cs)), (1, .isv v_set 1 (rows cInt set)), (2, .isv v_od 1 (rows cInt od)), (8, .isv vw 1 (rows cInt gl)), (9, .int .i64 gi), (10, .bool gb), (14, .isv vg 1 (rows cInt gl)), (15, .int .i64 gi), (16, .bool gb), (18, .int .i64 1)] [])
  refine W2_markX (c := rest 22 (Try.f6.body.getD .skip)) m8 l8 rfl 2 rfl rfl rfl rfl rfl rfl rfl g_g (fun g hg => ⟨by have := hg.1; have := l1.B; omega, by have := hg.2.1; omega, hg.2.2⟩) (by omega) (by omega) (markIntS_ok gl) (fun w J hr => hr) 14 rfl [0, 1, 2, 8, 9, 10, 15, 16] [0, 1, 2, 8, 9, 10, 14, 15, 16, 18] ?_ fun κ9 L9 m9 l9 b9 s9 _ => ?_
  · intro i hi
    simp only [List.mem_cons, List.not_mem_nil, or_false] at hi
    rcases hi with rfl | rfl | rfl | rfl | rfl | rfl | rfl | rfl
    · exact .inr ⟨_, _, _, _, rfl, f_cs, fun g hg => ⟨by omega, fun hj => by have := hj.1; omega⟩⟩
    · exact .inr ⟨_, _, _, _, rfl, f_set, fun g hg => ⟨by omega, fun hj => by have := hj.1; omega⟩⟩
    · exact .inr ⟨_, _, _, _, rfl, f_od, fun g hg => ⟨by omega, fun hj => by have := hj.1; omega⟩⟩
    · exact .inr ⟨_, _, _, _, rfl, f_w, fun g hg => ⟨by omega, fun hj => by have := hj.1; omega⟩⟩
    · exact .inl rfl
    · exact .inl rfl
    · exact .inl rfl
    · exact .inl rfl
  refine ⟨_, rfl, ?_⟩
  exact W2_last m9 l9 (fnExactLearnInOrder_p4 m9 cs set od h_cs h_set h_od gl gi gb hv hlen v_cs v_set v_od vw x_cs x_set x_od vg _ rfl (1 + (gl.length : Nat)) rfl)
end

theorem lawLearnInOrder_ok (cs : List Craft) (set : List Int) (od : List Int) : OkA Try.prog 6 [.isl 2 (rows cCraft cs), .isl 1 (rows cInt set), .isl 1 (rows cInt od)] (· = .bool true) :=
  fn_introW envOk fieldsOk mixed Try.func6 rfl (c := Try.f6.body.getD .skip) rfl fun κ X Y L Q m hQ => by
    refine W_cut m 7 159 [0, 1, 2, 8, 9, 10] [] (fun σ : List Int × Int × Bool => [(0, .isl 2 (rows cCraft cs)), (1, .isl 1 (rows cInt set)), (2, .isl 1 (rows cInt od)), (8, .isl 1 (rows cInt σ.1)), (9, .int .i64 σ.2.1), (10, .bool σ.2.2)]) (fun σ => []) (fun σ => SmallCraftS cs ∧ (set.length : Int) ≤ 1048576 ∧ (od.length : Int) ≤ 1048576 ∧ σ = orderAns cs set od) (fnExactLearnInOrder_p1 m hQ cs set od) fun ⟨gl, gi, gb⟩ ⟨h_cs, h_set, h_od, hv⟩ => ?_
    have hlen : gl.length ≤ 1000000000 := by have e := congrArg (fun z : List Int × Int × Bool => z.1.length) hv; dsimp only at e; rw [e]; exact orderAns_len cs set od h_set h_od
    exact W_of2 (fnExactLearnInOrder_chain m cs set od h_cs h_set h_od gl gi gb hv hlen) (hQ _ rfl)
end Go.Proofs.Ytnamefdhmlbcpaa.Ai
