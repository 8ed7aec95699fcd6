/- The law FnChases: its body returns true. -/
import Derived.Test.YtiaodmfipeoegaaChaseDraw
import Derived.Test.YtiaodmfipeoegaaAiCut
namespace Go.Proofs.Ytiaodmfipeoegaa.Ai
open Go Go.Proofs
set_option linter.unusedSimpArgs false
set_option maxRecDepth 10000
set_option maxHeartbeats 4000000
set_option linter.unusedVariables false
theorem turn_bnd {w h : Int} {ps : List Piece} {pl t : List Plc} {b : Bool} (e : (t, b) = turnA w h ps pl) (hb : ∀ p ∈ pl, p.2.1 ≤ 1000000 ∧ p.2.2.1 ≤ 1000000) : ∀ p ∈ t, p.2.1 ≤ 1000000 ∧ p.2.2.1 ≤ 1000000 := fun p hp => by
  unfold turnA at e
  split at e
  · rw [(Prod.mk.inj e).1] at hp
    obtain ⟨q, hq, rfl⟩ := List.mem_map.1 hp
    have := hb q hq
    exact ⟨this.2, this.1⟩
  · rw [(Prod.mk.inj e).1] at hp; cases hp
theorem turn_ok {w h : Int} {ps : List Piece} {pl t : List Plc} {b : Bool} (e : (t, b) = turnA w h ps pl) : (chaseF w h ps pl).isSome = b := by
  unfold turnA at e; split at e <;> rename_i hc <;> rw [hc, (Prod.mk.inj e).2] <;> rfl
theorem fr_ok {w h n : Int} {ps : List Piece} {pl : List Plc} {b : Bool} (e : (n, b) = frA w h ps pl) : (chaseF w h ps pl).isSome = b := by
  unfold frA at e; split at e <;> rename_i hc <;> rw [hc, (Prod.mk.inj e).2] <;> rfl
theorem fil_ok {w h : Int} {ps : List Piece} {pl : List Plc} {a b : Bool} (e : (a, b) = fillA w h ps pl) : (chaseF w h ps pl).isSome = b := by
  unfold fillA at e; split at e <;> rename_i hc <;> rw [hc, (Prod.mk.inj e).2] <;> rfl
theorem pic_ok {w h : Int} {ps : List Piece} {pl : List Plc} {s : List UInt8} {b : Bool} (e : (s, b) = picA w h ps pl) : (chaseF w h ps pl).isSome = b := by
  unfold picA at e; split at e <;> rename_i hc <;> rw [hc, (Prod.mk.inj e).2] <;> rfl
theorem area_ok2 {ps : List Piece} {n : Int} {b : Bool} (e : (n, b) = areaA ps) : okPs ps = b := by
  unfold areaA at e
  split at e
  · rename_i h; rw [h, (Prod.mk.inj e).2]
  · rename_i h; rw [(Prod.mk.inj e).2]; simpa using h
theorem sgn_ascii {c : Int} (h : -1 ≤ c ∧ c ≤ 7) : (sgnC c).toNat < 128 := by
  rcases (show c = -1 ∨ c = 0 ∨ c = 1 ∨ c = 2 ∨ c = 3 ∨ c = 4 ∨ c = 5 ∨ c = 6 ∨ c = 7 by omega) with rfl | rfl | rfl | rfl | rfl | rfl | rfl | rfl | rfl <;> decide
theorem pic_ascii {w h : Nat} {G : Grid} (hs : smallG w h G) : ∀ b ∈ picF (tabG w h G), b.toNat < 128 := fun b hb => by
  unfold picF at hb
  obtain ⟨r, hr, hb⟩ := List.mem_flatMap.1 hb
  rcases List.mem_append.1 hb with hb | hb
  · obtain ⟨c, hc, rfl⟩ := List.mem_map.1 hb
    exact sgn_ascii (tabG_small hs r hr c hc)
  · rw [List.mem_singleton.1 hb]; decide
theorem isSome_none {α : Type} {o : Option α} (h : o.isSome = false) : o = none := by cases o with | none => rfl | some _ => cases h
noncomputable abbrev midChases (more : List Int) : List (Nat × PV) := [(1, .isl 1 (rows cU8 more))]

section
variable {κ : Ctx} {X Y : Req → (PV → Prop) → Prop} {L : Code → (Ex → St → Prop) → St → Prop} {Q : PV → Prop}

theorem chases_part1 (m : Mach Try.prog G κ X Y L) (hQ : ∀ r, r = PV.bool true → Q r) (code more : List Int) (hf : ∀ x ∈ code, 0 ≤ x ∧ x ≤ 255) (hg : ∀ x ∈ more, 0 ≤ x ∧ x ≤ 255) :
    Ai.code X L G (Try.f3.body.getD .skip) (EndsIn (post G Try.f3.results.toList Q)) (start 283 [.isl 1 (rows cU8 code), .isl 1 (rows cU8 more)] []) := by
  conv => cbv
  refine r_lenR m.sX fun n1 hn1 mn1 => ?_
  conv => cbv
  refine r_lenR m.sX fun n2 hn2 mn2 => ?_
  conv => cbv
  refine r_add m.sX fun r1 hr1 => ?_
  conv => cbv
  refine r_gtr m.sX (fun h1 => ?_) (fun h1 => ?_) <;> conv => cbv
  · exact hQ _ (congrArg PV.bool (by first | rfl | omega | (simp [*]; done) | (subst_vars; simp [*]; done)))   -- leaf 1
  · have h : CurIn code := ⟨by omega, hf⟩
    have hmr : (more.length : Int) ≤ 9223372036854775807 := by omega
    refine r_callE m.sX ((drawTurnChase_ok code h).iceE) ?_
    rintro _ ⟨_, ⟨w, h_, pieces, placed, rfl, bw_1⟩, rfl⟩
    conv => cbv
    refine r_callF (lbI 4 cPlaced) m.sX ((TurnChase_ok w h_ pieces placed (by first | rfl | assumption | omega | (simp only [List.length_append, List.length_cons, List.length_nil] at *; omega))).ice) fun v ht => ?_
    obtain ⟨t, ok⟩ := v
    conv => cbv
    have h : CurIn more := ⟨by omega, hg⟩
    have bt := turn_bnd ht (by assumption)
    have o1 := turn_ok ht
    refine r_callF (lbI 4 cPlaced) m.sX ((specTurnChase_ok w h_ pieces placed).ice) fun y1 hy1 => ?_
    obtain rfl := ht.trans hy1.symm
    clear hy1
    conv => cbv
    refine r_callF ib m.sX (FreePlaces_ok w h_ pieces placed (by first | rfl | assumption | omega | (simp only [List.length_append, List.length_cons, List.length_nil] at *; omega))) fun v hn => ?_
    obtain ⟨n, one⟩ := v
    conv => cbv
    have o2 := fr_ok hn
    refine r_callF ib m.sX (specFreePlaces_ok w h_ pieces placed) fun y2 hy2 => ?_
    obtain rfl := hn.trans hy2.symm
    clear hy2
    conv => cbv
    refine r_callF bb m.sX (IsFilled_ok w h_ pieces placed (by first | rfl | assumption | omega | (simp only [List.length_append, List.length_cons, List.length_nil] at *; omega))) fun v hf => ?_
    obtain ⟨f, three⟩ := v
    conv => cbv
    have o3 := fil_ok hf
    refine r_callF bb m.sX (specIsFilled_ok w h_ pieces placed) fun y3 hy3 => ?_
    obtain rfl := hf.trans hy3.symm
    clear hy3
    conv => cbv
    refine r_callF sb m.sX (ChasePicture_ok w h_ pieces placed (by assumption)) fun v hp => ?_
    obtain ⟨p, five⟩ := v
    conv => cbv
    have o5 := pic_ok hp
    refine r_callF sb m.sX (specChasePicture_ok w h_ pieces placed) fun y4 hy4 => ?_
    obtain rfl := hp.trans hy4.symm
    clear hy4
    conv => cbv
    rcases Bool.eq_false_or_eq_true ok with rfl | rfl <;> conv => cbv
    · obtain ⟨G0, eG⟩ := Option.isSome_iff_exists.1 o1
      obtain ⟨K1, K2, K3, K4, K5, K6, K7, K8, K9⟩ := chase_law G0 eG
      have et := (Prod.mk.inj (ht.trans K1)).1
      rw [← et] at K5 K6 K7
      have en := (Prod.mk.inj (hn.trans K2)).1
      have ep := (Prod.mk.inj (hp.trans K4)).1
      have asc : ∀ b ∈ p, b.toNat < 128 := by rw [ep]; exact pic_ascii (chaseF_some eG).2.1
      rw [← ep] at K8 K9
      rw [← en] at K9
      have ef := (Prod.mk.inj (hf.trans K3)).1
      rw [← en] at ef
      have cb := (okCh_spec (chaseF_some eG).1)
      refine r_callBT m.sX (qPlaced_ok t t) (by first | assumption | exact decide_eq_true rfl | (simp [*]; done) | omega) ?_   -- h2
      conv => cbv
      obtain rfl : one = true := by exact o2.symm.trans o1
      conv => cbv
      refine r_neqF m.sX (by first | omega | rfl) ?_
      conv => cbv
      obtain rfl : three = true := by exact o3.symm.trans o1
      conv => cbv
      rcases Bool.eq_false_or_eq_true f with rfl | rfl <;> conv => cbv
      · obtain rfl : five = true := by exact o5.symm.trans o1
        conv => cbv
        refine r_sneqF m.sX (by first | omega | rfl) ?_
        conv => cbv
        refine r_callF ib m.sX (FreePlaces_ok h_ w pieces t (by first | rfl | assumption | omega | (simp only [List.length_append, List.length_cons, List.length_nil] at *; omega))) fun v hother => ?_
        obtain ⟨other, seven⟩ := v
        conv => cbv
        refine r_callF (lbI 4 cPlaced) m.sX ((TurnChase_ok h_ w pieces t (by first | rfl | assumption | omega | (simp only [List.length_append, List.length_cons, List.length_nil] at *; omega))).ice) fun v hback => ?_
        obtain ⟨back, eight⟩ := v
        conv => cbv
        refine r_callF bb m.sX (IsFilled_ok h_ w pieces t (by first | rfl | assumption | omega | (simp only [List.length_append, List.length_cons, List.length_nil] at *; omega))) fun v hsame => ?_
        obtain ⟨same, nine⟩ := v
        conv => cbv
        obtain rfl : seven = true := by exact (Prod.mk.inj (hother.trans K5)).2
        conv => cbv
        refine r_neqF m.sX ((by exact (Prod.mk.inj (hother.trans K5)).1.trans en.symm)) ?_
        conv => cbv
        obtain rfl : eight = true := by exact (Prod.mk.inj (hback.trans K6)).2
        conv => cbv
        refine r_callBT m.sX (qPlaced_ok back placed) (by exact decide_eq_true (Prod.mk.inj (hback.trans K6)).1) ?_   -- h6
        conv => cbv
        obtain rfl : nine = true := by exact (Prod.mk.inj (hsame.trans K7)).2
        conv => cbv
        obtain rfl : same = true := by rw [← en] at K7; exact ((Prod.mk.inj (hsame.trans K7)).1).trans ef.symm
        conv => cbv
        refine r_slen (u := p) m.sX fun n3 hn3 mn3 => ?_   -- n3 = length of p
        conv => cbv
        refine r_addf m.sX (by omega) (by omega) fun r2 hr2 => ?_
        conv => cbv
        have mb := mul_bound (a := h_) (A := 8) (b := r2) (B := 9) (by omega) (by omega) (by omega) (by omega)
        refine r_mulf m.sX (by first | omega | (subst_vars; omega)) (by first | omega | (subst_vars; omega)) fun r3 hr3 => ?_
        conv => cbv
        refine r_neqF m.sX ((by rw [hn3, hr3, hr2]; exact K8)) ?_
        conv => cbv
        refine r_neqF m.sX ((by have z := (Bool.and_eq_true _ _ |>.mp ef.symm).1; exact of_decide_eq_true z)) ?_
        conv => cbv
        refine r_loopF (α := Int × Nat) m 283 [1, 15, 23, 31] [⟨237, 1897, 0, 0, 0⟩] (fun σ => [(1, .isl 1 (rows cU8 more)), (15, .int .i64 n), (23, .str p), (31, .int .i64 σ.1), (237, .optr 1897 0 0 0 0)]) (fun σ => [(1897, 0, .iter p σ.2)])
          (fun σ => (σ.2 ≤ p.length) ∧ (σ.1 = dotB (p.take σ.2)) ∧ (0 ≤ σ.1 ∧ σ.1 ≤ σ.2)) (fun σ => p.length - σ.2) (0, 0) ?_ ?_ ?_ ?_
        · cbv
        · cbv
        · exact ⟨(by (try dsimp only); first | omega | (simp only [List.length_nil]; omega) | (simp only [List.length_cons, List.length_nil]; omega)), (by (try dsimp only) <;> (rfl)), (by (try dsimp only) <;> first | omega | rfl | (simp [*]; done))⟩
        rintro ⟨dots, p1⟩ ⟨lp1, q, db⟩ E hE F hF
        dsimp only at lp1 q db
        conv => cbv
        refine r_snext (u := p) (p := p1) m.sX (fun hp1 => ?_) (fun x1 hx1 => ⟨asc x1 (List.mem_of_getElem? hx1), fun i1 c1 hi1 hc1 => ?_⟩) <;> conv => cbv
        · have dz_p1 := drop_end (xs := p) (i := p1) (by omega)
          have tz_p1 := take_end (xs := p) (i := p1) (by omega)
          refine hF _ _ ?_
          conv => cbv
          refine r_neqF m.sX ((by rw [q, tz_p1]; exact K9)) ?_
          conv => cbv
          refine r_callE m.sX ((drawArePieces_ok more h).iceE) ?_
          rintro _ ⟨_, ⟨u, rfl, bu_1⟩, rfl⟩
          conv => cbv
          refine r_callF ib m.sX (PieceArea_ok u) fun v ha => ?_
          obtain ⟨a, seven_2⟩ := v
          conv => cbv
          refine r_callF ib m.sX (specPieceArea_ok u) fun y5 hy5 => ?_
          obtain rfl := ha.trans hy5.symm
          clear hy5
          conv => cbv
          refine r_callB m.sX (ArePieces_ok u) (fun h10 => ?_) (fun h10 => ?_) <;> conv => cbv
          · refine r_callBT m.sX (specArePieces_ok u) h10 ?_
            conv => cbv
            obtain rfl : seven_2 = true := by exact (area_ok2 ha).symm.trans h10
            conv => cbv
            refine r_eqlT m.sX (by first | omega | rfl) ?_
            conv => cbv
            refine r_callBT m.sX (ArePieces_ok u) h10 ?_
            conv => cbv
            exact hQ _ (congrArg PV.bool (by first | rfl | omega | (simp [*]; done) | (subst_vars; simp [*]; done) | (rw [q]; simp [*]; done) | (rw [db]; simp [*]; done)))   -- leaf 2
          · refine r_callBF m.sX (specArePieces_ok u) h10 ?_
            conv => cbv
            obtain rfl : seven_2 = false := by exact (area_ok2 ha).symm.trans h10
            conv => cbv
            refine r_eqlT m.sX (by first | omega | rfl) ?_
            conv => cbv
            refine r_callBF m.sX (ArePieces_ok u) h10 ?_
            conv => cbv
            exact hQ _ (congrArg PV.bool (by first | rfl | omega | (simp [*]; done) | (subst_vars; simp [*]; done) | (rw [q]; simp [*]; done) | (rw [db]; simp [*]; done)))   -- leaf 3
        · have ltx1 := (List.getElem?_eq_some_iff.1 hx1).1
          have ti1 : Int.toNat i1 = p1 := by omega
          have gx1 : p[Int.toNat i1]? = some x1 := by rw [ti1]; exact hx1
          have dx1 := drop_cons hx1
          have kx1 := take_snoc hx1
          have mx1 := get_mem hx1
          have bc1 : 0 ≤ c1 ∧ c1 ≤ 255 := by have := x1.toNat_lt; omega
          have hx1_g := gx1
          refine r_sidx (u := p) (i := i1) m.sX (by omega) (by first | omega | (simp only [List.length_cons, List.length_nil]; omega) | (simp; omega)) fun x2 hx2 c2 hc2 bc2 => ?_   -- x2 = p[i1]
          obtain rfl := Option.some.inj (hx1_g.symm.trans hx2)
          obtain rfl := hc1.trans hc2.symm
          conv => cbv
          refine r_eql m.sX (fun h13 => ?_) (fun h13 => ?_) <;> conv => cbv
          · refine r_addf m.sX (by omega) (by omega) fun dots_2 hdots_2 => ?_
            conv => cbv
            refine hE _ (dots_2, p1 + 1) ?_ ?_ ⟨(by (try dsimp only); first | omega | (simp only [List.length_nil]; omega) | (simp only [List.length_cons, List.length_nil]; omega)), (by (try dsimp only) <;> (first | (rw [dotB_take hx1, if_pos (by omega), ← q]; omega) | (rw [dotB_take hx1, if_neg (by omega), ← q]; omega))), (by (try dsimp only) <;> first | omega | rfl | (simp [*]; done) | (rw [db]; simp [*]; done))⟩ (by first | omega | (dsimp only; omega))
            · cbv
            · cbv
          · refine hE _ (dots, p1 + 1) ?_ ?_ ⟨(by (try dsimp only); first | omega | (simp only [List.length_nil]; omega) | (simp only [List.length_cons, List.length_nil]; omega)), (by (try dsimp only) <;> (first | (rw [dotB_take hx1, if_pos (by omega), ← q]; omega) | (rw [dotB_take hx1, if_neg (by omega), ← q]; omega))), (by (try dsimp only) <;> first | omega | rfl | (simp [*]; done) | (rw [db]; simp [*]; done))⟩ (by first | omega | (dsimp only; omega))
            · cbv
            · cbv
      · obtain rfl : five = true := by exact o5.symm.trans o1
        conv => cbv
        refine r_sneqF m.sX (by first | omega | rfl) ?_
        conv => cbv
        refine r_callF ib m.sX (FreePlaces_ok h_ w pieces t (by first | rfl | assumption | omega | (simp only [List.length_append, List.length_cons, List.length_nil] at *; omega))) fun v hother_2 => ?_
        obtain ⟨other_2, seven_3⟩ := v
        conv => cbv
        refine r_callF (lbI 4 cPlaced) m.sX ((TurnChase_ok h_ w pieces t (by first | rfl | assumption | omega | (simp only [List.length_append, List.length_cons, List.length_nil] at *; omega))).ice) fun v hback_2 => ?_
        obtain ⟨back_2, eight_2⟩ := v
        conv => cbv
        refine r_callF bb m.sX (IsFilled_ok h_ w pieces t (by first | rfl | assumption | omega | (simp only [List.length_append, List.length_cons, List.length_nil] at *; omega))) fun v hsame_2 => ?_
        obtain ⟨same_2, nine_2⟩ := v
        conv => cbv
        obtain rfl : seven_3 = true := by exact (Prod.mk.inj (hother_2.trans K5)).2
        conv => cbv
        refine r_neqF m.sX ((by exact (Prod.mk.inj (hother_2.trans K5)).1.trans en.symm)) ?_
        conv => cbv
        obtain rfl : eight_2 = true := by exact (Prod.mk.inj (hback_2.trans K6)).2
        conv => cbv
        refine r_callBT m.sX (qPlaced_ok back_2 placed) (by exact decide_eq_true (Prod.mk.inj (hback_2.trans K6)).1) ?_   -- h16
        conv => cbv
        obtain rfl : nine_2 = true := by exact (Prod.mk.inj (hsame_2.trans K7)).2
        conv => cbv
        obtain rfl : same_2 = false := by rw [← en] at K7; exact ((Prod.mk.inj (hsame_2.trans K7)).1).trans ef.symm
        conv => cbv
        refine r_slen (u := p) m.sX fun n4 hn4 mn4 => ?_   -- n4 = length of p
        conv => cbv
        refine r_addf m.sX (by omega) (by omega) fun r4 hr4 => ?_
        conv => cbv
        have mb := mul_bound (a := h_) (A := 8) (b := r4) (B := 9) (by omega) (by omega) (by omega) (by omega)
        refine r_mulf m.sX (by first | omega | (subst_vars; omega)) (by first | omega | (subst_vars; omega)) fun r5 hr5 => ?_
        conv => cbv
        refine r_neqF m.sX ((by rw [hn4, hr5, hr4]; exact K8)) ?_
        conv => cbv
        refine r_loopF (α := Int × Nat) m 283 [1, 15, 23, 31] [⟨237, 1897, 0, 0, 0⟩] (fun σ => [(1, .isl 1 (rows cU8 more)), (15, .int .i64 n), (23, .str p), (31, .int .i64 σ.1), (237, .optr 1897 0 0 0 0)]) (fun σ => [(1897, 0, .iter p σ.2)])
          (fun σ => (σ.2 ≤ p.length) ∧ (σ.1 = dotB (p.take σ.2)) ∧ (0 ≤ σ.1 ∧ σ.1 ≤ σ.2)) (fun σ => p.length - σ.2) (0, 0) ?_ ?_ ?_ ?_
        · cbv
        · cbv
        · exact ⟨(by (try dsimp only); first | omega | (simp only [List.length_nil]; omega) | (simp only [List.length_cons, List.length_nil]; omega)), (by (try dsimp only) <;> (rfl)), (by (try dsimp only) <;> first | omega | rfl | (simp [*]; done))⟩
        rintro ⟨dots_3, p2⟩ ⟨lp2, q, db⟩ E hE F hF
        dsimp only at lp2 q db
        conv => cbv
        refine r_snext (u := p) (p := p2) m.sX (fun hp2 => ?_) (fun x3 hx3 => ⟨asc x3 (List.mem_of_getElem? hx3), fun i2 c3 hi2 hc3 => ?_⟩) <;> conv => cbv
        · have dz_p2 := drop_end (xs := p) (i := p2) (by omega)
          have tz_p2 := take_end (xs := p) (i := p2) (by omega)
          refine hF _ _ ?_
          conv => cbv
          refine r_neqF m.sX ((by rw [q, tz_p2]; exact K9)) ?_
          conv => cbv
          refine r_callE m.sX ((drawArePieces_ok more h).iceE) ?_
          rintro _ ⟨_, ⟨u_2, rfl, bu_2_1⟩, rfl⟩
          conv => cbv
          refine r_callF ib m.sX (PieceArea_ok u_2) fun v ha_2 => ?_
          obtain ⟨a_2, seven_4⟩ := v
          conv => cbv
          refine r_callF ib m.sX (specPieceArea_ok u_2) fun y6 hy6 => ?_
          obtain rfl := ha_2.trans hy6.symm
          clear hy6
          conv => cbv
          refine r_callB m.sX (ArePieces_ok u_2) (fun h19 => ?_) (fun h19 => ?_) <;> conv => cbv
          · refine r_callBT m.sX (specArePieces_ok u_2) h19 ?_
            conv => cbv
            obtain rfl : seven_4 = true := by exact (area_ok2 ha_2).symm.trans h19
            conv => cbv
            refine r_eqlT m.sX (by first | omega | rfl) ?_
            conv => cbv
            refine r_callBT m.sX (ArePieces_ok u_2) h19 ?_
            conv => cbv
            exact hQ _ (congrArg PV.bool (by first | rfl | omega | (simp [*]; done) | (subst_vars; simp [*]; done) | (rw [q]; simp [*]; done) | (rw [db]; simp [*]; done)))   -- leaf 4
          · refine r_callBF m.sX (specArePieces_ok u_2) h19 ?_
            conv => cbv
            obtain rfl : seven_4 = false := by exact (area_ok2 ha_2).symm.trans h19
            conv => cbv
            refine r_eqlT m.sX (by first | omega | rfl) ?_
            conv => cbv
            refine r_callBF m.sX (ArePieces_ok u_2) h19 ?_
            conv => cbv
            exact hQ _ (congrArg PV.bool (by first | rfl | omega | (simp [*]; done) | (subst_vars; simp [*]; done) | (rw [q]; simp [*]; done) | (rw [db]; simp [*]; done)))   -- leaf 5
        · have ltx3 := (List.getElem?_eq_some_iff.1 hx3).1
          have ti2 : Int.toNat i2 = p2 := by omega
          have gx3 : p[Int.toNat i2]? = some x3 := by rw [ti2]; exact hx3
          have dx3 := drop_cons hx3
          have kx3 := take_snoc hx3
          have mx3 := get_mem hx3
          have bc3 : 0 ≤ c3 ∧ c3 ≤ 255 := by have := x3.toNat_lt; omega
          have hx3_g := gx3
          refine r_sidx (u := p) (i := i2) m.sX (by omega) (by first | omega | (simp only [List.length_cons, List.length_nil]; omega) | (simp; omega)) fun x4 hx4 c4 hc4 bc4 => ?_   -- x4 = p[i2]
          obtain rfl := Option.some.inj (hx3_g.symm.trans hx4)
          obtain rfl := hc3.trans hc4.symm
          conv => cbv
          refine r_eql m.sX (fun h22 => ?_) (fun h22 => ?_) <;> conv => cbv
          · refine r_addf m.sX (by omega) (by omega) fun dots_4 hdots_4 => ?_
            conv => cbv
            refine hE _ (dots_4, p2 + 1) ?_ ?_ ⟨(by (try dsimp only); first | omega | (simp only [List.length_nil]; omega) | (simp only [List.length_cons, List.length_nil]; omega)), (by (try dsimp only) <;> (first | (rw [dotB_take hx3, if_pos (by omega), ← q]; omega) | (rw [dotB_take hx3, if_neg (by omega), ← q]; omega))), (by (try dsimp only) <;> first | omega | rfl | (simp [*]; done) | (rw [db]; simp [*]; done))⟩ (by first | omega | (dsimp only; omega))
            · cbv
            · cbv
          · refine hE _ (dots_3, p2 + 1) ?_ ?_ ⟨(by (try dsimp only); first | omega | (simp only [List.length_nil]; omega) | (simp only [List.length_cons, List.length_nil]; omega)), (by (try dsimp only) <;> (first | (rw [dotB_take hx3, if_pos (by omega), ← q]; omega) | (rw [dotB_take hx3, if_neg (by omega), ← q]; omega))), (by (try dsimp only) <;> first | omega | rfl | (simp [*]; done) | (rw [db]; simp [*]; done))⟩ (by first | omega | (dsimp only; omega))
            · cbv
            · cbv
    · refine r_callBT m.sX (qPlaced_ok t t) (by first | assumption | exact decide_eq_true rfl | (simp [*]; done) | omega) ?_   -- h23
      conv => cbv
      obtain rfl : one = false := by exact o2.symm.trans o1
      conv => cbv
      refine r_neqF m.sX (by first | omega | rfl) ?_
      conv => cbv
      obtain rfl : three = false := by exact o3.symm.trans o1
      conv => cbv
      rcases Bool.eq_false_or_eq_true f with rfl | rfl <;> conv => cbv
      · obtain rfl : five = false := by exact o5.symm.trans o1
        conv => cbv
        refine r_sneqF m.sX (by first | omega | rfl) ?_
        conv => cbv
        refine r_callE m.sX ((drawArePieces_ok more h).iceE) ?_
        rintro _ ⟨_, ⟨u_3, rfl, bu_3_1⟩, rfl⟩
        conv => cbv
        refine r_callF ib m.sX (PieceArea_ok u_3) fun v ha_3 => ?_
        obtain ⟨a_3, seven_5⟩ := v
        conv => cbv
        refine r_callF ib m.sX (specPieceArea_ok u_3) fun y7 hy7 => ?_
        obtain rfl := ha_3.trans hy7.symm
        clear hy7
        conv => cbv
        refine r_callB m.sX (ArePieces_ok u_3) (fun h26 => ?_) (fun h26 => ?_) <;> conv => cbv
        · refine r_callBT m.sX (specArePieces_ok u_3) h26 ?_
          conv => cbv
          obtain rfl : seven_5 = true := by exact (area_ok2 ha_3).symm.trans h26
          conv => cbv
          refine r_eqlT m.sX (by first | omega | rfl) ?_
          conv => cbv
          refine r_callBT m.sX (ArePieces_ok u_3) h26 ?_
          conv => cbv
          exact hQ _ (congrArg PV.bool (by first | rfl | omega | (simp [*]; done) | (subst_vars; simp [*]; done)))   -- leaf 6
        · refine r_callBF m.sX (specArePieces_ok u_3) h26 ?_
          conv => cbv
          obtain rfl : seven_5 = false := by exact (area_ok2 ha_3).symm.trans h26
          conv => cbv
          refine r_eqlT m.sX (by first | omega | rfl) ?_
          conv => cbv
          refine r_callBF m.sX (ArePieces_ok u_3) h26 ?_
          conv => cbv
          exact hQ _ (congrArg PV.bool (by first | rfl | omega | (simp [*]; done) | (subst_vars; simp [*]; done)))   -- leaf 7
      · obtain rfl : five = false := by exact o5.symm.trans o1
        conv => cbv
        refine r_sneqF m.sX (by first | omega | rfl) ?_
        conv => cbv
        refine r_callE m.sX ((drawArePieces_ok more h).iceE) ?_
        rintro _ ⟨_, ⟨u_4, rfl, bu_4_1⟩, rfl⟩
        conv => cbv
        refine r_callF ib m.sX (PieceArea_ok u_4) fun v ha_4 => ?_
        obtain ⟨a_4, seven_6⟩ := v
        conv => cbv
        refine r_callF ib m.sX (specPieceArea_ok u_4) fun y8 hy8 => ?_
        obtain rfl := ha_4.trans hy8.symm
        clear hy8
        conv => cbv
        refine r_callB m.sX (ArePieces_ok u_4) (fun h30 => ?_) (fun h30 => ?_) <;> conv => cbv
        · refine r_callBT m.sX (specArePieces_ok u_4) h30 ?_
          conv => cbv
          obtain rfl : seven_6 = true := by exact (area_ok2 ha_4).symm.trans h30
          conv => cbv
          refine r_eqlT m.sX (by first | omega | rfl) ?_
          conv => cbv
          refine r_callBT m.sX (ArePieces_ok u_4) h30 ?_
          conv => cbv
          exact hQ _ (congrArg PV.bool (by first | rfl | omega | (simp [*]; done) | (subst_vars; simp [*]; done)))   -- leaf 8
        · refine r_callBF m.sX (specArePieces_ok u_4) h30 ?_
          conv => cbv
          obtain rfl : seven_6 = false := by exact (area_ok2 ha_4).symm.trans h30
          conv => cbv
          refine r_eqlT m.sX (by first | omega | rfl) ?_
          conv => cbv
          refine r_callBF m.sX (ArePieces_ok u_4) h30 ?_
          conv => cbv
          exact hQ _ (congrArg PV.bool (by first | rfl | omega | (simp [*]; done) | (subst_vars; simp [*]; done)))   -- leaf 9

end

theorem lawChases_ok (code more : List Int) (hf : ∀ x ∈ code, 0 ≤ x ∧ x ≤ 255) (hg : ∀ x ∈ more, 0 ≤ x ∧ x ≤ 255) : OkA Try.prog 3 [.isl 1 (rows cU8 code), .isl 1 (rows cU8 more)] (· = .bool true) :=
  fn_introW envOk fieldsOk mixed Try.func3 rfl (c := Try.f3.body.getD .skip) rfl fun κ X Y L Q m hQ =>
    W_last m (chases_part1 m hQ code more hf hg)

end Go.Proofs.Ytiaodmfipeoegaa.Ai
