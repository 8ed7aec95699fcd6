/- Contracts of the functions on cut-ins. -/
import Derived.Test.YtnanackogloioaaCutLaw
import Derived.Test.YtnanackogloioaaAiIce
namespace Go.Proofs.Ytnanackogloioaa.Ai
open Go Go.Proofs
set_option maxRecDepth 10000
set_option maxHeartbeats 4000000
set_option linter.unusedVariables false

theorem isSide_ok (n : Int) : OkA Try.prog 230 [.int .i64 n] (· = .bool (inB n 0 1)) :=
  fn_intro envOk fieldsOk mixed Try.func230 rfl fun κ X Y L Q m hQ => by
    conv => cbv
    refine r_eql m.sX (fun h1 => ?_) (fun h1 => ?_) <;> conv => cbv
    · exact hQ _ (congrArg PV.bool (by simp [inB]; omega))
    · refine r_eql m.sX (fun h2 => ?_) (fun h2 => ?_) <;> conv => cbv
      · exact hQ _ (congrArg PV.bool (by simp [inB]; omega))
      · exact hQ _ (congrArg PV.bool (by simp [inB]; omega))

theorem isCutIn_ok (x : CutIn) : OkA Try.prog 222 [.agg (cCutIn x)] (· = .bool (isCut x)) :=
  fn_intro envOk fieldsOk mixed Try.func222 rfl fun κ X Y L Q m hQ => by
    conv => cbv
    refine r_callB m.sX (within_ok x.1 0 200) (fun h1 => ?_) (fun h1 => ?_) <;> conv => cbv
    · refine r_callB m.sX (within_ok x.2.1 1 30) (fun h2 => ?_) (fun h2 => ?_) <;> conv => cbv
      · refine r_callB m.sX (within_ok x.2.2.1 1 600) (fun h3 => ?_) (fun h3 => ?_) <;> conv => cbv
        · refine r_callB m.sX (isSide_ok x.2.2.2) (fun h4 => ?_) (fun h4 => ?_) <;> conv => cbv
          · exact hQ _ (congrArg PV.bool (by rw [isCut, h1, h2, h3, h4]; rfl))
          · exact hQ _ (congrArg PV.bool (by rw [isCut, h1, h2, h3, h4]; rfl))
        · exact hQ _ (congrArg PV.bool (by rw [isCut, h1, h2, h3]; rfl))
      · exact hQ _ (congrArg PV.bool (by rw [isCut, h1, h2]; rfl))
    · exact hQ _ (congrArg PV.bool (by rw [isCut, h1]; rfl))

theorem inCut_ok (x : CutIn) : OkA Try.prog 221 [.agg (cCutIn x)] (· = .bool (isCut x)) :=
  fn_intro envOk fieldsOk mixed Try.func221 rfl fun κ X Y L Q m hQ => by
    conv => cbv
    refine r_callB m.sX (l1In_ok x.1 0 200) (fun h1 => ?_) (fun h1 => ?_) <;> conv => cbv
    · refine r_callB m.sX (l1In_ok x.2.1 1 30) (fun h2 => ?_) (fun h2 => ?_) <;> conv => cbv
      · refine r_callB m.sX (l1In_ok x.2.2.1 1 600) (fun h3 => ?_) (fun h3 => ?_) <;> conv => cbv
        · refine r_callB m.sX (l1In_ok x.2.2.2 0 1) (fun h4 => ?_) (fun h4 => ?_) <;> conv => cbv
          · exact hQ _ (congrArg PV.bool (by rw [isCut, h1, h2, h3, h4]; rfl))
          · exact hQ _ (congrArg PV.bool (by rw [isCut, h1, h2, h3, h4]; rfl))
        · exact hQ _ (congrArg PV.bool (by rw [isCut, h1, h2, h3]; rfl))
      · exact hQ _ (congrArg PV.bool (by rw [isCut, h1, h2]; rfl))
    · exact hQ _ (congrArg PV.bool (by rw [isCut, h1]; rfl))

theorem isBeside_ok (x : CutIn) (line : Int) (hx : isCut x = true) : OkA Try.prog 180 [.agg (cCutIn x), .int .i64 line] (· = .bool (beside x line)) := by
  obtain ⟨x1, x2, x3, x4⟩ := x
  have hs := isCut_spec hx
  dsimp only at hs
  exact fn_intro envOk fieldsOk mixed Try.func180 rfl fun κ X Y L Q m hQ => by
    conv => cbv
    refine r_addf m.sX (by omega) (by omega) fun r1 hr1 => ?_
    conv => cbv
    refine r_subf m.sX (by omega) (by omega) fun r2 hr2 => ?_
    conv => cbv
    refine r_callB m.sX (within_ok line x1 r2) (fun h1 => ?_) (fun h1 => ?_) <;> conv => cbv
    · exact hQ _ (congrArg PV.bool (by dsimp only [beside]; rw [← hr1, ← hr2, h1]))
    · exact hQ _ (congrArg PV.bool (by dsimp only [beside]; rw [← hr1, ← hr2, h1]))

theorem inBeside_ok (x : CutIn) (line : Int) (hx : isCut x = true) : OkA Try.prog 224 [.agg (cCutIn x), .int .i64 line] (· = .bool (beside x line)) := by
  obtain ⟨x1, x2, x3, x4⟩ := x
  have hs := isCut_spec hx
  dsimp only at hs
  exact fn_intro envOk fieldsOk mixed Try.func224 rfl fun κ X Y L Q m hQ => by
    conv => cbv
    refine r_addf m.sX (by omega) (by omega) fun r1 hr1 => ?_
    conv => cbv
    refine r_subf m.sX (by omega) (by omega) fun r2 hr2 => ?_
    conv => cbv
    refine r_callB m.sX (l1In_ok line x1 r2) (fun h1 => ?_) (fun h1 => ?_) <;> conv => cbv
    · exact hQ _ (congrArg PV.bool (by dsimp only [beside]; rw [← hr1, ← hr2, h1]))
    · exact hQ _ (congrArg PV.bool (by dsimp only [beside]; rw [← hr1, ← hr2, h1]))

theorem measureAt_ok (me : Int) (l : List CutIn) (line : Int) (h1 : -1000000 ≤ me) (h2 : me ≤ 1000000) (hl : l.length ≤ 1000) (hc : ∀ x ∈ l, isCut x = true) : OkA Try.prog 179 [.int .i64 me, .isl 4 (rows cCutIn l), .int .i64 line] (· = .int .i64 (measF line me l)) :=
  fn_intro envOk fieldsOk mixed Try.func179 rfl fun κ X Y L Q m hQ => by
    conv => cbv
    refine r_lenR m.sX fun n1 hn1 mn1 => ?_
    conv => cbv
    refine r_loop (α := Int × Int) m 24 [0, 2, 9, 10, 11] [] (fun a => [(0, .int .i64 a.1), (2, .int .i64 line), (9, .isl 4 (rows cCutIn l)), (10, .int .i64 n1), (11, .int .i64 a.2)]) (fun a => [])
      (fun a => 0 ≤ a.2 ∧ a.2 ≤ l.length ∧ me - 600 * a.2 ≤ a.1 ∧ a.1 ≤ me ∧ measF line me l = measF line a.1 (l.drop a.2.toNat)) (fun a => l.length - a.2.toNat) (me, 0) ?_ ?_ ?_ ?_
    · cbv
    · cbv
    · exact ⟨by dsimp only; omega, by dsimp only; omega, by dsimp only; omega, by dsimp only; omega, rfl⟩
    rintro ⟨i1, i2⟩ ⟨p1, p2, p3, p4, p5⟩ E hE
    dsimp only at p1 p2 p3 p4 p5
    conv => cbv
    refine r_lss m.sX (fun g1 => ?_) (fun g1 => ?_) <;> conv => cbv
    · refine r_index m.sX (by omega) (by omega) fun v hu1 => ?_
      obtain ⟨u1, u2, u3, u4⟩ := v
      conv => cbv
      have hx := hc (u1, u2, u3, u4) (get_mem hu1)
      have hs := isCut_spec hx
      dsimp only at hs
      rw [drop_cons hu1, measF] at p5
      refine r_callB m.sX (isBeside_ok (u1, u2, u3, u4) line hx) (fun g2 => ?_) (fun g2 => ?_) <;> conv => cbv
      · rw [if_pos g2] at p5
        refine r_subf m.sX (by omega) (by omega) fun r1 hr1 => ?_
        conv => cbv
        refine r_addf m.sX (by omega) (by omega) fun r2 hr2 => ?_
        conv => cbv
        refine hE _ (r1, r2) ?_ ?_ ⟨by dsimp only; omega, by dsimp only; omega, by dsimp only; omega, by dsimp only; omega, by dsimp only; rw [p5, hr1, show r2.toNat = i2.toNat + 1 by omega]⟩ (by first | omega | (dsimp only; omega))
        · cbv
        · cbv
      · rw [if_neg (by rw [g2]; simp)] at p5
        refine r_addf m.sX (by omega) (by omega) fun r3 hr3 => ?_
        conv => cbv
        refine hE _ (i1, r3) ?_ ?_ ⟨by dsimp only; omega, by dsimp only; omega, by dsimp only; omega, by dsimp only; omega, by dsimp only; rw [p5, show r3.toNat = i2.toNat + 1 by omega]⟩ (by first | omega | (dsimp only; omega))
        · cbv
        · cbv
    · exact hQ _ (congrArg (PV.int .i64) (by rw [p5, List.drop_of_length_le (by omega)]; rfl))

theorem inMeasure_ok (me : Int) (l : List CutIn) (line : Int) (h1 : -1000000 ≤ me) (h2 : me ≤ 1000000) (hl : l.length ≤ 1000) (hc : ∀ x ∈ l, isCut x = true) : OkA Try.prog 183 [.int .i64 me, .isl 4 (rows cCutIn l), .int .i64 line] (· = .int .i64 (measF line me l)) :=
  fn_intro envOk fieldsOk mixed Try.func183 rfl fun κ X Y L Q m hQ => by
    conv => cbv
    refine r_lenR m.sX fun n1 hn1 mn1 => ?_
    conv => cbv
    refine r_loop (α := Int × Int) m 24 [0, 2, 9, 10, 11] [] (fun a => [(0, .int .i64 a.1), (2, .int .i64 line), (9, .isl 4 (rows cCutIn l)), (10, .int .i64 n1), (11, .int .i64 a.2)]) (fun a => [])
      (fun a => 0 ≤ a.2 ∧ a.2 ≤ l.length ∧ me - 600 * a.2 ≤ a.1 ∧ a.1 ≤ me ∧ measF line me l = measF line a.1 (l.drop a.2.toNat)) (fun a => l.length - a.2.toNat) (me, 0) ?_ ?_ ?_ ?_
    · cbv
    · cbv
    · exact ⟨by dsimp only; omega, by dsimp only; omega, by dsimp only; omega, by dsimp only; omega, rfl⟩
    rintro ⟨i1, i2⟩ ⟨p1, p2, p3, p4, p5⟩ E hE
    dsimp only at p1 p2 p3 p4 p5
    conv => cbv
    refine r_lss m.sX (fun g1 => ?_) (fun g1 => ?_) <;> conv => cbv
    · refine r_index m.sX (by omega) (by omega) fun v hu1 => ?_
      obtain ⟨u1, u2, u3, u4⟩ := v
      conv => cbv
      have hx := hc (u1, u2, u3, u4) (get_mem hu1)
      have hs := isCut_spec hx
      dsimp only at hs
      rw [drop_cons hu1, measF] at p5
      refine r_callB m.sX (inBeside_ok (u1, u2, u3, u4) line hx) (fun g2 => ?_) (fun g2 => ?_) <;> conv => cbv
      · rw [if_pos g2] at p5
        refine r_subf m.sX (by omega) (by omega) fun r1 hr1 => ?_
        conv => cbv
        refine r_addf m.sX (by omega) (by omega) fun r2 hr2 => ?_
        conv => cbv
        refine hE _ (r1, r2) ?_ ?_ ⟨by dsimp only; omega, by dsimp only; omega, by dsimp only; omega, by dsimp only; omega, by dsimp only; rw [p5, hr1, show r2.toNat = i2.toNat + 1 by omega]⟩ (by first | omega | (dsimp only; omega))
        · cbv
        · cbv
      · rw [if_neg (by rw [g2]; simp)] at p5
        refine r_addf m.sX (by omega) (by omega) fun r3 hr3 => ?_
        conv => cbv
        refine hE _ (i1, r3) ?_ ?_ ⟨by dsimp only; omega, by dsimp only; omega, by dsimp only; omega, by dsimp only; omega, by dsimp only; rw [p5, show r3.toNat = i2.toNat + 1 by omega]⟩ (by first | omega | (dsimp only; omega))
        · cbv
        · cbv
    · exact hQ _ (congrArg (PV.int .i64) (by rw [p5, List.drop_of_length_le (by omega)]; rfl))

theorem isColumn_ok (n : Int) : OkA Try.prog 223 [.int .i64 n] (· = .bool (inB n 40 600)) :=
  fn_intro envOk fieldsOk mixed Try.func223 rfl fun κ X Y L Q m hQ => by
    conv => cbv
    refine r_callB m.sX (within_ok n 40 600) (fun h1 => ?_) (fun h1 => ?_) <;> conv => cbv
    · exact hQ _ (congrArg PV.bool (h1.symm))
    · exact hQ _ (congrArg PV.bool (h1.symm))

theorem roomC_true {me : Int} {l : List CutIn} (h : ∀ k : Nat, (k : Int) < 230 → 40 ≤ measF k me l) : roomC me l = true := by
  rw [roomC, List.all_eq_true]
  intro k hk
  have := List.mem_range.1 hk
  exact decide_eq_true (h k (by omega))
theorem roomC_false {me : Int} {l : List CutIn} {k : Int} (h0 : 0 ≤ k) (h1 : k < 230) (h : measF k me l < 40) : roomC me l = false := by
  cases hr : roomC me l
  · rfl
  · rw [roomC, List.all_eq_true] at hr
    have := of_decide_eq_true (hr k.toNat (List.mem_range.2 (by omega)))
    rw [Int.toNat_of_nonneg h0] at this
    omega

theorem AreCutIns_ok (me : Int) (l : List CutIn) (h1 : -1000000 ≤ me) (h2 : me ≤ 1000000) (hl : l.length ≤ 1000) : OkA Try.prog 177 [.int .i64 me, .isl 4 (rows cCutIn l)] (· = .bool (goodC me l)) :=
  fn_intro envOk fieldsOk mixed Try.func177 rfl fun κ X Y L Q m hQ => by
    conv => cbv
    refine r_lenR m.sX fun n1 hn1 mn1 => ?_
    conv => cbv
    refine r_loop (α := Int) m 71 [0, 1, 10, 11, 12] [] (fun a => [(0, .int .i64 me), (1, .isl 4 (rows cCutIn l)), (10, .isl 4 (rows cCutIn l)), (11, .int .i64 n1), (12, .int .i64 a)]) (fun a => [])
      (fun a => 0 ≤ a ∧ a ≤ l.length ∧ okFrom l 0 l = okFrom l a.toNat (l.drop a.toNat) ∧ ∀ x ∈ l.take a.toNat, isCut x = true) (fun a => l.length - a.toNat) 0 ?_ ?_ ?_ ?_
    · cbv
    · cbv
    · exact ⟨by omega, by omega, rfl, by simp⟩
    rintro i1 ⟨p1, p2, p3, p4⟩ E hE
    conv => cbv
    refine r_lss m.sX (fun g1 => ?_) (fun g1 => ?_) <;> conv => cbv
    · refine r_index m.sX (by omega) (by omega) fun v hu1 => ?_
      obtain ⟨u1, u2, u3, u4⟩ := v
      conv => cbv
      rw [drop_cons hu1, okFrom] at p3
      refine r_callB m.sX (isCutIn_ok (u1, u2, u3, u4)) (fun g2 => ?_) (fun g2 => ?_) <;> conv => cbv
      · have hs := isCut_spec g2
        dsimp only at hs
        refine r_islice (i := 0) (j := i1) m.sX (by omega) (by omega) (by omega) fun zs1 hzs1 => ?_
        conv => cbv
        have hz : zs1 = l.take i1.toNat := by rw [hzs1]; simp
        have next : ∀ r : Int, r = i1 + 1 → apartC (u1, u2, u3, u4) zs1 = true → okFrom l 0 l = okFrom l r.toNat (l.drop r.toNat) ∧ ∀ x ∈ l.take r.toNat, isCut x = true := fun r hr ha => by
          rw [hz] at ha
          rw [p3, g2, ha, show r.toNat = i1.toNat + 1 by omega, List.take_add_one, hu1]
          refine ⟨by simp, fun x hx => ?_⟩
          rcases List.mem_append.1 hx with hx | hx
          · exact p4 x hx
          · obtain rfl : x = (u1, u2, u3, u4) := by simpa using hx
            exact g2
        refine r_lenR m.sX fun n2 hn2 mn2 => ?_
        conv => cbv
        refine r_loop (α := Int) m 71 [0, 1, 10, 11, 12, 22, 23, 24] [⟨6, 49, 0, 0, 0⟩] (fun a => [(0, .int .i64 me), (1, .isl 4 (rows cCutIn l)), (6, .optr 49 0 4 0 0), (10, .isl 4 (rows cCutIn l)), (11, .int .i64 n1), (12, .int .i64 i1), (22, .isl 4 (rows cCutIn zs1)), (23, .int .i64 n2), (24, .int .i64 a)]) (fun a => [(49, 0, .box [.int .i64 u1, .int .i64 u2, .int .i64 u3, .int .i64 u4])])
          (fun a => 0 ≤ a ∧ a ≤ zs1.length ∧ apartC (u1, u2, u3, u4) zs1 = apartC (u1, u2, u3, u4) (zs1.drop a.toNat)) (fun a => zs1.length - a.toNat) 0 ?_ ?_ ?_ ?_
        · cbv
        · cbv
        · exact ⟨by omega, by omega, rfl⟩
        rintro i2 ⟨p5, p6, p7⟩ E2 hE2
        conv => cbv
        refine r_lss m.sX (fun g3 => ?_) (fun g3 => ?_) <;> conv => cbv
        · refine r_index m.sX (by omega) (by omega) fun v hv1 => ?_
          obtain ⟨v1, v2, v3, v4⟩ := v
          conv => cbv
          have hx := p4 (v1, v2, v3, v4) (hz ▸ get_mem hv1)
          have hs2 := isCut_spec hx
          dsimp only at hs2
          rw [drop_cons hv1, apartC_cons] at p7
          have free : clash (u1, u2, u3, u4) (v1, v2, v3, v4) = false → ∀ r : Int, r = i2 + 1 → apartC (u1, u2, u3, u4) zs1 = apartC (u1, u2, u3, u4) (zs1.drop r.toNat) := fun hc r hr => by
            rw [p7, hc, show r.toNat = i2.toNat + 1 by omega]
            rfl
          refine r_eql m.sX (fun g4 => ?_) (fun g4 => ?_) <;> conv => cbv
          · refine r_addf m.sX (by omega) (by omega) fun r1 hr1 => ?_
            conv => cbv
            refine r_lss m.sX (fun g5 => ?_) (fun g5 => ?_) <;> conv => cbv
            · refine r_addf m.sX (by omega) (by omega) fun r2 hr2 => ?_
              conv => cbv
              refine r_lss m.sX (fun g6 => ?_) (fun g6 => ?_) <;> conv => cbv
              · have hc : clash (u1, u2, u3, u4) (v1, v2, v3, v4) = true := by dsimp only [clash]; rw [decide_eq_true g4, decide_eq_true (by omega), decide_eq_true (by omega)]; rfl
                rw [hc] at p7
                exact hQ _ (congrArg PV.bool (by rw [goodC, p3, g2, ← hz, p7]; rfl))
              · refine r_addf m.sX (by omega) (by omega) fun r3 hr3 => ?_
                conv => cbv
                refine hE2 _ r3 ?_ ?_ ⟨by omega, by omega, free (by dsimp only [clash]; rw [decide_eq_true g4, decide_eq_true (by omega), decide_eq_false (by omega)]; rfl) r3 hr3⟩ (by first | omega | (dsimp only; omega))
                · cbv
                · cbv
            · refine r_addf m.sX (by omega) (by omega) fun r4 hr4 => ?_
              conv => cbv
              refine hE2 _ r4 ?_ ?_ ⟨by omega, by omega, free (by dsimp only [clash]; rw [decide_eq_true g4, decide_eq_false (by omega)]; rfl) r4 hr4⟩ (by first | omega | (dsimp only; omega))
              · cbv
              · cbv
          · refine r_addf m.sX (by omega) (by omega) fun r5 hr5 => ?_
            conv => cbv
            refine hE2 _ r5 ?_ ?_ ⟨by omega, by omega, free (by dsimp only [clash]; rw [decide_eq_false g4]; rfl) r5 hr5⟩ (by first | omega | (dsimp only; omega))
            · cbv
            · cbv
        · have ha : apartC (u1, u2, u3, u4) zs1 = true := by rw [p7, List.drop_of_length_le (by omega)]; rfl
          refine r_addf m.sX (by omega) (by omega) fun r6 hr6 => ?_
          conv => cbv
          refine hE _ r6 ?_ ?_ ⟨by omega, by omega, next r6 hr6 ha⟩ (by first | omega | (dsimp only; omega))
          · cbv
          · cbv
      · exact hQ _ (congrArg PV.bool (by rw [goodC, p3, g2]; rfl))
    · rw [List.drop_of_length_le (by omega)] at p3
      rw [List.take_of_length_le (by omega)] at p4
      have hok : okFrom l 0 l = true := p3
      refine r_loop (α := Int) m 71 [0, 1, 9] [] (fun a => [(0, .int .i64 me), (1, .isl 4 (rows cCutIn l)), (9, .int .i64 a)]) (fun a => [])
        (fun a => 0 ≤ a ∧ a ≤ 230 ∧ ∀ k : Nat, (k : Int) < a → 40 ≤ measF k me l) (fun a => (230 - a).toNat) 0 ?_ ?_ ?_ ?_
      · cbv
      · cbv
      · exact ⟨by omega, by omega, by omega⟩
      rintro i3 ⟨p7, p8, p9⟩ E hE
      conv => cbv
      refine r_lss m.sX (fun g7 => ?_) (fun g7 => ?_) <;> conv => cbv
      · refine r_callF (PV.int .i64) m.sX (measureAt_ok me l i3 h1 h2 hl p4) fun r7 hr7 => ?_
        conv => cbv
        refine r_lss m.sX (fun g8 => ?_) (fun g8 => ?_) <;> conv => cbv
        · exact hQ _ (congrArg PV.bool (by rw [goodC, hok, roomC_false p7 (by omega) (by omega)]; rfl))
        · refine r_addf m.sX (by omega) (by omega) fun r8 hr8 => ?_
          conv => cbv
          refine hE _ r8 ?_ ?_ ⟨by omega, by omega, ?_⟩ (by first | omega | (dsimp only; omega))
          · cbv
          · cbv
          · intro k hk
            rcases Int.lt_or_le (k : Int) i3 with h | h
            · exact p9 k h
            · rw [show (k : Int) = i3 by omega, ← hr7]; omega
      · have hroom := roomC_true (me := me) (l := l) fun k hk => p9 k (by omega)
        refine r_callB m.sX (isColumn_ok me) (fun g9 => ?_) (fun g9 => ?_) <;> conv => cbv
        · refine r_lenR m.sX fun n3 hn3 mn3 => ?_
          conv => cbv
          refine r_leq m.sX (fun g10 => ?_) (fun g10 => ?_) <;> conv => cbv
          · exact hQ _ (congrArg PV.bool (by rw [goodC, hok, hroom, g9, decide_eq_true (by omega)]; rfl))
          · exact hQ _ (congrArg PV.bool (by rw [goodC, hok, hroom, g9, decide_eq_false (by omega)]; rfl))
        · exact hQ _ (congrArg PV.bool (by rw [goodC, hok, hroom, g9]; rfl))

theorem inGood_ok (me : Int) (l : List CutIn) (h1 : -1000000 ≤ me) (h2 : me ≤ 1000000) (hl : l.length ≤ 1000) : OkA Try.prog 174 [.int .i64 me, .isl 4 (rows cCutIn l)] (· = .bool (goodC me l)) :=
  fn_intro envOk fieldsOk mixed Try.func174 rfl fun κ X Y L Q m hQ => by
    conv => cbv
    refine r_callB m.sX (l1In_ok me 40 600) (fun g0 => ?_) (fun g0 => ?_) <;> conv => cbv
    rotate_left
    · exact hQ _ (congrArg PV.bool (by rw [goodC, g0]; simp))
    refine r_lenR m.sX fun n1 hn1 mn1 => ?_
    conv => cbv
    refine r_gtr m.sX (fun g00 => ?_) (fun g00 => ?_) <;> conv => cbv
    · exact hQ _ (congrArg PV.bool (by rw [goodC, decide_eq_false (by omega)]; simp))
    refine r_lenR m.sX fun n2 hn2 mn2 => ?_
    conv => cbv
    refine r_loop (α := Int) m 72 [0, 1, 18, 19, 20] [] (fun a => [(0, .int .i64 me), (1, .isl 4 (rows cCutIn l)), (18, .isl 4 (rows cCutIn l)), (19, .int .i64 n2), (20, .int .i64 a)]) (fun a => [])
      (fun a => 0 ≤ a ∧ a ≤ l.length ∧ okFrom l 0 l = okFrom l a.toNat (l.drop a.toNat) ∧ ∀ x ∈ l.take a.toNat, isCut x = true) (fun a => l.length - a.toNat) 0 ?_ ?_ ?_ ?_
    · cbv
    · cbv
    · exact ⟨by omega, by omega, rfl, by simp⟩
    rintro i1 ⟨p1, p2, p3, p4⟩ E hE
    conv => cbv
    refine r_lss m.sX (fun g1 => ?_) (fun g1 => ?_) <;> conv => cbv
    · refine r_index m.sX (by omega) (by omega) fun v hu1 => ?_
      obtain ⟨u1, u2, u3, u4⟩ := v
      conv => cbv
      rw [drop_cons hu1, okFrom] at p3
      refine r_callB m.sX (inCut_ok (u1, u2, u3, u4)) (fun g2 => ?_) (fun g2 => ?_) <;> conv => cbv
      · have hs := isCut_spec g2
        dsimp only at hs
        refine r_islice (i := 0) (j := i1) m.sX (by omega) (by omega) (by omega) fun zs1 hzs1 => ?_
        conv => cbv
        have hz : zs1 = l.take i1.toNat := by rw [hzs1]; simp
        have next : ∀ r : Int, r = i1 + 1 → apartC (u1, u2, u3, u4) zs1 = true → okFrom l 0 l = okFrom l r.toNat (l.drop r.toNat) ∧ ∀ x ∈ l.take r.toNat, isCut x = true := fun r hr ha => by
          rw [hz] at ha
          rw [p3, g2, ha, show r.toNat = i1.toNat + 1 by omega, List.take_add_one, hu1]
          refine ⟨by simp, fun x hx => ?_⟩
          rcases List.mem_append.1 hx with hx | hx
          · exact p4 x hx
          · obtain rfl : x = (u1, u2, u3, u4) := by simpa using hx
            exact g2
        refine r_lenR m.sX fun n3 hn3 mn3 => ?_
        conv => cbv
        refine r_loop (α := Int) m 72 [0, 1, 18, 19, 20, 30, 31, 32] [⟨6, 49, 0, 0, 0⟩] (fun a => [(0, .int .i64 me), (1, .isl 4 (rows cCutIn l)), (6, .optr 49 0 4 0 0), (18, .isl 4 (rows cCutIn l)), (19, .int .i64 n2), (20, .int .i64 i1), (30, .isl 4 (rows cCutIn zs1)), (31, .int .i64 n3), (32, .int .i64 a)]) (fun a => [(49, 0, .box [.int .i64 u1, .int .i64 u2, .int .i64 u3, .int .i64 u4])])
          (fun a => 0 ≤ a ∧ a ≤ zs1.length ∧ apartC (u1, u2, u3, u4) zs1 = apartC (u1, u2, u3, u4) (zs1.drop a.toNat)) (fun a => zs1.length - a.toNat) 0 ?_ ?_ ?_ ?_
        · cbv
        · cbv
        · exact ⟨by omega, by omega, rfl⟩
        rintro i2 ⟨p5, p6, p7⟩ E2 hE2
        conv => cbv
        refine r_lss m.sX (fun g3 => ?_) (fun g3 => ?_) <;> conv => cbv
        · refine r_index m.sX (by omega) (by omega) fun v hv1 => ?_
          obtain ⟨v1, v2, v3, v4⟩ := v
          conv => cbv
          have hx := p4 (v1, v2, v3, v4) (hz ▸ get_mem hv1)
          have hs2 := isCut_spec hx
          dsimp only at hs2
          rw [drop_cons hv1, apartC_cons] at p7
          have free : clash (u1, u2, u3, u4) (v1, v2, v3, v4) = false → ∀ r : Int, r = i2 + 1 → apartC (u1, u2, u3, u4) zs1 = apartC (u1, u2, u3, u4) (zs1.drop r.toNat) := fun hc r hr => by
            rw [p7, hc, show r.toNat = i2.toNat + 1 by omega]
            rfl
          refine r_eql m.sX (fun g4 => ?_) (fun g4 => ?_) <;> conv => cbv
          · refine r_addf m.sX (by omega) (by omega) fun r1 hr1 => ?_
            conv => cbv
            refine r_lss m.sX (fun g5 => ?_) (fun g5 => ?_) <;> conv => cbv
            · refine r_addf m.sX (by omega) (by omega) fun r2 hr2 => ?_
              conv => cbv
              refine r_lss m.sX (fun g6 => ?_) (fun g6 => ?_) <;> conv => cbv
              · have hc : clash (u1, u2, u3, u4) (v1, v2, v3, v4) = true := by dsimp only [clash]; rw [decide_eq_true g4, decide_eq_true (by omega), decide_eq_true (by omega)]; rfl
                rw [hc] at p7
                exact hQ _ (congrArg PV.bool (by rw [goodC, p3, g2, ← hz, p7]; rfl))
              · refine r_addf m.sX (by omega) (by omega) fun r3 hr3 => ?_
                conv => cbv
                refine hE2 _ r3 ?_ ?_ ⟨by omega, by omega, free (by dsimp only [clash]; rw [decide_eq_true g4, decide_eq_true (by omega), decide_eq_false (by omega)]; rfl) r3 hr3⟩ (by first | omega | (dsimp only; omega))
                · cbv
                · cbv
            · refine r_addf m.sX (by omega) (by omega) fun r4 hr4 => ?_
              conv => cbv
              refine hE2 _ r4 ?_ ?_ ⟨by omega, by omega, free (by dsimp only [clash]; rw [decide_eq_true g4, decide_eq_false (by omega)]; rfl) r4 hr4⟩ (by first | omega | (dsimp only; omega))
              · cbv
              · cbv
          · refine r_addf m.sX (by omega) (by omega) fun r5 hr5 => ?_
            conv => cbv
            refine hE2 _ r5 ?_ ?_ ⟨by omega, by omega, free (by dsimp only [clash]; rw [decide_eq_false g4]; rfl) r5 hr5⟩ (by first | omega | (dsimp only; omega))
            · cbv
            · cbv
        · have ha : apartC (u1, u2, u3, u4) zs1 = true := by rw [p7, List.drop_of_length_le (by omega)]; rfl
          refine r_addf m.sX (by omega) (by omega) fun r6 hr6 => ?_
          conv => cbv
          refine hE _ r6 ?_ ?_ ⟨by omega, by omega, next r6 hr6 ha⟩ (by first | omega | (dsimp only; omega))
          · cbv
          · cbv
      · exact hQ _ (congrArg PV.bool (by rw [goodC, p3, g2]; rfl))
    · rw [List.drop_of_length_le (by omega)] at p3
      rw [List.take_of_length_le (by omega)] at p4
      have hok : okFrom l 0 l = true := p3
      refine r_loop (α := Int) m 72 [0, 1, 9] [] (fun a => [(0, .int .i64 me), (1, .isl 4 (rows cCutIn l)), (9, .int .i64 a)]) (fun a => [])
        (fun a => 0 ≤ a ∧ a ≤ 230 ∧ ∀ k : Nat, (k : Int) < a → 40 ≤ measF k me l) (fun a => (230 - a).toNat) 0 ?_ ?_ ?_ ?_
      · cbv
      · cbv
      · exact ⟨by omega, by omega, by omega⟩
      rintro i3 ⟨p7, p8, p9⟩ E hE
      conv => cbv
      refine r_lss m.sX (fun g7 => ?_) (fun g7 => ?_) <;> conv => cbv
      · refine r_callF (PV.int .i64) m.sX (inMeasure_ok me l i3 h1 h2 hl p4) fun r7 hr7 => ?_
        conv => cbv
        refine r_lss m.sX (fun g8 => ?_) (fun g8 => ?_) <;> conv => cbv
        · exact hQ _ (congrArg PV.bool (by rw [goodC, hok, roomC_false p7 (by omega) (by omega)]; rfl))
        · refine r_addf m.sX (by omega) (by omega) fun r8 hr8 => ?_
          conv => cbv
          refine hE _ r8 ?_ ?_ ⟨by omega, by omega, ?_⟩ (by first | omega | (dsimp only; omega))
          · cbv
          · cbv
          · intro k hk
            rcases Int.lt_or_le (k : Int) i3 with h | h
            · exact p9 k h
            · rw [show (k : Int) = i3 by omega, ← hr7]; omega
      · have hroom := roomC_true (me := me) (l := l) fun k hk => p9 k (by omega)
        exact hQ _ (congrArg PV.bool (by rw [goodC, hok, hroom, g0, decide_eq_true (by omega)]; rfl))
end Go.Proofs.Ytnanackogloioaa.Ai
