/- The law FnSignatures: its body returns true. -/
import Derived.Test.YtfjdfojjkhcfcaaFoldDraw
import Derived.Test.YtfjdfojjkhcfcaaAiCut
namespace Go.Proofs.Ytfjdfojjkhcfcaa.Ai
open Go Go.Proofs
set_option maxRecDepth 10000
set_option maxHeartbeats 4000000
set_option linter.unusedVariables false

theorem sig_pis {fs : List Fold} {n x1 x2 z1 z2 : Int} {x3 z3 : Bool} (hx : (x1, x2, x3) = sigF fs n) (hz : (z1, z2, z3) = pisF fs n) : z3 = x3 ∧ (x3 = true → goodF fs = true ∧ -1 ≤ n ∧ n ≤ 1001 ∧
    x1 * pgs fs = n + x2 ∧ 0 ≤ x2 ∧ x2 < pgs fs ∧ z1 = x1 - 1 ∧ z1 * pgs fs + z2 = n ∧ 1 ≤ z2 ∧ z2 ≤ pgs fs ∧ 0 ≤ z1 ∧ z1 ≤ 1000 ∧ 0 ≤ x1 ∧ x1 ≤ 1001) := by
  unfold sigF at hx
  unfold pisF at hz
  split at hx
  case isFalse h =>
    rw [if_neg h] at hz
    simp only [Prod.mk.injEq] at hx hz
    exact ⟨by rw [hx.2.2, hz.2.2], fun e => by rw [hx.2.2] at e; cases e⟩
  case isTrue h =>
    rw [if_pos h] at hz
    simp only [Prod.mk.injEq] at hx hz
    refine ⟨by rw [hx.2.2, hz.2.2], fun _ => ?_⟩
    rw [Bool.and_eq_true] at h
    have hb := inB_spec h.2
    have hp := pgs_bound h.1
    have hm := sig_mul hb.1 hb.2 hp.1 hp.2
    obtain ⟨e1, e2, -⟩ := hx
    obtain ⟨e3, e4, -⟩ := hz
    have e5 : (n + pgs fs - 1) / pgs fs = (n - 1) / pgs fs + 1 := by
      rw [show n + pgs fs - 1 = (n - 1) + pgs fs by omega, Int.add_ediv_of_dvd_right (Int.dvd_refl _), Int.ediv_self (by omega)]
    have e6 := Int.mul_ediv_add_emod (n - 1) (pgs fs)
    have e7 := Int.emod_nonneg (n - 1) (show pgs fs ≠ 0 by omega)
    have e8 := Int.emod_lt_of_pos (n - 1) (show 0 < pgs fs by omega)
    have e9 := Int.ediv_nonneg (show 0 ≤ n - 1 by omega) (show 0 ≤ pgs fs by omega)
    have e10 := Int.ediv_le_self (pgs fs) (show 0 ≤ n - 1 by omega)
    rw [← e1] at hm e2
    rw [← e3, ← e1] at e5
    rw [← e3, Int.mul_comm] at e6
    rw [← e3] at e9 e10
    have e11 : x1 * pgs fs = z1 * pgs fs + pgs fs := by rw [e5, Int.add_mul, Int.one_mul]
    exact ⟨h.1, by omega, by omega, by omega, by omega, by omega, by omega, by omega, by omega, by omega, by omega, by omega, by omega, by omega⟩

theorem size_pgs {fs : List Fold} : 2 * (sizeF fs).1 * (sizeF fs).2 = pgs fs := by
  rw [sizeF, pgs, ← wide_high fs, p2_add, Int.mul_assoc]
theorem size_bound {fs : List Fold} (h : goodF fs = true) : 1 ≤ (sizeF fs).1 ∧ (sizeF fs).1 ≤ 16 ∧ 1 ≤ (sizeF fs).2 ∧ (sizeF fs).2 ≤ 16 := by
  have hl := goodF_le h
  have bw := p2_le (Nat.le_trans (wide_le fs) hl)
  have bh := p2_le (Nat.le_trans (high_le fs) hl)
  have := p2_pos (wide fs)
  have := p2_pos (high fs)
  rw [show p2 4 = 16 from rfl] at bw bh
  simp only [sizeF]; omega

theorem place_true {fs : List Fold} {p w1 : Int} {w2 w3 : Bool} (h : goodF fs = true) (h1 : 1 ≤ p) (h2 : p ≤ pgs fs) (hw : (w1, w2, w3) = placeF fs p) : w3 = true := by
  obtain ⟨x, -, hx⟩ := placeF_ok (fs := fs) (page := p) (by rw [h, Bool.true_and, inB, decide_eq_true h1, decide_eq_true h2]; rfl)
  rw [hx] at hw
  simp only [Prod.mk.injEq] at hw
  exact hw.2.2

theorem fac_back {fs : List Fold} {k f : Int} (h : (f, true) = facF fs k) (hf : 0 < f) : facF fs f = (k, true) := by
  unfold facF at h
  split at h
  case isFalse => simp at h
  rename_i hc
  have hc' := hc
  rw [Bool.and_eq_true] at hc'
  have hb := inB_spec hc'.2
  have hp := pgs_bound hc'.1
  have he : pgs fs % 2 = 0 := by rw [pgs]; omega
  simp only [Prod.mk.injEq, and_true] at h
  split at h
  · omega
  split at h
  · omega
  split at h
  · have hin : (goodF fs && inB f 1 (pgs fs)) = true := by rw [hc'.1, Bool.true_and, inB, decide_eq_true (by omega), decide_eq_true (by omega)]; rfl
    rw [facF, if_pos hin, if_neg (by omega), if_neg (by omega), if_neg (by omega), h]
    simp
  · have hin : (goodF fs && inB f 1 (pgs fs)) = true := by rw [hc'.1, Bool.true_and, inB, decide_eq_true (by omega), decide_eq_true (by omega)]; rfl
    rw [facF, if_pos hin, if_neg (by omega), if_neg (by omega), if_pos (by omega), h]
    simp

noncomputable abbrev midS (more : List Int) : List (Nat × PV) := [(1, .isl 1 (rows cU8 more))]

section
variable {κ : Ctx} {X Y : Req → (PV → Prop) → Prop} {L : Code → (Ex → St → Prop) → St → Prop} {Q : PV → Prop}

theorem sig_part1 (m : Mach Try.prog G κ X Y L) (hQ : ∀ r, r = PV.bool true → Q r) (code more : List Int) (hf : ∀ x ∈ code, 0 ≤ x ∧ x ≤ 255) (E : St → Prop)
    (hE : ∀ (s' : St) (a : Unit), headOk s' [] = true → Ai.norm [1] [] s' = St.at 205 (midS more) [] → (more.length : Int) ≤ 9223372036854775807 → E s') :
    Ai.code X L G (front 9 (Try.f4.body.getD .skip)) (fun e s' => match e with | .normal => E s' | .exit i => EndsIn (post G Try.f4.results.toList Q) (.exit i) s' | .ret => EndsIn (post G Try.f4.results.toList Q) .ret s')
      (start 205 [.isl 1 (rows cU8 code), .isl 1 (rows cU8 more)] []) := by
  conv => cbv
  refine r_lenR m.sX fun n hn mn => ?_
  conv => cbv
  refine r_lenR m.sX fun n' hn' mn' => ?_
  conv => cbv
  refine r_add m.sX fun s hs => ?_
  conv => cbv
  refine r_gtr m.sX (fun h0 => ?_) (fun h0 => ?_) <;> conv => cbv
  · exact hQ _ rfl
  have hc : CurIn code := ⟨by omega, hf⟩
  have hd : (more.length : Int) ≤ 9223372036854775807 := by omega
  clear hs h0 hn hn' mn mn' hf
  refine r_callE m.sX ((drawSignaturesFor_ok code hc).iceE) ?_
  rintro _ ⟨_, ⟨fs, k, rfl, b1, b2, b3⟩, rfl⟩
  conv => cbv
  refine r_callF iib m.sX (SignaturesFor_ok fs k) fun x hx => ?_
  conv => cbv
  obtain ⟨x1, x2, x3⟩ := x
  refine r_callF iib m.sX (specSignaturesFor_ok fs k) fun y hy => ?_
  conv => cbv
  obtain rfl := hy.trans hx.symm
  refine r_callF iib m.sX (PageInSignature_ok fs k) fun z hz => ?_
  conv => cbv
  obtain ⟨z1, z2, z3⟩ := z
  refine r_callF iib m.sX (specPageInSignature_ok fs k) fun w hw => ?_
  conv => cbv
  obtain rfl := hw.trans hz.symm
  clear hy hw
  obtain ⟨rfl, hs⟩ := sig_pis hx hz
  cases z3 <;> conv => cbv
  · refine r_neq_same m.sX ?_
    conv => cbv
    refine r_neq_same m.sX ?_
    conv => cbv
    refine r_neq_same m.sX ?_
    conv => cbv
    refine r_neq_same m.sX ?_
    conv => cbv
    exact hE _ () (by cbv) (by cbv) hd
  · obtain ⟨g0, g1, g2, g3, g4, g5, g6, g7, g8, g9, g10, g11, g12, g13⟩ := hs rfl
    have gp := pgs_bound g0
    have gs := size_bound g0
    have ge := size_pgs (fs := fs)
    refine r_neq_same m.sX ?_
    conv => cbv
    refine r_neq_same m.sX ?_
    conv => cbv
    refine r_neq_same m.sX ?_
    conv => cbv
    refine r_neq_same m.sX ?_
    conv => cbv
    refine r_callF iib m.sX (SheetSize_ok fs) fun u hu => ?_
    conv => cbv
    rw [if_pos g0] at hu
    obtain ⟨u1, u2, u3⟩ := u
    simp only [Prod.mk.injEq] at hu
    obtain ⟨hu1, hu2, rfl⟩ := hu
    rw [← hu1, ← hu2] at gs ge
    refine r_callF ibb m.sX (PlaceOfPage_ok fs z2) fun v hv => ?_
    conv => cbv
    obtain ⟨v1, v2, v3⟩ := v
    obtain rfl := place_true g0 g8 g9 hv
    clear hu1 hu2 hv hx hz hs
    conv => cbv
    refine r_mulf m.sX (by omega) (by omega) fun r2 hr2 => ?_
    conv => cbv
    have gm := mul_bound (show 0 ≤ r2 by omega) (show r2 ≤ 32 by omega) (show 0 ≤ u2 by omega) gs.2.2.2
    refine r_mulf m.sX (by omega) (by omega) fun r3 hr3 => ?_
    conv => cbv
    rw [hr2] at hr3
    have e3 : r3 = pgs fs := hr3.trans ge
    rw [← e3] at g3 g5 g7 g9 gp
    clear ge gm hr3
    refine r_mulf m.sX (by omega) (by omega) fun r4 hr4 => ?_
    conv => cbv
    refine r_addf m.sX (by omega) (by omega) fun r5 hr5 => ?_
    conv => cbv
    refine r_neqF m.sX (by omega) ?_
    conv => cbv
    refine r_lssF m.sX (by omega) ?_
    conv => cbv
    refine r_geqF m.sX (by omega) ?_
    conv => cbv
    refine r_subf m.sX (by omega) (by omega) fun r6 hr6 => ?_
    conv => cbv
    refine r_neqF m.sX (by omega) ?_
    conv => cbv
    refine r_mulf m.sX (by omega) (by omega) fun r7 hr7 => ?_
    conv => cbv
    refine r_addf m.sX (by omega) (by omega) fun r8 hr8 => ?_
    conv => cbv
    refine r_neqF m.sX (by omega) ?_
    conv => cbv
    exact hE _ () (by cbv) (by cbv) hd

theorem sig_part2 (m : Mach Try.prog G κ X Y L) (hQ : ∀ r, r = PV.bool true → Q r) (more : List Int) (hm : CurIn more) :
    Ai.code X L G (rest 9 (Try.f4.body.getD .skip)) (EndsIn (post G Try.f4.results.toList Q)) (St.at 205 (midS more) []) := by
  conv => cbv
  refine r_callE m.sX ((drawFacingPages_ok more hm).iceE) ?_
  rintro _ ⟨_, ⟨fs, k, rfl, b1, b2, b3⟩, rfl⟩
  conv => cbv
  refine r_callF ib m.sX (FacingPages_ok fs k) fun x hx => ?_
  conv => cbv
  obtain ⟨x1, x2⟩ := x
  refine r_callF ib m.sX (specFacingPages_ok fs k) fun y hy => ?_
  conv => cbv
  obtain rfl := hy.trans hx.symm
  clear hy
  cases x2 <;> conv => cbv
  · refine r_neq_same m.sX ?_
    conv => cbv
    exact hQ _ rfl
  · refine r_neq_same m.sX ?_
    conv => cbv
    refine r_gtr m.sX (fun h1 => ?_) (fun h1 => ?_) <;> conv => cbv
    · refine r_callF ib m.sX (FacingPages_ok fs x1) fun z hz => ?_
      conv => cbv
      obtain ⟨z1, z2⟩ := z
      rw [fac_back hx h1] at hz
      obtain ⟨rfl, rfl⟩ := Prod.mk.inj hz
      conv => cbv
      refine r_eql_same m.sX ?_
      conv => cbv
      exact hQ _ rfl
    · exact hQ _ rfl
end

theorem lawSignatures_ok (code more : List Int) (hf : ∀ x ∈ code, 0 ≤ x ∧ x ≤ 255) (hg : ∀ x ∈ more, 0 ≤ x ∧ x ≤ 255) : OkA Try.prog 4 [.isl 1 (rows cU8 code), .isl 1 (rows cU8 more)] (· = .bool true) :=
  fn_introW envOk fieldsOk mixed Try.func4 rfl (c := Try.f4.body.getD .skip) rfl fun κ X Y L Q m hQ =>
    W_cut m 9 205 [1] [] (fun _ : Unit => midS more) (fun _ => []) (fun _ => (more.length : Int) ≤ 9223372036854775807) (sig_part1 m hQ code more hf) fun _ hl =>
      W_last m (sig_part2 m hQ more ⟨hl, hg⟩)
end Go.Proofs.Ytfjdfojjkhcfcaa.Ai
