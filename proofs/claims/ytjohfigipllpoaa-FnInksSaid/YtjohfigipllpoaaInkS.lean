/- Contracts of the reference's functions on lines with inks. -/
import Derived.Test.YtjohfigipllpoaaInk
import Derived.Test.YtjohfigipllpoaaSwapLaw
namespace Go.Proofs.Ytjohfigipllpoaa.Ai
open Go Go.Proofs
set_option linter.unusedSimpArgs false
set_option maxRecDepth 10000
set_option maxHeartbeats 4000000
set_option linter.unusedVariables false
theorem wrap8 {n : Int} (h : 0 ≤ n ∧ n ≤ 255) : IntKind.u8.wrap n = n := by
  unfold IntKind.wrap
  simp only [IntKind.bits, IntKind.signed, Bool.false_and, Bool.false_eq_true, if_false]
  omega
theorem r_addb {P : Program} {b : Bool} {X : Req → (PV → Prop) → Prop} {m n : Int} {K : PV → Prop} (h : Std P b X) (h1 : 0 ≤ m + n) (h2 : m + n ≤ 255) (H : ∀ r, r = m + n → K (.int .u8 r)) : X (.bin .add .u8 m n) K := r_add h fun r e => H r (by rw [e, wrap8 ⟨h1, h2⟩])
theorem r_subb {P : Program} {b : Bool} {X : Req → (PV → Prop) → Prop} {m n : Int} {K : PV → Prop} (h : Std P b X) (h1 : 0 ≤ m - n) (h2 : m - n ≤ 255) (H : ∀ r, r = m - n → K (.int .u8 r)) : X (.bin .sub .u8 m n) K := r_sub h fun r e => H r (by rw [e, wrap8 ⟨h1, h2⟩])
/-- An inked line and whether it is one. -/
def sb (p : List UInt8 × Bool) : PV := .tup [.str p.1, .bool p.2]
noncomputable def inkR (p : Inked × Bool) : PV := .tup [.agg (cInked p.1), .bool p.2]
theorem form_of {s : List UInt8} {b : Bool} (h : (plainB s && decide (s.length ≤ 30)) = b) : formeB s = b := by
  rw [← h]
  unfold formeB inB
  congr 1
  rw [decide_eq_true (by omega), Bool.true_and]
  exact decide_eq_decide.2 (by omega)
theorem form_spec {s : List UInt8} (h : formeB s = true) : plainB s = true ∧ s.length ≤ 30 := by
  unfold formeB at h
  rw [Bool.and_eq_true] at h
  have := inB_spec h.2
  exact ⟨h.1, by omega⟩
theorem letter_at {x : Inked} (h : InkedOk x) {i : Nat} {t c : UInt8} (hx : x.1[i]? = some t) (hy : x.2[i]? = some c) (hc : (c.toNat : Int) = 114) : 97 ≤ (t.toNat : Int) ∧ (t.toNat : Int) ≤ 122 := by
  rcases inkC_two (inkB_at h.ink hx hy) with e | ⟨-, e⟩
  · rw [e] at hc; exact absurd hc (by decide)
  · rcases plain_two (List.all_eq_true.1 h.plain t (List.mem_of_getElem? hx)) with e2 | e2
    · exact absurd e2 e
    · exact e2
theorem ofNat_sub {x : UInt8} {r : Int} (h : r = (x.toNat : Int) - 32) (hx : 97 ≤ (x.toNat : Int) ∧ (x.toNat : Int) ≤ 122) : UInt8.ofNat r.toNat = x - 32 := by
  refine u8_eq ?_
  rw [sub32 hx, h]
  have := x.toNat_lt
  simp only [UInt8.toNat_ofNat']
  omega
theorem ofNat_add {x : UInt8} {r : Int} (h : r = (x.toNat : Int) + 32) (hx : 65 ≤ (x.toNat : Int) ∧ (x.toNat : Int) ≤ 90) : UInt8.ofNat r.toNat = x + 32 := by
  refine u8_eq ?_
  rw [h]
  have := x.toNat_lt
  simp only [UInt8.toNat_ofNat', UInt8.toNat_add]
  have e : (32 : UInt8).toNat = 32 := rfl
  omega
theorem up_yes {x : UInt8} (h : 65 ≤ (x.toNat : Int) ∧ (x.toNat : Int) ≤ 90) : loC x = x + 32 ∧ kiC x = 114 := by
  have : upB x = true := by unfold upB; rw [decide_eq_true h.1, decide_eq_true h.2]; rfl
  unfold loC kiC; rw [this]; exact ⟨rfl, rfl⟩
theorem up_no {x : UInt8} (h : ¬ (65 ≤ (x.toNat : Int) ∧ (x.toNat : Int) ≤ 90)) : loC x = x ∧ kiC x = 98 := by
  have : upB x = false := by
    unfold upB
    by_cases h1 : 65 ≤ (x.toNat : Int)
    · rw [decide_eq_false (fun h2 => h ⟨h1, h2⟩)]; simp
    · rw [decide_eq_false h1]; rfl
  unfold loC kiC; rw [this]; exact ⟨rfl, rfl⟩
theorem map_next {f : UInt8 → UInt8} {s z z2 : List UInt8} {i : Nat} {x y : UInt8} (hx : s[i]? = some x) (q : z = (s.take i).map f) (h2 : z2 = z ++ [y]) (hy : f x = y) : z2 = (s.take (i + 1)).map f := by
  rw [List.take_add_one, hx, List.map_append, ← q, h2]; simp [hy]
theorem zip_next {f : UInt8 → UInt8 → UInt8} {s r z z2 : List UInt8} {i : Nat} {x k y : UInt8} (hx : s[i]? = some x) (hk : r[i]? = some k) (q : z = zipU f (s.take i) (r.take i)) (h2 : z2 = z ++ [y]) (hy : f x k = y) : z2 = zipU f (s.take (i + 1)) (r.take (i + 1)) := by
  rw [zipU_take f hx hk, ← q, h2, hy]
theorem okInked_long {s : List UInt8} (h : 30 < s.length) : okInked (readF s) = false := by
  cases hk : okInked (readF s) with
  | false => rfl
  | true =>
    have := (okInked_spec hk).few
    have e : (readF s).1.length = s.length := by simp [readF]
    omega
theorem read_all {s f g : List UInt8} {i : Nat} (h1 : f = (s.take i).map loC) (h2 : g = (s.take i).map kiC) (hi : s.length ≤ i) : readF s = (f, g) := by
  rw [List.take_of_length_le hi] at h1 h2
  rw [h1, h2]; rfl
theorem specSwapInks_ok (x : Inked)  : OkA Try.prog 6 [.agg (cInked x)] (· = inkR (swapA x)) := by
  obtain ⟨xA, xB⟩ := x
  try dsimp only at *
  exact fn_intro envOk fieldsOk mixed Try.func6 rfl fun κ X Y L Q m hQ => by
    conv => cbv
    refine r_callB m.sX (coGood_ok (xA, xB)) (fun h1 => ?_) (fun h1 => ?_) <;> conv => cbv
    · have xo := okInked_spec h1
      try dsimp only at xo
      have xl := xo.len
      try dsimp only at xl
      have xf := xo.few
      try dsimp only at xf
      refine r_loopF (α := List UInt8 × Nat) m 40 [] [⟨1, 9, 0, 0, 0⟩, ⟨2, 17, 0, 0, 0⟩, ⟨4, 33, 0, 0, 0⟩, ⟨15, 121, 0, 0, 0⟩] (fun σ => [(1, .optr 9 0 2 0 0), (2, .optr 17 0 2 0 0), (4, .optr 33 0 2 0 0), (15, .optr 121 0 0 0 0)]) (fun σ => [(9, 0, .box [.str xA, .str xB]), (17, 0, .box [.str ([]), .str ([])]), (33, 0, .box [.str xA, .str σ.1]), (121, 0, .iter xA σ.2)])
        (fun σ => (σ.2 ≤ xA.length) ∧ ((σ.1.length : Int) = (σ.2 : Int)) ∧ (σ.1 = zipU swC (xA.take σ.2) (xB.take σ.2))) (fun σ => xA.length - σ.2) ([], 0) ?_ ?_ ?_ ?_
      · cbv
      · cbv
      · exact ⟨(by (try dsimp only); first | omega | (simp only [List.length_nil]; omega) | (simp only [List.length_cons, List.length_nil]; omega)), (by (try dsimp only) <;> (rfl)), (by (try dsimp only) <;> (rfl))⟩
      rintro ⟨f1, p1⟩ ⟨lp1, fl, q⟩ E hE F hF
      dsimp only at lp1 fl q
      conv => cbv
      refine r_snext (u := xA) (p := p1) m.sX (fun hp1 => ?_) (fun x1 hx1 => ⟨by exact plain_low xo.plain hx1, fun i1 c1 hi1 hc1 => ?_⟩) <;> conv => cbv
      · have dz_p1 := drop_end (xs := xA) (i := p1) (by omega)
        have tz_p1 := take_end (xs := xA) (i := p1) (by omega)
        refine hF _ _ ?_
        conv => cbv
        exact hQ (.tup [.agg [.str xA, .str f1], .bool true]) (Eq.trans (by first | rfl | (simp only [lb, lbI, rows_cons, rows_nil, unnilT, unnil, unnilTI, unnilI]; done) | (simp only [lb, lbI, rows_cons, rows_nil, unnilT, unnil, unnilTI, unnilI]; rfl)) (congrArg (inkR) (show ((xA, f1), true) = swapA (xA, xB) from by rw [swapA, if_pos h1, q, zipU_all swC (by omega) (by omega)]; rfl)))   -- leaf 1
      · have ltx1 := (List.getElem?_eq_some_iff.1 hx1).1
        have ti1 : Int.toNat i1 = p1 := by omega
        have gx1 : xA[Int.toNat i1]? = some x1 := by rw [ti1]; exact hx1
        have dx1 := drop_cons hx1
        have kx1 := take_snoc hx1
        have mx1 := get_mem hx1
        have bc1 : 0 ≤ c1 ∧ c1 ≤ 255 := by have := x1.toNat_lt; omega
        have hx1_g := gx1
        obtain ⟨k0, hk0⟩ := get_ex (xs := xB) (i := p1) (by omega)
        refine r_sidx (u := xA) (i := i1) m.sX (by omega) (by first | omega | (simp only [List.length_cons, List.length_nil]; omega) | (simp; omega)) fun x2 hx2 c2 hc2 bc2 => ?_   -- x2 = xA[i1]
        obtain rfl := Option.some.inj (hx1_g.symm.trans hx2)
        obtain rfl := hc1.trans hc2.symm
        conv => cbv
        refine r_neq m.sX (fun h2 => ?_) (fun h2 => ?_) <;> conv => cbv
        · refine r_sidx (u := xB) (i := i1) m.sX (by omega) (by first | omega | (simp only [List.length_cons, List.length_nil]; omega) | (simp; omega)) fun x3 hx3 c3 hc3 bc3 => ?_   -- x3 = xB[i1]
          have e3 : x3 = k0 := Option.some.inj (by rw [← hx3, ← hk0, ti1])
          rw [e3] at hc3
          have dx3 := drop_cons hx3
          have kx3 := take_snoc hx3
          have jx3 : (i1 + 1).toNat = Int.toNat i1 + 1 := by omega
          conv => cbv
          refine r_eql m.sX (fun h3 => ?_) (fun h3 => ?_) <;> conv => cbv
          · refine r_scat (u := f1) (v := ([114] : List UInt8)) m.sX (by first | omega | (simp only [List.length_cons, List.length_nil]; omega) | (simp; omega)) fun s1 hs1 => ?_   -- s1 = f1 ++ ([114] : List UInt8)
            have ls1 : (s1.length : Int) = f1.length + ([114] : List UInt8).length := by rw [hs1, List.length_append, Int.natCast_add]
            try simp only [List.length_cons, List.length_nil] at ls1
            conv => cbv
            refine hE _ (s1, p1 + 1) ?_ ?_ ⟨(by (try dsimp only); first | omega | (simp only [List.length_nil]; omega) | (simp only [List.length_cons, List.length_nil]; omega)), (by (try dsimp only) <;> first | omega | rfl | (simp [*]; done) | (rw [fl]; simp [*]; done)), (by (try dsimp only) <;> (first | exact zip_next hx1 hk0 q hs1 (if_pos ⟨by omega, by omega⟩) | exact zip_next hx1 hk0 q hs2 (if_neg (fun e => by have := e.1; omega)) | exact zip_next hx1 hk0 q hs3 (if_neg (fun e => e.2 (by omega)))))⟩ (by first | omega | (dsimp only; omega))
            · cbv
            · cbv
          · refine r_scat (u := f1) (v := ([98] : List UInt8)) m.sX (by first | omega | (simp only [List.length_cons, List.length_nil]; omega) | (simp; omega)) fun s2 hs2 => ?_   -- s2 = f1 ++ ([98] : List UInt8)
            have ls2 : (s2.length : Int) = f1.length + ([98] : List UInt8).length := by rw [hs2, List.length_append, Int.natCast_add]
            try simp only [List.length_cons, List.length_nil] at ls2
            conv => cbv
            refine hE _ (s2, p1 + 1) ?_ ?_ ⟨(by (try dsimp only); first | omega | (simp only [List.length_nil]; omega) | (simp only [List.length_cons, List.length_nil]; omega)), (by (try dsimp only) <;> first | omega | rfl | (simp [*]; done) | (rw [fl]; simp [*]; done)), (by (try dsimp only) <;> (first | exact zip_next hx1 hk0 q hs1 (if_pos ⟨by omega, by omega⟩) | exact zip_next hx1 hk0 q hs2 (if_neg (fun e => by have := e.1; omega)) | exact zip_next hx1 hk0 q hs3 (if_neg (fun e => e.2 (by omega)))))⟩ (by first | omega | (dsimp only; omega))
            · cbv
            · cbv
        · refine r_scat (u := f1) (v := ([98] : List UInt8)) m.sX (by first | omega | (simp only [List.length_cons, List.length_nil]; omega) | (simp; omega)) fun s3 hs3 => ?_   -- s3 = f1 ++ ([98] : List UInt8)
          have ls3 : (s3.length : Int) = f1.length + ([98] : List UInt8).length := by rw [hs3, List.length_append, Int.natCast_add]
          try simp only [List.length_cons, List.length_nil] at ls3
          conv => cbv
          refine hE _ (s3, p1 + 1) ?_ ?_ ⟨(by (try dsimp only); first | omega | (simp only [List.length_nil]; omega) | (simp only [List.length_cons, List.length_nil]; omega)), (by (try dsimp only) <;> first | omega | rfl | (simp [*]; done) | (rw [fl]; simp [*]; done)), (by (try dsimp only) <;> (first | exact zip_next hx1 hk0 q hs1 (if_pos ⟨by omega, by omega⟩) | exact zip_next hx1 hk0 q hs2 (if_neg (fun e => by have := e.1; omega)) | exact zip_next hx1 hk0 q hs3 (if_neg (fun e => e.2 (by omega)))))⟩ (by first | omega | (dsimp only; omega))
          · cbv
          · cbv
    · exact hQ (.tup [.agg [.str ([]), .str ([])], .bool false]) (Eq.trans (by first | rfl | (simp only [lb, lbI, rows_cons, rows_nil, unnilT, unnil, unnilTI, unnilI]; done) | (simp only [lb, lbI, rows_cons, rows_nil, unnilT, unnil, unnilTI, unnilI]; rfl)) (congrArg (inkR) (show (([], []), false) = swapA (xA, xB) from by rw [swapA, h1]; rfl)))   -- leaf 2

theorem coForme_ok (x : Inked) (ink : List UInt8) (hx : okInked x = true) (hi : isInkB ink = true) : OkA Try.prog 30 [.agg (cInked x), .str ink] (· = .str (foF (ink.headD 0) x)) := by
  obtain ⟨xA, xB⟩ := x
  try dsimp only at *
  exact fn_intro envOk fieldsOk mixed Try.func30 rfl fun κ X Y L Q m hQ => by
    have xo := okInked_spec hx
    try dsimp only at xo
    have xl := xo.len
    try dsimp only at xl
    have xf := xo.few
    try dsimp only at xf
    have io := isInk_head hi
    try dsimp only at io
    conv => cbv
    refine r_loopF (α := List UInt8 × Nat) m 32 [1, 5] [⟨2, 17, 0, 0, 0⟩, ⟨9, 73, 0, 0, 0⟩] (fun σ => [(1, .str ink), (2, .optr 17 0 2 0 0), (5, .str σ.1), (9, .optr 73 0 0 0 0)]) (fun σ => [(17, 0, .box [.str xA, .str xB]), (73, 0, .iter xA σ.2)])
      (fun σ => (σ.2 ≤ xA.length) ∧ ((σ.1.length : Int) = (σ.2 : Int)) ∧ (σ.1 = zipU (foC (ink.headD 0)) (xA.take σ.2) (xB.take σ.2))) (fun σ => xA.length - σ.2) (([] : List UInt8), 0) ?_ ?_ ?_ ?_
    · cbv
    · cbv
    · exact ⟨(by (try dsimp only); first | omega | (simp only [List.length_nil]; omega) | (simp only [List.length_cons, List.length_nil]; omega)), (by (try dsimp only) <;> (rfl)), (by (try dsimp only) <;> (rfl))⟩
    rintro ⟨s_, p1⟩ ⟨lp1, fl, q⟩ E hE F hF
    dsimp only at lp1 fl q
    conv => cbv
    refine r_snext (u := xA) (p := p1) m.sX (fun hp1 => ?_) (fun x1 hx1 => ⟨by exact plain_low xo.plain hx1, fun i1 c1 hi1 hc1 => ?_⟩) <;> conv => cbv
    · have dz_p1 := drop_end (xs := xA) (i := p1) (by omega)
      have tz_p1 := take_end (xs := xA) (i := p1) (by omega)
      refine hF _ _ ?_
      conv => cbv
      exact hQ (.str s_) (Eq.trans (by first | rfl | (simp only [lb, lbI, rows_cons, rows_nil, unnilT, unnil, unnilTI, unnilI]; done) | (simp only [lb, lbI, rows_cons, rows_nil, unnilT, unnil, unnilTI, unnilI]; rfl)) (congrArg (PV.str) (show s_ = foF (ink.headD 0) (xA, xB) from by rw [q, zipU_all _ (by omega) (by omega)]; rfl)))   -- leaf 1
    · have ltx1 := (List.getElem?_eq_some_iff.1 hx1).1
      have ti1 : Int.toNat i1 = p1 := by omega
      have gx1 : xA[Int.toNat i1]? = some x1 := by rw [ti1]; exact hx1
      have dx1 := drop_cons hx1
      have kx1 := take_snoc hx1
      have mx1 := get_mem hx1
      have bc1 : 0 ≤ c1 ∧ c1 ≤ 255 := by have := x1.toNat_lt; omega
      have hx1_g := gx1
      obtain ⟨k0, hk0⟩ := get_ex (xs := xB) (i := p1) (by omega)
      refine r_addf m.sX (by omega) (by omega) fun r1 hr1 => ?_
      conv => cbv
      refine r_sslice (u := xB) (i := i1) (j := r1) m.sX (by omega) (by omega) (by first | omega | (simp only [List.length_cons, List.length_nil]; omega) | (simp; omega)) fun s1 hs1 => ?_   -- s1 = xB[i1:r1]
      have u1 : s1 = [k0] := slice_one (i := i1) (by rw [ti1]; exact hk0) (by omega) (by omega) hs1
      have ls1 : (s1.length : Int) = r1 - i1 := by rw [hs1]; first | done | (simp; done) | (simp; omega)
      conv => cbv
      refine r_seql m.sX (fun h1 => ?_) (fun h1 => ?_) <;> conv => cbv
      · have ke : k0 = ink.headD 0 := (List.cons.inj (u1.symm.trans (h1.trans io.1))).1
        refine r_addf m.sX (by omega) (by omega) fun r2 hr2 => ?_
        conv => cbv
        refine r_sslice (u := xA) (i := i1) (j := r2) m.sX (by omega) (by omega) (by first | omega | (simp only [List.length_cons, List.length_nil]; omega) | (simp; omega)) fun s2 hs2 => ?_   -- s2 = xA[i1:r2]
        have ls2 : (s2.length : Int) = r2 - i1 := by rw [hs2]; first | done | (simp; done) | (simp; omega)
        try have ws2 := slice_one hx1_g (by omega) (by omega) hs2
        conv => cbv
        refine r_scat (u := s_) (v := s2) m.sX (by first | omega | (simp only [List.length_cons, List.length_nil]; omega) | (simp; omega)) fun s__2 hs__2 => ?_   -- s__2 = s_ ++ s2
        have ls__2 : (s__2.length : Int) = s_.length + s2.length := by rw [hs__2, List.length_append, Int.natCast_add]
        try simp only [List.length_cons, List.length_nil] at ls__2
        conv => cbv
        refine hE _ (s__2, p1 + 1) ?_ ?_ ⟨(by (try dsimp only); first | omega | (simp only [List.length_nil]; omega) | (simp only [List.length_cons, List.length_nil]; omega)), (by (try dsimp only) <;> first | omega | rfl | (simp [*]; done) | (rw [fl]; simp [*]; done)), (by (try dsimp only) <;> (first | exact zip_next hx1 hk0 q (by rw [hs__2, ws2]) (if_pos (by rw [ke])) | exact zip_next hx1 hk0 q hs__3 (if_neg fun e => ke (u8_eq e))))⟩ (by first | omega | (dsimp only; omega))
        · cbv
        · cbv
      · have ke : ¬ (k0 = ink.headD 0) := fun e => h1 (by rw [u1, e]; exact io.1.symm)
        refine r_scat (u := s_) (v := ([32] : List UInt8)) m.sX (by first | omega | (simp only [List.length_cons, List.length_nil]; omega) | (simp; omega)) fun s__3 hs__3 => ?_   -- s__3 = s_ ++ ([32] : List UInt8)
        have ls__3 : (s__3.length : Int) = s_.length + ([32] : List UInt8).length := by rw [hs__3, List.length_append, Int.natCast_add]
        try simp only [List.length_cons, List.length_nil] at ls__3
        conv => cbv
        refine hE _ (s__3, p1 + 1) ?_ ?_ ⟨(by (try dsimp only); first | omega | (simp only [List.length_nil]; omega) | (simp only [List.length_cons, List.length_nil]; omega)), (by (try dsimp only) <;> first | omega | rfl | (simp [*]; done) | (rw [fl]; simp [*]; done)), (by (try dsimp only) <;> (first | exact zip_next hx1 hk0 q (by rw [hs__2, ws2]) (if_pos (by rw [ke])) | exact zip_next hx1 hk0 q hs__3 (if_neg fun e => ke (u8_eq e))))⟩ (by first | omega | (dsimp only; omega))
        · cbv
        · cbv

theorem specFormeOf_ok (x : Inked) (ink : List UInt8)  : OkA Try.prog 17 [.agg (cInked x), .str ink] (· = sb (formeA x ink)) := by
  obtain ⟨xA, xB⟩ := x
  try dsimp only at *
  exact fn_intro envOk fieldsOk mixed Try.func17 rfl fun κ X Y L Q m hQ => by
    conv => cbv
    refine r_callB m.sX (coGood_ok (xA, xB)) (fun h1 => ?_) (fun h1 => ?_) <;> conv => cbv
    · refine r_callB m.sX (coInk_ok ink) (fun h2 => ?_) (fun h2 => ?_) <;> conv => cbv
      · refine r_callF .str m.sX (coForme_ok (xA, xB) ink (by first | rfl | assumption | omega | (simp only [List.length_append, List.length_cons, List.length_nil] at *; omega)) (by first | rfl | assumption | omega | (simp only [List.length_append, List.length_cons, List.length_nil] at *; omega))) fun v1 hv1 => ?_
        conv => cbv
        try dsimp only at hv1
        exact hQ (.tup [.str v1, .bool true]) (Eq.trans (by first | rfl | (simp only [lb, lbI, rows_cons, rows_nil, unnilT, unnil, unnilTI, unnilI]; done) | (simp only [lb, lbI, rows_cons, rows_nil, unnilT, unnil, unnilTI, unnilI]; rfl)) (congrArg (sb) (show (v1, true) = formeA (xA, xB) ink from by rw [formeA, h1, h2, hv1]; rfl)))   -- leaf 1
      · exact hQ (.tup [.str ([] : List UInt8), .bool false]) (Eq.trans (by first | rfl | (simp only [lb, lbI, rows_cons, rows_nil, unnilT, unnil, unnilTI, unnilI]; done) | (simp only [lb, lbI, rows_cons, rows_nil, unnilT, unnil, unnilTI, unnilI]; rfl)) (congrArg (sb) (show (([] : List UInt8), false) = formeA (xA, xB) ink from by rw [formeA, h1, h2]; rfl)))   -- leaf 2
    · exact hQ (.tup [.str ([] : List UInt8), .bool false]) (Eq.trans (by first | rfl | (simp only [lb, lbI, rows_cons, rows_nil, unnilT, unnil, unnilTI, unnilI]; done) | (simp only [lb, lbI, rows_cons, rows_nil, unnilT, unnil, unnilTI, unnilI]; rfl)) (congrArg (sb) (show (([] : List UInt8), false) = formeA (xA, xB) ink from by rw [formeA, h1]; rfl)))   -- leaf 3

theorem specCountInk_ok (x : Inked) (ink : List UInt8)  : OkA Try.prog 18 [.agg (cInked x), .str ink] (· = ib (countA x ink)) := by
  obtain ⟨xA, xB⟩ := x
  try dsimp only at *
  exact fn_intro envOk fieldsOk mixed Try.func18 rfl fun κ X Y L Q m hQ => by
    conv => cbv
    refine r_callB m.sX (coGood_ok (xA, xB)) (fun h1 => ?_) (fun h1 => ?_) <;> conv => cbv
    · have xo := okInked_spec h1
      try dsimp only at xo
      have xl := xo.len
      try dsimp only at xl
      have xf := xo.few
      try dsimp only at xf
      refine r_callB m.sX (coInk_ok ink) (fun h2 => ?_) (fun h2 => ?_) <;> conv => cbv
      · have io := isInk_head h2
        try dsimp only at io
        refine r_loopF (α := Int × Nat) m 40 [1, 6] [⟨2, 17, 0, 0, 0⟩, ⟨18, 145, 0, 0, 0⟩] (fun σ => [(1, .str ink), (2, .optr 17 0 2 0 0), (6, .int .i64 σ.1), (18, .optr 145 0 0 0 0)]) (fun σ => [(17, 0, .box [.str xA, .str xB]), (145, 0, .iter xA σ.2)])
          (fun σ => (σ.2 ≤ xA.length) ∧ (σ.1 = cntU (ink.headD 0) (xA.take σ.2) (xB.take σ.2)) ∧ (0 ≤ σ.1 ∧ σ.1 ≤ (σ.2 : Int))) (fun σ => xA.length - σ.2) (0, 0) ?_ ?_ ?_ ?_
        · cbv
        · cbv
        · exact ⟨(by (try dsimp only); first | omega | (simp only [List.length_nil]; omega) | (simp only [List.length_cons, List.length_nil]; omega)), (by (try dsimp only) <;> (rfl)), (by (try dsimp only) <;> first | omega | rfl | (simp [*]; done))⟩
        rintro ⟨n, p1⟩ ⟨lp1, q, nb⟩ E hE F hF
        dsimp only at lp1 q nb
        conv => cbv
        refine r_snext (u := xA) (p := p1) m.sX (fun hp1 => ?_) (fun x1 hx1 => ⟨by exact plain_low xo.plain hx1, fun i1 c1 hi1 hc1 => ?_⟩) <;> conv => cbv
        · have dz_p1 := drop_end (xs := xA) (i := p1) (by omega)
          have tz_p1 := take_end (xs := xA) (i := p1) (by omega)
          refine hF _ _ ?_
          conv => cbv
          exact hQ (.tup [.int .i64 n, .bool true]) (Eq.trans (by first | rfl | (simp only [lb, lbI, rows_cons, rows_nil, unnilT, unnil, unnilTI, unnilI]; done) | (simp only [lb, lbI, rows_cons, rows_nil, unnilT, unnil, unnilTI, unnilI]; rfl)) (congrArg (ib) (show (n, true) = countA (xA, xB) ink from by rw [countA, h1, h2, q, cntU_all _ (by omega) (by omega)]; rfl)))   -- leaf 1
        · have ltx1 := (List.getElem?_eq_some_iff.1 hx1).1
          have ti1 : Int.toNat i1 = p1 := by omega
          have gx1 : xA[Int.toNat i1]? = some x1 := by rw [ti1]; exact hx1
          have dx1 := drop_cons hx1
          have kx1 := take_snoc hx1
          have mx1 := get_mem hx1
          have bc1 : 0 ≤ c1 ∧ c1 ≤ 255 := by have := x1.toNat_lt; omega
          have hx1_g := gx1
          obtain ⟨k0, hk0⟩ := get_ex (xs := xB) (i := p1) (by omega)
          refine r_sidx (u := xA) (i := i1) m.sX (by omega) (by first | omega | (simp only [List.length_cons, List.length_nil]; omega) | (simp; omega)) fun x2 hx2 c2 hc2 bc2 => ?_   -- x2 = xA[i1]
          obtain rfl := Option.some.inj (hx1_g.symm.trans hx2)
          obtain rfl := hc1.trans hc2.symm
          conv => cbv
          refine r_neq m.sX (fun h3 => ?_) (fun h3 => ?_) <;> conv => cbv
          · refine r_addf m.sX (by omega) (by omega) fun r1 hr1 => ?_
            conv => cbv
            refine r_sslice (u := xB) (i := i1) (j := r1) m.sX (by omega) (by omega) (by first | omega | (simp only [List.length_cons, List.length_nil]; omega) | (simp; omega)) fun s1 hs1 => ?_   -- s1 = xB[i1:r1]
            have u1 : s1 = [k0] := slice_one (i := i1) (by rw [ti1]; exact hk0) (by omega) (by omega) hs1
            have ls1 : (s1.length : Int) = r1 - i1 := by rw [hs1]; first | done | (simp; done) | (simp; omega)
            conv => cbv
            refine r_seql m.sX (fun h4 => ?_) (fun h4 => ?_) <;> conv => cbv
            · have ke : k0 = ink.headD 0 := (List.cons.inj (u1.symm.trans (h4.trans io.1))).1
              refine r_addf m.sX (by omega) (by omega) fun n_2 hn_2 => ?_
              conv => cbv
              refine hE _ (n_2, p1 + 1) ?_ ?_ ⟨(by (try dsimp only); first | omega | (simp only [List.length_nil]; omega) | (simp only [List.length_cons, List.length_nil]; omega)), (by (try dsimp only) <;> (first | (rw [cntU_take _ hx1 hk0, ← q, if_pos ⟨by omega, by rw [ke]⟩]; omega) | (rw [cntU_take _ hx1 hk0, ← q, if_neg (fun e => ke (u8_eq e.2))]; omega) | (rw [cntU_take _ hx1 hk0, ← q, if_neg (fun e => e.1 (by omega))]; omega))), (by (try dsimp only) <;> first | omega | rfl | (simp [*]; done) | (rw [nb]; simp [*]; done))⟩ (by first | omega | (dsimp only; omega))
              · cbv
              · cbv
            · have ke : ¬ (k0 = ink.headD 0) := fun e => h4 (by rw [u1, e]; exact io.1.symm)
              refine hE _ (n, p1 + 1) ?_ ?_ ⟨(by (try dsimp only); first | omega | (simp only [List.length_nil]; omega) | (simp only [List.length_cons, List.length_nil]; omega)), (by (try dsimp only) <;> (first | (rw [cntU_take _ hx1 hk0, ← q, if_pos ⟨by omega, by rw [ke]⟩]; omega) | (rw [cntU_take _ hx1 hk0, ← q, if_neg (fun e => ke (u8_eq e.2))]; omega) | (rw [cntU_take _ hx1 hk0, ← q, if_neg (fun e => e.1 (by omega))]; omega))), (by (try dsimp only) <;> first | omega | rfl | (simp [*]; done) | (rw [nb]; simp [*]; done))⟩ (by first | omega | (dsimp only; omega))
              · cbv
              · cbv
          · refine hE _ (n, p1 + 1) ?_ ?_ ⟨(by (try dsimp only); first | omega | (simp only [List.length_nil]; omega) | (simp only [List.length_cons, List.length_nil]; omega)), (by (try dsimp only) <;> (first | (rw [cntU_take _ hx1 hk0, ← q, if_pos ⟨by omega, by rw [ke]⟩]; omega) | (rw [cntU_take _ hx1 hk0, ← q, if_neg (fun e => ke (u8_eq e.2))]; omega) | (rw [cntU_take _ hx1 hk0, ← q, if_neg (fun e => e.1 (by omega))]; omega))), (by (try dsimp only) <;> first | omega | rfl | (simp [*]; done) | (rw [nb]; simp [*]; done))⟩ (by first | omega | (dsimp only; omega))
            · cbv
            · cbv
      · exact hQ (.tup [.int .i64 0, .bool false]) (Eq.trans (by first | rfl | (simp only [lb, lbI, rows_cons, rows_nil, unnilT, unnil, unnilTI, unnilI]; done) | (simp only [lb, lbI, rows_cons, rows_nil, unnilT, unnil, unnilTI, unnilI]; rfl)) (congrArg (ib) (show (0, false) = countA (xA, xB) ink from by rw [countA, h1, h2]; rfl)))   -- leaf 2
    · exact hQ (.tup [.int .i64 0, .bool false]) (Eq.trans (by first | rfl | (simp only [lb, lbI, rows_cons, rows_nil, unnilT, unnil, unnilTI, unnilI]; done) | (simp only [lb, lbI, rows_cons, rows_nil, unnilT, unnil, unnilTI, unnilI]; rfl)) (congrArg (ib) (show (0, false) = countA (xA, xB) ink from by rw [countA, h1]; rfl)))   -- leaf 3

theorem coTold_ok (x : Inked) (hx : okInked x = true) : OkA Try.prog 24 [.agg (cInked x)] (· = .str (zipU upC x.1 x.2)) := by
  obtain ⟨xA, xB⟩ := x
  try dsimp only at *
  exact fn_intro envOk fieldsOk mixed Try.func24 rfl fun κ X Y L Q m hQ => by
    have xo := okInked_spec hx
    try dsimp only at xo
    have xl := xo.len
    try dsimp only at xl
    have xf := xo.few
    try dsimp only at xf
    conv => cbv
    refine r_loopF (α := List UInt8 × Nat) m 35 [3] [⟨1, 9, 0, 0, 0⟩, ⟨7, 57, 0, 0, 0⟩] (fun σ => [(1, .optr 9 0 2 0 0), (3, .str σ.1), (7, .optr 57 0 0 0 0)]) (fun σ => [(9, 0, .box [.str xA, .str xB]), (57, 0, .iter xA σ.2)])
      (fun σ => (σ.2 ≤ xA.length) ∧ ((σ.1.length : Int) = (σ.2 : Int)) ∧ (σ.1 = zipU upC (xA.take σ.2) (xB.take σ.2))) (fun σ => xA.length - σ.2) (([] : List UInt8), 0) ?_ ?_ ?_ ?_
    · cbv
    · cbv
    · exact ⟨(by (try dsimp only); first | omega | (simp only [List.length_nil]; omega) | (simp only [List.length_cons, List.length_nil]; omega)), (by (try dsimp only) <;> (rfl)), (by (try dsimp only) <;> (rfl))⟩
    rintro ⟨s_, p1⟩ ⟨lp1, fl, q⟩ E hE F hF
    dsimp only at lp1 fl q
    conv => cbv
    refine r_snext (u := xA) (p := p1) m.sX (fun hp1 => ?_) (fun x1 hx1 => ⟨by exact plain_low xo.plain hx1, fun i1 c1 hi1 hc1 => ?_⟩) <;> conv => cbv
    · have dz_p1 := drop_end (xs := xA) (i := p1) (by omega)
      have tz_p1 := take_end (xs := xA) (i := p1) (by omega)
      refine hF _ _ ?_
      conv => cbv
      exact hQ (.str s_) (Eq.trans (by first | rfl | (simp only [lb, lbI, rows_cons, rows_nil, unnilT, unnil, unnilTI, unnilI]; done) | (simp only [lb, lbI, rows_cons, rows_nil, unnilT, unnil, unnilTI, unnilI]; rfl)) (congrArg (PV.str) (show s_ = zipU upC xA xB from by rw [q, zipU_all _ (by omega) (by omega)])))   -- leaf 1
    · have ltx1 := (List.getElem?_eq_some_iff.1 hx1).1
      have ti1 : Int.toNat i1 = p1 := by omega
      have gx1 : xA[Int.toNat i1]? = some x1 := by rw [ti1]; exact hx1
      have dx1 := drop_cons hx1
      have kx1 := take_snoc hx1
      have mx1 := get_mem hx1
      have bc1 : 0 ≤ c1 ∧ c1 ≤ 255 := by have := x1.toNat_lt; omega
      have hx1_g := gx1
      obtain ⟨k0, hk0⟩ := get_ex (xs := xB) (i := p1) (by omega)
      refine r_sidx (u := xB) (i := i1) m.sX (by omega) (by first | omega | (simp only [List.length_cons, List.length_nil]; omega) | (simp; omega)) fun x2 hx2 c2 hc2 bc2 => ?_   -- x2 = xB[i1]
      have e2 : x2 = k0 := Option.some.inj (by rw [← hx2, ← hk0, ti1])
      rw [e2] at hc2
      have dx2 := drop_cons hx2
      have kx2 := take_snoc hx2
      have jx2 : (i1 + 1).toNat = Int.toNat i1 + 1 := by omega
      conv => cbv
      refine r_eql m.sX (fun h1 => ?_) (fun h1 => ?_) <;> conv => cbv
      · have lt := letter_at xo hx1 hk0 (by omega)
        try dsimp only at lt
        refine r_sidx (u := xA) (i := i1) m.sX (by omega) (by first | omega | (simp only [List.length_cons, List.length_nil]; omega) | (simp; omega)) fun x3 hx3 c3 hc3 bc3 => ?_   -- x3 = xA[i1]
        obtain rfl := Option.some.inj (hx1_g.symm.trans hx3)
        obtain rfl := hc1.trans hc3.symm
        conv => cbv
        refine r_subb m.sX (by omega) (by omega) fun r1 hr1 => ?_; conv => cbv
        refine r_addb m.sX (by omega) (by omega) fun r2 hr2 => ?_; conv => cbv
        refine r_tostr ([r2] : List Int) m.sX rfl fun s1 hs1 => ?_   -- s1 = string of bytes
        have ls1 : (s1.length : Int) = 1 := by rw [hs1]; rfl
        conv => cbv
        refine r_scat (u := s_) (v := s1) m.sX (by first | omega | (simp only [List.length_cons, List.length_nil]; omega) | (simp; omega)) fun s__2 hs__2 => ?_   -- s__2 = s_ ++ s1
        have ls__2 : (s__2.length : Int) = s_.length + s1.length := by rw [hs__2, List.length_append, Int.natCast_add]
        try simp only [List.length_cons, List.length_nil] at ls__2
        conv => cbv
        refine hE _ (s__2, p1 + 1) ?_ ?_ ⟨(by (try dsimp only); first | omega | (simp only [List.length_nil]; omega) | (simp only [List.length_cons, List.length_nil]; omega)), (by (try dsimp only) <;> first | omega | rfl | (simp [*]; done) | (rw [fl]; simp [*]; done)), (by (try dsimp only) <;> (first | exact zip_next hx1 hk0 q (by rw [hs__2, hs1]; rfl) ((if_pos (by omega)).trans (ofNat_sub (by omega) lt).symm) | exact zip_next hx1 hk0 q (by rw [hs__3, ws2]) (if_neg (by omega))))⟩ (by first | omega | (dsimp only; omega))
        · cbv
        · cbv
      · refine r_addf m.sX (by omega) (by omega) fun r3 hr3 => ?_
        conv => cbv
        refine r_sslice (u := xA) (i := i1) (j := r3) m.sX (by omega) (by omega) (by first | omega | (simp only [List.length_cons, List.length_nil]; omega) | (simp; omega)) fun s2 hs2 => ?_   -- s2 = xA[i1:r3]
        have ls2 : (s2.length : Int) = r3 - i1 := by rw [hs2]; first | done | (simp; done) | (simp; omega)
        try have ws2 := slice_one hx1_g (by omega) (by omega) hs2
        conv => cbv
        refine r_scat (u := s_) (v := s2) m.sX (by first | omega | (simp only [List.length_cons, List.length_nil]; omega) | (simp; omega)) fun s__3 hs__3 => ?_   -- s__3 = s_ ++ s2
        have ls__3 : (s__3.length : Int) = s_.length + s2.length := by rw [hs__3, List.length_append, Int.natCast_add]
        try simp only [List.length_cons, List.length_nil] at ls__3
        conv => cbv
        refine hE _ (s__3, p1 + 1) ?_ ?_ ⟨(by (try dsimp only); first | omega | (simp only [List.length_nil]; omega) | (simp only [List.length_cons, List.length_nil]; omega)), (by (try dsimp only) <;> first | omega | rfl | (simp [*]; done) | (rw [fl]; simp [*]; done)), (by (try dsimp only) <;> (first | exact zip_next hx1 hk0 q (by rw [hs__2, hs1]; rfl) ((if_pos (by omega)).trans (ofNat_sub (by omega) lt).symm) | exact zip_next hx1 hk0 q (by rw [hs__3, ws2]) (if_neg (by omega))))⟩ (by first | omega | (dsimp only; omega))
        · cbv
        · cbv

theorem specInkedText_ok (x : Inked)  : OkA Try.prog 8 [.agg (cInked x)] (· = sb (textA x)) := by
  obtain ⟨xA, xB⟩ := x
  try dsimp only at *
  exact fn_intro envOk fieldsOk mixed Try.func8 rfl fun κ X Y L Q m hQ => by
    conv => cbv
    refine r_callB m.sX (coGood_ok (xA, xB)) (fun h1 => ?_) (fun h1 => ?_) <;> conv => cbv
    · refine r_callF .str m.sX (coTold_ok (xA, xB) (by first | rfl | assumption | omega | (simp only [List.length_append, List.length_cons, List.length_nil] at *; omega))) fun v1 hv1 => ?_
      conv => cbv
      try dsimp only at hv1
      exact hQ (.tup [.str v1, .bool true]) (Eq.trans (by first | rfl | (simp only [lb, lbI, rows_cons, rows_nil, unnilT, unnil, unnilTI, unnilI]; done) | (simp only [lb, lbI, rows_cons, rows_nil, unnilT, unnil, unnilTI, unnilI]; rfl)) (congrArg (sb) (show (v1, true) = textA (xA, xB) from by rw [textA, if_pos h1, hv1])))   -- leaf 1
    · exact hQ (.tup [.str ([] : List UInt8), .bool false]) (Eq.trans (by first | rfl | (simp only [lb, lbI, rows_cons, rows_nil, unnilT, unnil, unnilTI, unnilI]; done) | (simp only [lb, lbI, rows_cons, rows_nil, unnilT, unnil, unnilTI, unnilI]; rfl)) (congrArg (sb) (show (([] : List UInt8), false) = textA (xA, xB) from by rw [textA, h1]; rfl)))   -- leaf 2

theorem specLayFormes_ok (black : List UInt8) (red : List UInt8)  : OkA Try.prog 15 [.str black, .str red] (· = inkR (layA black red)) :=
  fn_intro envOk fieldsOk mixed Try.func15 rfl fun κ X Y L Q m hQ => by
    conv => cbv
    refine r_callB m.sX (coText_ok black) (fun h1 => ?_) (fun h1 => ?_) <;> conv => cbv
    · have fb := form_of h1
      refine r_callB m.sX (coText_ok red) (fun h2 => ?_) (fun h2 => ?_) <;> conv => cbv
      · have fr := form_of h2
        obtain ⟨pb, lb_⟩ := form_spec fb
        obtain ⟨pr, lr⟩ := form_spec fr
        refine r_slen (u := black) m.sX fun n1 hn1 mn1 => ?_   -- n1 = length of black
        conv => cbv
        refine r_slen (u := red) m.sX fun n2 hn2 mn2 => ?_   -- n2 = length of red
        conv => cbv
        refine r_neq m.sX (fun h3 => ?_) (fun h3 => ?_) <;> conv => cbv
        · exact hQ (.tup [.agg [.str ([]), .str ([])], .bool false]) (Eq.trans (by first | rfl | (simp only [lb, lbI, rows_cons, rows_nil, unnilT, unnil, unnilTI, unnilI]; done) | (simp only [lb, lbI, rows_cons, rows_nil, unnilT, unnil, unnilTI, unnilI]; rfl)) (congrArg (inkR) (show (([], []), false) = layA black red from by rw [layA, fb, fr, decide_eq_false (by omega)]; rfl)))   -- leaf 1
        · refine r_loopF (α := List UInt8 × List UInt8 × List UInt8 × List UInt8 × Nat) m 73 [0, 1] [⟨4, 33, 0, 0, 0⟩, ⟨6, 49, 0, 0, 0⟩, ⟨25, 201, 0, 0, 0⟩] (fun σ => [(0, .str black), (1, .str red), (4, .optr 33 0 2 0 0), (6, .optr 49 0 2 0 0), (25, .optr 201 0 0 0 0)]) (fun σ => [(33, 0, .box [.str σ.1, .str σ.2.1]), (49, 0, .box [.str σ.2.2.1, .str σ.2.2.2.1]), (201, 0, .iter black σ.2.2.2.2)])
            (fun σ => (σ.2.2.2.2 ≤ black.length) ∧ ((σ.2.2.1.length : Int) = (σ.2.2.2.2 : Int)) ∧ ((σ.2.2.2.1.length : Int) = (σ.2.2.2.2 : Int)) ∧ (σ.2.2.1 = zipU laT (black.take σ.2.2.2.2) (red.take σ.2.2.2.2)) ∧ (σ.2.2.2.1 = zipU laK (black.take σ.2.2.2.2) (red.take σ.2.2.2.2)) ∧ (apartB black red = apartB (black.drop σ.2.2.2.2) (red.drop σ.2.2.2.2))) (fun σ => black.length - σ.2.2.2.2) ([], [], [], [], 0) ?_ ?_ ?_ ?_
          · cbv
          · cbv
          · exact ⟨(by (try dsimp only); first | omega | (simp only [List.length_nil]; omega) | (simp only [List.length_cons, List.length_nil]; omega)), (by (try dsimp only) <;> (rfl)), (by (try dsimp only) <;> (rfl)), (by (try dsimp only) <;> (rfl)), (by (try dsimp only) <;> (rfl)), (by (try dsimp only) <;> (rfl))⟩
          rintro ⟨f1, f2, f3, f4, p1⟩ ⟨lp1, fl, gl, q, q2, ap⟩ E hE F hF
          dsimp only at lp1 fl gl q q2 ap
          conv => cbv
          refine r_snext (u := black) (p := p1) m.sX (fun hp1 => ?_) (fun x1 hx1 => ⟨by exact plain_low pb hx1, fun i1 c1 hi1 hc1 => ?_⟩) <;> conv => cbv
          · have dz_p1 := drop_end (xs := black) (i := p1) (by omega)
            have tz_p1 := take_end (xs := black) (i := p1) (by omega)
            refine hF _ _ ?_
            conv => cbv
            exact hQ (.tup [.agg [.str f3, .str f4], .bool true]) (Eq.trans (by first | rfl | (simp only [lb, lbI, rows_cons, rows_nil, unnilT, unnil, unnilTI, unnilI]; done) | (simp only [lb, lbI, rows_cons, rows_nil, unnilT, unnil, unnilTI, unnilI]; rfl)) (congrArg (inkR) (show ((f3, f4), true) = layA black red from by rw [layA, fb, fr, decide_eq_true (by omega), ap, apart_end (by omega), q, q2, zipU_all _ (by omega) (by omega), zipU_all _ (by omega) (by omega)]; rfl)))   -- leaf 2
          · have ltx1 := (List.getElem?_eq_some_iff.1 hx1).1
            have ti1 : Int.toNat i1 = p1 := by omega
            have gx1 : black[Int.toNat i1]? = some x1 := by rw [ti1]; exact hx1
            have dx1 := drop_cons hx1
            have kx1 := take_snoc hx1
            have mx1 := get_mem hx1
            have bc1 : 0 ≤ c1 ∧ c1 ≤ 255 := by have := x1.toNat_lt; omega
            have hx1_g := gx1
            obtain ⟨k0, hk0⟩ := get_ex (xs := red) (i := p1) (by omega)
            refine r_sidx (u := black) (i := i1) m.sX (by omega) (by first | omega | (simp only [List.length_cons, List.length_nil]; omega) | (simp; omega)) fun x2 hx2 c2 hc2 bc2 => ?_   -- x2 = black[i1]
            obtain rfl := Option.some.inj (hx1_g.symm.trans hx2)
            obtain rfl := hc1.trans hc2.symm
            conv => cbv
            refine r_neq m.sX (fun h4 => ?_) (fun h4 => ?_) <;> conv => cbv
            · refine r_sidx (u := red) (i := i1) m.sX (by omega) (by first | omega | (simp only [List.length_cons, List.length_nil]; omega) | (simp; omega)) fun x3 hx3 c3 hc3 bc3 => ?_   -- x3 = red[i1]
              have e3 : x3 = k0 := Option.some.inj (by rw [← hx3, ← hk0, ti1])
              have hk3 : c3 = (k0.toNat : Int) := by rw [hc3, e3]
              have dx3 := drop_cons hx3
              have kx3 := take_snoc hx3
              have jx3 : (i1 + 1).toNat = Int.toNat i1 + 1 := by omega
              conv => cbv
              refine r_neq m.sX (fun h5 => ?_) (fun h5 => ?_) <;> conv => cbv
              · refine hF _ _ ?_
                conv => cbv
                exact hQ (.tup [.agg [.str ([]), .str ([])], .bool false]) (Eq.trans (by first | rfl | (simp only [lb, lbI, rows_cons, rows_nil, unnilT, unnil, unnilTI, unnilI]; done) | (simp only [lb, lbI, rows_cons, rows_nil, unnilT, unnil, unnilTI, unnilI]; rfl)) (congrArg (inkR) (show (([], []), false) = layA black red from by rw [layA, fb, fr, decide_eq_true (by omega), ap, apart_drop hx1 hk0, decide_eq_false (show ¬ (k0.toNat : Int) = 32 by omega), decide_eq_false (show ¬ (x1.toNat : Int) = 32 by omega)]; rfl)))   -- leaf 3
              · refine r_sidx (u := red) (i := i1) m.sX (by omega) (by first | omega | (simp only [List.length_cons, List.length_nil]; omega) | (simp; omega)) fun x4 hx4 c4 hc4 bc4 => ?_   -- x4 = red[i1]
                obtain rfl := Option.some.inj (hx3.symm.trans hx4)
                obtain rfl := hc3.trans hc4.symm
                conv => cbv
                refine r_neq m.sX (fun h6 => ?_) (fun h6 => ?_) <;> conv => cbv
                · refine r_draw m (by kernel_rfl) ?_
                  conv => cbv
                  refine r_addf m.sY (by omega) (by omega) fun r1 hr1 => ?_
                  conv => cbv
                  refine r_sslice (u := red) (i := i1) (j := r1) m.sY (by omega) (by omega) (by first | omega | (simp only [List.length_cons, List.length_nil]; omega) | (simp; omega)) fun s1 hs1 => ?_   -- s1 = red[i1:r1]
                  have ls1 : (s1.length : Int) = r1 - i1 := by rw [hs1]; first | done | (simp; done) | (simp; omega)
                  try have ws1 := slice_one hx3 (by omega) (by omega) hs1
                  conv => cbv
                  refine r_scat (u := f3) (v := s1) m.sY (by first | omega | (simp only [List.length_cons, List.length_nil]; omega) | (simp; omega)) fun s2 hs2 => ?_   -- s2 = f3 ++ s1
                  have ls2 : (s2.length : Int) = f3.length + s1.length := by rw [hs2, List.length_append, Int.natCast_add]
                  try simp only [List.length_cons, List.length_nil] at ls2
                  conv => cbv
                  refine r_scat (u := f4) (v := ([114] : List UInt8)) m.sX (by first | omega | (simp only [List.length_cons, List.length_nil]; omega) | (simp; omega)) fun s3 hs3 => ?_   -- s3 = f4 ++ ([114] : List UInt8)
                  have ls3 : (s3.length : Int) = f4.length + ([114] : List UInt8).length := by rw [hs3, List.length_append, Int.natCast_add]
                  try simp only [List.length_cons, List.length_nil] at ls3
                  conv => cbv
                  refine hE _ (f1, f2, s2, s3, p1 + 1) ?_ ?_ ⟨(by (try dsimp only); first | omega | (simp only [List.length_nil]; omega) | (simp only [List.length_cons, List.length_nil]; omega)), (by (try dsimp only) <;> first | omega | rfl | (simp [*]; done) | (rw [fl]; simp [*]; done)), (by (try dsimp only) <;> first | omega | rfl | (simp [*]; done) | (rw [gl]; simp [*]; done)), (by (try dsimp only) <;> (first | exact zip_next hx1 hk0 q (by rw [hs2, ws1, e3]) (if_neg (by omega)) | exact zip_next hx1 hk0 q (by rw [hs5, ws4]) (if_pos (by omega)) | exact zip_next hx1 hk0 q (by rw [hs8, ws7, e5]) (if_neg (by omega)) | exact zip_next hx1 hk0 q (by rw [hs11, ws10]) (if_pos (by omega)) | (exfalso; omega))), (by (try dsimp only) <;> (first | exact zip_next hx1 hk0 q2 hs3 (if_neg (by omega)) | exact zip_next hx1 hk0 q2 hs6 (if_pos (by omega)) | exact zip_next hx1 hk0 q2 hs9 (if_neg (by omega)) | exact zip_next hx1 hk0 q2 hs12 (if_pos (by omega)) | (exfalso; omega))), (by (try dsimp only) <;> (first | rw [ap, apart_drop hx1 hk0, decide_eq_true (show (k0.toNat : Int) = 32 by omega), Bool.true_or, Bool.true_and] | (rw [ap, apart_drop hx1 hk0, decide_eq_true (show (x1.toNat : Int) = 32 by omega), Bool.or_true, Bool.true_and]) | (exfalso; omega)))⟩ (by first | omega | (dsimp only; omega))
                  · cbv
                  · cbv
                · refine r_draw m (by kernel_rfl) ?_
                  conv => cbv
                  refine r_addf m.sY (by omega) (by omega) fun r2 hr2 => ?_
                  conv => cbv
                  refine r_sslice (u := black) (i := i1) (j := r2) m.sY (by omega) (by omega) (by first | omega | (simp only [List.length_cons, List.length_nil]; omega) | (simp; omega)) fun s4 hs4 => ?_   -- s4 = black[i1:r2]
                  have ls4 : (s4.length : Int) = r2 - i1 := by rw [hs4]; first | done | (simp; done) | (simp; omega)
                  try have ws4 := slice_one hx1_g (by omega) (by omega) hs4
                  conv => cbv
                  refine r_scat (u := f3) (v := s4) m.sY (by first | omega | (simp only [List.length_cons, List.length_nil]; omega) | (simp; omega)) fun s5 hs5 => ?_   -- s5 = f3 ++ s4
                  have ls5 : (s5.length : Int) = f3.length + s4.length := by rw [hs5, List.length_append, Int.natCast_add]
                  try simp only [List.length_cons, List.length_nil] at ls5
                  conv => cbv
                  refine r_scat (u := f4) (v := ([98] : List UInt8)) m.sX (by first | omega | (simp only [List.length_cons, List.length_nil]; omega) | (simp; omega)) fun s6 hs6 => ?_   -- s6 = f4 ++ ([98] : List UInt8)
                  have ls6 : (s6.length : Int) = f4.length + ([98] : List UInt8).length := by rw [hs6, List.length_append, Int.natCast_add]
                  try simp only [List.length_cons, List.length_nil] at ls6
                  conv => cbv
                  refine hE _ (f1, f2, s5, s6, p1 + 1) ?_ ?_ ⟨(by (try dsimp only); first | omega | (simp only [List.length_nil]; omega) | (simp only [List.length_cons, List.length_nil]; omega)), (by (try dsimp only) <;> first | omega | rfl | (simp [*]; done) | (rw [fl]; simp [*]; done)), (by (try dsimp only) <;> first | omega | rfl | (simp [*]; done) | (rw [gl]; simp [*]; done)), (by (try dsimp only) <;> (first | exact zip_next hx1 hk0 q (by rw [hs2, ws1, e3]) (if_neg (by omega)) | exact zip_next hx1 hk0 q (by rw [hs5, ws4]) (if_pos (by omega)) | exact zip_next hx1 hk0 q (by rw [hs8, ws7, e5]) (if_neg (by omega)) | exact zip_next hx1 hk0 q (by rw [hs11, ws10]) (if_pos (by omega)) | (exfalso; omega))), (by (try dsimp only) <;> (first | exact zip_next hx1 hk0 q2 hs3 (if_neg (by omega)) | exact zip_next hx1 hk0 q2 hs6 (if_pos (by omega)) | exact zip_next hx1 hk0 q2 hs9 (if_neg (by omega)) | exact zip_next hx1 hk0 q2 hs12 (if_pos (by omega)) | (exfalso; omega))), (by (try dsimp only) <;> (first | rw [ap, apart_drop hx1 hk0, decide_eq_true (show (k0.toNat : Int) = 32 by omega), Bool.true_or, Bool.true_and] | (rw [ap, apart_drop hx1 hk0, decide_eq_true (show (x1.toNat : Int) = 32 by omega), Bool.or_true, Bool.true_and]) | (exfalso; omega)))⟩ (by first | omega | (dsimp only; omega))
                  · cbv
                  · cbv
            · refine r_sidx (u := red) (i := i1) m.sX (by omega) (by first | omega | (simp only [List.length_cons, List.length_nil]; omega) | (simp; omega)) fun x5 hx5 c5 hc5 bc5 => ?_   -- x5 = red[i1]
              have e5 : x5 = k0 := Option.some.inj (by rw [← hx5, ← hk0, ti1])
              have hk5 : c5 = (k0.toNat : Int) := by rw [hc5, e5]
              have dx5 := drop_cons hx5
              have kx5 := take_snoc hx5
              have jx5 : (i1 + 1).toNat = Int.toNat i1 + 1 := by omega
              conv => cbv
              refine r_neq m.sX (fun h7 => ?_) (fun h7 => ?_) <;> conv => cbv
              · refine r_draw m (by kernel_rfl) ?_
                conv => cbv
                refine r_addf m.sY (by omega) (by omega) fun r3 hr3 => ?_
                conv => cbv
                refine r_sslice (u := red) (i := i1) (j := r3) m.sY (by omega) (by omega) (by first | omega | (simp only [List.length_cons, List.length_nil]; omega) | (simp; omega)) fun s7 hs7 => ?_   -- s7 = red[i1:r3]
                have ls7 : (s7.length : Int) = r3 - i1 := by rw [hs7]; first | done | (simp; done) | (simp; omega)
                try have ws7 := slice_one hx5 (by omega) (by omega) hs7
                conv => cbv
                refine r_scat (u := f3) (v := s7) m.sY (by first | omega | (simp only [List.length_cons, List.length_nil]; omega) | (simp; omega)) fun s8 hs8 => ?_   -- s8 = f3 ++ s7
                have ls8 : (s8.length : Int) = f3.length + s7.length := by rw [hs8, List.length_append, Int.natCast_add]
                try simp only [List.length_cons, List.length_nil] at ls8
                conv => cbv
                refine r_scat (u := f4) (v := ([114] : List UInt8)) m.sX (by first | omega | (simp only [List.length_cons, List.length_nil]; omega) | (simp; omega)) fun s9 hs9 => ?_   -- s9 = f4 ++ ([114] : List UInt8)
                have ls9 : (s9.length : Int) = f4.length + ([114] : List UInt8).length := by rw [hs9, List.length_append, Int.natCast_add]
                try simp only [List.length_cons, List.length_nil] at ls9
                conv => cbv
                refine hE _ (f1, f2, s8, s9, p1 + 1) ?_ ?_ ⟨(by (try dsimp only); first | omega | (simp only [List.length_nil]; omega) | (simp only [List.length_cons, List.length_nil]; omega)), (by (try dsimp only) <;> first | omega | rfl | (simp [*]; done) | (rw [fl]; simp [*]; done)), (by (try dsimp only) <;> first | omega | rfl | (simp [*]; done) | (rw [gl]; simp [*]; done)), (by (try dsimp only) <;> (first | exact zip_next hx1 hk0 q (by rw [hs2, ws1, e3]) (if_neg (by omega)) | exact zip_next hx1 hk0 q (by rw [hs5, ws4]) (if_pos (by omega)) | exact zip_next hx1 hk0 q (by rw [hs8, ws7, e5]) (if_neg (by omega)) | exact zip_next hx1 hk0 q (by rw [hs11, ws10]) (if_pos (by omega)) | (exfalso; omega))), (by (try dsimp only) <;> (first | exact zip_next hx1 hk0 q2 hs3 (if_neg (by omega)) | exact zip_next hx1 hk0 q2 hs6 (if_pos (by omega)) | exact zip_next hx1 hk0 q2 hs9 (if_neg (by omega)) | exact zip_next hx1 hk0 q2 hs12 (if_pos (by omega)) | (exfalso; omega))), (by (try dsimp only) <;> (first | rw [ap, apart_drop hx1 hk0, decide_eq_true (show (k0.toNat : Int) = 32 by omega), Bool.true_or, Bool.true_and] | (rw [ap, apart_drop hx1 hk0, decide_eq_true (show (x1.toNat : Int) = 32 by omega), Bool.or_true, Bool.true_and]) | (exfalso; omega)))⟩ (by first | omega | (dsimp only; omega))
                · cbv
                · cbv
              · refine r_draw m (by kernel_rfl) ?_
                conv => cbv
                refine r_addf m.sY (by omega) (by omega) fun r4 hr4 => ?_
                conv => cbv
                refine r_sslice (u := black) (i := i1) (j := r4) m.sY (by omega) (by omega) (by first | omega | (simp only [List.length_cons, List.length_nil]; omega) | (simp; omega)) fun s10 hs10 => ?_   -- s10 = black[i1:r4]
                have ls10 : (s10.length : Int) = r4 - i1 := by rw [hs10]; first | done | (simp; done) | (simp; omega)
                try have ws10 := slice_one hx1_g (by omega) (by omega) hs10
                conv => cbv
                refine r_scat (u := f3) (v := s10) m.sY (by first | omega | (simp only [List.length_cons, List.length_nil]; omega) | (simp; omega)) fun s11 hs11 => ?_   -- s11 = f3 ++ s10
                have ls11 : (s11.length : Int) = f3.length + s10.length := by rw [hs11, List.length_append, Int.natCast_add]
                try simp only [List.length_cons, List.length_nil] at ls11
                conv => cbv
                refine r_scat (u := f4) (v := ([98] : List UInt8)) m.sX (by first | omega | (simp only [List.length_cons, List.length_nil]; omega) | (simp; omega)) fun s12 hs12 => ?_   -- s12 = f4 ++ ([98] : List UInt8)
                have ls12 : (s12.length : Int) = f4.length + ([98] : List UInt8).length := by rw [hs12, List.length_append, Int.natCast_add]
                try simp only [List.length_cons, List.length_nil] at ls12
                conv => cbv
                refine hE _ (f1, f2, s11, s12, p1 + 1) ?_ ?_ ⟨(by (try dsimp only); first | omega | (simp only [List.length_nil]; omega) | (simp only [List.length_cons, List.length_nil]; omega)), (by (try dsimp only) <;> first | omega | rfl | (simp [*]; done) | (rw [fl]; simp [*]; done)), (by (try dsimp only) <;> first | omega | rfl | (simp [*]; done) | (rw [gl]; simp [*]; done)), (by (try dsimp only) <;> (first | exact zip_next hx1 hk0 q (by rw [hs2, ws1, e3]) (if_neg (by omega)) | exact zip_next hx1 hk0 q (by rw [hs5, ws4]) (if_pos (by omega)) | exact zip_next hx1 hk0 q (by rw [hs8, ws7, e5]) (if_neg (by omega)) | exact zip_next hx1 hk0 q (by rw [hs11, ws10]) (if_pos (by omega)) | (exfalso; omega))), (by (try dsimp only) <;> (first | exact zip_next hx1 hk0 q2 hs3 (if_neg (by omega)) | exact zip_next hx1 hk0 q2 hs6 (if_pos (by omega)) | exact zip_next hx1 hk0 q2 hs9 (if_neg (by omega)) | exact zip_next hx1 hk0 q2 hs12 (if_pos (by omega)) | (exfalso; omega))), (by (try dsimp only) <;> (first | rw [ap, apart_drop hx1 hk0, decide_eq_true (show (k0.toNat : Int) = 32 by omega), Bool.true_or, Bool.true_and] | (rw [ap, apart_drop hx1 hk0, decide_eq_true (show (x1.toNat : Int) = 32 by omega), Bool.or_true, Bool.true_and]) | (exfalso; omega)))⟩ (by first | omega | (dsimp only; omega))
                · cbv
                · cbv
      · have fr := form_of h2
        exact hQ (.tup [.agg [.str ([]), .str ([])], .bool false]) (Eq.trans (by first | rfl | (simp only [lb, lbI, rows_cons, rows_nil, unnilT, unnil, unnilTI, unnilI]; done) | (simp only [lb, lbI, rows_cons, rows_nil, unnilT, unnil, unnilTI, unnilI]; rfl)) (congrArg (inkR) (show (([], []), false) = layA black red from by rw [layA, fb, fr]; rfl)))   -- leaf 4
    · have fb := form_of h1
      exact hQ (.tup [.agg [.str ([]), .str ([])], .bool false]) (Eq.trans (by first | rfl | (simp only [lb, lbI, rows_cons, rows_nil, unnilT, unnil, unnilTI, unnilI]; done) | (simp only [lb, lbI, rows_cons, rows_nil, unnilT, unnil, unnilTI, unnilI]; rfl)) (congrArg (inkR) (show (([], []), false) = layA black red from by rw [layA, fb]; rfl)))   -- leaf 5

theorem specParseInked_ok (s_ : List UInt8)  : OkA Try.prog 20 [.str s_] (· = inkR (readA s_)) :=
  fn_intro envOk fieldsOk mixed Try.func20 rfl fun κ X Y L Q m hQ => by
    conv => cbv
    refine r_slen (u := s_) m.sX fun n1 hn1 mn1 => ?_   -- n1 = length of s_
    conv => cbv
    refine r_gtr m.sX (fun h1 => ?_) (fun h1 => ?_) <;> conv => cbv
    · exact hQ (.tup [.agg [.str ([]), .str ([])], .bool false]) (Eq.trans (by first | rfl | (simp only [lb, lbI, rows_cons, rows_nil, unnilT, unnil, unnilTI, unnilI]; done) | (simp only [lb, lbI, rows_cons, rows_nil, unnilT, unnil, unnilTI, unnilI]; rfl)) (congrArg (inkR) (show (([], []), false) = readA s_ from by rw [readA, okInked_long (by omega)]; rfl)))   -- leaf 1
    · refine r_loopF (α := List UInt8 × List UInt8 × Int) m 59 [0, 5] [⟨2, 17, 0, 0, 0⟩, ⟨4, 33, 0, 0, 0⟩] (fun σ => [(0, .str s_), (2, .optr 17 0 2 0 0), (4, .optr 33 0 2 0 0), (5, .int .i64 σ.2.2)]) (fun σ => [(17, 0, .box [.str ([]), .str ([])]), (33, 0, .box [.str σ.1, .str σ.2.1])])
        (fun σ => (0 ≤ σ.2.2) ∧ (σ.2.2 ≤ (s_.length : Int)) ∧ ((σ.1.length : Int) = σ.2.2) ∧ ((σ.2.1.length : Int) = σ.2.2) ∧ (σ.1 = (s_.take σ.2.2.toNat).map loC) ∧ (σ.2.1 = (s_.take σ.2.2.toNat).map kiC)) (fun σ => ((s_.length : Int) - σ.2.2).toNat) ([], [], 0) ?_ ?_ ?_ ?_
      · cbv
      · cbv
      · exact ⟨(by (try dsimp only); first | omega | (simp only [List.length_nil]; omega) | (simp only [List.length_cons, List.length_nil]; omega)), (by (try dsimp only); first | omega | (simp only [List.length_nil]; omega) | (simp only [List.length_cons, List.length_nil]; omega)), (by (try dsimp only) <;> (rfl)), (by (try dsimp only) <;> (rfl)), (by (try dsimp only) <;> (rfl)), (by (try dsimp only) <;> (rfl))⟩
      rintro ⟨f1, f2, i⟩ ⟨lo1, hi1, fl, gl, q, q2⟩ E hE F hF
      dsimp only at lo1 hi1 fl gl q q2
      conv => cbv
      refine r_slen (u := s_) m.sX fun n2 hn2 mn2 => ?_   -- n2 = length of s_
      conv => cbv
      refine r_lss m.sX (fun h2 => ?_) (fun h2 => ?_) <;> conv => cbv
      · refine r_sidx (u := s_) (i := i) m.sX (by omega) (by first | omega | (simp only [List.length_cons, List.length_nil]; omega) | (simp; omega)) fun x1 hx1 c1 hc1 bc1 => ?_   -- x1 = s_[i]
        have dx1 := drop_cons hx1
        have kx1 := take_snoc hx1
        have jx1 : (i + 1).toNat = Int.toNat i + 1 := by omega
        conv => cbv
        refine r_geq m.sX (fun h3 => ?_) (fun h3 => ?_) <;> conv => cbv
        · refine r_sidx (u := s_) (i := i) m.sX (by omega) (by first | omega | (simp only [List.length_cons, List.length_nil]; omega) | (simp; omega)) fun x2 hx2 c2 hc2 bc2 => ?_   -- x2 = s_[i]
          obtain rfl := Option.some.inj (hx1.symm.trans hx2)
          obtain rfl := hc1.trans hc2.symm
          conv => cbv
          refine r_leq m.sX (fun h4 => ?_) (fun h4 => ?_) <;> conv => cbv
          · refine r_draw m (by kernel_rfl) ?_
            conv => cbv
            refine r_sidx (u := s_) (i := i) m.sY (by omega) (by first | omega | (simp only [List.length_cons, List.length_nil]; omega) | (simp; omega)) fun x3 hx3 c3 hc3 bc3 => ?_   -- x3 = s_[i]
            obtain rfl := Option.some.inj (hx1.symm.trans hx3)
            obtain rfl := hc1.trans hc3.symm
            conv => cbv
            refine r_subb m.sY (by omega) (by omega) fun r1 hr1 => ?_; conv => cbv
            refine r_addb m.sY (by omega) (by omega) fun r2 hr2 => ?_; conv => cbv
            refine r_tostr ([r2] : List Int) m.sY rfl fun s1 hs1 => ?_   -- s1 = string of bytes
            have ls1 : (s1.length : Int) = 1 := by rw [hs1]; rfl
            conv => cbv
            refine r_scat (u := f1) (v := s1) m.sY (by first | omega | (simp only [List.length_cons, List.length_nil]; omega) | (simp; omega)) fun s2 hs2 => ?_   -- s2 = f1 ++ s1
            have ls2 : (s2.length : Int) = f1.length + s1.length := by rw [hs2, List.length_append, Int.natCast_add]
            try simp only [List.length_cons, List.length_nil] at ls2
            conv => cbv
            refine r_scat (u := f2) (v := ([114] : List UInt8)) m.sX (by first | omega | (simp only [List.length_cons, List.length_nil]; omega) | (simp; omega)) fun s3 hs3 => ?_   -- s3 = f2 ++ ([114] : List UInt8)
            have ls3 : (s3.length : Int) = f2.length + ([114] : List UInt8).length := by rw [hs3, List.length_append, Int.natCast_add]
            try simp only [List.length_cons, List.length_nil] at ls3
            conv => cbv
            refine r_addf m.sX (by omega) (by omega) fun i_2 hi_2 => ?_
            conv => cbv
            try have ti_2 : Int.toNat i_2 = Int.toNat i + 1 := by omega
            refine hE _ (s2, s3, i_2) ?_ ?_ ⟨(by (try dsimp only); first | omega | (simp only [List.length_nil]; omega) | (simp only [List.length_cons, List.length_nil]; omega)), (by (try dsimp only); first | omega | (simp only [List.length_nil]; omega) | (simp only [List.length_cons, List.length_nil]; omega)), (by (try dsimp only) <;> first | omega | rfl | (simp [*]; done) | (rw [fl]; simp [*]; done)), (by (try dsimp only) <;> first | omega | rfl | (simp [*]; done) | (rw [gl]; simp [*]; done)), (by (try dsimp only) <;> (rw [ti_2]; first | exact map_next hx1 q (by rw [hs2, hs1]; rfl) ((up_yes ⟨by omega, by omega⟩).1.trans (ofNat_add (by omega) ⟨by omega, by omega⟩).symm) | exact map_next hx1 q (by rw [hs5, ws4]) (up_no (by omega)).1 | exact map_next hx1 q (by rw [hs8, ws7]) (up_no (by omega)).1)), (by (try dsimp only) <;> (rw [ti_2]; first | exact map_next hx1 q2 hs3 (up_yes ⟨by omega, by omega⟩).2 | exact map_next hx1 q2 hs6 (up_no (by omega)).2 | exact map_next hx1 q2 hs9 (up_no (by omega)).2))⟩ (by first | omega | (dsimp only; omega))
            · cbv
            · cbv
          · refine r_draw m (by kernel_rfl) ?_
            conv => cbv
            refine r_addf m.sY (by omega) (by omega) fun r3 hr3 => ?_
            conv => cbv
            refine r_sslice (u := s_) (i := i) (j := r3) m.sY (by omega) (by omega) (by first | omega | (simp only [List.length_cons, List.length_nil]; omega) | (simp; omega)) fun s4 hs4 => ?_   -- s4 = s_[i:r3]
            have ls4 : (s4.length : Int) = r3 - i := by rw [hs4]; first | done | (simp; done) | (simp; omega)
            try have ws4 := slice_one hx1 (by omega) (by omega) hs4
            conv => cbv
            refine r_scat (u := f1) (v := s4) m.sY (by first | omega | (simp only [List.length_cons, List.length_nil]; omega) | (simp; omega)) fun s5 hs5 => ?_   -- s5 = f1 ++ s4
            have ls5 : (s5.length : Int) = f1.length + s4.length := by rw [hs5, List.length_append, Int.natCast_add]
            try simp only [List.length_cons, List.length_nil] at ls5
            conv => cbv
            refine r_scat (u := f2) (v := ([98] : List UInt8)) m.sX (by first | omega | (simp only [List.length_cons, List.length_nil]; omega) | (simp; omega)) fun s6 hs6 => ?_   -- s6 = f2 ++ ([98] : List UInt8)
            have ls6 : (s6.length : Int) = f2.length + ([98] : List UInt8).length := by rw [hs6, List.length_append, Int.natCast_add]
            try simp only [List.length_cons, List.length_nil] at ls6
            conv => cbv
            refine r_addf m.sX (by omega) (by omega) fun i_3 hi_3 => ?_
            conv => cbv
            try have ti_3 : Int.toNat i_3 = Int.toNat i + 1 := by omega
            refine hE _ (s5, s6, i_3) ?_ ?_ ⟨(by (try dsimp only); first | omega | (simp only [List.length_nil]; omega) | (simp only [List.length_cons, List.length_nil]; omega)), (by (try dsimp only); first | omega | (simp only [List.length_nil]; omega) | (simp only [List.length_cons, List.length_nil]; omega)), (by (try dsimp only) <;> first | omega | rfl | (simp [*]; done) | (rw [fl]; simp [*]; done)), (by (try dsimp only) <;> first | omega | rfl | (simp [*]; done) | (rw [gl]; simp [*]; done)), (by (try dsimp only) <;> (rw [ti_3]; first | exact map_next hx1 q (by rw [hs2, hs1]; rfl) ((up_yes ⟨by omega, by omega⟩).1.trans (ofNat_add (by omega) ⟨by omega, by omega⟩).symm) | exact map_next hx1 q (by rw [hs5, ws4]) (up_no (by omega)).1 | exact map_next hx1 q (by rw [hs8, ws7]) (up_no (by omega)).1)), (by (try dsimp only) <;> (rw [ti_3]; first | exact map_next hx1 q2 hs3 (up_yes ⟨by omega, by omega⟩).2 | exact map_next hx1 q2 hs6 (up_no (by omega)).2 | exact map_next hx1 q2 hs9 (up_no (by omega)).2))⟩ (by first | omega | (dsimp only; omega))
            · cbv
            · cbv
        · refine r_draw m (by kernel_rfl) ?_
          conv => cbv
          refine r_addf m.sY (by omega) (by omega) fun r4 hr4 => ?_
          conv => cbv
          refine r_sslice (u := s_) (i := i) (j := r4) m.sY (by omega) (by omega) (by first | omega | (simp only [List.length_cons, List.length_nil]; omega) | (simp; omega)) fun s7 hs7 => ?_   -- s7 = s_[i:r4]
          have ls7 : (s7.length : Int) = r4 - i := by rw [hs7]; first | done | (simp; done) | (simp; omega)
          try have ws7 := slice_one hx1 (by omega) (by omega) hs7
          conv => cbv
          refine r_scat (u := f1) (v := s7) m.sY (by first | omega | (simp only [List.length_cons, List.length_nil]; omega) | (simp; omega)) fun s8 hs8 => ?_   -- s8 = f1 ++ s7
          have ls8 : (s8.length : Int) = f1.length + s7.length := by rw [hs8, List.length_append, Int.natCast_add]
          try simp only [List.length_cons, List.length_nil] at ls8
          conv => cbv
          refine r_scat (u := f2) (v := ([98] : List UInt8)) m.sX (by first | omega | (simp only [List.length_cons, List.length_nil]; omega) | (simp; omega)) fun s9 hs9 => ?_   -- s9 = f2 ++ ([98] : List UInt8)
          have ls9 : (s9.length : Int) = f2.length + ([98] : List UInt8).length := by rw [hs9, List.length_append, Int.natCast_add]
          try simp only [List.length_cons, List.length_nil] at ls9
          conv => cbv
          refine r_addf m.sX (by omega) (by omega) fun i_4 hi_4 => ?_
          conv => cbv
          try have ti_4 : Int.toNat i_4 = Int.toNat i + 1 := by omega
          refine hE _ (s8, s9, i_4) ?_ ?_ ⟨(by (try dsimp only); first | omega | (simp only [List.length_nil]; omega) | (simp only [List.length_cons, List.length_nil]; omega)), (by (try dsimp only); first | omega | (simp only [List.length_nil]; omega) | (simp only [List.length_cons, List.length_nil]; omega)), (by (try dsimp only) <;> first | omega | rfl | (simp [*]; done) | (rw [fl]; simp [*]; done)), (by (try dsimp only) <;> first | omega | rfl | (simp [*]; done) | (rw [gl]; simp [*]; done)), (by (try dsimp only) <;> (rw [ti_4]; first | exact map_next hx1 q (by rw [hs2, hs1]; rfl) ((up_yes ⟨by omega, by omega⟩).1.trans (ofNat_add (by omega) ⟨by omega, by omega⟩).symm) | exact map_next hx1 q (by rw [hs5, ws4]) (up_no (by omega)).1 | exact map_next hx1 q (by rw [hs8, ws7]) (up_no (by omega)).1)), (by (try dsimp only) <;> (rw [ti_4]; first | exact map_next hx1 q2 hs3 (up_yes ⟨by omega, by omega⟩).2 | exact map_next hx1 q2 hs6 (up_no (by omega)).2 | exact map_next hx1 q2 hs9 (up_no (by omega)).2))⟩ (by first | omega | (dsimp only; omega))
          · cbv
          · cbv
      · refine hF _ _ ?_
        conv => cbv
        refine r_callB m.sX (coGood_ok (f1, f2)) (fun h5 => ?_) (fun h5 => ?_) <;> conv => cbv
        · exact hQ (.tup [.agg [.str f1, .str f2], .bool true]) (Eq.trans (by first | rfl | (simp only [lb, lbI, rows_cons, rows_nil, unnilT, unnil, unnilTI, unnilI]; done) | (simp only [lb, lbI, rows_cons, rows_nil, unnilT, unnil, unnilTI, unnilI]; rfl)) (congrArg (inkR) (show ((f1, f2), true) = readA s_ from by rw [readA, read_all q q2 (by omega), if_pos h5])))   -- leaf 2
        · exact hQ (.tup [.agg [.str ([]), .str ([])], .bool false]) (Eq.trans (by first | rfl | (simp only [lb, lbI, rows_cons, rows_nil, unnilT, unnil, unnilTI, unnilI]; done) | (simp only [lb, lbI, rows_cons, rows_nil, unnilT, unnil, unnilTI, unnilI]; rfl)) (congrArg (inkR) (show (([], []), false) = readA s_ from by rw [readA, read_all q q2 (by omega), if_neg (by rw [h5]; decide)])))   -- leaf 3

end Go.Proofs.Ytjohfigipllpoaa.Ai
