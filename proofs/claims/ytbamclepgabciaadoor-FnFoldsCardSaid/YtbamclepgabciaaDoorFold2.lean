/- Contracts of the functions on folds, continued. -/
import Derived.Test.YtbamclepgabciaaDoorFold
namespace Go.Proofs.YtbamclepgabciaaDoor.Ai
open Go Go.Proofs
set_option linter.unusedSimpArgs false
set_option maxRecDepth 10000
set_option maxHeartbeats 4000000
set_option linter.unusedVariables false

theorem goodF_le {fs : List Fold} (h : goodF fs = true) : fs.length ≤ 4 := by
  rw [goodF, Bool.and_eq_true, decide_eq_true_eq] at h
  exact h.2
theorem goodF_mem {fs : List Fold} (h : goodF fs = true) {f : Fold} (hf : f ∈ fs) : f.1 = 1 ∨ f.1 = 2 := by
  rw [goodF, Bool.and_eq_true, List.all_eq_true] at h
  have := h.1 f hf
  simpa [okFold] using this

def initRow (c : Int) (y : Nat) : List (List Leaf) := (List.range c.toNat).map fun x : Nat => [((y : Int) * c + (x : Int), true)]
def initF (c r : Int) : List (List (List Leaf)) := (List.range r.toNat).map (initRow c)
def foldAll (fs : List Fold) : List (List (List Leaf)) := fs.foldl foldF (initF (sizeF fs).1 (sizeF fs).2)
def foldedF (fs : List Fold) : List Leaf := pileAt (foldAll fs) 0 0

theorem initF_rect (c r : Int) : Rect (initF c r) r.toNat c.toNat 1 := by
  refine ⟨by simp [initF], fun row hr => ?_, fun row hr pile hp => ?_⟩
  · obtain ⟨y, hy, rfl⟩ := List.mem_map.1 hr
    simp [initRow]
  · obtain ⟨y, hy, rfl⟩ := List.mem_map.1 hr
    obtain ⟨x, hx, rfl⟩ := List.mem_map.1 hp
    rfl

theorem p2_toNat (k : Nat) : (p2 k).toNat = 2 ^ k := by rw [p2, Int.toNat_natCast]

/-- The folds that are left make up the numbers of rows and columns. -/
theorem rect_step {p : List (List (List Leaf))} {f : Fold} {r : List Fold} {n : Nat} (hf : f.1 = 1 ∨ f.1 = 2) (h : Rect p (2 ^ high (f :: r)) (2 ^ wide (f :: r)) n) : Rect (foldF p f) (2 ^ high r) (2 ^ wide r) (2 * n) := by
  rw [high_cons, wide_cons] at h
  by_cases h2 : f.1 = 2
  · rw [if_neg (by omega), if_neg (by omega), Nat.zero_add, Nat.pow_add, Nat.pow_one] at h
    exact h.high h2
  · rw [if_pos (by omega), if_pos (by omega), Nat.zero_add, Nat.pow_add, Nat.pow_one] at h
    exact h.wide (Nat.pow_pos (by omega)) h2

theorem folded_rect {fs : List Fold} (hg : goodF fs = true) : ∀ (k : Nat), k ≤ fs.length → Rect ((fs.take k).foldl foldF (initF (sizeF fs).1 (sizeF fs).2)) (2 ^ high (fs.drop k)) (2 ^ wide (fs.drop k)) (2 ^ k)
  | 0, _ => by
    have := initF_rect (sizeF fs).1 (sizeF fs).2
    rw [sizeF, p2_toNat, p2_toNat] at this
    exact this
  | k + 1, h => by
    have ih := folded_rect hg k (by omega)
    obtain ⟨x, hx⟩ := get_ex (xs := fs) (i := k) (by omega)
    rw [drop_cons hx] at ih
    rw [List.take_add_one, hx, List.foldl_append, Nat.pow_succ, Nat.mul_comm]
    exact rect_step (goodF_mem hg (get_mem hx)) ih

theorem pow16 {k : Nat} (h : k ≤ 4) : 2 ^ k ≤ 16 := Nat.pow_le_pow_right (n := 2) (by omega) h

theorem folded_length {fs : List Fold} (hg : goodF fs = true) : (foldedF fs).length = 2 ^ fs.length := by
  have h := folded_rect hg fs.length (Nat.le_refl _)
  rw [List.take_length, List.drop_length] at h
  exact h.at (by simp [high]) (by simp [wide])

theorem folded_ok (folds : List Fold) (hg : goodF folds = true) : OkA Tryd.prog 89 [.isl 2 (rows cFold folds)] (· = .isl 2 (rows cLeaf (foldedF folds))) :=
  fn_intro envOk fieldsOk mixed Tryd.func89 rfl fun κ X Y L Q m hQ => by
    have hl := goodF_le hg
    have bw := p2_le (Nat.le_trans (wide_le folds) hl)
    have bh := p2_le (Nat.le_trans (high_le folds) hl)
    have bw0 := p2_pos (wide folds)
    have bh0 := p2_pos (high folds)
    rw [show p2 4 = 16 from rfl] at bw bh
    conv => cbv
    refine r_callF ii m.sX (sheetSize_ok folds hl) fun v1 hv1 => ?_
    conv => cbv
    obtain ⟨c, r⟩ := v1
    have hc : c = p2 (wide folds) := (Prod.mk.inj hv1).1
    have hr : r = p2 (high folds) := (Prod.mk.inj hv1).2
    conv => cbv
    refine r_loop (α := List (List (List Leaf)) × Int) m 57 [0, 3, 4, 6] [⟨5, 41, 133, 1, 0⟩] (fun a => [(0, .isl 2 (rows cFold folds)), (3, .int .i64 c), (4, .int .i64 r), (5, .osl 41 0), (6, .int .i64 a.2)]) (fun a => [(41, 0, .row 133 1 (rows (cSl 1 (cSl 2 cLeaf)) a.1))])
      (fun a => 0 ≤ a.2 ∧ a.2 ≤ r ∧ a.1 = (List.range a.2.toNat).map (initRow c)) (fun a => (r - a.2).toNat) ([], 0) ?_ ?_ ?_ ?_
    · cbv
    · (try dsimp only); simp only [rows_nil]; cbv
    · exact ⟨by dsimp only; omega, by dsimp only; omega, rfl⟩
    rintro ⟨ys1, i1⟩ ⟨p1, p2, p3⟩ E hE
    dsimp only at p1 p2 p3
    have l1 : ys1.length = i1.toNat := by rw [p3]; simp
    conv => cbv
    refine r_lss m.sX (fun h1 => ?_) (fun h1 => ?_) <;> conv => cbv
    · refine r_loop (α := List (List (List Leaf)) × List (List Leaf) × Int) m 57 [0, 3, 4, 6, 8] [⟨5, 41, 133, 1, 0⟩, ⟨7, 57, 99, 1, 0⟩] (fun a => [(0, .isl 2 (rows cFold folds)), (3, .int .i64 c), (4, .int .i64 r), (5, .osl 41 0), (6, .int .i64 i1), (7, .osl 57 0), (8, .int .i64 a.2.2)]) (fun a => [(41, 0, .row 133 1 (rows (cSl 1 (cSl 2 cLeaf)) a.1)), (57, 0, .row 99 1 (rows (cSl 2 cLeaf) a.2.1))])
        (fun a => 0 ≤ a.2.2 ∧ a.2.2 ≤ c ∧ a.1 = ys1 ∧ a.2.1 = (List.range a.2.2.toNat).map (fun x : Nat => [((i1.toNat : Int) * c + (x : Int), true)])) (fun a => (c - a.2.2).toNat) (ys1, [], 0) ?_ ?_ ?_ ?_
      · cbv
      · (try dsimp only); simp only [rows_nil]; cbv
      · exact ⟨by dsimp only; omega, by dsimp only; omega, rfl, rfl⟩
      rintro ⟨ys2, ys3, i2⟩ ⟨p4, p5, p6, p7⟩ E2 hE2
      dsimp only at p4 p5 p6 p7
      subst p6
      have l3 : ys3.length = i2.toNat := by rw [p7]; simp
      conv => cbv
      refine r_lss m.sX (fun h2 => ?_) (fun h2 => ?_) <;> conv => cbv
      · have hm := mul_bound p1 (show i1 ≤ 16 by omega) (show 0 ≤ c by omega) (show c ≤ 16 by omega)
        refine r_mulf m.sX (by first | omega | (subst_vars; omega)) (by first | omega | (subst_vars; omega)) fun r1 hr1 => ?_
        conv => cbv
        refine r_addf m.sX (by omega) (by omega) fun r2 hr2 => ?_
        conv => cbv
        refine r_append1 (([(r2, true)])) m.sX (by rw [cSl, rows_eq]; rfl) (by first | omega | (dsimp only; omega)) (by first | omega | (dsimp only; omega)) fun zs1 hzs1 => ?_
        conv => cbv
        refine r_addf m.sX (by omega) (by omega) fun r3 hr3 => ?_
        conv => cbv
        refine hE2 _ (ys2, zs1, r3) ?_ ?_ ⟨by dsimp only; omega, by dsimp only; omega, rfl, ?_⟩ (by first | omega | (dsimp only; omega))
        · cbv
        · cbv
        · dsimp only
          rw [hzs1, p7, ← range_snoc _ i2 r3 p4 hr3, hr2, hr1, Int.toNat_of_nonneg p1, Int.toNat_of_nonneg p4]
      · refine r_append1 (ys3) m.sX rfl (by first | omega | (dsimp only; omega)) (by first | omega | (dsimp only; omega)) fun zs2 hzs2 => ?_
        conv => cbv
        refine r_addf m.sX (by omega) (by omega) fun r4 hr4 => ?_
        conv => cbv
        refine hE _ (zs2, r4) ?_ ?_ ⟨by dsimp only; omega, by dsimp only; omega, ?_⟩ (by first | omega | (dsimp only; omega))
        · cbv
        · cbv
        · dsimp only
          rw [hzs2, p3, ← range_snoc _ i1 r4 p1 hr4, p7, show i2 = c by omega]
          rfl
    · have hy1 : ys1 = initF (sizeF folds).1 (sizeF folds).2 := by rw [p3, show i1 = r by omega, initF, sizeF, hc, hr]
      refine r_lenR m.sX fun n1 hn1 mn1 => ?_
      conv => cbv
      refine r_loop (α := List (List (List Leaf)) × Int) m 57 [42, 43, 44] [⟨5, 41, 133, 1, 0⟩] (fun a => [(5, .osl 41 0), (42, .isl 2 (rows cFold folds)), (43, .int .i64 n1), (44, .int .i64 a.2)]) (fun a => [(41, 0, .row 133 1 (rows (cSl 1 (cSl 2 cLeaf)) a.1))])
        (fun a => 0 ≤ a.2 ∧ a.2 ≤ folds.length ∧ a.1 = (folds.take a.2.toNat).foldl foldF (initF (sizeF folds).1 (sizeF folds).2)) (fun a => folds.length - a.2.toNat) (ys1, 0) ?_ ?_ ?_ ?_
      · cbv
      · cbv
      · exact ⟨by dsimp only; omega, by dsimp only; omega, hy1⟩
      rintro ⟨ys4, i3⟩ ⟨p4, p5, p6⟩ E hE
      dsimp only at p4 p5 p6
      have hR := folded_rect hg i3.toNat (by omega)
      rw [← p6] at hR
      have b1 := pow16 (Nat.le_trans (high_le (folds.drop i3.toNat)) (by simp; omega))
      have b2 := pow16 (Nat.le_trans (wide_le (folds.drop i3.toNat)) (by simp; omega))
      have b3 := pow16 (show i3.toNat ≤ 4 by omega)
      have b4 : 0 < 2 ^ high (folds.drop i3.toNat) := Nat.pow_pos (by omega)
      have b5 : 0 < 2 ^ wide (folds.drop i3.toNat) := Nat.pow_pos (by omega)
      have hrw := hR.rows
      conv => cbv
      refine r_lss m.sX (fun h3 => ?_) (fun h3 => ?_) <;> conv => cbv
      · refine r_index m.sX (by omega) (by omega) fun x1 hx1 => ?_
        conv => cbv
        refine .inr (r_pcallF (fun l => PV.fr _ _ (rows _ l)) m.sX (foldOnce_ok ys4 x1 _ _ _ hR b4 (by omega) (by omega) (by omega)) fun v2 hv2 => ?_)
        conv => cbv
        refine r_addf m.sX (by omega) (by omega) fun r5 hr5 => ?_
        conv => cbv
        refine hE _ (v2, r5) ?_ ?_ ⟨by dsimp only; omega, by dsimp only; omega, ?_⟩ (by first | omega | (dsimp only; omega))
        · cbv
        · cbv
        · dsimp only
          rw [show r5.toNat = i3.toNat + 1 by omega, List.take_add_one, hx1, List.foldl_append, hv2, p6]; rfl
      · refine r_oindex m.sX (by omega) (by omega) ?_
        conv => cbv
        obtain ⟨x2, hx2⟩ := get_ex (xs := ys4) (i := Int.toNat 0) (by simp; omega)
        have hx2c := hR.cols _ (get_mem hx2)
        refine r_oload m.sX hx2 (Nat.le_of_ble_eq_true rfl) ?_
        conv => cbv
        refine r_index (xs := x2) m.sX (by omega) (by omega) fun x3 hx3 => ?_
        conv => cbv
        refine hQ _ (congrArg (fun l => PV.isl 2 (rows cLeaf l)) ?_)
        have e : foldAll folds = ys4 := by rw [p6, show i3.toNat = folds.length by omega, List.take_length]; rfl
        rw [foldedF, e, pileAt, show ys4[0]? = some x2 from hx2, Option.getD_some, show x2[0]? = some x3 from hx3, Option.getD_some]

def pgs (fs : List Fold) : Int := 2 * p2 fs.length
theorem pgs_bound {fs : List Fold} (hg : goodF fs = true) : 2 ≤ pgs fs ∧ pgs fs ≤ 32 := by
  have := p2_pos fs.length
  have := p2_le (goodF_le hg)
  rw [show p2 4 = 16 from rfl] at this
  simp only [pgs]; omega
theorem folded_len2 {fs : List Fold} (hg : goodF fs = true) : ((foldedF fs).length : Int) = p2 fs.length := by rw [folded_length hg]; rfl

theorem pageCount_ok (folds : List Fold) (hg : goodF folds = true) : OkA Tryd.prog 144 [.isl 2 (rows cFold folds)] (· = .int .i64 (pgs folds)) :=
  fn_intro envOk fieldsOk mixed Tryd.func144 rfl fun κ X Y L Q m hQ => by
    have hb := pgs_bound hg
    have hl := folded_len2 hg
    rw [pgs] at hb
    conv => cbv
    refine r_callF (fun l => PV.isl _ (rows _ l)) m.sX (folded_ok folds hg) fun v1 hv1 => ?_
    conv => cbv
    rw [← hv1] at hl
    refine r_lenR m.sX fun n1 hn1 mn1 => ?_
    conv => cbv
    refine r_mulf m.sX (by first | omega | (subst_vars; omega)) (by first | omega | (subst_vars; omega)) fun r1 hr1 => ?_
    conv => cbv
    exact hQ _ (congrArg (PV.int .i64) (by rw [hr1, hn1, hl, pgs]))

theorem imCount_ok (folds : List Fold) (hg : goodF folds = true) : OkA Tryd.prog 145 [.isl 2 (rows cFold folds)] (· = .int .i64 (pgs folds)) :=
  fn_intro envOk fieldsOk mixed Tryd.func145 rfl fun κ X Y L Q m hQ => by
    have hl := goodF_le hg
    have bw := p2_le (Nat.le_trans (wide_le folds) hl)
    have bh := p2_le (Nat.le_trans (high_le folds) hl)
    have bw0 := p2_pos (wide folds)
    have bh0 := p2_pos (high folds)
    rw [show p2 4 = 16 from rfl] at bw bh
    conv => cbv
    refine r_callF ii m.sX (imSize_ok folds hl) fun v hc => ?_
    obtain ⟨c, r⟩ := v
    conv => cbv
    have hr : r = p2 (high folds) := (Prod.mk.inj hc).2
    have hc : c = p2 (wide folds) := (Prod.mk.inj hc).1
    refine r_mulf m.sX (by first | omega | (subst_vars; omega)) (by first | omega | (subst_vars; omega)) fun r1 hr1 => ?_
    conv => cbv
    have hm := mul_bound (show 0 ≤ r1 by omega) (show r1 ≤ 32 by omega) (show 0 ≤ r by omega) (show r ≤ 16 by omega)
    refine r_mulf m.sX (by first | omega | (subst_vars; omega)) (by first | omega | (subst_vars; omega)) fun r2 hr2 => ?_
    conv => cbv
    exact hQ _ (congrArg (PV.int .i64) (by rw [hr2, hr1, hc, hr, pgs, ← wide_high folds, p2_add, Int.mul_assoc]))

theorem isPageOf_ok (folds : List Fold) (page : Int) : OkA Tryd.prog 97 [.isl 2 (rows cFold folds), .int .i64 page] (· = .bool (goodF folds && inB page 1 (pgs folds))) :=
  fn_intro envOk fieldsOk mixed Tryd.func97 rfl fun κ X Y L Q m hQ => by
    conv => cbv
    refine r_callB m.sX (AreFolds_ok folds) (fun h1 => ?_) (fun h1 => ?_) <;> conv => cbv
    · refine r_callF (PV.int .i64) m.sX (pageCount_ok folds h1) fun r1 hr1 => ?_
      conv => cbv
      refine r_callB m.sX (within_ok page 1 r1) (fun h2 => ?_) (fun h2 => ?_) <;> conv => cbv
      · exact hQ _ (congrArg PV.bool (by rw [h1, ← hr1, h2]; rfl))
      · exact hQ _ (congrArg PV.bool (by rw [h1, ← hr1, h2]; rfl))
    · exact hQ _ (congrArg PV.bool (by rw [h1]; rfl))

theorem imAsked_ok (folds : List Fold) (page : Int) : OkA Tryd.prog 100 [.isl 2 (rows cFold folds), .int .i64 page] (· = .bool (goodF folds && inB page 1 (pgs folds))) :=
  fn_intro envOk fieldsOk mixed Tryd.func100 rfl fun κ X Y L Q m hQ => by
    conv => cbv
    refine r_callB m.sX (imGood_ok folds) (fun h1 => ?_) (fun h1 => ?_) <;> conv => cbv
    · refine r_callF (PV.int .i64) m.sX (imCount_ok folds h1) fun r1 hr1 => ?_
      conv => cbv
      refine r_callB m.sX (l1In_ok page 1 r1) (fun h2 => ?_) (fun h2 => ?_) <;> conv => cbv
      · exact hQ _ (congrArg PV.bool (by rw [h1, ← hr1, h2]; rfl))
      · exact hQ _ (congrArg PV.bool (by rw [h1, ← hr1, h2]; rfl))
    · exact hQ _ (congrArg PV.bool (by rw [h1]; rfl))

def placeF (fs : List Fold) (page : Int) : Int × Bool × Bool :=
  if goodF fs && inB page 1 (pgs fs) then match (foldedF fs)[((page - 1) / 2).toNat]? with
    | some x => (x.1, x.2 == decide (page % 2 = 1), true)
    | none => (0, false, false)
  else (0, false, false)

theorem placeF_ok {fs : List Fold} {page : Int} (h : (goodF fs && inB page 1 (pgs fs)) = true) : ∃ x, (foldedF fs)[((page - 1) / 2).toNat]? = some x ∧ placeF fs page = (x.1, x.2 == decide (page % 2 = 1), true) := by
  have h' := h
  rw [Bool.and_eq_true] at h'
  have hb := inB_spec h'.2
  have hl := folded_len2 h'.1
  rw [pgs] at hb
  obtain ⟨x, hx⟩ := get_ex (xs := foldedF fs) (i := ((page - 1) / 2).toNat) (by omega)
  exact ⟨x, hx, by rw [placeF, if_pos h, hx]⟩

theorem PlaceOfPage_ok (folds : List Fold) (page : Int) : OkA Tryd.prog 37 [.isl 2 (rows cFold folds), .int .i64 page] (· = ibb (placeF folds page)) :=
  fn_intro envOk fieldsOk mixed Tryd.func37 rfl fun κ X Y L Q m hQ => by
    conv => cbv
    refine r_callB m.sX (isPageOf_ok folds page) (fun h1 => ?_) (fun h1 => ?_) <;> conv => cbv
    · obtain ⟨x, hx, hp⟩ := placeF_ok h1
      have h' := h1
      rw [Bool.and_eq_true] at h'
      have hb := inB_spec h'.2
      have hpb := pgs_bound h'.1
      have hl := folded_len2 h'.1
      rw [pgs] at hb hpb
      refine r_callF (fun l => PV.isl _ (rows _ l)) m.sX (folded_ok folds h'.1) fun v1 hv1 => ?_
      conv => cbv
      rw [← hv1] at hl hx
      refine r_subf m.sX (by omega) (by omega) fun r1 hr1 => ?_
      conv => cbv
      first | refine r_divf m.sX (by omega) (by omega) fun r2 hr2 br2 => ?_ | refine r_tdivf m.sX (by omega) (by omega) fun r2 hr2 br2 => ?_
      conv => cbv
      refine r_index m.sX (by omega) (by omega) fun x1 hx1 => ?_
      conv => cbv
      obtain rfl : x1 = x := by
        rw [hr2, hr1, hx] at hx1
        exact (Option.some.inj hx1).symm
      refine r_draw m (by kernel_rfl) ?_
      conv => cbv
      refine r_modf m.sY (by omega) (by omega) fun r3 hr3 br3 => ?_
      conv => cbv
      refine r_eql m.sY (fun h2 => ?_) (fun h2 => ?_) <;> conv => cbv
      · exact hQ (ibb (x1.1, x1.2 == true, true)) (congrArg ibb (by rw [hp, decide_eq_true (by omega)]))
      · exact hQ (ibb (x1.1, x1.2 == false, true)) (congrArg ibb (by rw [hp, decide_eq_false (by omega)]))
    · exact hQ (ibb (0, false, false)) (congrArg ibb (by rw [placeF, if_neg (by rw [h1]; simp)]))

def facF (fs : List Fold) (k : Int) : Int × Bool :=
  if goodF fs && inB k 1 (pgs fs) then (if k = 1 then 0 else if k = pgs fs then 0 else if k % 2 = 0 then k + 1 else k - 1, true) else (0, false)

def sigF (fs : List Fold) (n : Int) : Int × Int × Bool :=
  if goodF fs && inB n 1 1000 then ((n + pgs fs - 1) / pgs fs, (n + pgs fs - 1) / pgs fs * pgs fs - n, true) else (0, 0, false)
def pisF (fs : List Fold) (n : Int) : Int × Int × Bool :=
  if goodF fs && inB n 1 1000 then ((n - 1) / pgs fs, (n - 1) % pgs fs + 1, true) else (0, 0, false)

theorem sig_mul {n a : Int} (h1 : 1 ≤ n) (h2 : n ≤ 1000) (ha : 2 ≤ a) (hb : a ≤ 32) : n ≤ (n + a - 1) / a * a ∧ (n + a - 1) / a * a ≤ n + a - 1 := by
  have e2 := Int.mul_ediv_add_emod (n + a - 1) a
  have e3 := Int.emod_nonneg (n + a - 1) (show a ≠ 0 by omega)
  have e4 := Int.emod_lt_of_pos (n + a - 1) (show 0 < a by omega)
  rw [Int.mul_comm] at e2
  omega

end Go.Proofs.YtbamclepgabciaaDoor.Ai
