/- The laws' functions that copy rows of rows: what they hand back lies in new blocks, all of it. Walked over concrete worlds. -/
import Derived.Test.YtnamefdhmlbcpaaMark
import Derived.Test.YtnamefdhmlbcpaaHelp2
import Derived.Test.YtnamefdhmlbcpaaRare
set_option linter.unusedVariables false
namespace Go.Proofs.Ytnamefdhmlbcpaa.Ai
open Go Go.RowKit Go.Proofs

/-- Blocks made between two worlds that may be written to. -/
def fresh (w w' : World) (g : Nat) : Prop := w.heap.size ≤ g ∧ g < w'.heap.size ∧ plain w' g

theorem bcell {W w1 : World} (hb : Below W.heap.size W w1) : (∀ b o, b < W.heap.size → w1.cell? ⟨b, o, none⟩ = W.cell? ⟨b, o, none⟩) ∧ (∀ b o, b < W.heap.size → w1.frozen? ⟨b, o, none⟩ = W.frozen? ⟨b, o, none⟩) :=
  ⟨fun b o h => hb.cell (p := ⟨b, o, none⟩) h, fun b o h => hb.frozen (p := ⟨b, o, none⟩) h⟩

theorem isl_shape {w : World} {I : Nat → Prop} {sz : Nat} {es : List (List PV)} {v : Value} (h : RepI w I (.isl sz es) v) : ∃ A n c, v = .slice A n c := by
  cases h <;> exact ⟨_, _, _, rfl⟩

theorem toIntS_w (w0 w : World) (I : Nat → Prop) (v : Value) (l : List Int) (hb : Below w0.heap.size w0 w) (h : RepI w0 I (.isl 1 (rows cInt l)) v) (hI : ∀ g, I g → g < w0.heap.size) (hl : (l.length : Int) ≤ 1048576) :
    Calls Try.prog 13 #[v] w fun e w' => ∃ A n c, e = .returned (.slice A n c) ∧ Below w.heap.size w w' ∧ RepI w' (fresh w w') (.isl 1 (rows cInt l)) (.slice A n c) :=
  (((((toIntS_ok l hl).ok (flat_fr flat_cInt)).ice).2 w I [v] (fun g hg => Nat.lt_of_lt_of_le (hI g hg) hb.size) (.cons (.one (h.mono fun g hg => ⟨hg, hb.block g (hI g hg)⟩)) .nil))).mono fun e w' ⟨u, r, gs, e1, e2, e3, e4⟩ => by
    subst e2
    cases e4.2.2 with
    | one h1 => cases h1 with
      | imm h1 =>
        obtain ⟨A, n, c, rfl⟩ := isl_shape h1
        refine ⟨A, n, c, e1, e3, ?_⟩
        refine h1.weak fun g hg => ?_
        have h2 : w.heap.size ≤ g := by simpa using hg.1
        exact ⟨h2, hg.2.1, hg.2.2.2 h2⟩

set_option maxHeartbeats 1600000 in
set_option maxRecDepth 100000 in
theorem toCraft_w (w0 w : World) (I : Nat → Prop) (v : Value) (c : Craft) (hb : Below w0.heap.size w0 w) (h : RepI w0 I (.isl 1 (rows cInt c.1)) v) (hI : ∀ g, I g → g < w0.heap.size) (hl : (c.1.length : Int) ≤ 1048576) :
    Calls Try.prog 51 #[.agg #[v, .int .i64 c.2]] w fun e w' => ∃ A n cp, e = .returned (.agg #[.slice A n cp, .int .i64 c.2]) ∧ Below w.heap.size w w' ∧ RepI w' (fresh w w') (.isl 1 (rows cInt c.1)) (.slice A n cp) := by
  have HR : Hid (RepI w0 I (.isl 1 (rows cInt c.1)) v) := h
  have HI : Hid (∀ g, I g → g < w0.heap.size) := hI
  have HB : Hid (Below w0.heap.size w0 w) := hb
  clear h hI hb
  obtain ⟨x, hx⟩ : ∃ x, c.2 = x := ⟨_, rfl⟩
  obtain ⟨l, hc⟩ : ∃ l, c.1 = l := ⟨_, rfl⟩
  rw [hx]
  rw [hc] at HR hl ⊢
  clear hx hc
  have HL : Hid ((l.length : Int) ≤ 1048576) := hl
  clear hl
  go_enter Try.func51, Try.ntmps51
  go_wp2_with (refine (toIntS_w w0 _ I v l (HB.out.trans (((((Below.refl w.heap.size w).alloc (Nat.le_refl _) _).alloc (by simp) _).alloc (by simp; omega) _).mono (by have := HB.out.size; omega))) HR.out HI.out HL.out).mono ?_; rintro e w1 ⟨A, n, cp, rfl, hb1, hu⟩; have HB1 := hb1; obtain ⟨hc1, hf1⟩ := bcell hb1; have hz : w.heap.size + 2 < w1.heap.size := (by have := hb1.size; simp at this; omega); have HU : Hid (RepI w1 _ _ (.slice A n cp)) := hu; clear hu hb1)
  have hb : Below w.heap.size w w1 := ((((Below.refl w.heap.size w).alloc (Nat.le_refl _) _).alloc (by simp) _).alloc (by simp; omega) _).trans (HB1.mono (by simp; omega))
  refine bodyPost_ret (v := .agg #[.slice A n cp, .int .i64 x]) (by simp [results, Try.results51, go_sem, hc1, hf1]) rfl ⟨A, n, cp, rfl, (((hb.setCell (by simp; omega) _).setCell (by simp; omega) _).setCell (by simp) _).setCell (by simp) _, ?_⟩
  refine HU.out.mono fun g hg => ?_
  have h1 : w.heap.size + 3 ≤ g := by have := hg.1; simp at this; omega
  have e : ((((w1.setCell ⟨w.heap.size + 1 + 1, 0, none⟩ (Value.slice A n cp)).setCell ⟨w.heap.size + 1 + 1, 1, none⟩ (Value.int IntKind.i64 x)).setCell ⟨w.heap.size + 1, 0, none⟩ (Value.slice A n cp)).setCell ⟨w.heap.size + 1, 1, none⟩ (Value.int IntKind.i64 x)).heap[g]? = w1.heap[g]? := by
    rw [setCell_heap, if_neg (by omega), setCell_heap, if_neg (by omega), setCell_heap, if_neg (by omega), setCell_heap, if_neg (by omega)]
  refine ⟨⟨by omega, by have := hg.2.1; simpa [World.setCell] using this, hg.2.2.keep e⟩, e⟩
/-- Blocks made behind the world w, but for the first. -/
def newB (w w' : World) (g : Nat) : Prop := w.heap.size < g ∧ g < w'.heap.size ∧ plain w' g

/-- A row in the block that was made first: its first j elements are laid. -/
structure RInv {α : Type} (w : World) (f : α → List PV) (n : Nat) (ps : List α) (N j : Nat) (wr : World) : Prop where
  below : Below w.heap.size w wr
  blk : ∃ arr e, wr.heap[w.heap.size]? = some (.cells arr e (0, 0)) ∧ arr.size = N * n
  el : ∀ i x, i < j → ps[i]? = some x → ∃ us, RepIs wr (newB w wr) (f x) us ∧ ∀ m u, us[m]? = some u → wr.cell? ⟨w.heap.size, i * n + m, none⟩ = some u

theorem RInv.size {α : Type} {w : World} {f : α → List PV} {n : Nat} {ps : List α} {N j : Nat} {wr : World} (h : RInv w f n ps N j wr) : w.heap.size < wr.heap.size := by
  obtain ⟨arr, e, hh, _⟩ := h.blk
  exact (Array.getElem?_eq_some_iff.1 hh).1
theorem RInv.cell {α : Type} {w : World} {f : α → List PV} {n : Nat} {ps : List α} {N j : Nat} {wr : World} (h : RInv w f n ps N j wr) {i : Nat} (hi : i < N * n) : ∃ y, wr.cell? ⟨w.heap.size, i, none⟩ = some y := by
  obtain ⟨arr, e, hh, hs⟩ := h.blk
  exact ⟨arr[i], by simp [World.cell?, hh, hs, hi]⟩
theorem RInv.frozen {α : Type} {w : World} {f : α → List PV} {n : Nat} {ps : List α} {N j : Nat} {wr : World} (h : RInv w f n ps N j wr) (i : Nat) : wr.frozen? ⟨w.heap.size, i, none⟩ = false := by
  obtain ⟨arr, e, hh, hs⟩ := h.blk
  exact frozen_plain ⟨arr, e, hh⟩ i

theorem RInv.step {α : Type} {w : World} {f : α → List PV} {n : Nat} {ps : List α} {N j : Nat} {wr w1 w2 : World} (h : RInv w f n ps N j wr) (hn : ∀ x, (f x).length = n) (hb1 : Below wr.heap.size wr w1) (h2 : Below w.heap.size w1 w2) (hsz : w2.heap.size = w1.heap.size)
    (ho : ∀ g, g ≠ w.heap.size → w2.heap[g]? = w1.heap[g]?) (hG : ∀ arr e, w1.heap[w.heap.size]? = some (.cells arr e (0, 0)) → ∃ arr', w2.heap[w.heap.size]? = some (.cells arr' e (0, 0)) ∧ arr'.size = arr.size)
    (hkeep : ∀ i, i < j * n → w2.cell? ⟨w.heap.size, i, none⟩ = w1.cell? ⟨w.heap.size, i, none⟩) {x : α} (hx : ps[j]? = some x) {us : List Value} (hus : RepIs w1 (fresh wr w1) (f x) us)
    (hc : ∀ m u, us[m]? = some u → w2.cell? ⟨w.heap.size, j * n + m, none⟩ = some u) : RInv w f n ps N (j + 1) w2 := by
  have hs := h.size
  refine ⟨(h.below.trans (hb1.mono h.below.size)).trans h2, ?_, fun i y hi hy => ?_⟩
  · obtain ⟨arr, e, hh, hsz'⟩ := h.blk
    obtain ⟨arr', ha, hb⟩ := hG arr e ((hb1.block _ hs).trans hh)
    exact ⟨arr', e, ha, hb.trans hsz'⟩
  · by_cases e : i = j
    · subst e
      rw [hx] at hy
      obtain rfl := Option.some.inj hy
      refine ⟨us, hus.mono fun g hg => ?_, hc⟩
      have e1 := ho g (by have := hg.1; omega)
      exact ⟨⟨by have := hg.1; omega, by rw [hsz]; exact hg.2.1, hg.2.2.keep e1⟩, e1⟩
    · obtain ⟨us', h3, h4⟩ := h.el i y (by omega) hy
      refine ⟨us', h3.mono fun g hg => ?_, fun m u hu => ?_⟩
      · have e1 : w2.heap[g]? = wr.heap[g]? := (ho g (by have := hg.1; omega)).trans (hb1.block g hg.2.1)
        exact ⟨⟨hg.1, by rw [hsz]; exact Nat.lt_of_lt_of_le hg.2.1 hb1.size, hg.2.2.keep e1⟩, e1⟩
      · have hm : m < n := by
          have := (List.getElem?_eq_some_iff.1 hu).1
          rw [← h3.all2.length, hn] at this
          exact this
        have hlt : i * n + m < j * n := by
          have : (i + 1) * n ≤ j * n := Nat.mul_le_mul_right n (by omega)
          rw [Nat.succ_mul] at this
          omega
        rw [hkeep _ hlt, hb1.cell (p := ⟨w.heap.size, i * n + m, none⟩) hs]
        exact h4 m u hu

theorem rows_build {α : Type} {w : World} {I : Nat → Prop} {G n : Nat} {f : α → List PV} (hf : ∀ x, (f x).length = n) : ∀ (l : List α) (k : Nat), (∀ i x, l[i]? = some x → ∃ us, RepIs w I (f x) us ∧ ∀ m u, us[m]? = some u → w.cell? ⟨G, (k + i) * n + m, none⟩ = some u) →
    ∃ vs, RepIs w I (l.map f).flatten vs ∧ ∀ j v, vs[j]? = some v → w.cell? ⟨G, k * n + j, none⟩ = some v
  | [], _, _ => ⟨[], .nil, fun j v h => by simp at h⟩
  | x :: r, k, h => by
    obtain ⟨us, h1, h2⟩ := h 0 x rfl
    obtain ⟨vs, h3, h4⟩ := rows_build hf r (k + 1) fun i y hy => by
      obtain ⟨us', h5, h6⟩ := h (i + 1) y (by simpa using hy)
      exact ⟨us', h5, fun m u hu => by rw [show k + 1 + i = k + (i + 1) by omega]; exact h6 m u hu⟩
    refine ⟨us ++ vs, ?_, fun j v hj => ?_⟩
    · rw [List.map_cons, List.flatten_cons]
      exact RepIs.of (h1.all2.app h3.all2)
    · have hl : us.length = n := by rw [← h1.all2.length, hf]
      rw [List.getElem?_append] at hj
      split at hj
      · have := h2 j v hj
        rwa [Nat.add_zero] at this
      · rename_i hlt
        have := h4 _ v hj
        rw [Nat.succ_mul, hl] at this
        rwa [show k * n + n + (j - n) = k * n + j by omega] at this

theorem RInv.done {α : Type} {w : World} {f : α → List PV} {n : Nat} {ps : List α} {wr : World} (h : RInv w f n ps ps.length ps.length wr) (hf : ∀ x, (f x).length = n) (hm : ps.length ≤ maxLen) :
    RepI wr (fresh w wr) (.isl n (rows f ps)) (.slice (some ⟨w.heap.size, 0, none⟩) ps.length ps.length) := by
  obtain ⟨vs, h1, h2⟩ := rows_build (G := w.heap.size) hf ps 0 fun i x hx => by
    obtain ⟨us, h3, h4⟩ := h.el i x (List.getElem?_eq_some_iff.1 hx).1 hx
    exact ⟨us, h3, fun m u hu => by rw [Nat.zero_add]; exact h4 m u hu⟩
  rw [rows_eq]
  have hG : fresh w wr w.heap.size := by
    obtain ⟨arr, e, hh, _⟩ := h.blk
    exact ⟨Nat.le_refl _, h.size, arr, e, hh⟩
  have := RepI.isl (w := wr) (I := fresh w wr) n (ps.map f) w.heap.size 0 ps.length vs (fun e he => by obtain ⟨y, _, rfl⟩ := List.mem_map.1 he; exact hf y) (h1.weak fun g hg => ⟨Nat.le_of_lt hg.1, hg.2⟩) hG
    (fun j v hj => by have := h2 j v hj; rwa [Nat.zero_mul] at this) (by simp) hm
  simpa using this

set_option maxHeartbeats 1600000 in
set_option maxRecDepth 100000 in
theorem toIntSS_w (w : World) (I : Nat → Prop) (v : Value) (ps : List (List Int)) (h : RepI w I (.isl 1 (rows (cSl 1 cInt) ps)) v) (hI : ∀ g, I g → g < w.heap.size) (hs : SmallSS ps) :
    Calls Try.prog 12 #[v] w fun e w' => ∃ A n c, e = .returned (.slice A n c) ∧ Below w.heap.size w w' ∧ RepI w' (fresh w w') (.isl 1 (rows (cSl 1 cInt) ps)) (.slice A n c) := by
  obtain ⟨A, g, o, c, rfl, hml, hA, hc⟩ := rows_shape (n := 1) (f := cSl 1 cInt) (fun _ => rfl) h
  have HA : Hid (0 < ps.length → A = some ⟨g, o, none⟩ ∧ I g) := hA
  have HC : Hid (∀ j x, ps[j]? = some x → ∃ us, RepIs w I (cSl 1 cInt x) us ∧ ∀ i u, us[i]? = some u → w.cell? ⟨g, o + (j * 1 + i), none⟩ = some u) := hc
  have HI : Hid (∀ g, I g → g < w.heap.size) := hI
  have HS : Hid (SmallSS ps) := hs
  obtain ⟨n, hn⟩ : ∃ n, ps.length = n := ⟨_, rfl⟩
  have hn1 : n ≤ 1048576 := by have := hs.1; omega
  have HN : Hid (ps.length = n) := hn
  rw [hn]
  have HM : Hid (n ≤ maxLen) := by rw [hn] at hml; exact hml
  obtain ⟨hu, hde⟩ := sliceOf_spec envOk (show sliceOf G 23 = some (24, _) from rfl)
  obtain ⟨i0, z0, hi, hz, hzr, hsz, hby, hzs, hrun⟩ := run_zeroValue hde
  obtain ⟨w1, hr, hown, hgrow⟩ := run_makeSlice_full (P := Try.prog) (w := w) w.heap.size 23 24 i0 z0 1 hu hi hz hsz .i64 .i64 n (by omega) (by rw [hby]; show 24 * n ≤ _; omega) (by rw [hn] at hml; exact hml) (Nat.le_refl _)
  have HR0 : Hid (RInv w (cSl 1 cInt) 1 ps n 0 w1) := by
    refine ⟨⟨hgrow.os, hgrow.tape, hgrow.output, hgrow.size, fun k hk => hgrow.block k hk (by simp)⟩, ?_, fun i x hi => by omega⟩
    rcases hown.2 with ⟨h1, _⟩ | ⟨g', cap, cur, h1, _, h3, _, _, h6, _⟩
    · cases h1
    · simp only [Value.slice.injEq, Option.some.injEq, Addr.mk.injEq] at h1
      obtain ⟨⟨rfl, _⟩, _, rfl⟩ := h1
      exact ⟨cur, _, h3, h6⟩
  clear hc hA hI h hn hs hml hi hz hzr hsz hby hzs hrun hde hu hown hgrow
  go_enter Try.func12, Try.ntmps12
  go_wp2
  go_loopw [4] (fun vi wr => ∃ j : Nat, j ≤ n ∧ vi = .int .i64 j ∧ Hid (RInv w (cSl 1 cInt) 1 ps n j wr)) (fun vi _ => n - (intOf vi).toNat)
  case atStart => exact ⟨0, Nat.zero_le _, rfl, HR0⟩
  case round =>
    obtain ⟨j, hj, rfl, HV⟩ := hrel
    by_cases hlt : j < n
    · obtain ⟨rfl, hIg⟩ := HA.out (by have := HN.out; omega)
      obtain ⟨x, hx⟩ : ∃ x, ps[j]? = some x := ⟨_, List.getElem?_eq_getElem (by have := HN.out; omega)⟩
      have HX : Hid (ps[j]? = some x) := hx
      obtain ⟨us, hus, hcell⟩ := HC.out j x hx
      cases hus with
      | cons hu hnil =>
        cases hnil
        obtain ⟨A0, n0, c0, rfl⟩ := isl_shape hu
        have hcu := hcell 0 _ rfl
        rw [Nat.mul_one, Nat.add_zero] at hcu
        have hcu' : wr.cell? ⟨g, o + j, none⟩ = some (.slice A0 n0 c0) := (HV.out.below.cell (p := ⟨g, o + j, none⟩) (HI.out g hIg)).trans hcu
        have HK : Hid (Calls Try.prog 13 #[.slice A0 n0 c0] wr fun e w' => ∃ A n c, e = .returned (.slice A n c) ∧ Below wr.heap.size wr w' ∧ RepI w' (fresh wr w') (.isl 1 (rows cInt x)) (.slice A n c)) :=
          toIntS_w w wr I _ x HV.out.below hu HI.out (HS.out.2 x (List.mem_of_getElem? hx))
        obtain ⟨y, hy⟩ := HV.out.cell (i := j) (by omega)
        have hfr := HV.out.frozen j
        have hsw := HV.out.size
        clear hcu hcell hx hu hIg
        go_wp2_with (refine HK.out.mono ?_; rintro e w2 ⟨A1, n1, c1, rfl, hb1, hu1⟩; have HB1 : Hid (Below wr.heap.size wr w2) := hb1; obtain ⟨hc1, hf1⟩ := bcell hb1; have HU1 : Hid (RepI w2 (fresh wr w2) (.isl 1 (rows cInt x)) (.slice A1 n1 c1)) := hu1; clear hb1 hu1)
        go_roundw
        case rel =>
          refine ⟨j + 1, by omega, by rw [Int.natCast_succ], HV.out.step (w2 := w2.setCell ⟨w.heap.size, j, none⟩ (.slice A1 n1 c1)) (fun _ => rfl) HB1.out ((Below.refl w.heap.size w2).setCell (p := ⟨w.heap.size, j, none⟩) (Nat.le_refl _) _) (by simp [World.setCell]) (fun g hg => by rw [setCell_heap, if_neg fun e : w.heap.size = g => hg e.symm]) (fun arr e hh => ?_) (fun i hi => setCell_cell (by omega)) HX.out (.cons HU1.out .nil) fun m u hu => ?_⟩
          · refine ⟨arr.setIfInBounds j (.slice A1 n1 c1), ?_, by simp⟩
            rw [setCell_heap, if_pos rfl, hh]; rfl
          · cases m with
            | zero =>
              obtain rfl := Option.some.inj hu
              rw [Nat.mul_one, Nat.add_zero]
              exact setCell_at ((hc1 _ _ hsw).trans hy)
            | succ m => simp at hu
        case measure => simp [intOf]; omega
    · go_wp2
      go_ret
      have e : j = n := by omega
      subst e
      have e := HN.out
      subst e
      exact ⟨_, _, _, rfl, HV.out.below, HV.out.done (fun _ => rfl) HM.out⟩
set_option maxHeartbeats 1600000 in
set_option maxRecDepth 100000 in
theorem toCraftS_w (w : World) (I : Nat → Prop) (v : Value) (ps : List Craft) (h : RepI w I (.isl 2 (rows cCraft ps)) v) (hI : ∀ g, I g → g < w.heap.size) (hs : SmallCraftS ps) :
    Calls Try.prog 11 #[v] w fun e w' => ∃ A n c, e = .returned (.slice A n c) ∧ Below w.heap.size w w' ∧ RepI w' (fresh w w') (.isl 2 (rows cCraft ps)) (.slice A n c) := by
  obtain ⟨A, g, o, c, rfl, hml, hA, hc⟩ := rows_shape (n := 2) (f := cCraft) (fun _ => rfl) h
  have HA : Hid (0 < ps.length → A = some ⟨g, o, none⟩ ∧ I g) := hA
  have HC : Hid (∀ j x, ps[j]? = some x → ∃ us, RepIs w I (cCraft x) us ∧ ∀ i u, us[i]? = some u → w.cell? ⟨g, o + (j * 2 + i), none⟩ = some u) := hc
  have HI : Hid (∀ g, I g → g < w.heap.size) := hI
  have HS : Hid (SmallCraftS ps) := hs
  obtain ⟨n, hn⟩ : ∃ n, ps.length = n := ⟨_, rfl⟩
  have hn1 : n ≤ 1048576 := by have := hs.1; omega
  have HN : Hid (ps.length = n) := hn
  rw [hn]
  have HM : Hid (n ≤ maxLen) := by rw [hn] at hml; exact hml
  obtain ⟨hu, hde⟩ := sliceOf_spec envOk (show sliceOf G 29 = some (56, _) from rfl)
  obtain ⟨i0, z0, hi, hz, hzr, hsz, hby, hzs, hrun⟩ := run_zeroValue hde
  obtain ⟨w1, hr, hown, hgrow⟩ := run_makeSlice_full (P := Try.prog) (w := w) w.heap.size 29 56 i0 z0 2 hu hi hz hsz .i64 .i64 n (by omega) (by rw [hby]; show 32 * n ≤ _; omega) (by rw [hn] at hml; exact hml) (Nat.le_refl _)
  have HR0 : Hid (RInv w cCraft 2 ps n 0 w1) := by
    refine ⟨⟨hgrow.os, hgrow.tape, hgrow.output, hgrow.size, fun k hk => hgrow.block k hk (by simp)⟩, ?_, fun i x hi => by omega⟩
    rcases hown.2 with ⟨h1, _⟩ | ⟨g', cap, cur, h1, _, h3, _, _, h6, _⟩
    · cases h1
    · simp only [Value.slice.injEq, Option.some.injEq, Addr.mk.injEq] at h1
      obtain ⟨⟨rfl, _⟩, _, rfl⟩ := h1
      exact ⟨cur, _, h3, h6⟩
  clear hc hA hI h hn hs hml hi hz hzr hsz hby hzs hrun hde hu hown hgrow
  go_enter Try.func11, Try.ntmps11
  go_wp2
  go_loopw [4] (fun vi wr => ∃ j : Nat, j ≤ n ∧ vi = .int .i64 j ∧ Hid (RInv w cCraft 2 ps n j wr)) (fun vi _ => n - (intOf vi).toNat)
  case atStart => exact ⟨0, Nat.zero_le _, rfl, HR0⟩
  case round =>
    obtain ⟨j, hj, rfl, HV⟩ := hrel
    by_cases hlt : j < n
    · obtain ⟨rfl, hIg⟩ := HA.out (by have := HN.out; omega)
      obtain ⟨x, hx⟩ : ∃ x, ps[j]? = some x := ⟨_, List.getElem?_eq_getElem (by have := HN.out; omega)⟩
      have HX : Hid (ps[j]? = some x) := hx
      obtain ⟨us, hus, hcell⟩ := HC.out j x hx
      cases hus with
      | cons hu hus =>
        cases hus with
        | cons hmo hnil =>
        cases hnil
        cases hmo
        rename_i hy0
        obtain ⟨A0, n0, c0, rfl⟩ := isl_shape hu
        have hcu := hcell 0 _ rfl
        have hcm := hcell 1 _ rfl
        have hcu' : wr.cell? ⟨g, o + j * 2, none⟩ = some (.slice A0 n0 c0) := (HV.out.below.cell (p := ⟨g, o + j * 2, none⟩) (HI.out g hIg)).trans hcu
        have hcm' : wr.cell? ⟨g, o + j * 2 + 1, none⟩ = some (.int .i64 x.2) := (HV.out.below.cell (p := ⟨g, o + j * 2 + 1, none⟩) (HI.out g hIg)).trans hcm
        have HK : Hid (Calls Try.prog 51 #[.agg #[.slice A0 n0 c0, .int .i64 x.2]] wr fun e w' => ∃ A n c, e = .returned (.agg #[.slice A n c, .int .i64 x.2]) ∧ Below wr.heap.size wr w' ∧ RepI w' (fresh wr w') (.isl 1 (rows cInt x.1)) (.slice A n c)) :=
          toCraft_w w wr I _ x HV.out.below hu HI.out (HS.out.2 x (List.mem_of_getElem? hx))
        obtain ⟨y, hy⟩ := HV.out.cell (i := j * 2) (by omega)
        obtain ⟨y1, hy1⟩ := HV.out.cell (i := j * 2 + 1) (by omega)
        have hfr := HV.out.frozen (j * 2)
        have hfr1 := HV.out.frozen (j * 2 + 1)
        have hsw := HV.out.size
        have HW : Hid (IntKind.i64.wrap x.2 = x.2) := hy0
        obtain ⟨x2, hx2⟩ : ∃ x2, x.2 = x2 := ⟨_, rfl⟩
        have HX2 : Hid (x.2 = x2) := hx2
        rw [hx2] at hcm' HK
        clear hcu hcell hx hu hIg hcm hy0 hx2
        go_wp2_with (refine HK.out.mono ?_; rintro e w2 ⟨A1, n1, c1, rfl, hb1, hu1⟩; have HB1 : Hid (Below wr.heap.size wr w2) := hb1; obtain ⟨hc1, hf1⟩ := bcell hb1; have HU1 : Hid (RepI w2 (fresh wr w2) (.isl 1 (rows cInt x.1)) (.slice A1 n1 c1)) := hu1; clear hb1 hu1)
        go_roundw
        case rel =>
          have hcell2 := (hc1 w.heap.size (j * 2) hsw).trans hy
          have hcell3 := (hc1 w.heap.size (j * 2 + 1) hsw).trans hy1
          refine ⟨j + 1, by omega, by rw [Int.natCast_succ], HV.out.step (w2 := (w2.setCell ⟨w.heap.size, j * 2, none⟩ (.slice A1 n1 c1)).setCell ⟨w.heap.size, j * 2 + 1, none⟩ (.int .i64 x2)) (fun _ => rfl) HB1.out (((Below.refl w.heap.size w2).setCell (p := ⟨w.heap.size, j * 2, none⟩) (Nat.le_refl _) _).setCell (p := ⟨w.heap.size, j * 2 + 1, none⟩) (Nat.le_refl _) _) (by simp [World.setCell]) (fun g hg => by rw [setCell_heap, if_neg fun e : w.heap.size = g => hg e.symm, setCell_heap, if_neg fun e : w.heap.size = g => hg e.symm]) (fun arr e hh => ?_) (fun i hi => by rw [setCell_cell (by omega), setCell_cell (by omega)]) HX.out (.cons HU1.out (.cons (.int .i64 x.2 HW.out) .nil)) fun m u hu => ?_⟩
          · refine ⟨(arr.setIfInBounds (j * 2) (.slice A1 n1 c1)).setIfInBounds (j * 2 + 1) (.int .i64 x2), ?_, by simp⟩
            rw [setCell_heap, if_pos rfl, setCell_heap, if_pos rfl, hh]; rfl
          · match m with
            | 0 =>
              obtain rfl := Option.some.inj hu
              rw [Nat.add_zero, setCell_cell (by omega)]
              exact setCell_at hcell2
            | 1 =>
              obtain rfl := Option.some.inj hu
              rw [HX2.out]
              exact setCell_at ((setCell_cell (by omega)).trans hcell3)
            | m + 2 => simp at hu
        case measure => simp [intOf]; omega
    · go_wp2
      go_ret
      have e : j = n := by omega
      subst e
      have e := HN.out
      subst e
      exact ⟨_, _, _, rfl, HV.out.below, HV.out.done (fun _ => rfl) HM.out⟩
/-! ### Contracts: all that is handed back is new -/
theorem new_of {P : Program} {f : FuncId} {p : PV} {sz : Nat} {es : List (List PV)} (hc : Callable P f) (h : ∀ (w : World) (I : Nat → Prop) (v : Value), RepI w I p v → (∀ g, I g → g < w.heap.size) →
    Calls P f #[v] w fun e w' => ∃ A n c, e = .returned (.slice A n c) ∧ Below w.heap.size w w' ∧ RepI w' (fresh w w') (.isl sz es) (.slice A n c)) (hp : ∀ cs, p ≠ .agg cs) : OkG false P f [p] (· = .isl sz es) := by
  refine ⟨hc, fun w I vs hI ha => ?_⟩
  cases ha with
  | cons ha hn =>
    cases hn
    cases ha with
    | agg cs _ _ => exact absurd rfl (hp cs)
    | one ha =>
      refine (h w I _ ha hI).mono ?_
      rintro e w' ⟨A, n, c, rfl, hb, hr⟩
      exact ⟨_, _, [], rfl, rfl, hb, by simp, by simp, .one (.imm (hr.weak fun g hg => ⟨.inr hg.1, hg.2.1, by simp, fun _ => hg.2.2⟩))⟩

theorem toIntS_new (l : List Int) (hl : (l.length : Int) ≤ 1048576) : OkG false Try.prog 13 [.isl 1 (rows cInt l)] (· = .isl 1 (rows cInt l)) := ((toIntS_ok l hl).ok (flat_fr flat_cInt)).ice
theorem toIntSS_new (ps : List (List Int)) (hs : SmallSS ps) : OkG false Try.prog 12 [.isl 1 (rows (cSl 1 cInt) ps)] (· = .isl 1 (rows (cSl 1 cInt) ps)) :=
  new_of ⟨_, Try.func12, rfl, rfl⟩ (fun w I v h hI => toIntSS_w w I v ps h hI hs) (by intro cs e; cases e)
theorem toCraftS_new (cs : List Craft) (hs : SmallCraftS cs) : OkG false Try.prog 11 [.isl 2 (rows cCraft cs)] (· = .isl 2 (rows cCraft cs)) :=
  new_of ⟨_, Try.func11, rfl, rfl⟩ (fun w I v h hI => toCraftS_w w I v cs h hI hs) (by intro cs e; cases e)

theorem intN_le (l : List Int) (h : (l.length : Int) ≤ 1048576) : l.length ≤ 2000000000000 := by omega
theorem craftN_le (cs : List Craft) (h : SmallCraftS cs) : sumN (cs.map fun c => c.1.length + 1) ≤ 2000000000000 := by
  have h1 := sumN_bound (cs.map fun c => c.1.length + 1) 1048577 fun x hx => by
    obtain ⟨c, hc, rfl⟩ := List.mem_map.1 hx
    have := h.2 c hc
    unfold SmallCraft at this
    omega
  rw [List.length_map] at h1
  have h2 := h.1
  have : cs.length * 1048577 ≤ 1048576 * 1048577 := Nat.mul_le_mul_right _ (by omega)
  omega
theorem ssN_le (ps : List (List Int)) (h : SmallSS ps) : sumN (ps.map List.length) ≤ 2000000000000 := by
  have h1 := sumN_bound (ps.map List.length) 1048577 fun x hx => by
    obtain ⟨c, hc, rfl⟩ := List.mem_map.1 hx
    have := h.2 c hc
    omega
  rw [List.length_map] at h1
  have h2 := h.1
  have : ps.length * 1048577 ≤ 1048576 * 1048577 := Nat.mul_le_mul_right _ (by omega)
  omega
end Go.Proofs.Ytnamefdhmlbcpaa.Ai
