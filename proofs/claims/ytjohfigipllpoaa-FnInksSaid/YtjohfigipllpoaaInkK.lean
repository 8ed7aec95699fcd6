/- The program's functions on lines with inks that write rows of bytes, by the kit's walk. -/
import Derived.Test.YtjohfigipllpoaaBytesK
import Derived.Test.YtjohfigipllpoaaInkS
import Derived.Laws.ResultCell
import Derived.Laws.NewBlocks
namespace Go.Proofs.Ytjohfigipllpoaa.Ai
open Go Go.Proofs Go.RowKit
set_option linter.unusedSimpArgs false
set_option linter.unusedVariables false
abbrev strV (l : List UInt8) : Value := .string ⟨l.toArray⟩
abbrev inkV (x : Inked) : Value := .agg #[strV x.1, strV x.2]
theorem run_idx {l : List UInt8} {i : Nat} {c : UInt8} (h : l[i]? = some c) (W : World) : (Instr.index 9 (strV l) (.int .i64 (i : Int))).run Try.prog W = .ok (u8V c) W := by
  obtain ⟨hi, rfl⟩ := List.getElem?_eq_some_iff.1 h
  have hs : (⟨l.toArray⟩ : ByteArray).size = l.length := by simp [ByteArray.size]
  rw [run_index_string W _ ⟨l.toArray⟩ .i64 (i : Int) Try.underlying9, dif_pos ⟨by omega, by rw [hs]; omega⟩]
  rfl
/-- An inked line in a box. -/
def BoxX (w : World) (b : Nat) (x : Inked) : Prop := w.heap[b]? = some (.cells #[strV x.1, strV x.2] 24 (0, 0))
theorem BoxX.cells {w : World} {b : Nat} {x : Inked} (h : BoxX w b x) : w.cell? ⟨b, 0, none⟩ = some (strV x.1) ∧ w.cell? ⟨b, 1, none⟩ = some (strV x.2) := by
  unfold BoxX at h
  simp [World.cell?, h]
theorem BoxX.lt {w : World} {b : Nat} {x : Inked} (h : BoxX w b x) : b < w.heap.size := (Array.getElem?_eq_some_iff.1 h).1
theorem BoxX.keep {w w' : World} {b : Nat} {x : Inked} (h : BoxX w b x) (e : w'.heap[b]? = w.heap[b]?) : BoxX w' b x := by unfold BoxX; rw [e]; exact h
theorem set_below {w : World} {B g i : Nat} (u : Value) (hg : B ≤ g) : Below B w (w.setCell ⟨g, i, none⟩ u) := ⟨rfl, rfl, rfl, by simp [World.setCell], fun k hk => heap_setCell_other w ⟨g, i, none⟩ k u (by show k ≠ g; omega)⟩
set_option maxHeartbeats 4000000 in
set_option maxRecDepth 1000000 in
theorem text_walk (x : Inked) (hx : okInked x = true) (w : World) :
    Calls Try.prog 23 #[inkV x] w fun e w' => e = .returned (strV (zipU upC x.1 x.2)) ∧ Below w.heap.size w w' := by
  obtain ⟨t, k⟩ := x
  have xo := okInked_spec hx
  have xl := xo.len
  have xf := xo.few
  dsimp only at xl xf ⊢
  obtain ⟨z, hz⟩ : ∃ z, z = zipU upC t k := ⟨_, rfl⟩
  have zl : z.length = t.length := by rw [hz]; exact zipU_length _ xl
  have hcv := run_bytesW (w.alloc (.cells #[strV t, strV k] 24)) t
  have q1 := alloc_below w (.cells #[strV t, strV k] 24)
  have e1 : BoxX (w.alloc (.cells #[strV t, strV k] 24)) w.heap.size (t, k) := heap_alloc_new w _
  go_enter Try.func23, Try.ntmps23
  go_wp2
  have rB := bytesW_row (w.alloc (.cells #[strV t, strV k] 24)) t
  have q2 := q1.trans ((bytesW_below (w.alloc (.cells #[strV t, strV k] 24)) t).mono q1.size)
  have e2 := e1.keep ((bytesW_below (w.alloc (.cells #[strV t, strV k] 24)) t).block _ e1.lt)
  have z1 : (w.alloc (.cells #[strV t, strV k] 24)).heap.size = w.heap.size + 1 := Array.size_push _
  rw [z1] at rB
  generalize bytesW (w.alloc (.cells #[strV t, strV k] 24)) t = w2 at rB q2 e2
  clear hcv q1 e1 z1
  go_loopw [10] (fun u wr => ∃ i : Nat, u = .int .i64 (i : Int) ∧ i ≤ t.length ∧ RowB wr (w.heap.size + 1) (ovU z t i) ∧ BoxX wr w.heap.size (t, k) ∧ Below w.heap.size w wr) (fun u _ => t.length - (intOf u).toNat)
  case atStart => exact ⟨0, rfl, Nat.zero_le _, rB, e2, q2⟩
  case round =>
    obtain ⟨i, rfl, hi, hR, hX, hB⟩ := hrel
    obtain ⟨x0, x1⟩ := hX.cells
    have hol := ovU_length (z := z) (x := t) i zl
    by_cases hin : i < t.length
    · obtain ⟨a, ha⟩ : ∃ a, t[i]? = some a := ⟨_, List.getElem?_eq_getElem hin⟩
      obtain ⟨c, hc⟩ : ∃ c, k[i]? = some c := ⟨_, List.getElem?_eq_getElem (by omega)⟩
      have hza : z[i]? = some (upC a c) := by rw [hz]; exact zipU_at _ ha hc
      have ca := hR.cell (i := i) (x := a) (by rw [ovU_at zl (Nat.le_refl _)]; exact ha)
      have fa := hR.free (i := i) (by omega)
      have hix := run_idx hc
      have hset := ovU_set hza zl
      have hkeep := fun e : upC a c = a => ovU_keep (e ▸ hza) ha zl
      by_cases h114 : (c.toNat : Int) = 114
      · have lt := letter_at xo ha hc h114
        have eu : upC a c = a - 32 := if_pos h114
        have e8 : IntKind.u8.wrap ((a.toNat : Int) - 32) = ((a - 32).toNat : Int) := by rw [sub32 lt]; exact wrap8 (by omega)
        rw [eu] at hset
        have hR2 := hR.set (i := i) (by omega) (a - 32)
        rw [hset] at hR2
        go_wp2
        refine ⟨⟨i + 1, rfl, by omega, hR2, hX.keep ((set_below (B := w.heap.size + 1) _ (Nat.le_refl _)).block _ (Nat.lt_succ_self _)), hB.trans (set_below _ (Nat.le_succ _))⟩, ?_⟩
        simp only [intOf]; omega
      · go_wp2
        refine ⟨⟨i + 1, rfl, by omega, by rw [← hkeep (if_neg h114)]; exact hR, hX, hB⟩, ?_⟩
        simp only [intOf]; omega
    · obtain rfl : i = t.length := by omega
      rw [ovU_end (by omega) (Nat.le_refl _)] at hR
      have hstr := fun cap => hR.string t.length cap zl.symm
      go_wp2
      go_ret
      exact ⟨rfl, hB⟩
/-- An inked line in a call's arguments. -/
theorem ink_arg {w : World} {I : Nat → Prop} {x : Inked} {v : Value} (h : RepArg w I (.agg (cInked x)) v) : v = inkV x := by
  cases h with
  | one h => cases h
  | agg cs vs h =>
    cases h with
    | cons h1 h => cases h with
      | cons h2 h => cases h; cases h1; cases h2; rfl
theorem arg_ink {w : World} {I : Nat → Prop} {x : Inked} (h1 : x.1.length ≤ maxLen) (h2 : x.2.length ≤ maxLen) : RepArg w I (.agg (cInked x)) (inkV x) := .agg (cInked x) [strV x.1, strV x.2] (.cons (.str _ h1) (.cons (.str _ h2) .nil))
theorem ink_len {w : World} {I : Nat → Prop} {x : Inked} {v : Value} (h : RepArg w I (.agg (cInked x)) v) : x.1.length ≤ maxLen ∧ x.2.length ≤ maxLen := by
  cases h with
  | one h => cases h
  | agg cs vs h =>
    cases h with
    | cons h1 h => cases h with
      | cons h2 h =>
        cases h1 with
        | str _ h1 => cases h2 with
          | str _ h2 => exact ⟨h1, h2⟩
theorem inkedText_ok (x : Inked) (hx : okInked x = true) : OkA Try.prog 23 [.agg (cInked x)] (· = .str (zipU upC x.1 x.2)) := by
  refine ⟨⟨_, Try.func23, rfl, rfl⟩, fun w I vs hI hargs => ?_⟩
  obtain rfl : vs = [inkV x] := by
    cases hargs with
    | cons h1 t => cases t; rw [ink_arg h1]
  refine (text_walk x hx w).mono ?_
  rintro e w' ⟨rfl, hbl⟩
  have xo := okInked_spec hx
  refine ⟨_, .str (zipU upC x.1 x.2), [], rfl, rfl, hbl, List.nodup_nil, (fun g hg => by cases hg), .one (.imm (.str _ ?_))⟩
  rw [zipU_length _ xo.len]
  have := xo.few
  unfold maxLen; omega
def ZeroX (w : World) (b : Nat) : Prop := w.heap[b]? = some (.cells #[.string ⟨#[]⟩, .string ⟨#[]⟩] 24 (0, 0))
theorem ZeroX.lt {w : World} {b : Nat} (h : ZeroX w b) : b < w.heap.size := (Array.getElem?_eq_some_iff.1 h).1
theorem ZeroX.keep {w w' : World} {b : Nat} (h : ZeroX w b) (e : w'.heap[b]? = w.heap[b]?) : ZeroX w' b := by unfold ZeroX; rw [e]; exact h
theorem ZeroX.facts {w : World} {b : Nat} (h : ZeroX w b) : (w.cell? ⟨b, 0, none⟩ = some (.string ⟨#[]⟩) ∧ w.cell? ⟨b, 1, none⟩ = some (.string ⟨#[]⟩)) ∧ (w.frozen? ⟨b, 0, none⟩ = false ∧ w.frozen? ⟨b, 1, none⟩ = false) := by
  unfold ZeroX at h
  simp [World.cell?, World.frozen?, h]
theorem ZeroX.store {w : World} {b : Nat} (h : ZeroX w b) (y : Inked) : BoxX ((w.setCell ⟨b, 0, none⟩ (strV y.1)).setCell ⟨b, 1, none⟩ (strV y.2)) b y := by
  have h1 := heap_setCell_same w b 0 _ _ (strV y.1) h
  have h2 := heap_setCell_same _ b 1 _ _ (strV y.2) h1
  unfold BoxX
  rw [h2]; rfl
theorem store_below {w : World} {B b : Nat} (y : Inked) (hb : B ≤ b) : Below B w ((w.setCell ⟨b, 0, none⟩ (strV y.1)).setCell ⟨b, 1, none⟩ (strV y.2)) := (set_below _ hb).trans (set_below _ hb)
theorem ret_cell {fn : Func} {R : Ending → World → Prop} {a : Act} {w : World} {p u : Tmp} {x : Inked} {b : Nat} {v2 : Value} (h : fn.results = #[.cell p 24, .tmp u]) (hp : a.tmps.getD p undef = .pointer (some ⟨b, 0, none⟩)) (hu : a.tmps.getD u undef = v2)
    (hd : a.defers = []) (hX : BoxX w b x) (hR : R (.returned (.tuple #[inkV x, v2])) w) : bodyPost Try.prog fn R .ret a w := by
  refine bodyPost_ret_by (v := .tuple #[inkV x, v2]) ?_ hd hR
  have hl := run_loadVar_row (P := Try.prog) w b 24 24 _ _ _ hX Try.underlying24 rfl (by kernel_rfl)
  rw [results_cell_tmp h, hp, hu]
  simp only [asAddr, Sem.run_pure, Result.andThen, hl]
set_option maxHeartbeats 4000000 in
set_option maxRecDepth 1000000 in
theorem swap_walk (x : Inked) (w : World) (I : Nat → Prop) (hI : InR w I) (ha : All2 (RepArg w I) [.agg (cInked x)] [inkV x]) :
    Calls Try.prog 5 #[inkV x] w fun e w' => e = .returned (.tuple #[inkV (swapA x).1, .bool (swapA x).2]) ∧ Below w.heap.size w w' := by
  obtain ⟨t, k⟩ := x
  obtain ⟨lt, lk⟩ : t.length ≤ maxLen ∧ k.length ≤ maxLen := by
    cases ha with
    | cons h1 _ => exact ink_len h1
  have AI : ∀ W : World, Calls Try.prog 9 #[inkV (t, k)] W fun e w' => e = .returned (.bool (okInked (t, k))) ∧ Below W.heap.size W w' := fun W => calls_bool (IsInked_ok (t, k)) (inr_all W) (vs := [inkV (t, k)]) (.cons (arg_ink lt lk) .nil)
  have q1 := alloc_below w (.cells #[strV t, strV k] 24)
  have e1 : BoxX (w.alloc (.cells #[strV t, strV k] 24)) w.heap.size (t, k) := heap_alloc_new w _
  have z1 : (w.alloc (.cells #[strV t, strV k] 24)).heap.size = w.heap.size + 1 := Array.size_push _
  have q2 := q1.trans ((alloc_below (w.alloc (.cells #[strV t, strV k] 24)) (.cells #[.string ⟨#[]⟩, .string ⟨#[]⟩] 24)).mono q1.size)
  have e2 : BoxX ((w.alloc (.cells #[strV t, strV k] 24)).alloc (.cells #[.string ⟨#[]⟩, .string ⟨#[]⟩] 24)) w.heap.size (t, k) := e1.keep ((alloc_below _ _).block _ e1.lt)
  have r2 : ZeroX ((w.alloc (.cells #[strV t, strV k] 24)).alloc (.cells #[.string ⟨#[]⟩, .string ⟨#[]⟩] 24)) (w.heap.size + 1) := by rw [← z1]; exact heap_alloc_new _ _
  clear q1 e1 z1
  cases ho : okInked (t, k) with
  | false =>
    have eS : swapA (t, k) = (([], []), false) := by rw [swapA, ho]; rfl
    rw [eS]
    rw [ho] at AI
    go_enter Try.func5, Try.ntmps5
    go_wp2_with (go_at_call 9; refine (AI _).mono ?_; rintro e w3 ⟨rfl, b3⟩; refine Hid.out ?_)
    refine Lib.hid ?_
    have q3 := q2.trans (b3.mono q2.size)
    have r3 := r2.keep (b3.block _ r2.lt)
    obtain ⟨⟨c0, c1⟩, c2, c3⟩ := r3.facts
    go_wp2
    try simp only [Exit.inBlock, Exit.then]
    refine ret_cell (p := 2) (u := 3) rfl rfl rfl rfl (r3.store ([], [])) ?_
    exact ⟨rfl, q3.trans (store_below ([], []) (Nat.le_succ _))⟩
  | true =>
    have xo := okInked_spec ho
    have xl := xo.len
    have xf := xo.few
    dsimp only at xl xf
    obtain ⟨z, hz⟩ : ∃ z, z = zipU swC t k := ⟨_, rfl⟩
    have zl : z.length = k.length := by rw [hz, zipU_length _ xl]; exact xl.symm
    have eS : swapA (t, k) = ((t, z), true) := by rw [swapA, if_pos ho, hz]; rfl
    rw [eS]
    have HZ := Lib.hid hz
    clear hz eS
    rw [ho] at AI
    go_enter Try.func5, Try.ntmps5
    go_wp2_with (go_at_call 9; refine (AI _).mono ?_; rintro e w3 ⟨rfl, b3⟩; refine Hid.out ?_)
    refine Lib.hid ?_
    have q3 := q2.trans (b3.mono q2.size)
    have e3 := e2.keep (b3.block _ e2.lt)
    have r3 := r2.keep (b3.block _ r2.lt)
    have l3 := r3.lt
    obtain ⟨x0, x1⟩ := e3.cells
    have hcv := run_bytesW w3 k
    go_wp2
    have rB := bytesW_row w3 k
    have b4 := bytesW_below w3 k
    have q4 := q3.trans (b4.mono q3.size)
    have e4 := e3.keep (b4.block _ e3.lt)
    have r4 := r3.keep (b4.block _ r3.lt)
    clear hcv x0 x1 r3 e3 b3 b4 q3
    generalize bytesW w3 k = w4 at rB q4 e4 r4
    generalize w3.heap.size = g at rB l3
    go_loopw [15] (fun u wr => ∃ i : Nat, u = .int .i64 (i : Int) ∧ i ≤ k.length ∧ RowB wr g (ovU z k i) ∧ BoxX wr w.heap.size (t, k) ∧ ZeroX wr (w.heap.size + 1) ∧ Below w.heap.size w wr) (fun u _ => k.length - (intOf u).toNat)
    case atStart => exact ⟨0, rfl, Nat.zero_le _, rB, e4, r4, q4⟩
    case round =>
      obtain ⟨i, rfl, hi, hR, hX, hZ, hB⟩ := hrel
      obtain ⟨x0, x1⟩ := hX.cells
      have hol := ovU_length (z := z) (x := k) i zl
      by_cases hin : i < k.length
      · obtain ⟨c, hc⟩ : ∃ c, k[i]? = some c := ⟨_, List.getElem?_eq_getElem hin⟩
        obtain ⟨a, hA⟩ : ∃ a, t[i]? = some a := ⟨_, List.getElem?_eq_getElem (by omega)⟩
        have hza : z[i]? = some (swC a c) := by rw [HZ.out]; exact zipU_at _ hA hc
        have ca := hR.cell (i := i) (x := c) (by rw [ovU_at zl (Nat.le_refl _)]; exact hc)
        have fa := hR.free (i := i) (by omega)
        have hix := run_idx hA
        have hset := ovU_set hza zl
        have hR2 := hR.set (i := i) (by omega) (swC a c)
        rw [hset] at hR2
        have fin : ∀ v : UInt8, swC a c = v → (∃ j : Nat, (Value.int .i64 ((i : Int) + 1)) = .int .i64 (j : Int) ∧ j ≤ k.length ∧ RowB (wr.setCell ⟨g, i, none⟩ (u8V v)) g (ovU z k j) ∧ BoxX (wr.setCell ⟨g, i, none⟩ (u8V v)) w.heap.size (t, k) ∧ ZeroX (wr.setCell ⟨g, i, none⟩ (u8V v)) (w.heap.size + 1) ∧ Below w.heap.size w (wr.setCell ⟨g, i, none⟩ (u8V v))) := fun v hv => by
          subst hv
          have kp : ∀ b, b < g → (wr.setCell ⟨g, i, none⟩ (u8V (swC a c))).heap[b]? = wr.heap[b]? := fun b hb => (set_below (B := g) _ (Nat.le_refl _)).block _ hb
          exact ⟨i + 1, rfl, by omega, hR2, hX.keep (kp _ (by omega)), hZ.keep (kp _ (by omega)), hB.trans (set_below _ (by omega))⟩
        by_cases h98 : (c.toNat : Int) = 98
        · by_cases h32 : (a.toNat : Int) = 32
          · go_wp2
            exact ⟨fin 98 (if_neg fun e => e.2 h32), by simp only [intOf]; omega⟩
          · go_wp2
            exact ⟨fin 114 (if_pos ⟨h98, h32⟩), by simp only [intOf]; omega⟩
        · go_wp2
          exact ⟨fin 98 (if_neg fun e => h98 e.1), by simp only [intOf]; omega⟩
      · obtain rfl : i = k.length := by omega
        rw [ovU_end (by omega) (Nat.le_refl _)] at hR
        have hstr := fun cap => hR.string k.length cap zl.symm
        have hstr2 := fun cap => hR.string t.length cap (by omega)
        obtain ⟨⟨c0, c1⟩, c2, c3⟩ := hZ.facts
        go_wp2
        try simp only [Exit.inBlock, Exit.then]
        refine ret_cell (p := 2) (u := 3) rfl rfl rfl rfl (hZ.store (t, z)) ?_
        exact ⟨rfl, hB.trans (store_below (t, z) (Nat.le_succ _))⟩
theorem ink_res {w w' : World} {I : Nat → Prop} {y : Inked × Bool} (h1 : y.1.1.length ≤ maxLen) (h2 : y.1.2.length ≤ maxLen) (hb : Below w.heap.size w w') : ∃ v r gs, Ending.returned (.tuple #[inkV y.1, .bool y.2]) = Ending.returned v ∧ r = inkR y ∧ Below w.heap.size w w' ∧ RepR (fun g => ((true : Bool) = true ∧ I g) ∨ w.heap.size ≤ g) w.heap.size w' r v gs :=
  ⟨_, inkR y, [] ++ ([] ++ []), rfl, rfl, hb, List.nodup_nil, (fun g hg => by cases hg), .tup (.cons (.agg (cInked y.1) [strV y.1.1, strV y.1.2] (.cons (.str _ h1) (.cons (.str _ h2) .nil))) (.cons (.imm (.bool _)) .nil))⟩
theorem SwapInks_ok (x : Inked) : OkA Try.prog 5 [.agg (cInked x)] (· = inkR (swapA x)) := by
  refine ⟨⟨_, Try.func5, rfl, rfl⟩, fun w I vs hI hargs => ?_⟩
  obtain rfl : vs = [inkV x] := by
    cases hargs with
    | cons h1 t => cases t; rw [ink_arg h1]
  have hl : x.1.length ≤ maxLen ∧ x.2.length ≤ maxLen := by
    cases hargs with
    | cons h1 _ => exact ink_len h1
  refine (swap_walk x w I hI hargs).mono ?_
  rintro e w' ⟨rfl, hbl⟩
  refine ink_res ?_ ?_ hbl
  all_goals
    unfold swapA
    split
    · rename_i ho
      have xo := okInked_spec ho
      have := xo.few
      have := xo.len
      first
        | (show x.1.length ≤ maxLen; exact hl.1)
        | (show (zipU swC x.1 x.2).length ≤ maxLen; rw [zipU_length _ xo.len]; exact hl.1)
    · exact Nat.zero_le _
set_option maxHeartbeats 4000000 in
set_option maxRecDepth 1000000 in
theorem forme_walk (x : Inked) (ink : List UInt8) (w : World) (I : Nat → Prop) (hI : InR w I) (ha : All2 (RepArg w I) [.agg (cInked x), .str ink] [inkV x, strV ink]) :
    Calls Try.prog 10 #[inkV x, strV ink] w fun e w' => e = .returned (.tuple #[strV (formeA x ink).1, .bool (formeA x ink).2]) ∧ Below w.heap.size w w' := by
  obtain ⟨t, k⟩ := x
  obtain ⟨lt, lk⟩ : t.length ≤ maxLen ∧ k.length ≤ maxLen := by
    cases ha with
    | cons h1 _ => exact ink_len h1
  have li : ink.length ≤ maxLen := by
    cases ha with
    | cons h1 h => cases h with
      | cons h2 h => cases h2 with
        | one h2 => cases h2 with
          | str _ h => exact h
  have AI : ∀ W : World, Calls Try.prog 9 #[inkV (t, k)] W fun e w' => e = .returned (.bool (okInked (t, k))) ∧ Below W.heap.size W w' := fun W => calls_bool (IsInked_ok (t, k)) (inr_all W) (vs := [inkV (t, k)]) (.cons (arg_ink lt lk) .nil)
  have AJ : ∀ W : World, Calls Try.prog 26 #[strV ink] W fun e w' => e = .returned (.bool (isInkB ink)) ∧ Below W.heap.size W w' := fun W => calls_bool (isInk_ok ink) (inr_all W) (vs := [strV ink]) (.cons (.one (.str _ li)) .nil)
  have q1 := alloc_below w (.cells #[strV t, strV k] 24)
  have e1 : BoxX (w.alloc (.cells #[strV t, strV k] 24)) w.heap.size (t, k) := heap_alloc_new w _
  cases ho : okInked (t, k) with
  | false =>
    have eS : formeA (t, k) ink = ([], false) := by rw [formeA, ho]; rfl
    rw [eS]
    rw [ho] at AI
    go_enter Try.func10, Try.ntmps10
    go_wp2_with (go_at_call 9; refine (AI _).mono ?_; rintro e w3 ⟨rfl, b3⟩; refine Hid.out ?_)
    refine Lib.hid ?_
    go_wp2
    go_ret2
    exact ⟨rfl, q1.trans (b3.mono q1.size)⟩
  | true =>
    rw [ho] at AI
    cases hj : isInkB ink with
    | false =>
      have eS : formeA (t, k) ink = ([], false) := by rw [formeA, ho, hj]; rfl
      rw [eS]
      rw [hj] at AJ
      go_enter Try.func10, Try.ntmps10
      go_wp2_with (go_at_call 9; refine (AI _).mono ?_; rintro e w3 ⟨rfl, b3⟩; refine Hid.out ?_)
      refine Lib.hid ?_
      go_wp2_with (go_at_call 26; refine (AJ _).mono ?_; rintro e w4 ⟨rfl, b4⟩; refine Hid.out ?_)
      refine Lib.hid ?_
      go_wp2
      go_ret2
      have q3 := q1.trans (b3.mono q1.size)
      exact ⟨rfl, q3.trans (b4.mono q3.size)⟩
    | true =>
      rw [hj] at AJ
      have xo := okInked_spec ho
      have xl := xo.len
      have xf := xo.few
      dsimp only at xl xf
      obtain ⟨ik, hik⟩ : ∃ ik, ink = [ik] := ⟨_, (isInk_head hj).1⟩
      obtain ⟨z, hz⟩ : ∃ z, z = zipU (foC ik) t k := ⟨_, rfl⟩
      have zl : z.length = t.length := by rw [hz, zipU_length _ xl]
      have eS : formeA (t, k) ink = (z, true) := by rw [formeA, ho, hj, hz, hik]; rfl
      rw [eS]
      have hi0 : ∀ W : World, (Instr.index 9 (strV ink) (.int .i64 0)).run Try.prog W = .ok (u8V ik) W := fun W => run_idx (l := ink) (i := 0) (by rw [hik]; rfl) W
      have HIK := Lib.hid hik
      have HZ := Lib.hid hz
      clear hik eS hz
      go_enter Try.func10, Try.ntmps10
      go_wp2_with (go_at_call 9; refine (AI _).mono ?_; rintro e w3 ⟨rfl, b3⟩; refine Hid.out ?_)
      refine Lib.hid ?_
      go_wp2_with (go_at_call 26; refine (AJ _).mono ?_; rintro e w4 ⟨rfl, b4⟩; refine Hid.out ?_)
      refine Lib.hid ?_
      have q3 := q1.trans (b3.mono q1.size)
      have q4 := q3.trans (b4.mono q3.size)
      have e3 := e1.keep (b3.block _ e1.lt)
      have e4 := e3.keep (b4.block _ e3.lt)
      have l4 := e4.lt
      obtain ⟨x0, x1⟩ := e4.cells
      have hcv := run_bytesW w4 t
      go_wp2
      have rB := bytesW_row w4 t
      have b5 := bytesW_below w4 t
      have q5 := q4.trans (b5.mono q4.size)
      have e5 := e4.keep (b5.block _ e4.lt)
      clear hcv x0 x1 e3 b3 b4 q3 e1 q1 e4 b5 q4
      generalize bytesW w4 t = w5 at rB q5 e5
      generalize w4.heap.size = g at rB l4
      go_loopw [21] (fun u wr => ∃ i : Nat, u = .int .i64 (i : Int) ∧ i ≤ t.length ∧ RowB wr g (ovU z t i) ∧ BoxX wr w.heap.size (t, k) ∧ Below w.heap.size w wr) (fun u _ => t.length - (intOf u).toNat)
      case atStart => exact ⟨0, rfl, Nat.zero_le _, rB, e5, q5⟩
      case round =>
        obtain ⟨i, rfl, hi, hR, hX, hB⟩ := hrel
        obtain ⟨x0, x1⟩ := hX.cells
        have hol := ovU_length (z := z) (x := t) i zl
        by_cases hin : i < t.length
        · obtain ⟨a, hA⟩ : ∃ a, t[i]? = some a := ⟨_, List.getElem?_eq_getElem hin⟩
          obtain ⟨c, hc⟩ : ∃ c, k[i]? = some c := ⟨_, List.getElem?_eq_getElem (by omega)⟩
          have hza : z[i]? = some (foC ik a c) := by rw [HZ.out]; exact zipU_at _ hA hc
          have ca := hR.cell (i := i) (x := a) (by rw [ovU_at zl (Nat.le_refl _)]; exact hA)
          have fa := hR.free (i := i) (by omega)
          have hix := run_idx hc
          have hset := ovU_set hza zl
          have hkeep := fun e : foC ik a c = a => ovU_keep (e ▸ hza) hA zl
          have HS := Lib.hid hset
          clear hset
          by_cases hci : (c.toNat : Int) = ik.toNat
          · have hk2 := hkeep (if_pos hci)
            rw [hk2] at hR
            have hq : ((c.toNat : Int) == (ik.toNat : Int)) = true := by simpa using hci
            clear hkeep hk2
            go_wp2
            go_region
            all_goals go_wp2
            all_goals first | exact ⟨⟨i + 1, rfl, by omega, hR, hX, hB⟩, by simp only [intOf]; omega⟩ | exact ⟨⟨i + 1, rfl, by omega, hR, hX, hB.drew⟩, by simp only [intOf]; omega⟩
          · have e32 : foC ik a c = 32 := if_neg hci
            have hR2 := hR.set (i := i) (by omega) 32
            rw [e32] at HS
            rw [HS.out] at hR2
            clear hkeep
            go_wp2
            go_region
            all_goals go_wp2
            have hX2 : BoxX (wr.setCell ⟨g, i, none⟩ (u8V 32)) w.heap.size (t, k) := hX.keep ((set_below (B := g) _ (Nat.le_refl _)).block _ (by omega))
            have hB2 : Below w.heap.size w (wr.setCell ⟨g, i, none⟩ (u8V 32)) := hB.trans (set_below _ (by omega))
            all_goals first | exact ⟨⟨i + 1, rfl, by omega, hR2, hX2, hB2⟩, by simp only [intOf]; omega⟩ | exact ⟨⟨i + 1, rfl, by omega, hR2, hX2, hB2.drew⟩, by simp only [intOf]; omega⟩
        · obtain rfl : i = t.length := by omega
          rw [ovU_end (by omega) (Nat.le_refl _)] at hR
          have hstr := fun cap => hR.string t.length cap zl.symm
          go_wp2
          go_ret2
          exact ⟨rfl, hB⟩
end Go.Proofs.Ytjohfigipllpoaa.Ai
