/- impl.LayFormes and impl.ParseInked, by the kit's walk. -/
import Derived.Test.YtjohfigipllpoaaInkK
namespace Go.Proofs.Ytjohfigipllpoaa.Ai
open Go Go.Proofs Go.RowKit
set_option linter.unusedSimpArgs false
set_option linter.unusedVariables false
theorem OwnB.upd {S : Nat → Prop} {w w' : World} {B : Nat} {v : Value} {o : List UInt8} (h : OwnB w B v o) (hu : Upd S w w') (hS : ∀ k, S k → k < B) : OwnB w' B v o := by
  obtain ⟨h1, h2⟩ := h
  refine ⟨h1, ?_⟩
  rcases h2 with h2 | ⟨g, cap, cur, hv, hg, hh, r⟩
  · exact .inl h2
  · exact .inr ⟨g, cap, cur, hv, hg, by rw [hu.block g (Array.getElem?_eq_some_iff.1 hh).1 fun hs => by have := hS g hs; omega]; exact hh, r⟩
theorem OwnB.string {w : World} {B : Nat} {v : Value} {l : List UInt8} (h : OwnB w B v l) : ∃ a c, v = .slice a l.length c ∧ (convert 22 9 (.slice a l.length c)).run Try.prog w = .ok (.string ⟨l.toArray⟩) w := by
  by_cases hl : l = []
  · subst hl
    obtain ⟨-, ⟨rfl, h0⟩ | ⟨g, cap, cur, rfl, hb, hg, h1, h2, h3, h4⟩⟩ := h
    · refine ⟨none, 0, rfl, ?_⟩
      rw [run_convert_bytes_string w _ _ _ none _ 0 Try.underlying22 Try.underlying5 Try.underlying9]
      rfl
    · refine ⟨_, cap, rfl, ?_⟩
      exact run_convert_bytes_back w _ _ _ ⟨g, 0, none⟩ cap [] Try.underlying22 Try.underlying5 Try.underlying9 (fun j hj => absurd hj (Nat.not_lt_zero _))
  · obtain ⟨g, c, rfl, hr, -⟩ := h.rowB hl
    exact ⟨_, c, rfl, hr.string _ c rfl⟩
theorem new_cell8 (w : World) (b : UInt8) : ∀ j x, ([u8V b] : List Value)[j]? = some x → (w.alloc (.cells #[u8V b] 5)).cell? ((⟨w.heap.size, 0, none⟩ : Addr).add j) = some x := by
  intro j x hj
  match j, hj with
  | 0, hj => simp at hj; subst hj; simp [Addr.add]
theorem new_cell8' (w : World) (b : UInt8) (n : Nat) (hn : n = w.heap.size) : ∀ j x, ([u8V b] : List Value)[j]? = some x → (w.alloc (.cells #[u8V b] 5)).cell? ((⟨n, 0, none⟩ : Addr).add j) = some x := by
  subst hn; exact new_cell8 w b
theorem new_one8 (b : UInt8) : ∀ u ∈ ([u8V b] : List Value), u.oneCell' = true := by
  intro u hu; simp at hu; subst hu; rfl
theorem own_next8 {w : World} {B : Nat} {v : Value} {o : List UInt8} {j : UInt8} (h : w.ownsRow B 5 1 v (o.length + 1) (o.map u8V ++ [u8V j])) : OwnB w B v (o ++ [j]) := by
  unfold OwnB
  rw [List.length_append, List.map_append]; exact h
theorem OwnB.below {w w' : World} {B : Nat} {v : Value} {o : List UInt8} (h : OwnB w B v o) (hu : Below w.heap.size w w') : OwnB w' B v o := h.upd (Upd.of (S := fun _ => False) hu) fun _ h => h.elim
theorem OwnB.set_low {w : World} {B g i : Nat} {v : Value} {o : List UInt8} (u : Value) (h : OwnB w B v o) (hg : g < B) : OwnB (w.setCell ⟨g, i, none⟩ u) B v o :=
  h.upd (S := (· = g)) ⟨rfl, rfl, rfl, by simp [World.setCell], fun k _ hk => heap_setCell_other w ⟨g, i, none⟩ k u hk⟩ fun k e => by subst e; exact hg
theorem size_mk (l : List UInt8) : (⟨l.toArray⟩ : ByteArray).size = l.length := by simp [ByteArray.size]
theorem zip_take {f : UInt8 → UInt8 → UInt8} {s r z : List UInt8} {i : Nat} {x k y : UInt8} (hz : z = zipU f s r) (hx : s[i]? = some x) (hk : r[i]? = some k) (hy : f x k = y) : z.take (i + 1) = z.take i ++ [y] := by
  rw [List.take_add_one, hz, zipU_at f hx hk, hy]; rfl
theorem map_take {f : UInt8 → UInt8} {s z : List UInt8} {i : Nat} {x y : UInt8} (hz : z = s.map f) (hx : s[i]? = some x) (hy : f x = y) : z.take (i + 1) = z.take i ++ [y] := by
  rw [List.take_add_one, hz, List.getElem?_map, hx, ← hy]; rfl
set_option maxHeartbeats 4000000 in
set_option maxRecDepth 1000000 in
theorem lay_walk (black red : List UInt8) (w : World) (I : Nat → Prop) (hI : InR w I) (ha : All2 (RepArg w I) [.str black, .str red] [strV black, strV red]) :
    Calls Try.prog 11 #[strV black, strV red] w fun e w' => e = .returned (.tuple #[inkV (layA black red).1, .bool (layA black red).2]) ∧ Below w.heap.size w w' := by
  obtain ⟨lb_, lr⟩ : black.length ≤ maxLen ∧ red.length ≤ maxLen := by
    cases ha with
    | cons h1 h => cases h with
      | cons h2 h => cases h1 with
        | one h1 => cases h1 with
          | str _ h1 => cases h2 with
            | one h2 => cases h2 with
              | str _ h2 => exact ⟨h1, h2⟩
  have AP : ∀ (s : List UInt8) (W : World), s.length ≤ maxLen → Calls Try.prog 25 #[strV s, .int .i64 0, .int .i64 30] W fun e w' => e = .returned (.bool (formeB s)) ∧ Below W.heap.size W w' := fun s W hs => calls_bool (isPlainText_ok s 0 30) (inr_all W) (vs := [strV s, .int .i64 0, .int .i64 30]) (.cons (.one (.str _ hs)) (.cons (.one (.int _ _ (by decide))) (.cons (.one (.int _ _ (by decide))) .nil)))
  have AB := fun W => AP black W lb_
  have AR := fun W => AP red W lr
  clear AP
  have q1 := alloc_below w (.cells #[.string ⟨#[]⟩, .string ⟨#[]⟩] 24)
  have r1 : ZeroX (w.alloc (.cells #[.string ⟨#[]⟩, .string ⟨#[]⟩] 24)) w.heap.size := heap_alloc_new w _
  have sb := size_mk black
  have sr := size_mk red
  cases hb : formeB black with
  | false =>
    have eS : layA black red = (([], []), false) := by rw [layA, hb]; rfl
    rw [eS]
    rw [hb] at AB
    go_enter Try.func11, Try.ntmps11
    go_wp2_with (go_at_call 25; refine (AB _).mono ?_; rintro e w3 ⟨rfl, b3⟩; refine Hid.out ?_)
    refine Lib.hid ?_
    have q3 := q1.trans (b3.mono q1.size)
    have r3 := r1.keep (b3.block _ r1.lt)
    obtain ⟨⟨c0, c1⟩, c2, c3⟩ := r3.facts
    go_wp2
    try simp only [Exit.inBlock, Exit.then]
    refine ret_cell (p := 4) (u := 5) rfl rfl rfl rfl (r3.store ([], [])) ?_
    exact ⟨rfl, q3.trans (store_below ([], []) (Nat.le_refl _))⟩
  | true =>
    rw [hb] at AB
    cases hr : formeB red with
    | false =>
      have eS : layA black red = (([], []), false) := by rw [layA, hb, hr]; rfl
      rw [eS]
      rw [hr] at AR
      go_enter Try.func11, Try.ntmps11
      go_wp2_with (go_at_call 25; refine (AB _).mono ?_; rintro e w3 ⟨rfl, b3⟩; refine Hid.out ?_)
      refine Lib.hid ?_
      go_wp2_with (go_at_call 25; refine (AR _).mono ?_; rintro e w4 ⟨rfl, b4⟩; refine Hid.out ?_)
      refine Lib.hid ?_
      have q3 := q1.trans (b3.mono q1.size)
      have q4 := q3.trans (b4.mono q3.size)
      have r3 := r1.keep (b3.block _ r1.lt)
      have r4 := r3.keep (b4.block _ r3.lt)
      obtain ⟨⟨c0, c1⟩, c2, c3⟩ := r4.facts
      go_wp2
      try simp only [Exit.inBlock, Exit.then]
      refine ret_cell (p := 4) (u := 5) rfl rfl rfl rfl (r4.store ([], [])) ?_
      exact ⟨rfl, q4.trans (store_below ([], []) (Nat.le_refl _))⟩
    | true =>
      rw [hr] at AR
      by_cases hl : black.length = red.length
      · obtain ⟨-, f1⟩ := form_spec hb
        obtain ⟨z1, hz1⟩ : ∃ z, z = zipU laT black red := ⟨_, rfl⟩
        obtain ⟨z2, hz2⟩ : ∃ z, z = zipU laK black red := ⟨_, rfl⟩
        have zl1 : z1.length = black.length := by rw [hz1, zipU_length _ hl.symm]
        have zl2 : z2.length = black.length := by rw [hz2, zipU_length _ hl.symm]
        have eS : layA black red = if apartB black red then ((z1, z2), true) else (([], []), false) := by
          rw [layA, hb, hr, decide_eq_true hl, hz1, hz2]; rfl
        have hAy := fun e : apartB black red = true => eS.trans (if_pos e)
        have hAn := fun e : apartB black red = false => eS.trans (if_neg (by rw [e]; decide))
        generalize layA black red = A at hAy hAn
        have HAy := Lib.hid hAy
        have HAn := Lib.hid hAn
        clear hAy hAn
        have HZ1 := Lib.hid hz1
        have HZ2 := Lib.hid hz2
        obtain ⟨i0, z0, hi0, hz0, -, hz1', hz2', hz3, -⟩ := run_zeroValue (envOk 5 _ rfl)
        replace hz1' : i0.size = 1 := hz1'
        replace hz2' : i0.bytes = 1 := hz2'
        replace hz3 : z0.cells.size = 1 := hz3
        clear eS hz1 hz2
        have hbe : ((black.length : Int) != (red.length : Int)) = false := by rw [hl]; simp
        have HL := Lib.hid hl
        have hl2 : ((⟨red.toArray⟩ : ByteArray).size : Int) = ((⟨black.toArray⟩ : ByteArray).size : Int) := by rw [sb, sr, hl]
        clear hl
        go_enter Try.func11, Try.ntmps11
        go_wp2_with (go_at_call 25; refine (AB _).mono ?_; rintro e w3 ⟨rfl, b3⟩; refine Hid.out ?_)
        refine Lib.hid ?_
        go_wp2_with (go_at_call 25; refine (AR _).mono ?_; rintro e w4 ⟨rfl, b4⟩; refine Hid.out ?_)
        refine Lib.hid ?_
        have q3 := q1.trans (b3.mono q1.size)
        have q4 := q3.trans (b4.mono q3.size)
        have r3 := r1.keep (b3.block _ r1.lt)
        have r4 := r3.keep (b4.block _ r3.lt)
        have l4 := r4.lt
        have hcv := run_bytesW w4 black
        go_wp2
        have rB := bytesW_row w4 black
        have b5 := bytesW_below w4 black
        have q5 := q4.trans (b5.mono q4.size)
        have r5 := r4.keep (b5.block _ r4.lt)
        clear hcv r3 b3 b4 q3 r4 b5 q4
        generalize bytesW w4 black = w5 at rB q5 r5
        generalize w4.heap.size = g at rB l4
        have b6 := alloc_below w5 (.cells #[] 5)
        have o6 := OwnB.new w5 (B := w5.heap.size) (Nat.le_refl _)
        have R6 := rB.below b6
        have r6 := r5.keep (b6.block _ r5.lt)
        have q6 := q5.trans (b6.mono q5.size)
        have glt : g < w5.heap.size := rB.lt
        have hk6 := b6.size
        generalize w5.alloc (.cells #[] 5) = w6 at o6 R6 r6 q6 hk6
        generalize w5.heap.size = kB at o6 glt hk6
        clear rB r5 q5 b6
        have f1' := f1
        go_loopw [7, 30] (fun v u wr => ∃ i : Nat, u = .int .i64 (i : Int) ∧ i ≤ black.length ∧ RowB wr g (ovU z1 black i) ∧ OwnB wr kB v (z2.take i) ∧ apartB black red = apartB (black.drop i) (red.drop i) ∧ ZeroX wr w.heap.size ∧ kB ≤ wr.heap.size ∧ Below w.heap.size w wr) (fun _ u _ => black.length - (intOf u).toNat)
        case atStart => exact ⟨0, rfl, Nat.zero_le _, R6, o6, rfl, r6, hk6, q6⟩
        case round =>
          obtain ⟨i, rfl, hi, hR, hO, hap, hZ, hkB, hB⟩ := hrel
          have HAP := Lib.hid hap
          clear hap
          have hol := ovU_length (z := z1) (x := black) i zl1
          by_cases hin : i < black.length
          · obtain ⟨a, hA⟩ : ∃ a, black[i]? = some a := ⟨_, List.getElem?_eq_getElem hin⟩
            obtain ⟨c, hC⟩ : ∃ c, red[i]? = some c := ⟨_, List.getElem?_eq_getElem (by have := HL.out; omega)⟩
            have hza : z1[i]? = some (laT a c) := by rw [HZ1.out]; exact zipU_at _ hA hC
            have HS := Lib.hid (ovU_set hza zl1)
            have hixC := run_idx hC
            have hixA := run_idx hA
            have htl : (z2.take i).length ≤ 30 := Nat.le_trans (List.length_take_le _ _) (by omega)
            have k3 : (z2.take i).length + 1 ≤ maxLen := by unfold maxLen; omega
            have k4 : ((z2.take i).length + 1) * 1 ≤ 140737488355328 := by omega
            by_cases h32 : (c.toNat : Int) = 32
            · have htk := Lib.hid (zip_take HZ2.out hA hC (show laK a c = 98 from if_pos h32))
              have hkeep := Lib.hid (ovU_keep ((show laT a c = a from if_pos h32) ▸ hza) hA zl1)
              have hap2 : apartB black red = apartB (black.drop (i + 1)) (red.drop (i + 1)) := by rw [HAP.out, apart_drop hA hC, decide_eq_true h32, Bool.true_or, Bool.true_and]
              have HAP2 := Lib.hid hap2
              clear hza hixA hap2
              have b5 := alloc_below wr (.cells #[u8V 98] 5)
              have hs2 : kB ≤ wr.heap.size := hkB
              go_wp2_with (at_builtin; refine wpList_append_own _ rfl _ _ 22 rfl kB 5 i0 z0 1 1 Try.underlying22 hi0 hz0 hz1' hz2' hz3 (by decide) _ _ _ rfl (hO.alloc _) ⟨_, 0, none⟩ 1 1 [u8V 98] rfl rfl (new_cell8 _ _) (new_one8 _) k3 k4 (Nat.le_trans hs2 b5.size) ?_; intro v6 w9 h6 g6 _; refine Hid.out ?_)
              all_goals try (exfalso; omega)
              refine Lib.hid ?_
              go_wp2
              have b9 : Below kB wr w9 := ((b5.mono hs2).grown g6 (Nat.le_trans hs2 b5.size) (fun k hk => (World.ownsRow.lt hO k hk).1))
              have R9 := hR.keep (b9.block g glt)
              rw [hkeep.out] at R9
              have o9 := own_next8 h6
              rw [← htk.out] at o9
              go_roundw
              case rel => exact ⟨i + 1, by simp, by omega, R9, o9, HAP2.out, hZ.keep (b9.block _ (by omega)), Nat.le_trans hkB b9.size, hB.trans (b9.mono (by omega))⟩
              case measure => simp only [intOf]; omega
            · by_cases hA32 : (a.toNat : Int) = 32
              · have e1 : laT a c = c := if_neg h32
                have htk := Lib.hid (zip_take HZ2.out hA hC (show laK a c = 114 from if_neg h32))
                have ca := hR.cell (i := i) (x := a) (by rw [ovU_at zl1 (Nat.le_refl _)]; exact hA)
                have fa := hR.free (i := i) (by omega)
                have hR2 := hR.set (i := i) (by omega) (laT a c)
                rw [HS.out, e1] at hR2
                have hO2 := hO.set_low (g := g) (i := i) (u8V c) glt
                have hap2 : apartB black red = apartB (black.drop (i + 1)) (red.drop (i + 1)) := by rw [HAP.out, apart_drop hA hC, decide_eq_true hA32, Bool.or_true, Bool.true_and]
                have HAP2 := Lib.hid hap2
                have hZ2 := hZ.keep ((set_below (w := wr) (B := g) (g := g) (i := i) (u8V c) (Nat.le_refl _)).block _ (by omega))
                have hB2 := hB.trans (set_below (w := wr) (g := g) (i := i) (u8V c) (by omega))
                have hkB2 : kB ≤ (wr.setCell ⟨g, i, none⟩ (u8V c)).heap.size := by rw [setCell_size]; exact hkB
                clear hza hap2 e1
                have b5 := alloc_below (wr.setCell ⟨g, i, none⟩ (u8V c)) (.cells #[u8V 114] 5)
                have hs2 : kB ≤ (wr.setCell ⟨g, i, none⟩ (u8V c)).heap.size := hkB2
                go_wp2_with (at_builtin; refine wpList_append_own _ rfl _ _ 22 rfl kB 5 i0 z0 1 1 Try.underlying22 hi0 hz0 hz1' hz2' hz3 (by decide) _ _ _ rfl (hO2.alloc _) ⟨_, 0, none⟩ 1 1 [u8V 114] rfl rfl (new_cell8' _ _ _ (setCell_size wr ⟨g, i, none⟩ (u8V c)).symm) (new_one8 _) k3 k4 (Nat.le_trans hs2 b5.size) ?_; intro v6 w9 h6 g6 _; refine Hid.out ?_)
                all_goals try (exfalso; omega)
                refine Lib.hid ?_
                go_wp2
                have b9 : Below kB (wr.setCell ⟨g, i, none⟩ (u8V c)) w9 := ((b5.mono hs2).grown g6 (Nat.le_trans hs2 b5.size) (fun k hk => (World.ownsRow.lt hO2 k hk).1))
                have R9 := hR2.keep (b9.block g glt)
                have o9 := own_next8 h6
                rw [← htk.out] at o9
                go_roundw
                case rel => exact ⟨i + 1, by simp, by omega, R9, o9, HAP2.out, hZ2.keep (b9.block _ (by omega)), Nat.le_trans hkB2 b9.size, hB2.trans (b9.mono (by omega))⟩
                case measure => simp only [intOf]; omega
              · have hno : apartB black red = false := by rw [HAP.out, apart_drop hA hC, decide_eq_false h32, decide_eq_false hA32]; rfl
                obtain ⟨⟨c0, c1⟩, c2, c3⟩ := hZ.facts
                clear hza
                go_wp2
                try simp only [Exit.inBlock, Exit.then]
                refine ret_cell (p := 4) (u := 5) rfl rfl rfl rfl (hZ.store ([], [])) ?_
                rw [HAn.out hno]
                exact ⟨rfl, hB.trans (store_below ([], []) (Nat.le_refl _))⟩
          · obtain rfl : i = black.length := by omega
            rw [ovU_end (by omega) (Nat.le_refl _)] at hR
            rw [List.take_of_length_le (by omega)] at hO
            have hyes : apartB black red = true := by rw [HAP.out, apart_end (Nat.le_refl _)]
            have hstr := fun cap => hR.string black.length cap zl1.symm
            obtain ⟨va, vc, rfl, hst2⟩ := hO.string
            rw [zl2] at hst2 ⊢
            obtain ⟨⟨c0, c1⟩, c2, c3⟩ := hZ.facts
            have HY := Lib.hid hyes
            clear hyes zl1 zl2
            go_wp2
            try simp only [Exit.inBlock, Exit.then]
            refine ret_cell (p := 4) (u := 5) rfl rfl rfl rfl (hZ.store (z1, z2)) ?_
            rw [HAy.out HY.out]
            exact ⟨rfl, hB.trans (store_below (z1, z2) (Nat.le_refl _))⟩
      · have eS : layA black red = (([], []), false) := by rw [layA, hb, hr, decide_eq_false hl]; rfl
        rw [eS]
        go_enter Try.func11, Try.ntmps11
        go_wp2_with (go_at_call 25; refine (AB _).mono ?_; rintro e w3 ⟨rfl, b3⟩; refine Hid.out ?_)
        refine Lib.hid ?_
        go_wp2_with (go_at_call 25; refine (AR _).mono ?_; rintro e w4 ⟨rfl, b4⟩; refine Hid.out ?_)
        refine Lib.hid ?_
        have q3 := q1.trans (b3.mono q1.size)
        have q4 := q3.trans (b4.mono q3.size)
        have r3 := r1.keep (b3.block _ r1.lt)
        have r4 := r3.keep (b4.block _ r3.lt)
        obtain ⟨⟨c0, c1⟩, c2, c3⟩ := r4.facts
        have hne : ¬ (black.length : Int) = (red.length : Int) := by omega
        go_wp2
        all_goals try (exfalso; omega)
        try simp only [Exit.inBlock, Exit.then]
        refine ret_cell (p := 4) (u := 5) rfl rfl rfl rfl (r4.store ([], [])) ?_
        exact ⟨rfl, q4.trans (store_below ([], []) (Nat.le_refl _))⟩
theorem str_arg {w : World} {I : Nat → Prop} {s : List UInt8} {v : Value} (h : RepArg w I (.str s) v) : v = strV s ∧ s.length ≤ maxLen := by
  cases h with
  | one h => cases h with
    | str _ h => exact ⟨rfl, h⟩
theorem LayFormes_ok (black red : List UInt8) : OkA Try.prog 11 [.str black, .str red] (· = inkR (layA black red)) := by
  refine ⟨⟨_, Try.func11, rfl, rfl⟩, fun w I vs hI hargs => ?_⟩
  obtain ⟨rfl, hl1, hl2⟩ : vs = [strV black, strV red] ∧ black.length ≤ maxLen ∧ red.length ≤ maxLen := by
    cases hargs with
    | cons h1 t => cases t with
      | cons h2 t =>
        cases t
        obtain ⟨rfl, a⟩ := str_arg h1
        obtain ⟨rfl, b⟩ := str_arg h2
        exact ⟨rfl, a, b⟩
  refine (lay_walk black red w I hI hargs).mono ?_
  rintro e w' ⟨rfl, hbl⟩
  have key : (layA black red).1.1.length ≤ maxLen ∧ (layA black red).1.2.length ≤ maxLen := by
    unfold layA
    split
    · rename_i h
      rw [Bool.and_eq_true, Bool.and_eq_true, Bool.and_eq_true] at h
      have e := of_decide_eq_true h.2.1
      constructor
      · show (zipU laT black red).length ≤ maxLen
        rw [zipU_length _ e.symm]; exact hl1
      · show (zipU laK black red).length ≤ maxLen
        rw [zipU_length _ e.symm]; exact hl1
    · exact ⟨Nat.zero_le _, Nat.zero_le _⟩
  exact ink_res key.1 key.2 hbl
set_option maxHeartbeats 4000000 in
set_option maxRecDepth 1000000 in
theorem parse_walk (s : List UInt8) (hs : s.length ≤ 1000) (w : World) :
    Calls Try.prog 12 #[strV s] w fun e w' => e = .returned (.tuple #[inkV (readA s).1, .bool (readA s).2]) ∧ Below w.heap.size w w' := by
  obtain ⟨z1, hz1⟩ : ∃ z, z = s.map loC := ⟨_, rfl⟩
  obtain ⟨z2, hz2⟩ : ∃ z, z = s.map kiC := ⟨_, rfl⟩
  have zl1 : z1.length = s.length := by rw [hz1, List.length_map]
  have zl2 : z2.length = s.length := by rw [hz2, List.length_map]
  have hmx : z1.length ≤ maxLen ∧ z2.length ≤ maxLen := by unfold maxLen; omega
  have AI : ∀ W : World, Calls Try.prog 9 #[inkV (z1, z2)] W fun e w' => e = .returned (.bool (okInked (z1, z2))) ∧ Below W.heap.size W w' := fun W => calls_bool (IsInked_ok (z1, z2)) (inr_all W) (vs := [inkV (z1, z2)]) (.cons (arg_ink hmx.1 hmx.2) .nil)
  have hAy : okInked (z1, z2) = true → readA s = ((z1, z2), true) := fun e => by unfold readA readF; rw [← hz1, ← hz2, if_pos e]
  have hAn : okInked (z1, z2) = false → readA s = (([], []), false) := fun e => by unfold readA readF; rw [← hz1, ← hz2, if_neg (by rw [e]; decide)]
  generalize readA s = A at hAy hAn
  have HAy := Lib.hid hAy
  have HAn := Lib.hid hAn
  have HZ1 := Lib.hid hz1
  have HZ2 := Lib.hid hz2
  clear hAy hAn hz1 hz2
  have q1 := alloc_below w (.cells #[.string ⟨#[]⟩, .string ⟨#[]⟩] 24)
  have r1 : ZeroX (w.alloc (.cells #[.string ⟨#[]⟩, .string ⟨#[]⟩] 24)) w.heap.size := heap_alloc_new w _
  obtain ⟨i0, z0, hi0, hz0, -, hz1', hz2', hz3, -⟩ := run_zeroValue (envOk 5 _ rfl)
  replace hz1' : i0.size = 1 := hz1'
  replace hz2' : i0.bytes = 1 := hz2'
  replace hz3 : z0.cells.size = 1 := hz3
  have hcv := run_bytesW (w.alloc (.cells #[.string ⟨#[]⟩, .string ⟨#[]⟩] 24)) s
  go_enter Try.func12, Try.ntmps12
  go_wp2
  have rB := bytesW_row (w.alloc (.cells #[.string ⟨#[]⟩, .string ⟨#[]⟩] 24)) s
  have b5 := bytesW_below (w.alloc (.cells #[.string ⟨#[]⟩, .string ⟨#[]⟩] 24)) s
  have q5 := q1.trans (b5.mono q1.size)
  have r5 := r1.keep (b5.block _ r1.lt)
  have z4 : (w.alloc (.cells #[.string ⟨#[]⟩, .string ⟨#[]⟩] 24)).heap.size = w.heap.size + 1 := Array.size_push _
  rw [z4] at rB
  clear hcv r1 b5 q1 z4
  generalize bytesW (w.alloc (.cells #[.string ⟨#[]⟩, .string ⟨#[]⟩] 24)) s = w5 at rB q5 r5
  have b6 := alloc_below w5 (.cells #[] 5)
  have o6 := OwnB.new w5 (B := w5.heap.size) (Nat.le_refl _)
  have R6 := rB.below b6
  have r6 := r5.keep (b6.block _ r5.lt)
  have q6 := q5.trans (b6.mono q5.size)
  have glt : w.heap.size + 1 < w5.heap.size := rB.lt
  have hk6 := b6.size
  generalize w5.alloc (.cells #[] 5) = w6 at o6 R6 r6 q6 hk6
  generalize w5.heap.size = kB at o6 glt hk6
  clear rB r5 q5 b6
  go_loopw [5, 14] (fun v u wr => ∃ i : Nat, u = .int .i64 (i : Int) ∧ i ≤ s.length ∧ RowB wr (w.heap.size + 1) (ovU z1 s i) ∧ OwnB wr kB v (z2.take i) ∧ ZeroX wr w.heap.size ∧ kB ≤ wr.heap.size ∧ Below w.heap.size w wr) (fun _ u _ => s.length - (intOf u).toNat)
  case atStart => exact ⟨0, rfl, Nat.zero_le _, R6, o6, r6, hk6, q6⟩
  case round =>
    obtain ⟨i, rfl, hi, hR, hO, hZ, hkB, hB⟩ := hrel
    have hol := ovU_length (z := z1) (x := s) i zl1
    by_cases hin : i < s.length
    · obtain ⟨c, hC⟩ : ∃ c, s[i]? = some c := ⟨_, List.getElem?_eq_getElem hin⟩
      have hza : z1[i]? = some (loC c) := by rw [HZ1.out, List.getElem?_map, hC]; rfl
      have HS := Lib.hid (ovU_set hza zl1)
      have ca := hR.cell (i := i) (x := c) (by rw [ovU_at zl1 (Nat.le_refl _)]; exact hC)
      have fa := hR.free (i := i) (by omega)
      have htl : (z2.take i).length ≤ 1000 := Nat.le_trans (List.length_take_le _ _) (by omega)
      have k3 : (z2.take i).length + 1 ≤ maxLen := by unfold maxLen; omega
      have k4 : ((z2.take i).length + 1) * 1 ≤ 140737488355328 := by omega
      by_cases hup : 65 ≤ (c.toNat : Int) ∧ (c.toNat : Int) ≤ 90
      · obtain ⟨e1, e2⟩ := up_yes hup
        have e8 : IntKind.u8.wrap ((c.toNat : Int) + 32) = ((c + 32).toNat : Int) := by
          rw [wrap8 (by omega), UInt8.toNat_add]
          have e : (32 : UInt8).toNat = 32 := rfl
          omega
        obtain ⟨hu1, hu2⟩ := hup
        have htk := Lib.hid (map_take HZ2.out hC e2)
        have hR2 := hR.set (i := i) (by omega) (loC c)
        rw [HS.out, e1] at hR2
        have hO2 := hO.set_low (g := w.heap.size + 1) (i := i) (u8V (c + 32)) glt
        have hZ2 := hZ.keep ((set_below (w := wr) (B := w.heap.size + 1) (g := w.heap.size + 1) (i := i) (u8V (c + 32)) (Nat.le_refl _)).block _ (by omega))
        have hB2 := hB.trans (set_below (w := wr) (g := w.heap.size + 1) (i := i) (u8V (c + 32)) (by omega))
        have hkB2 : kB ≤ (wr.setCell ⟨w.heap.size + 1, i, none⟩ (u8V (c + 32))).heap.size := by rw [setCell_size]; exact hkB
        clear hza e1 e2
        have b5 := alloc_below (wr.setCell ⟨w.heap.size + 1, i, none⟩ (u8V (c + 32))) (.cells #[u8V 114] 5)
        have hs2 : kB ≤ (wr.setCell ⟨w.heap.size + 1, i, none⟩ (u8V (c + 32))).heap.size := hkB2
        go_wp2_with (at_builtin; refine wpList_append_own _ rfl _ _ 22 rfl kB 5 i0 z0 1 1 Try.underlying22 hi0 hz0 hz1' hz2' hz3 (by decide) _ _ _ rfl (hO2.alloc _) ⟨_, 0, none⟩ 1 1 [u8V 114] rfl rfl (new_cell8' _ _ _ (setCell_size wr ⟨w.heap.size + 1, i, none⟩ (u8V (c + 32))).symm) (new_one8 _) k3 k4 (Nat.le_trans hs2 b5.size) ?_; intro v6 w9 h6 g6 _; refine Hid.out ?_)
        all_goals try (exfalso; omega)
        refine Lib.hid ?_
        go_wp2
        have b9 : Below kB (wr.setCell ⟨w.heap.size + 1, i, none⟩ (u8V (c + 32))) w9 := ((b5.mono hs2).grown g6 (Nat.le_trans hs2 b5.size) (fun k hk => (World.ownsRow.lt hO2 k hk).1))
        have R9 := hR2.keep (b9.block _ glt)
        have o9 := own_next8 h6
        rw [← htk.out] at o9
        go_roundw
        case rel => exact ⟨i + 1, by simp, by omega, R9, o9, hZ2.keep (b9.block _ (by omega)), Nat.le_trans hkB2 b9.size, hB2.trans (b9.mono (by omega))⟩
        case measure => simp only [intOf]; omega
      · obtain ⟨e1, e2⟩ := up_no hup
        have htk := Lib.hid (map_take HZ2.out hC e2)
        have hkeep := Lib.hid (ovU_keep (e1 ▸ hza) hC zl1)
        clear hza e1 e2
        have b5 := alloc_below wr (.cells #[u8V 98] 5)
        have hs2 : kB ≤ wr.heap.size := hkB
        have fin : ∀ (v6 : Value) (w9 : World), w9.ownsRow kB 5 1 v6 ((z2.take i).length + 1) ((z2.take i).map u8V ++ [u8V 98]) → (wr.alloc (.cells #[u8V 98] 5)).grownBy w9 u5.ownBlock → (∃ j : Nat, Value.int .i64 ((i : Int) + 1) = .int .i64 (j : Int) ∧ j ≤ s.length ∧ RowB w9 (w.heap.size + 1) (ovU z1 s j) ∧ OwnB w9 kB v6 (z2.take j) ∧ ZeroX w9 w.heap.size ∧ kB ≤ w9.heap.size ∧ Below w.heap.size w w9) := fun v6 w9 h6 g6 => by
          have b9 : Below kB wr w9 := ((b5.mono hs2).grown g6 (Nat.le_trans hs2 b5.size) (fun k hk => (World.ownsRow.lt hO k hk).1))
          have R9 := hR.keep (b9.block _ glt)
          rw [hkeep.out] at R9
          have o9 := own_next8 h6
          rw [← htk.out] at o9
          exact ⟨i + 1, by simp, by omega, R9, o9, hZ.keep (b9.block _ (by omega)), Nat.le_trans hkB b9.size, hB.trans (b9.mono (by omega))⟩
        by_cases h65 : 65 ≤ (c.toNat : Int)
        · have h90 : ¬ (c.toNat : Int) ≤ 90 := fun h => hup ⟨h65, h⟩
          clear hup
          go_wp2_with (at_builtin; refine wpList_append_own _ rfl _ _ 22 rfl kB 5 i0 z0 1 1 Try.underlying22 hi0 hz0 hz1' hz2' hz3 (by decide) _ _ _ rfl (hO.alloc _) ⟨_, 0, none⟩ 1 1 [u8V 98] rfl rfl (new_cell8 _ _) (new_one8 _) k3 k4 (Nat.le_trans hs2 b5.size) ?_; intro v6 w9 h6 g6 _; refine Hid.out ?_)
          all_goals try (exfalso; omega)
          refine Lib.hid ?_
          go_wp2
          go_roundw
          case rel => exact fin _ _ h6 g6
          case measure => simp only [intOf]; omega
        · clear hup
          go_wp2_with (at_builtin; refine wpList_append_own _ rfl _ _ 22 rfl kB 5 i0 z0 1 1 Try.underlying22 hi0 hz0 hz1' hz2' hz3 (by decide) _ _ _ rfl (hO.alloc _) ⟨_, 0, none⟩ 1 1 [u8V 98] rfl rfl (new_cell8 _ _) (new_one8 _) k3 k4 (Nat.le_trans hs2 b5.size) ?_; intro v6 w9 h6 g6 _; refine Hid.out ?_)
          all_goals try (exfalso; omega)
          refine Lib.hid ?_
          go_wp2
          go_roundw
          case rel => exact fin _ _ h6 g6
          case measure => simp only [intOf]; omega
    · obtain rfl : i = s.length := by omega
      rw [ovU_end (by omega) (Nat.le_refl _)] at hR
      rw [List.take_of_length_le (by omega)] at hO
      have hstr := fun cap => hR.string s.length cap zl1.symm
      obtain ⟨va, vc, rfl, hst2⟩ := hO.string
      rw [zl2] at hst2 ⊢
      clear zl1 zl2 hmx
      have b7 := alloc_below wr (.cells #[strV z1, strV z2] 24)
      have X7 : BoxX (wr.alloc (.cells #[strV z1, strV z2] 24)) wr.heap.size (z1, z2) := heap_alloc_new wr _
      have Z7 := hZ.keep (b7.block _ hZ.lt)
      have B7 := hB.trans (b7.mono hB.size)
      cases hok : okInked (z1, z2) with
      | true =>
        rw [hok] at AI
        have HO := Lib.hid hok
        clear hok
        go_wp2_with (go_at_call 9; refine (AI _).mono ?_; rintro e w8 ⟨rfl, b8⟩; refine Hid.out ?_)
        refine Lib.hid ?_
        have X8 := X7.keep (b8.block _ X7.lt)
        have Z8 := Z7.keep (b8.block _ Z7.lt)
        have B8 := B7.trans (b8.mono B7.size)
        obtain ⟨x0, x1⟩ := X8.cells
        obtain ⟨⟨c0, c1⟩, c2, c3⟩ := Z8.facts
        go_wp2
        try simp only [Exit.inBlock, Exit.then]
        refine ret_cell (p := 2) (u := 3) rfl rfl rfl rfl (Z8.store (z1, z2)) ?_
        rw [HAy.out HO.out]
        exact ⟨rfl, B8.trans (store_below (z1, z2) (Nat.le_refl _))⟩
      | false =>
        rw [hok] at AI
        have HO := Lib.hid hok
        clear hok
        go_wp2_with (go_at_call 9; refine (AI _).mono ?_; rintro e w8 ⟨rfl, b8⟩; refine Hid.out ?_)
        refine Lib.hid ?_
        have Z8 := Z7.keep (b8.block _ Z7.lt)
        have B8 := B7.trans (b8.mono B7.size)
        obtain ⟨⟨c0, c1⟩, c2, c3⟩ := Z8.facts
        go_wp2
        try simp only [Exit.inBlock, Exit.then]
        refine ret_cell (p := 2) (u := 3) rfl rfl rfl rfl (Z8.store ([], [])) ?_
        rw [HAn.out HO.out]
        exact ⟨rfl, B8.trans (store_below ([], []) (Nat.le_refl _))⟩
theorem ParseInked_ok (s : List UInt8) (hs : s.length ≤ 1000) : OkA Try.prog 12 [.str s] (· = inkR (readA s)) := by
  refine ⟨⟨_, Try.func12, rfl, rfl⟩, fun w I vs hI hargs => ?_⟩
  obtain rfl : vs = [strV s] := by
    cases hargs with
    | cons h1 t => cases t; rw [(str_arg h1).1]
  refine (parse_walk s hs w).mono ?_
  rintro e w' ⟨rfl, hbl⟩
  have key : (readA s).1.1.length ≤ maxLen ∧ (readA s).1.2.length ≤ maxLen := by
    unfold readA
    split
    · unfold readF
      simp only [List.length_map]
      unfold maxLen; omega
    · exact ⟨Nat.zero_le _, Nat.zero_le _⟩
  exact ink_res key.1 key.2 hbl
end Go.Proofs.Ytjohfigipllpoaa.Ai
