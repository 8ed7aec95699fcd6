/- sort.SliceStable at structs, 20 elements or fewer, where the comparison lays new blocks: the kit's insertion sort walked once more, with a relation of worlds. -/
import Derived.Test.YtngefbdedbbplaaOwnK
import Derived.Shelf.GgSortMore.Stable
import Derived.Shelf.SlSortFuncK.HeapSortK
import Derived.Shelf.GgSortFunc.SmallK
import Derived.Test.YtngefbdedbbplaaMarkLaw
import Derived.Sort.Defs
import Derived.Test.YtngefbdedbbplaaMark3
import Derived.BigRegion
namespace Go.Proofs.Ytngefbdedbbplaa.Ai
open Go Go.Proofs Go.Shelf Go.RowKit Go.Lib Go.Sort
set_option linter.unusedVariables false
set_option linter.unusedSimpArgs false
set_option maxRecDepth 10000
theorem cell_same {W W' : World} {b : Nat} (h : W'.heap[b]? = W.heap[b]?) (o : Nat) : W'.cell? ⟨b, o, none⟩ = W.cell? ⟨b, o, none⟩ := by simp only [World.cell?, h]
theorem frozen_same {W W' : World} {b : Nat} (h : W'.heap[b]? = W.heap[b]?) (o : Nat) : W'.frozen? ⟨b, o, none⟩ = W.frozen? ⟨b, o, none⟩ := by simp only [World.frozen?, h]
section
variable {P : Program} {ρ : Ren} {α : Type} [Inhabited α]
/-- From w0 to W only the row's block has changed, and it holds d. -/
structure Srt (enc : α → List Value) (k blk : Nat) (e : TypeId) (N : Nat) (w0 : World) (d : Array α) (W : World) : Prop where
  upd : Upd (· = blk) w0 W
  hold : HoldsK enc k W blk 0 d
  shp : ∃ cur : Array Value, W.heap[blk]? = some (.cells cur e (0, 0)) ∧ cur.size = N
  lt : blk < w0.heap.size
variable {enc : α → List Value} {k blk N : Nat} {e : TypeId} {w0 W W' : World} {d : Array α}
theorem Srt.keep (h : Srt enc k blk e N w0 d W) (hu : Upd (fun _ => False) W W') : Srt enc k blk e N w0 d W' := by
  have hb := hu.block blk (Nat.lt_of_lt_of_le h.lt h.upd.size) (fun x => x)
  refine ⟨h.upd.trans (hu.mono fun _ x => x.elim), fun j hj => ?_, by rw [hb]; exact h.shp, h.lt⟩
  have := h.hold j hj
  rw [cell_same hb, frozen_same hb]; exact this
theorem Srt.below (h : Srt enc k blk e N w0 d W) (hb : Below W.heap.size W W') : Srt enc k blk e N w0 d W' := h.keep (Upd.of hb)
theorem upd_put (W : World) (d : Array α) : Upd (· = blk) W (putRowK enc k W blk 0 d) := by
  refine ⟨rfl, rfl, rfl, ?_, fun j hj hn => ?_⟩
  · rw [size_putRowK]; exact Nat.le_refl _
  · show (W.heap.modify blk _)[j]? = _
    rw [Array.getElem?_modify, if_neg fun x => hn x.symm]
theorem Srt.put (h : Srt enc k blk e N w0 d W) {d' : Array α} (hs : d'.size = d.size) : Srt enc k blk e N w0 d' (putRowK enc k W blk 0 d') := by
  refine ⟨h.upd.trans (upd_put W d'), holdsK_putRowK enc k W blk 0 d d' h.hold hs, ?_, h.lt⟩
  obtain ⟨cur, h1, h2⟩ := h.shp
  have e1 : (putRowK enc k W blk 0 d').heap[blk]? = (W.heap[blk]?).map (onCells (putCells id 0 (flatK enc k d'))) := by
    show (W.heap.modify blk _)[blk]? = _
    rw [Array.getElem?_modify, if_pos rfl]
  rw [e1, h1]
  refine ⟨_, rfl, ?_⟩
  rw [← h2]; simp [putCells]
theorem Srt.swap (h : Srt enc k blk e N w0 d W) (hk : ∀ x, (enc x).length = k) {i j : Nat} (hi : i < d.size) (hj : j < d.size) : Srt enc k blk e N w0 (swp d i j) ((W.setCells blk (0 + i * k) (enc d[j]!)).setCells blk (0 + j * k) (enc d[i]!)) ∧ (W.setCells blk (0 + i * k) (enc d[j]!)).setCells blk (0 + j * k) (enc d[i]!) = putRowK enc k W blk 0 (swp d i j) := by
  have h1 := putRowK_swp enc k hk W blk 0 d i j hi hj
  rw [putRowK_self enc k W blk 0 d h.hold] at h1
  rw [h1]
  exact ⟨h.put (size_swp d i j), rfl⟩
/-- A pair (less, swap) as an object. -/
structure PairAt (g : Nat) (lb : Array Value) (sf : Nat) (sb : Array Value) (B : Nat) (W : World) : Prop where
  one : W.cell? ⟨B, 0, none⟩ = some (.func (.func g) #[] lb)
  two : W.cell? ⟨B, 1, none⟩ = some (.func (.func sf) #[] sb)
  lt : B < W.heap.size
variable {g sf B : Nat} {lb sb : Array Value}
theorem PairAt.below (h : PairAt g lb sf sb B W) (hb : Below W.heap.size W W') : PairAt g lb sf sb B W' := by
  have e1 := hb.block B h.lt
  exact ⟨(cell_same e1 0).trans h.one, (cell_same e1 1).trans h.two, Nat.lt_of_lt_of_le h.lt hb.size⟩
theorem PairAt.put (h : PairAt g lb sf sb B W) (hn : B ≠ blk) (d : Array α) : PairAt g lb sf sb B (putRowK enc k W blk 0 d) :=
  ⟨by rw [cell?_putRowK_other enc k W blk 0 d _ hn]; exact h.one, by rw [cell?_putRowK_other enc k W blk 0 d _ hn]; exact h.two, by rw [size_putRowK]; exact h.lt⟩
abbrev pairO (g : Nat) (lb : Array Value) (sf : Nat) (sb : Array Value) (t : Nat) : Obj := .cells #[.func (.func g) #[] lb, .func (.func sf) #[] sb] t
theorem pair_new (W : World) (t : Nat) : PairAt g lb sf sb W.heap.size (W.alloc (pairO g lb sf sb t)) := ⟨by simp, by simp, by simp⟩
/-- What is asked of the comparison. -/
def LessB (P : Program) (g : Nat) (lb : Array Value) (enc : α → List Value) (k blk : Nat) (e : TypeId) (N : Nat) (lt : α → α → Bool) (size : Nat) (w0 : World) : Prop :=
  ∀ (W : World) (dk : Array α), Srt enc k blk e N w0 dk W → dk.size = size → ∀ i j : Nat, i < size → j < size → Calls P g (#[.int .i64 i, .int .i64 j] ++ lb) W fun en w' => en = .returned (.bool (lt dk[i]! dk[j]!)) ∧ Below W.heap.size W w'
set_option maxHeartbeats 2000000 in
set_option maxRecDepth 100000 in
theorem ins_walk (L : LaysGg.n26 P ρ) (hk : ∀ x, (enc x).length = k) (lt : α → α → Bool) (a b : Nat) (d : Array α) (w0 w : World)
    (eg : ∀ args w, (callFunc g args).run P w = .ok (.enter g args) w) (hless : LessB P g lb enc k blk e N lt d.size w0) (hswap : SwapSwapsK P sf sb enc k blk 0 d.size)
    (hS : Srt enc k blk e N w0 d w) (hab : a ≤ b) (hb : b ≤ d.size) (hsz : d.size < 4611686018427387904) :
    Calls P (ρ.f 26) #[.agg #[.func (.func g) #[] lb, .func (.func sf) #[] sb], .int .i64 a, .int .i64 b] w fun en w' => en = .returned (.tuple #[]) ∧ Srt enc k blk e N w0 (Sort.insertionSort lt d a b) w' := by
  have mixed := L.mixed
  have t0 := L.t0; have a0 := L.a0; have z0 := L.z0; have v0 := L.v0
  have t3 := L.t3; have a3 := L.a3; have z3 := L.z3; have v3 := L.v3
  have t4 := L.t4; have a4 := L.a4; have z4 := L.z4; have v4 := L.v4
  have t26 := L.t26; have a26 := L.a26; have z26 := L.z26; have v26 := L.v26
  have t37 := L.t37; have a37 := L.a37; have z37 := L.z37; have v37 := L.v37
  have t44 := L.t44; have a44 := L.a44; have z44 := L.z44; have v44 := L.v44
  have u44 := run_underlying L.t44
  have S1 := hS.below (alloc_below w (pairO g lb sf sb (ρ.t 44)))
  have p1 := pair_new (g := g) (lb := lb) (sf := sf) (sb := sb) w (ρ.t 44)
  have hne : w.heap.size ≠ blk := by have := hS.lt; have := hS.upd.size; omega
  have NE := Lib.hid hne
  clear hne
  clear hS
  go_enter L.f26, BodyGg.n26_ntmps ρ
  go_wp2
  generalize w.alloc (pairO g lb sf sb (ρ.t 44)) = w1 at S1 p1
  go_loopw [6] (fun vi wr => ∃ (i : Nat) (dk : Array α), vi = .int .i64 i ∧ a < i ∧ i ≤ b + 1 ∧ dk.size = d.size ∧ Srt enc k blk e N w0 dk wr ∧ PairAt g lb sf sb w.heap.size wr ∧ insOuter lt a b i dk = insOuter lt a b (a + 1) d) (fun vi _ => b + 1 - (intOf vi).toNat)
  case atStart => exact ⟨a + 1, d, by go_num, by omega, by omega, rfl, S1, p1, rfl⟩
  case round =>
    obtain ⟨i, dk, rfl, hai, hib, hsk, hSr, hpr, hO⟩ := hrel
    have HO := Lib.hid hO
    clear hO
    go_wp2
    · go_loopw [7] (fun vj wr2 => ∃ (j : Nat) (dj : Array α), vj = .int .i64 j ∧ a ≤ j ∧ j ≤ i ∧ dj.size = d.size ∧ Srt enc k blk e N w0 dj wr2 ∧ PairAt g lb sf sb w.heap.size wr2 ∧ insInner lt a j dj = insInner lt a i dk) (fun vj _ => (intOf vj).toNat)
      case atStart => exact ⟨i, dk, rfl, by omega, Nat.le_refl _, hsk, hSr, hpr, rfl⟩
      case round =>
        obtain ⟨j, dj, rfl, haj, hji, hsj, hS2, hp2, hI⟩ := hrel
        have hlt : i < b := by assumption
        have HI := Lib.hid hI
        have out : (j ≤ a ∨ lt dj[j]! dj[j - 1]! = false) → insOuter lt a b (i + 1) dj = insOuter lt a b (a + 1) d := fun hs => by
          rw [← HO.out, insOuter_go _ _ _ _ _ hlt, ← HI.out, insInner_stop _ _ _ _ hs]
        have OUT := Lib.hid out
        have c0 := hp2.one
        have c1 := hp2.two
        clear out hI
        by_cases hja : a < j
        · have hl := hless wr dj hS2 hsj j (j - 1) (by omega) (by omega)
          rw [show (((j - 1 : Nat) : Int)) = (j : Int) - 1 by omega] at hl
          cases hlv : lt dj[j]! dj[j - 1]! with
          | true =>
            rw [hlv] at hl
            go_wp2_with (go_at_fn g; refine hl.mono ?_; rintro en w' ⟨rfl, hbl⟩; have c0' := (hp2.below hbl).one; have c1' := (hp2.below hbl).two; refine Hid.out ?_)
            refine Lib.hid ?_
            have S3 := hS2.below hbl
            have p3 := hp2.below hbl
            have hs := hswap w' dj S3.hold hsj j (j - 1) (by omega) (by omega)
            rw [show (((j - 1 : Nat) : Int)) = (j : Int) - 1 by omega] at hs
            obtain ⟨S4, e4⟩ := S3.swap hk (i := j) (j := j - 1) (by omega) (by omega)
            have p4 := p3.put (enc := enc) (k := k) (blk := blk) NE.out (swp dj j (j - 1))
            rw [← e4] at p4
            simp only [Nat.zero_add] at S4 p4
            go_wp2
            go_roundw
            case rel =>
              (repeat apply Exists.intro)
              refine ⟨⟨j - 1, swp dj j (j - 1), by congr 1 <;> omega, by omega, by omega, by rw [size_swp]; exact hsj, S4, p4, ?_⟩, by rw [decide_eq_true hlt, show ((j - 1 : Nat) : Int) = (j : Int) - 1 by omega]⟩
              rw [← HI.out, insInner_go lt a j dj hja hlv]
            case measure => simp [intOf]; omega
          | false =>
            rw [hlv] at hl
            go_wp2_with (go_at_fn g; refine hl.mono ?_; rintro en w' ⟨rfl, hbl⟩; refine Hid.out ?_)
            refine Lib.hid ?_
            go_wp2
            go_roundw
            case rel => exact ⟨i + 1, dj, by go_num, by omega, by omega, hsj, hS2.below hbl, hp2.below hbl, OUT.out (Or.inr hlv)⟩
            case measure => simp [intOf]; omega
        · go_wp2
          go_roundw
          case rel => exact ⟨i + 1, dj, by go_num, by omega, by omega, hsj, hS2, hp2, OUT.out (Or.inl (by omega))⟩
          case measure => simp [intOf]; omega
    · have hge : ¬ i < b := by assumption
      go_end0
      exact ⟨rfl, by unfold Sort.insertionSort; rw [← HO.out, insOuter_stop _ _ _ _ _ hge]; exact hSr⟩
theorem Srt.rel {d' : Array α} (h : Srt enc k blk e N w0 d W) (h' : Srt enc k blk e N W d' W') : Srt enc k blk e N w0 d' W' := ⟨h.upd.trans h'.upd, h'.hold, h'.shp, h.lt⟩
theorem Srt.self (h : Srt enc k blk e N w0 d W) : Srt enc k blk e N W d W := ⟨Upd.refl _ _, h.hold, h.shp, Nat.lt_of_lt_of_le h.lt h.upd.size⟩
theorem LessB.rel {lt : α → α → Bool} {size : Nat} (h : LessB P g lb enc k blk e N lt size w0) (hS : Srt enc k blk e N w0 d W) : LessB P g lb enc k blk e N lt size W := fun W' dk h1 => h W' dk (hS.rel h1)
set_option maxHeartbeats 1600000 in
set_option maxRecDepth 100000 in
theorem stab_few (L : LaysGt.n15 P ρ) (hk : ∀ x, (enc x).length = k) (lt : α → α → Bool) (d : Array α) (w : World)
    (eg : ∀ args w, (callFunc g args).run P w = .ok (.enter g args) w) (hless : LessB P g lb enc k blk e N lt d.size w) (hswap : SwapSwapsK P sf sb enc k blk 0 d.size)
    (hS : Srt enc k blk e N w d w) (hd : d.size < 20) :
    Calls P (ρ.f 15) #[.agg #[.func (.func g) #[] lb, .func (.func sf) #[] sb], .int .i64 d.size] w fun en w' => en = .returned (.tuple #[]) ∧ Srt enc k blk e N w (Sort.insertionSort lt d 0 d.size) w' := by
  have mixed := L.mixed
  have t0 := L.t0; have a0 := L.a0; have z0 := L.z0; have v0 := L.v0
  have t3 := L.t3; have a3 := L.a3; have z3 := L.z3; have v3 := L.v3
  have t4 := L.t4; have a4 := L.a4; have z4 := L.z4; have v4 := L.v4
  have t26 := L.t26; have a26 := L.a26; have z26 := L.z26; have v26 := L.v26
  have t38 := L.t38; have a38 := L.a38; have z38 := L.z38; have v38 := L.v38
  have t42 := L.t42; have a42 := L.a42; have z42 := L.z42; have v42 := L.v42
  have t47 := L.t47; have a47 := L.a47; have z47 := L.z47; have v47 := L.v47
  have u42 := run_underlying L.t42
  have e29 : ∀ args w, (callFunc (ρ.f 29) args).run P w = .ok (.enter (ρ.f 29) args) w := enters_of L.f29 (by kernel_rfl) rfl
  have LI : LaysGg.n26 P ρ.viaGt := ({ L with } : LaysGt.n29 P ρ).elder
  have S1 := hS.below (alloc_below w (pairO g lb sf sb (ρ.t 42)))
  have hc : Calls P (ρ.f 29) #[.agg #[.func (.func g) #[] lb, .func (.func sf) #[] sb], .int .i64 (0 : Nat), .int .i64 d.size] (w.alloc (pairO g lb sf sb (ρ.t 42))) fun en w' => en = .returned (.tuple #[]) ∧ Srt enc k blk e N w (Sort.insertionSort lt d 0 d.size) w' :=
    ins_walk LI hk lt 0 d.size d w _ eg hless hswap S1 (Nat.zero_le _) (Nat.le_refl _) (by omega)
  clear hless hswap hS S1
  go_enter L.f15, BodyGt.n15_ntmps ρ
  go_wp2
  refine wp_loop_rounds 1 ?_
  rw [rounds_succ]
  go_wp2_with (go_at_fn (ρ.f 29); refine hc.mono ?_; rintro en w1 ⟨rfl, hS1⟩)
  refine wp_loop_rounds 1 ?_
  rw [rounds_succ]
  go_wp2
  all_goals first | (exfalso; omega) | (go_end0; exact ⟨rfl, hS1⟩)
set_option maxHeartbeats 1600000 in
set_option maxRecDepth 100000 in
theorem stab_full (L : LaysGt.n15 P ρ) (hk : ∀ x, (enc x).length = k) (lt : α → α → Bool) (d : Array α) (w : World)
    (eg : ∀ args w, (callFunc g args).run P w = .ok (.enter g args) w) (hless : LessB P g lb enc k blk e N lt d.size w) (hswap : SwapSwapsK P sf sb enc k blk 0 d.size)
    (hS : Srt enc k blk e N w d w) (hd : d.size = 20) :
    Calls P (ρ.f 15) #[.agg #[.func (.func g) #[] lb, .func (.func sf) #[] sb], .int .i64 d.size] w fun en w' => en = .returned (.tuple #[]) ∧ Srt enc k blk e N w (Sort.insertionSort lt d 0 d.size) w' := by
  have mixed := L.mixed
  have t0 := L.t0; have a0 := L.a0; have z0 := L.z0; have v0 := L.v0
  have t3 := L.t3; have a3 := L.a3; have z3 := L.z3; have v3 := L.v3
  have t4 := L.t4; have a4 := L.a4; have z4 := L.z4; have v4 := L.v4
  have t26 := L.t26; have a26 := L.a26; have z26 := L.z26; have v26 := L.v26
  have t38 := L.t38; have a38 := L.a38; have z38 := L.z38; have v38 := L.v38
  have t42 := L.t42; have a42 := L.a42; have z42 := L.z42; have v42 := L.v42
  have t47 := L.t47; have a47 := L.a47; have z47 := L.z47; have v47 := L.v47
  have u42 := run_underlying L.t42
  have e29 : ∀ args w, (callFunc (ρ.f 29) args).run P w = .ok (.enter (ρ.f 29) args) w := enters_of L.f29 (by kernel_rfl) rfl
  have LI : LaysGg.n26 P ρ.viaGt := ({ L with } : LaysGt.n29 P ρ).elder
  have S1 := hS.below (alloc_below w (pairO g lb sf sb (ρ.t 42)))
  have hc : Calls P (ρ.f 29) #[.agg #[.func (.func g) #[] lb, .func (.func sf) #[] sb], .int .i64 (0 : Nat), .int .i64 d.size] (w.alloc (pairO g lb sf sb (ρ.t 42))) fun en w' => en = .returned (.tuple #[]) ∧ Srt enc k blk e N (w.alloc (pairO g lb sf sb (ρ.t 42))) (Sort.insertionSort lt d 0 d.size) w' :=
    ins_walk LI hk lt 0 d.size d _ _ eg (hless.rel S1) hswap S1.self (Nat.zero_le _) (Nat.le_refl _) (by omega)
  have hz : ∀ w1, Calls P (ρ.f 29) #[.agg #[.func (.func g) #[] lb, .func (.func sf) #[] sb], .int .i64 (20 : Nat), .int .i64 (20 : Nat)] w1 fun en w' => en = .returned (.tuple #[]) ∧ w' = w1.alloc (pairO g lb sf sb (ρ.t 42)) := fun w1 =>
    Any.insertionSort_func_none LI (.func g) #[] lb sf sb 20 20 (by omega) (by omega) w1
  have p1 := pair_new (g := g) (lb := lb) (sf := sf) (sb := sb) w (ρ.t 42)
  have hne : w.heap.size ≠ blk := by have := hS.lt; omega
  have kept : ∀ w1, Srt enc k blk e N (w.alloc (pairO g lb sf sb (ρ.t 42))) (Sort.insertionSort lt d 0 d.size) w1 → w1.cell? ⟨w.heap.size, 0, none⟩ = some (.func (.func g) #[] lb) ∧ w1.cell? ⟨w.heap.size, 1, none⟩ = some (.func (.func sf) #[] sb) := fun w1 h1 => by
    have hb := h1.upd.block w.heap.size p1.lt hne
    exact ⟨(cell_same hb 0).trans p1.one, (cell_same hb 1).trans p1.two⟩
  have KP := Lib.hid kept
  rw [hd] at hc ⊢
  have DS := Lib.hid hd
  clear hless hswap hS kept hne p1 hd
  go_enter L.f15, BodyGt.n15_ntmps ρ
  go_wp2
  refine wp_loop_rounds 2 ?_
  rw [rounds_succ]
  go_wp2_with (go_at_fn_of (ρ.f 29) (Value.int .i64 0); refine hc.mono ?_; rintro en w1 ⟨rfl, hS1⟩; have b0 := (KP.out w1 (by rw [DS.out]; exact hS1)).1; have b1 := (KP.out w1 (by rw [DS.out]; exact hS1)).2)
  rw [rounds_succ]
  go_wp2_with (go_at_fn (ρ.f 29); refine (hz _).mono ?_; rintro en w2 ⟨rfl, rfl⟩)
  refine wp_loop_rounds 1 ?_
  rw [rounds_succ]
  go_wp2
  go_end0
  exact ⟨rfl, (S1.rel hS1).below (alloc_below _ _)⟩
theorem sliceStableK (L : LaysGt.n8 P ρ) (t e : TypeId) (i ie : TypeInfo) (hi : P.info? t = some i) (hd : i.desc = .slice e) (hpk : P.packed t = false) (hie : P.info? e = some ie) (ke : Nat) (hke : ∀ w, (Extern.Rtype.kind e).run P w = .ok ke w)
    (hk : ∀ x, (enc x).length = k) (hs1 : ie.size = k) (hagg : ∀ w, (isAgg e).run P w = .ok true w) (h1 : ∀ x, ∀ v ∈ enc x, v.oneCell' = true) (lt : α → α → Bool) (g : Nat) (lb : Array Value)
    (eg : ∀ args w, (callFunc g args).run P w = .ok (.enter g args) w) (c : Nat) (d : Array α) (h2 : 2 ≤ d.size) (h20 : d.size ≤ 20)
    (f : Nat) (hf : P.funcs.findIdx? (·.name == "internal/reflectlite" ++ ".Swapper$" ++ toString (swapperK d.size ie ke)) = some f)
    (gS : Bool) (hx : ∀ args W, (callFunc f args).run P W = ((Extern.ReflectliteSwapper.swap gS args).run P W).andThen fun v w' => .ok (.value v) w')
    (w : World) (hless : LessB P g lb enc k blk e N lt d.size w) (hS : Srt enc k blk e N w d w) :
    Calls P (ρ.f 8) #[.iface t (.slice (some ⟨blk, 0, none⟩) d.size c), .func (.func g) #[] lb] w fun en w' => en = .returned (.tuple #[]) ∧ Srt enc k blk e N w (Sort.insertionSort lt d 0 d.size) w' := by
  refine Any.sort_SliceStable_of_stable L t e i ie hi hd hpk hie ke hke _ d.size c (by omega) f hf (.func g) #[] lb w _ ?_
  have hB : sliceBound P e ie ke (some ⟨blk, 0, none⟩) d.size c = #[.slice (some ⟨blk, 0, none⟩) d.size c, typeHandle P e] := by
    rw [sliceBound, if_neg (swapperK_gt _ _ _ h2)]
  rw [hB]
  unfold stableWorld
  have S1 := (hS.below (alloc_below w (.cells #[.slice (some ⟨blk, 0, none⟩) d.size c] t)))
  have S2 := S1.below (alloc_below _ (.cells #[.pointer (some ⟨P.globals.size, t, none⟩), .pointer (some ⟨w.heap.size, 0, none⟩), .int .u64 151] (ρ.t 36)))
  have hsw := swapSwapsK_of_literal gS f hx e ie hie enc k hk hs1 hagg h1 blk 0 d.size c
  by_cases h : d.size = 20
  · exact (stab_full (P := P) (ρ := ρ) { L with } hk lt d _ eg (hless.rel S2) hsw S2.self h).mono fun en w' ⟨he, h'⟩ => ⟨he, S2.rel h'⟩
  · exact (stab_few (P := P) (ρ := ρ) { L with } hk lt d _ eg (hless.rel S2) hsw S2.self (by omega)).mono fun en w' ⟨he, h'⟩ => ⟨he, S2.rel h'⟩
end

/- The kit's insertion sort puts marks in the order of the plain law. -/
theorem swp_at (s : List Mark) (x m : Mark) (r : List Mark) : Sort.swp (s ++ x :: m :: r).toArray (s.length + 1) s.length = (s ++ m :: x :: r).toArray := by
  unfold Sort.swp
  have e1 : (s ++ x :: m :: r).toArray[s.length + 1]! = m := by simp
  have e2 : (s ++ x :: m :: r).toArray[s.length]! = x := by simp
  rw [e1, e2, List.setIfInBounds_toArray, List.setIfInBounds_toArray]
  congr 1
  rw [List.set_append_right _ _ (by omega), List.set_append_right _ _ (by omega), show s.length + 1 - s.length = 1 by omega, Nat.sub_self]
  rfl
theorem inner_ins : ∀ (j : Nat) (s : List Mark) (m : Mark) (r : List Mark), s.length = j → Sort.insInner befM 0 j (s ++ m :: r).toArray = (insF m s ++ r).toArray
  | 0, s, m, r, h => by
    obtain rfl := List.eq_nil_of_length_eq_zero h
    rfl
  | j + 1, s, m, r, h => by
    rcases List.eq_nil_or_concat s with rfl | ⟨s', x, rfl⟩
    · cases h
    · rw [List.concat_eq_append] at h ⊢
      have hj : s'.length = j := by simpa using h
      have ea : s' ++ [x] ++ m :: r = s' ++ x :: m :: r := by simp
      have e1 : (s' ++ x :: m :: r).toArray[j + 1]! = m := by rw [← hj]; simp
      have e2 : (s' ++ x :: m :: r).toArray[j]! = x := by rw [← hj]; simp
      rw [Sort.insInner, ea, e1, e2, decide_eq_true (show j + 1 > 0 by omega), Bool.true_and]
      split
      · rename_i hb
        have hs := swp_at s' x m r
        rw [hj] at hs
        rw [hs, inner_ins j s' m (x :: r) hj, ins_back hb, List.append_assoc]; rfl
      · rename_i hb
        rw [ins_stay (by simpa using hb)]; simp
theorem outer_ins (l : List Mark) : ∀ (k i : Nat) (d : Array Mark), i ≤ l.length → k = l.length - i → d = (sortF (l.take i) ++ l.drop i).toArray → Sort.insOuter befM 0 l.length i d = (sortF l).toArray
  | 0, i, d, hi, hk, hd => by
    rw [Sort.insOuter, if_neg (by omega), hd, List.drop_of_length_le (by omega), List.take_of_length_le (by omega), List.append_nil]
  | k + 1, i, d, hi, hk, hd => by
    have h : i < l.length := by omega
    rw [Sort.insOuter, if_pos h]
    refine outer_ins l k (i + 1) _ (by omega) (by omega) ?_
    have e : sortF (l.take (i + 1)) = insF l[i] (sortF (l.take i)) := by
      unfold sortF
      rw [List.take_add_one, List.getElem?_eq_getElem h, Option.toList_some, List.foldl_append]; rfl
    rw [hd, List.drop_eq_getElem_cons h, inner_ins i _ _ _ (by rw [sort_len, List.length_take]; omega), e]
theorem ins_sort (l : List Mark) : Sort.insertionSort befM l.toArray 0 l.toArray.size = (sortF l).toArray := by
  unfold Sort.insertionSort
  rw [List.size_toArray]
  rcases Nat.eq_zero_or_pos l.length with h | h
  · obtain rfl := List.eq_nil_of_length_eq_zero h
    rw [Sort.insOuter, if_neg (by simp)]; rfl
  · refine outer_ins l (l.length - 1) 1 _ h (by omega) ?_
    cases l with
    | nil => simp at h
    | cons x r => rfl

/- impl.live's comparison, walked by the kit's tactics. -/
def MarkAt (W : World) (g i : Nat) (m : Mark) : Prop := (W.cell? ⟨g, i * 4, none⟩ = some (.int .i64 m.1) ∧ W.cell? ⟨g, i * 4 + 1, none⟩ = some (.int .i64 m.2.1)) ∧ W.cell? ⟨g, i * 4 + 2, none⟩ = some (.int .i64 m.2.2.1) ∧ W.cell? ⟨g, i * 4 + 3, none⟩ = some (.string ⟨m.2.2.2.toArray⟩)
theorem less_1 {a b c a' b' c' : Int} {t t' : List UInt8} (h : (a != a') = true) : decide (a < a') = befM (a, b, c, t) (a', b', c', t') := by
  unfold befM
  rw [if_pos (by simpa using h)]
theorem less_2 {a b c a' b' c' : Int} {t t' : List UInt8} (h : (a != a') = false) (h2 : (b != b') = true) : decide (b < b') = befM (a, b, c, t) (a', b', c', t') := by
  unfold befM
  rw [if_neg (by simpa using h), if_pos (by simpa using h2)]
theorem less_3 {a b c a' b' c' : Int} {t t' : List UInt8} (h : (a != a') = false) (h2 : (b != b') = false) : decide (c < c') = befM (a, b, c, t) (a', b', c', t') := by
  unfold befM
  rw [if_neg (by simpa using h), if_neg (by simpa using h2)]
set_option maxHeartbeats 1000000 in
set_option maxRecDepth 1000000 in
theorem less_walk (g Bs n c : Nat) (W : World) (x y : Mark) (i j : Nat) (hs : W.cell? ⟨Bs, 0, none⟩ = some (.slice (some ⟨g, 0, none⟩) n c)) (hx : MarkAt W g i x) (hy : MarkAt W g j y) (hi : i < n) (hj : j < n) (hn : n < 1000) (hg : g < W.heap.size) (hB : Bs < W.heap.size) :
    Calls Try.prog 75 #[.int .i64 i, .int .i64 j, .pointer (some ⟨Bs, 0, none⟩)] W fun e w' => e = .returned (.bool (befM x y)) ∧ Below W.heap.size W w' := by
  obtain ⟨⟨x0, x1⟩, x2, x3⟩ := hx
  obtain ⟨⟨y0, y1⟩, y2, y3⟩ := hy
  obtain ⟨xA, xB, xC, xD⟩ := x
  obtain ⟨yA, yB, yC, yD⟩ := y
  dsimp only at x0 x1 x2 x3 y0 y1 y2 y3
  obtain ⟨Z, hZ⟩ : ∃ Z, Z = Obj.cells #[Value.int IntKind.i64 0, Value.int IntKind.i64 0, Value.int IntKind.i64 0, Value.string { data := #[] }] 44 := ⟨_, rfl⟩
  have old : ∀ (b o : Nat) (u : Value), b < W.heap.size → W.cell? ⟨b, o, none⟩ = some u → (W.alloc Z).cell? ⟨b, o, none⟩ = some u ∧ ((W.alloc Z).alloc Z).cell? ⟨b, o, none⟩ = some u := fun b o u hb h => by
    have h1 := alloc_below W Z
    have h2 := alloc_below (W.alloc Z) Z
    have e1 : (W.alloc Z).heap[b]? = W.heap[b]? := h1.block b hb
    have e2 : ((W.alloc Z).alloc Z).heap[b]? = (W.alloc Z).heap[b]? := h2.block b (Nat.lt_of_lt_of_le hb h1.size)
    exact ⟨(cell_same e1 o).trans h, (cell_same (e2.trans e1) o).trans h⟩
  obtain ⟨s1, s2⟩ := old _ _ _ hB hs
  obtain ⟨x01, x02⟩ := old _ _ _ hg x0
  obtain ⟨x11, x12⟩ := old _ _ _ hg x1
  obtain ⟨x21, x22⟩ := old _ _ _ hg x2
  obtain ⟨x31, x32⟩ := old _ _ _ hg x3
  obtain ⟨y01, y02⟩ := old _ _ _ hg y0
  obtain ⟨y11, y12⟩ := old _ _ _ hg y1
  obtain ⟨y21, y22⟩ := old _ _ _ hg y2
  obtain ⟨y31, y32⟩ := old _ _ _ hg y3
  clear old
  have n1 : ¬ g = W.heap.size := by omega
  have n2 : ¬ g = W.heap.size + 1 := by omega
  have n3 : ¬ W.heap.size = g := by omega
  have n4 : ¬ W.heap.size + 1 = g := by omega
  have n5 : ¬ Bs = W.heap.size := by omega
  have n6 : ¬ Bs = W.heap.size + 1 := by omega
  have n7 : ¬ W.heap.size = Bs := by omega
  have n8 : ¬ W.heap.size + 1 = Bs := by omega
  subst hZ
  go_enter Try.func75, Try.ntmps75
  go_wp2
  go_region
  all_goals go_wp2
  all_goals go_ret
  all_goals refine ⟨?_, (((Below.refl _ _).alloc (Nat.le_refl _) _).alloc (by simp) _).drew⟩
  all_goals first
    | exact congrArg (fun b => Ending.returned (Value.bool b)) (less_1 (by assumption))
    | exact congrArg (fun b => Ending.returned (Value.bool b)) (less_2 (by assumption) (by assumption))
    | exact congrArg (fun b => Ending.returned (Value.bool b)) (less_3 (by assumption) (by assumption))

/- The bodies behind a function of the library, as this program numbers them. -/
def lays8_ren : Go.Shelf.Ren := ⟨fun | 8 => 74 | 13 => 78 | 14 => 79 | 16 => 81 | 15 => 80 | 29 => 91 | 30 => 92 | 42 => 93 | 49 => 94 | n => n, fun | 20 => 20 | 26 => 89 | 36 => 94 | 0 => 0 | 38 => 96 | 42 => 100 | 3 => 3 | 4 => 4 | 47 => 101 | 17 => 17 | 33 => 91 | 34 => 92 | 89 => 120 | 12 => 12 | 56 => 112 | 82 => 113 | 5 => 5 | 83 => 114 | 84 => 115 | 85 => 116 | 86 => 117 | 87 => 118 | n => n, fun | n => n⟩
theorem lays8 : Go.Proofs.LaysGt.n8 Try.prog lays8_ren :=
  { mixed := by kernel_rfl,
    f8 := Try.func74.trans (congrArg some (by kernel_rfl)),
    f13 := Try.func78.trans (congrArg some (by kernel_rfl)),
    f14 := Try.func79.trans (congrArg some (by kernel_rfl)),
    f15 := Try.func80.trans (congrArg some (by kernel_rfl)),
    f16 := Try.func81.trans (congrArg some (by kernel_rfl)),
    f29 := Try.func91.trans (congrArg some (by kernel_rfl)),
    f30 := Try.func92.trans (congrArg some (by kernel_rfl)),
    f42 := Try.func93.trans (congrArg some (by kernel_rfl)),
    f49 := Try.func94.trans (congrArg some (by kernel_rfl)),
    t0 := Try.underlying0,
    a0 := Try.isAgg0,
    z0 := Try.sizeOf0,
    v0 := Try.zeroValue0,
    i0 := by kernel_rfl,
    t3 := Try.underlying3,
    a3 := Try.isAgg3,
    z3 := Try.sizeOf3,
    v3 := Try.zeroValue3,
    i3 := by kernel_rfl,
    t4 := Try.underlying4,
    a4 := Try.isAgg4,
    z4 := Try.sizeOf4,
    v4 := Try.zeroValue4,
    i4 := by kernel_rfl,
    t5 := Try.underlying5,
    a5 := Try.isAgg5,
    z5 := Try.sizeOf5,
    v5 := Try.zeroValue5,
    i5 := by kernel_rfl,
    t12 := Try.underlying12,
    a12 := Try.isAgg12,
    z12 := Try.sizeOf12,
    v12 := Try.zeroValue12,
    i12 := by kernel_rfl,
    t17 := Try.underlying17,
    a17 := Try.isAgg17,
    z17 := Try.sizeOf17,
    v17 := Try.zeroValue17,
    i17 := by kernel_rfl,
    t20 := Try.underlying20,
    a20 := Try.isAgg20,
    z20 := Try.sizeOf20,
    v20 := Try.zeroValue20,
    i20 := by kernel_rfl,
    t26 := Try.underlying89,
    a26 := Try.isAgg89,
    z26 := Try.sizeOf89,
    v26 := Try.zeroValue89,
    i26 := by kernel_rfl,
    t33 := Try.underlying91,
    a33 := Try.isAgg91,
    z33 := Try.sizeOf91,
    v33 := Try.zeroValue91,
    i33 := by kernel_rfl,
    t34 := Try.underlying92,
    a34 := Try.isAgg92,
    z34 := Try.sizeOf92,
    v34 := Try.zeroValue92,
    i34 := by kernel_rfl,
    t36 := Try.underlying94,
    a36 := Try.isAgg94,
    z36 := Try.sizeOf94,
    v36 := Try.zeroValue94,
    i36 := by kernel_rfl,
    t38 := Try.underlying96,
    a38 := Try.isAgg96,
    z38 := Try.sizeOf96,
    v38 := Try.zeroValue96,
    i38 := by kernel_rfl,
    t42 := Try.underlying100,
    a42 := Try.isAgg100,
    z42 := Try.sizeOf100,
    v42 := Try.zeroValue100,
    i42 := by kernel_rfl,
    t47 := Try.underlying101,
    a47 := Try.isAgg101,
    z47 := Try.sizeOf101,
    v47 := Try.zeroValue101,
    i47 := by kernel_rfl,
    t56 := Try.underlying112,
    a56 := Try.isAgg112,
    z56 := Try.sizeOf112,
    v56 := Try.zeroValue112,
    i56 := by kernel_rfl,
    t82 := Try.underlying113,
    a82 := Try.isAgg113,
    z82 := Try.sizeOf113,
    v82 := Try.zeroValue113,
    i82 := by kernel_rfl,
    t83 := Try.underlying114,
    a83 := Try.isAgg114,
    z83 := Try.sizeOf114,
    v83 := Try.zeroValue114,
    i83 := by kernel_rfl,
    t84 := Try.underlying115,
    a84 := Try.isAgg115,
    z84 := Try.sizeOf115,
    v84 := Try.zeroValue115,
    i84 := by kernel_rfl,
    t85 := Try.underlying116,
    a85 := Try.isAgg116,
    z85 := Try.sizeOf116,
    v85 := Try.zeroValue116,
    i85 := by kernel_rfl,
    t86 := Try.underlying117,
    a86 := Try.isAgg117,
    z86 := Try.sizeOf117,
    v86 := Try.zeroValue117,
    i86 := by kernel_rfl,
    t87 := Try.underlying118,
    a87 := Try.isAgg118,
    z87 := Try.sizeOf118,
    v87 := Try.zeroValue118,
    i87 := by kernel_rfl,
    t89 := Try.underlying120,
    a89 := Try.isAgg120,
    z89 := Try.sizeOf120,
    v89 := Try.zeroValue120,
    i89 := by kernel_rfl }

/- sort.SliceStable over marks: what impl.live's call leaves behind. -/
def encM (m : Mark) : List Value := [.int .i64 m.1, .int .i64 m.2.1, .int .i64 m.2.2.1, .string ⟨m.2.2.2.toArray⟩]
/-- A row of marks of one's own. -/
def OwnM (w : World) (B : Nat) (v : Value) (l : List Mark) : Prop := w.ownsRow B 44 4 v l.length (l.flatMap encM)
theorem flat_len : ∀ (l : List Mark), (l.flatMap encM).length = l.length * 4
  | [] => rfl
  | m :: r => by rw [List.flatMap_cons, List.length_append, flat_len r, List.length_cons]; simp [encM]; omega
theorem flat_get : ∀ (l : List Mark) (t : Nat), t < l.length * 4 → (l.flatMap encM)[t]? = some ((encM (l[t / 4]!))[t % 4]!)
  | [], t, h => by simp at h
  | m :: r, t, h => by
    rw [List.flatMap_cons]
    by_cases ht : t < 4
    · rcases (show t = 0 ∨ t = 1 ∨ t = 2 ∨ t = 3 by omega) with rfl | rfl | rfl | rfl <;> rfl
    · obtain ⟨u, rfl⟩ : ∃ u, t = u + 4 := ⟨t - 4, by omega⟩
      rw [List.getElem?_append_right (by simp [encM]), show u + 4 - (encM m).length = u from by simp [encM], flat_get r u (by simp at h; omega), show (u + 4) / 4 = u / 4 + 1 by omega, show (u + 4) % 4 = u % 4 by omega]
      simp
theorem flatK_get (l : List Mark) {j : Nat} (h : j < l.length * 4) : (l.flatMap encM)[j]? = some ((Sort.flatK encM 4 l.toArray)[j]!) := by
  rw [flat_get l j h, Sort.get_flatK encM 4 l.toArray j (by simpa using h)]
  simp
theorem own_srt {w : World} {g : Nat} {cur : Array Value} {l : List Mark} (h : w.heap[g]? = some (.cells cur 44 (0, 0))) (hs : l.length * 4 ≤ cur.size) (ht : cur.toList.take (l.length * 4) = l.flatMap encM) : Srt encM 4 g 44 cur.size w l.toArray w := by
  refine ⟨Upd.refl _ _, fun j hj => ?_, ⟨cur, h, rfl⟩, (Array.getElem?_eq_some_iff.1 h).1⟩
  have hj : j < l.length * 4 := by simpa using hj
  have e := flatK_get l hj
  rw [← ht, List.getElem?_take, if_pos hj, Array.getElem?_toList] at e
  rw [Nat.zero_add]
  constructor
  · simp only [World.cell?, h, Option.bind_some]
    exact e
  · simp [World.frozen?, h]
theorem srt_own {w W : World} {g N cap B : Nat} {l : List Mark} (h : Srt encM 4 g 44 N w l.toArray W) (hN : N = cap * 4) (hl : l.length ≤ cap) (hc : cap ≤ maxLen) (hB : B ≤ g) : OwnM W B (.slice (some ⟨g, 0, none⟩) l.length cap) l := by
  obtain ⟨cur, h1, h2⟩ := h.shp
  refine ⟨flat_len l, .inr ⟨g, cap, cur, rfl, hB, h1, hl, hc, by rw [h2, hN], ?_⟩⟩
  refine List.ext_getElem? fun j => ?_
  by_cases hj : j < l.length * 4
  · rw [List.getElem?_take, if_pos hj, Array.getElem?_toList, flatK_get l hj]
    have := (h.hold j (by simpa using hj)).1
    rw [Nat.zero_add] at this
    simp only [World.cell?, h1, Option.bind_some] at this
    exact this
  · rw [List.getElem?_eq_none (by rw [List.length_take]; omega), List.getElem?_eq_none (by rw [flat_len]; omega)]
theorem upd_grow (w : World) (os : Array Obj) (S : Nat → Prop) : Upd S w (Sort.grow w os) := by
  refine ⟨rfl, rfl, rfl, by rw [Sort.size_grow]; omega, fun k hk _ => ?_⟩
  show (w.heap ++ os)[k]? = _
  rw [Array.getElem?_append_left hk]
noncomputable def mkT : TypeInfo := (Try.prog.info? 25).get (by kernel_rfl)
noncomputable def mkE : TypeInfo := (Try.prog.info? 44).get (by kernel_rfl)
theorem mkK (n : Nat) (h2 : 2 ≤ n) : Lib.swapperK n mkE 25 = 9 := by
  have a : mkE.hasPointers = true := by kernel_rfl
  have b : mkE.bytes = 40 := by kernel_rfl
  have c : (n == 0) = false := by simp; omega
  have d : (n == 1) = false := by simp; omega
  simp [Lib.swapperK, a, b, c, d]
theorem sort_short {l : List Mark} (h : l.length ≤ 1) : sortF l = l := by
  refine sort_same ?_
  match l, h with
  | [], _ => exact List.Pairwise.nil
  | [m], _ => exact List.pairwise_singleton _ _
theorem sort_calls (l : List Mark) (h20 : l.length ≤ 20) (W : World) (B bx : Nat) (v : Value) (hv : OwnM W B v l) (hb : W.heap[bx]? = some (.cells #[v] 25 (0, 0))) :
    Calls Try.prog 74 #[.iface 25 v, .func (.func 75) #[] #[.pointer (some ⟨bx, 0, none⟩)]] W fun e w' => e = .returned (.tuple #[]) ∧ OwnM w' B v (sortF l) ∧ Upd (fun k => v.ownBlock = some k) W w' := by
  by_cases h1 : l.length ≤ 1
  · have tiny : ∀ (p : Option Addr) (n c : Nat), n = l.length → Calls Try.prog 74 #[.iface 25 (.slice p n c), .func (.func 75) #[] #[.pointer (some ⟨bx, 0, none⟩)]] W fun e w' => e = .returned (.tuple #[]) ∧ ∃ os, w' = Sort.grow W os := fun p n c hn => by
      rcases (show n = 0 ∨ n = 1 by omega) with rfl | rfl
      · exact Any.sort_SliceStable_tiny lays8 25 44 mkT mkE (by kernel_rfl) (by kernel_rfl) (by kernel_rfl) (by kernel_rfl) 25 (fun _ => by kernel_rfl) p 0 c (by omega) 82 (by kernel_rfl) _ _ _ W
      · exact Any.sort_SliceStable_tiny lays8 25 44 mkT mkE (by kernel_rfl) (by kernel_rfl) (by kernel_rfl) (by kernel_rfl) 25 (fun _ => by kernel_rfl) p 1 c (by omega) 83 (by kernel_rfl) _ _ _ W
    have e1 := sort_short h1
    obtain ⟨hl, ⟨rfl, hn⟩ | ⟨g, cap, cur, rfl, hg⟩⟩ := id hv
    · refine (tiny none 0 0 hn.symm).mono ?_
      rintro e w' ⟨rfl, os, rfl⟩
      exact ⟨rfl, by rw [e1]; exact ⟨hl, .inl ⟨rfl, hn⟩⟩, upd_grow W os _⟩
    · refine (tiny _ _ _ rfl).mono ?_
      rintro e w' ⟨rfl, os, rfl⟩
      refine ⟨rfl, ?_, upd_grow W os _⟩
      rw [e1]
      obtain ⟨hB, hh, r⟩ := hg
      exact ⟨hl, .inr ⟨g, cap, cur, rfl, hB, by rw [(upd_grow W os fun _ => False).block g (Array.getElem?_eq_some_iff.1 hh).1 fun x => x]; exact hh, r⟩⟩
  · obtain ⟨hl, ⟨rfl, hn⟩ | ⟨g, cap, cur, rfl, hB, hh, r1, r2, r3, r4⟩⟩ := id hv
    · omega
    · have hS := own_srt hh (by rw [r3]; exact Nat.mul_le_mul_right 4 r1) r4
      have hne : bx ≠ g := fun e => by
        rw [e, hh] at hb
        have := (Obj.cells.inj (Option.some.inj hb)).2.1
        exact absurd this (by decide)
      have hlt : bx < W.heap.size := (Array.getElem?_eq_some_iff.1 hb).1
      have hless : LessB Try.prog 75 #[.pointer (some ⟨bx, 0, none⟩)] encM 4 g 44 cur.size befM l.toArray.size W := by
        intro W' dk hS' hsz i j hi hj
        have eb := hS'.upd.block bx hlt hne
        have hs : W'.cell? ⟨bx, 0, none⟩ = some (.slice (some ⟨g, 0, none⟩) l.length cap) := by
          simp only [World.cell?, eb, hb, Option.bind_some]; rfl
        have at_ : ∀ t, t < l.toArray.size → MarkAt W' g t dk[t]! := fun t ht => by
          have c0 := (hS'.hold.cell (i := t) (c := 0) (by omega) (by decide)).1
          have c1 := (hS'.hold.cell (i := t) (c := 1) (by omega) (by decide)).1
          have c2 := (hS'.hold.cell (i := t) (c := 2) (by omega) (by decide)).1
          have c3 := (hS'.hold.cell (i := t) (c := 3) (by omega) (by decide)).1
          rw [Nat.zero_add] at c0 c1 c2 c3
          exact ⟨⟨c0, c1⟩, c2, c3⟩
        have hn : l.toArray.size = l.length := by simp
        exact less_walk g bx l.length cap W' dk[i]! dk[j]! i j hs (at_ i hi) (at_ j hj) (by omega) (by omega) (by omega) (Nat.lt_of_lt_of_le hS.lt hS'.upd.size) (Nat.lt_of_lt_of_le hlt hS'.upd.size)
      have hc := sliceStableK (enc := encM) (k := 4) lays8 25 44 mkT mkE (by kernel_rfl) (by kernel_rfl) (by kernel_rfl) (by kernel_rfl) 25 (fun _ => by kernel_rfl) (fun _ => rfl) (by kernel_rfl) (fun _ => by kernel_rfl)
        (fun x u hu => by simp [encM] at hu; rcases hu with rfl | rfl | rfl | rfl <;> rfl) befM 75 #[.pointer (some ⟨bx, 0, none⟩)] (enters_of Try.func75 (by kernel_rfl) rfl) cap l.toArray (by simp; omega) (by simpa using h20)
        90 (by rw [mkK _ (by simp; omega)]; kernel_rfl) false
        (fun args W => run_callFunc_extern Try.func90 (by kernel_rfl) (by kernel_rfl) (by kernel_rfl) (e := Extern.ReflectliteSwapper.swap false) (by kernel_rfl) args W) W hless hS
      rw [show (l.length : Nat) = l.toArray.size by simp]
      refine hc.mono ?_
      rintro e w' ⟨rfl, hS2⟩
      rw [ins_sort] at hS2
      refine ⟨rfl, ?_, hS2.upd.mono fun k hk => by rw [hk]; rfl⟩
      have := srt_own (cap := cap) (B := B) hS2 r3 (by rw [sort_len]; exact r1) r2 hB
      rw [sort_len] at this
      rw [show l.toArray.size = l.length by simp]
      exact this

end Go.Proofs.Ytngefbdedbbplaa.Ai
