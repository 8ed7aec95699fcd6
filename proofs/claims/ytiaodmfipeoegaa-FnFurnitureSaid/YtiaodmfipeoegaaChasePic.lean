/- The bodies behind strings.Builder's WriteString and String, as this program numbers them. -/
import Derived.Shelf.Strings.BuilderK
import Derived.Test.YtiaodmfipeoegaaCommon
import Derived.Test.YtiaodmfipeoegaaGridOf
import Derived.WalkKit
import Derived.BigCall
import Derived.Lib.Hide
namespace Go.Proofs.Ytiaodmfipeoegaa.Ai
open Go Go.Proofs Go.RowKit
set_option linter.unusedVariables false
set_option linter.unusedSimpArgs false
set_option maxRecDepth 10000
def laysB_ren : Go.Shelf.Ren := ⟨fun | 166 => 69 | 169 => 70 | 240 => 129 | 276 => 163 | n => n, fun | 70 => 88 | 9 => 9 | 0 => 0 | 72 => 90 | 37 => 22 | 127 => 142 | 3 => 3 | 5 => 5 | 4 => 4 | 20 => 20 | 75 => 92 | 80 => 95 | 76 => 93 | 164 => 159 | n => n, fun | n => n⟩
theorem lays166 : Go.Proofs.Lays.n166 Try.prog laysB_ren :=
  { mixed := by kernel_rfl,
    f166 := Try.func69.trans (congrArg some (by kernel_rfl)),
    f240 := Try.func129.trans (congrArg some (by kernel_rfl)),
    f276 := Try.func163.trans (congrArg some (by kernel_rfl)),
    t0 := Try.underlying0,
    a0 := Try.isAgg0,
    z0 := Try.sizeOf0,
    v0 := Try.zeroValue0,
    t3 := Try.underlying3,
    a3 := Try.isAgg3,
    z3 := Try.sizeOf3,
    v3 := Try.zeroValue3,
    t4 := Try.underlying4,
    a4 := Try.isAgg4,
    z4 := Try.sizeOf4,
    v4 := Try.zeroValue4,
    t9 := Try.underlying9,
    a9 := Try.isAgg9,
    z9 := Try.sizeOf9,
    v9 := Try.zeroValue9,
    t20 := Try.underlying20,
    a20 := Try.isAgg20,
    z20 := Try.sizeOf20,
    v20 := Try.zeroValue20,
    t37 := Try.underlying22,
    a37 := Try.isAgg22,
    z37 := Try.sizeOf22,
    v37 := Try.zeroValue22,
    t70 := Try.underlying88,
    a70 := Try.isAgg88,
    z70 := Try.sizeOf88,
    v70 := Try.zeroValue88,
    t72 := Try.underlying90,
    a72 := Try.isAgg90,
    z72 := Try.sizeOf90,
    v72 := Try.zeroValue90,
    t75 := Try.underlying92,
    a75 := Try.isAgg92,
    z75 := Try.sizeOf92,
    v75 := Try.zeroValue92,
    t164 := Try.underlying159,
    a164 := Try.isAgg159,
    z164 := Try.sizeOf159,
    v164 := Try.zeroValue159 }
theorem lays169 : Go.Proofs.Lays.n169 Try.prog laysB_ren :=
  { mixed := by kernel_rfl,
    f169 := Try.func70.trans (congrArg some (by kernel_rfl)),
    t0 := Try.underlying0,
    a0 := Try.isAgg0,
    z0 := Try.sizeOf0,
    v0 := Try.zeroValue0,
    t3 := Try.underlying3,
    a3 := Try.isAgg3,
    z3 := Try.sizeOf3,
    v3 := Try.zeroValue3,
    t9 := Try.underlying9,
    a9 := Try.isAgg9,
    z9 := Try.sizeOf9,
    v9 := Try.zeroValue9,
    t37 := Try.underlying22,
    a37 := Try.isAgg22,
    z37 := Try.sizeOf22,
    v37 := Try.zeroValue22,
    t70 := Try.underlying88,
    a70 := Try.isAgg88,
    z70 := Try.sizeOf88,
    v70 := Try.zeroValue88,
    t72 := Try.underlying90,
    a72 := Try.isAgg90,
    z72 := Try.sizeOf90,
    v72 := Try.zeroValue90,
    t127 := Try.underlying142,
    a127 := Try.isAgg142,
    z127 := Try.sizeOf142,
    v127 := Try.zeroValue142 }
theorem extraB : Builder.Extra Try.prog laysB_ren where
  sizeBuilder := by kernel_rfl
  liesBuilder := by kernel_rfl
  t5 := Try.underlying5
  a5 := Try.isAgg5
  z5 := Try.sizeOf5
  v5 := Try.zeroValue5
  infoByte := by kernel_rfl
  cellsByte := by kernel_rfl
  sizeByte := by kernel_rfl
  neB5 := by decide

/- impl.ChasePicture: a chase's picture, built by strings.Builder. -/
theorem calls_grid {P : Program} {w : World} {I : Nat → Prop} {f : FuncId} {args : List PV} {gr : List (List Int)} {b : Bool} (h : OkA P f args (· = lbI 1 (cSl 1 cInt) (gr, b))) {vs : List Value} (hI : InR w I) (ha : All2 (RepArg w I) args vs) :
    Calls P f vs.toArray w fun e w' => ∃ v, e = .returned (.tuple #[v, .bool b]) ∧ Below w.heap.size w w' ∧ ∃ I' : Nat → Prop, (∀ g, I' g → g < w'.heap.size) ∧ RepI w' I' (.isl 1 (rows (cSl 1 cInt) gr)) v := by
  refine (h.2 w I vs hI ha).mono ?_
  rintro e w' ⟨v, r, gs, rfl, rfl, hb, -, -, hr⟩
  unfold lbI at hr
  cases hr with
  | one hr => cases hr with
    | imm hr => cases hr
  | tup hr =>
    cases hr with
    | cons h1 h2 => cases h2 with
      | cons h2 h3 => cases h3; cases h1 with
        | imm h1 => cases h2 with
          | imm h2 => cases h2; exact ⟨_, rfl, hb, _, fun g hg => hg.2.1, h1⟩
/-- A row that is read. -/
def RowAt (w : World) (u : Value) (r : List Int) : Prop := ∃ g o c, u = .slice (some ⟨g, o, none⟩) r.length c ∧ ∀ (x : Nat) n, r[x]? = some n → w.cell? ⟨g, o + x, none⟩ = some (.int .i64 n)
theorem row_of {w : World} {I : Nat → Prop} {u : Value} {r : List Int} (h : RepI w I (.isl 1 (rows cInt r)) u) (hne : r ≠ []) : RowAt w u r := by
  rw [rows_eq] at h
  generalize hes : r.map cInt = es at h
  cases h with
  | isl0 sz A c hm => exact absurd (List.map_eq_nil_iff.1 hes) hne
  | isl sz es g o c vs hl hr hI hcell hc hm =>
    subst hes
    have := repIs_ints0 hr
    subst this
    refine ⟨g, o, c, by rw [List.length_map], fun x n hx => hcell x _ (by rw [List.getElem?_map, hx]; rfl)⟩
def GridAt (w : World) (v : Value) (gr : List (List Int)) : Prop := ∃ g o c, v = .slice (some ⟨g, o, none⟩) gr.length c ∧ ∀ (y : Nat) r, gr[y]? = some r → ∃ u, w.cell? ⟨g, o + y, none⟩ = some u ∧ RowAt w u r
theorem repIs_rows0 {w : World} {I : Nat → Prop} : ∀ {l : List (List Int)} {vs : List Value}, RepIs w I (l.map (cSl 1 cInt)).flatten vs → ∀ (y : Nat) r, l[y]? = some r → ∃ u, vs[y]? = some u ∧ RepI w I (.isl 1 (rows cInt r)) u
  | [], _, _, y, r, hr => by simp at hr
  | x :: t, _, h, y, r, hr => by
    simp only [List.map_cons, List.flatten_cons, cSl, List.cons_append, List.nil_append] at h
    cases h with
    | cons h1 h2 =>
      cases y with
      | zero => simp at hr; subst hr; exact ⟨_, rfl, h1⟩
      | succ y => exact repIs_rows0 h2 y r (by simpa using hr)
theorem grid_of {w : World} {I : Nat → Prop} {v : Value} {gr : List (List Int)} (h : RepI w I (.isl 1 (rows (cSl 1 cInt) gr)) v) (hne : gr ≠ []) (hr : ∀ r ∈ gr, r ≠ []) : GridAt w v gr := by
  rw [rows_eq] at h
  generalize hes : gr.map (cSl 1 cInt) = es at h
  cases h with
  | isl0 sz A c hm => exact absurd (List.map_eq_nil_iff.1 hes) hne
  | isl sz es g o c vs hl hrs hI hcell hc hm =>
    subst hes
    refine ⟨g, o, c, by rw [List.length_map], fun y r hy => ?_⟩
    obtain ⟨u, hu, h1⟩ := repIs_rows0 hrs y r hy
    exact ⟨u, hcell y _ hu, row_of h1 (hr r (List.mem_of_getElem? hy))⟩
theorem picF_take {gr : List (List Int)} {y : Nat} {r : List Int} (h : gr[y]? = some r) : picF (gr.take (y + 1)) = picF (gr.take y) ++ (r.map sgnC ++ [10]) := by
  unfold picF
  rw [List.take_add_one, h]; simp [List.flatMap_append]
theorem picF_le (gr : List (List Int)) (y : Nat) : (picF (gr.take y)).length ≤ (picF gr).length := by
  have : picF gr = picF (gr.take y) ++ picF (gr.drop y) := by
    unfold picF; rw [← List.flatMap_append, List.take_append_drop]
  rw [this, List.length_append]; omega
theorem sgn_take {r : List Int} {x : Nat} {n : Int} (h : r[x]? = some n) : (r.take (x + 1)).map sgnC = (r.take x).map sgnC ++ [sgnC n] := by rw [List.take_add_one, h]; simp
theorem IsBuilderF_old {T e : TypeId} {B b : Nat} {bs : List Value} {w w' : World} (h : Lib.IsBuilderF T e B b bs w) (hk : ∀ k, k < w.heap.size → w'.heap[k]? = w.heap[k]?) : Lib.IsBuilderF T e B b bs w' := by
  have one : ∀ p, Lib.BuilderAtF T e B b p bs w → Lib.BuilderAtF T e B b p bs w' := by
    rintro p ⟨hB, v, hb, ⟨h1, h2⟩, h3⟩
    have lt : ∀ {k : Nat} {o : Obj}, w.heap[k]? = some o → w'.heap[k]? = some o := fun {k o} ho => by rw [hk k (Array.getElem?_eq_some_iff.1 ho).1]; exact ho
    refine ⟨hB, v, lt hb, ⟨h1, ?_⟩, h3⟩
    rcases h2 with h2 | ⟨g, cap, cur, fz, a, b', c, d⟩
    · exact .inl h2
    · exact .inr ⟨g, cap, cur, fz, a, b', lt c, d⟩
  exact h.imp (one _) (one _)
theorem picA_some {w h : Int} {ps : List Piece} {pl : List Plc} {G : Grid} (e : chaseF w h ps pl = some G) : picA w h ps pl = (picF (tabG w.toNat h.toNat G), true) := by unfold picA; rw [e]
theorem picA_none {w h : Int} {ps : List Piece} {pl : List Plc} (e : chaseF w h ps pl = none) : picA w h ps pl = ([], false) := by unfold picA; rw [e]
theorem sgn_num {n : Int} (h : 0 ≤ n ∧ n ≤ 7) : n = 0 ∨ n = 1 ∨ n = 2 ∨ n = 3 ∨ n = 4 ∨ n = 5 ∨ n = 6 ∨ n = 7 := by omega
theorem one_byte (l : List UInt8) (b : UInt8) : Lib.byteCells l ++ Lib.strCells ⟨#[b]⟩ = Lib.byteCells (l ++ [b]) := by rw [Lib.byteCells_append]; rfl
theorem cell_old {w w' : World} (h : Below w.heap.size w w') {a : Addr} {v : Value} (hc : w.cell? a = some v) : w'.cell? a = some v := by
  rcases Nat.lt_or_ge a.block w.heap.size with hl | hl
  · rw [h.cell hl]; exact hc
  · unfold World.cell? at hc
    rw [Array.getElem?_eq_none hl] at hc
    simp at hc
def sb (p : List UInt8 × Bool) : PV := .tup [.str p.1, .bool p.2]
set_option maxHeartbeats 4000000 in
set_option maxRecDepth 1000000 in
theorem pic_walk (width height : Int) (pieces : List Piece) (placed : List Plc) (hb : ∀ p ∈ placed, p.2.1 ≤ 1000000 ∧ p.2.2.1 ≤ 1000000) (vps vpl : Value) (w : World) (I : Nat → Prop) (hI : InR w I)
    (ha : All2 (RepArg w I) [.int .i64 width, .int .i64 height, .isl 2 (rows cPiece pieces), .isl 4 (rows cPlaced placed)] [.int .i64 width, .int .i64 height, vps, vpl]) :
    Calls Try.prog 14 #[.int .i64 width, .int .i64 height, vps, vpl] w fun e w' => e = .returned (.tuple #[.string ⟨(picA width height pieces placed).1.toArray⟩, .bool (picA width height pieces placed).2]) ∧ Below w.heap.size w w' := by
  cases hF : chaseF width height pieces placed with
  | none =>
    have eL : chaseL width height pieces placed = ([], false) := by unfold chaseL; rw [hF]
    have A1 : Calls Try.prog 64 #[.int .i64 width, .int .i64 height, vps, vpl] w _ := calls_grid (eL ▸ chaseOf_ok width height pieces placed hb) hI ha
    rw [picA_none hF]
    go_enter Try.func14, Try.ntmps14
    go_wp2_with (go_at_call 64; refine A1.mono ?_; rintro e w1 ⟨v, rfl, b1, -⟩)
    go_ret2
    exact ⟨rfl, b1⟩
  | some G =>
    have eL : chaseL width height pieces placed = (tabG width.toNat height.toNat G, true) := by unfold chaseL; rw [hF]
    have A1 : Calls Try.prog 64 #[.int .i64 width, .int .i64 height, vps, vpl] w _ := calls_grid (eL ▸ chaseOf_ok width height pieces placed hb) hI ha
    rw [picA_some hF]
    obtain ⟨hc, hs, -⟩ := chaseF_some hF
    obtain ⟨bw, bh, -⟩ := okCh_spec hc
    obtain ⟨W, rfl⟩ : ∃ W : Nat, width = W := ⟨width.toNat, by omega⟩
    obtain ⟨H, rfl⟩ : ∃ H : Nat, height = H := ⟨height.toNat, by omega⟩
    simp only [Int.toNat_natCast] at A1 hs ⊢
    obtain ⟨gr, hgr⟩ : ∃ gr, gr = tabG W H G := ⟨_, rfl⟩
    have gl : gr.length = H := by rw [hgr, tabG_length]
    have gs : ∀ r ∈ gr, r.length = W ∧ ∀ c ∈ r, -1 ≤ c ∧ c ≤ 7 := fun r hr => by
      rw [hgr] at hr
      refine ⟨?_, tabG_small hs r hr⟩
      obtain ⟨y, hy⟩ := List.getElem?_of_mem hr
      have hyH := (List.getElem?_eq_some_iff.1 hy).1
      rw [tabG_length] at hyH
      rw [tabG_at hyH] at hy
      rw [← Option.some.inj hy, row_length]
    have pl : (picF gr).length ≤ 72 := by
      rw [hgr, pic_length]
      exact Nat.le_trans (Nat.mul_le_mul (show H ≤ 8 by omega) (show W + 1 ≤ 9 by omega)) (by omega)
    rw [← hgr] at A1 ⊢
    clear hgr eL hF hc hs
    go_enter Try.func14, Try.ntmps14
    go_wp2_with (go_at_call 64; refine A1.mono ?_; rintro e w1 ⟨v, rfl, b1, I1, i1, r1⟩; refine Hid.out ?_)
    refine Lib.hid ?_
    have gd : GridAt w1 v gr := grid_of r1 (by intro e; rw [e] at gl; simp at gl; omega) fun r hr e => by have := (gs r hr).1; rw [e] at this; simp at this; omega
    clear A1 r1 i1 ha hI
    obtain ⟨g0, o0, c0, rfl, gd⟩ := gd
    rw [gl]
    have fb := Lib.IsBuilderF.of (Lib.fresh_isBuilder 90 5 w1)
    have q1 : Below w1.heap.size w1 (w1.alloc (.cells #[.pointer none, .slice none 0 0] 90)) := (Below.refl _ _).alloc (Nat.le_refl _) _
    generalize hw2 : w1.alloc (.cells #[.pointer none, .slice none 0 0] 90) = w2 at fb q1
    go_wp2
    clear hw2
    have HG := Lib.hid gd
    clear gd
    go_loopw [29] (fun u wr => ∃ y : Nat, u = .int .i64 (y : Int) ∧ y ≤ H ∧ Lib.IsBuilderF 90 5 w1.heap.size w1.heap.size (Lib.byteCells (picF (gr.take y))) wr ∧ Below w1.heap.size w1 wr) (fun u _ => H - (intOf u).toNat)
    case atStart => exact ⟨0, rfl, Nat.zero_le _, fb, q1⟩
    case round =>
      obtain ⟨y, rfl, hyH, hB, hb2⟩ := hrel
      by_cases hy : y < H
      · obtain ⟨r, hr⟩ : ∃ r, gr[y]? = some r := ⟨_, List.getElem?_eq_getElem (by omega)⟩
        obtain ⟨u, hu, g1, o1, c1, rfl, hrow⟩ := HG.out y r hr
        obtain ⟨rl, rc⟩ := gs r (List.mem_of_getElem? hr)
        have cU := cell_old hb2 hu
        rw [rl] at cU
        have HR := Lib.hid hrow
        clear hrow
        go_wp2
        go_loopw [35] (fun u wq => ∃ x : Nat, u = .int .i64 (x : Int) ∧ x ≤ W ∧ Lib.IsBuilderF 90 5 w1.heap.size w1.heap.size (Lib.byteCells (picF (gr.take y) ++ (r.take x).map sgnC)) wq ∧ Below w1.heap.size w1 wq) (fun u _ => W - (intOf u).toNat)
        case atStart => exact ⟨0, rfl, Nat.zero_le _, by simpa using hB, hb2⟩
        case round =>
          obtain ⟨x, rfl, hxW, hB3, hb3⟩ := hrel
          by_cases hx : x < W
          · obtain ⟨n, hn⟩ : ∃ n, r[x]? = some n := ⟨_, List.getElem?_eq_getElem (by omega)⟩
            have cN := cell_old hb3 (HR.out x n hn)
            have bn := rc n (List.mem_of_getElem? hn)
            have la : (picF (gr.take y)).length ≤ 72 := Nat.le_trans (picF_le gr y) pl
            have lt8 : ((r.take x).map sgnC).length ≤ 8 := by rw [List.length_map, List.length_take]; omega
            have la2 : (Lib.byteCells (picF (gr.take y) ++ (r.take x).map sgnC)).length ≤ 80 := by rw [Lib.byteCells_length, List.length_append]; omega
            have WR := fun (b : UInt8) => Any.Builder_WriteString_k lays166 extraB w1.heap.size w1.heap.size (Lib.byteCells (picF (gr.take y) ++ (r.take x).map sgnC)) ⟨#[b]⟩ wr hB3 (by show _ + 1 ≤ _; omega) hb3.size
            have fin : ∀ (b : UInt8) (w5 : World), sgnC n = b → Lib.BuilderAtF 90 5 w1.heap.size w1.heap.size (.pointer (some ⟨w1.heap.size, 0, none⟩)) (Lib.byteCells (picF (gr.take y) ++ (r.take x).map sgnC) ++ Lib.strCells ⟨#[b]⟩) w5 → Lib.IsBuilderF 90 5 w1.heap.size w1.heap.size (Lib.byteCells (picF (gr.take y) ++ (r.take (x + 1)).map sgnC)) w5 := fun b w5 e h => by
              rw [sgn_take hn, e, ← List.append_assoc, ← one_byte]; exact .inr h
            clear hB3 hB cU hu
            by_cases h1 : n = -1
            · subst h1
              have AW := WR 46
              have fn := fun w5 => fin 46 w5 rfl
              clear WR fin
              go_wp2_with (go_at_call 69; refine AW.mono ?_; rintro e w5 ⟨rfl, h5, b5, -⟩; refine Hid.out ?_)
              all_goals try (exfalso; omega)
              refine Lib.hid ?_
              go_wp2
              refine ⟨⟨x + 1, rfl, by omega, fn w5 h5, hb3.trans b5⟩, ?_⟩
              simp only [intOf]; omega
            · rcases sgn_num (n := n) ⟨by omega, by omega⟩ with rfl | rfl | rfl | rfl | rfl | rfl | rfl | rfl
              all_goals
                first
                | have AW := WR 48
                  have fn := fun w5 => fin 48 w5 rfl
                | have AW := WR 49
                  have fn := fun w5 => fin 49 w5 rfl
                | have AW := WR 50
                  have fn := fun w5 => fin 50 w5 rfl
                | have AW := WR 51
                  have fn := fun w5 => fin 51 w5 rfl
                | have AW := WR 52
                  have fn := fun w5 => fin 52 w5 rfl
                | have AW := WR 53
                  have fn := fun w5 => fin 53 w5 rfl
                | have AW := WR 54
                  have fn := fun w5 => fin 54 w5 rfl
                | have AW := WR 55
                  have fn := fun w5 => fin 55 w5 rfl
                clear WR fin
                go_wp2_with (go_at_call 69; refine AW.mono ?_; rintro e w5 ⟨rfl, h5, b5, -⟩; refine Hid.out ?_)
                all_goals try (exfalso; omega)
                refine Lib.hid ?_
                go_wp2
                refine ⟨⟨x + 1, rfl, by omega, fn w5 h5, hb3.trans b5⟩, ?_⟩
                simp only [intOf]; omega
          · obtain rfl : x = W := by omega
            have la : (picF (gr.take y)).length ≤ 72 := Nat.le_trans (picF_le gr y) pl
            have lt8 : ((r.take x).map sgnC).length ≤ 8 := by rw [List.length_map, List.length_take]; omega
            have la2 : (Lib.byteCells (picF (gr.take y) ++ (r.take x).map sgnC)).length ≤ 80 := by rw [Lib.byteCells_length, List.length_append]; omega
            have AW := Any.Builder_WriteString_k lays166 extraB w1.heap.size w1.heap.size (Lib.byteCells (picF (gr.take y) ++ (r.take x).map sgnC)) ⟨#[10]⟩ wr hB3 (by show _ + 1 ≤ _; omega) hb3.size
            have fn : ∀ (w5 : World), Lib.BuilderAtF 90 5 w1.heap.size w1.heap.size (.pointer (some ⟨w1.heap.size, 0, none⟩)) (Lib.byteCells (picF (gr.take y) ++ (r.take x).map sgnC) ++ Lib.strCells ⟨#[10]⟩) w5 → Lib.IsBuilderF 90 5 w1.heap.size w1.heap.size (Lib.byteCells (picF (gr.take (y + 1)))) w5 := fun w5 h => by
              rw [picF_take hr, ← List.append_assoc, ← one_byte]
              rw [List.take_of_length_le (l := r) (by omega)] at h
              exact .inr h
            clear hB3 hB cU hu
            go_wp2_with (go_at_call 69; refine AW.mono ?_; rintro e w5 ⟨rfl, h5, b5, -⟩; refine Hid.out ?_)
            all_goals try (exfalso; omega)
            refine Lib.hid ?_
            go_wp2
            refine ⟨⟨y + 1, rfl, by omega, fn w5 h5, hb3.trans b5⟩, ?_⟩
            simp only [intOf]; omega
      · obtain rfl : y = H := by omega
        rw [List.take_of_length_le (by omega)] at hB
        go_wp2_with (go_at_call 70; refine (Any.Builder_String_any_k lays169 extraB w1.heap.size w1.heap.size (picF gr) wr hB hb2.size).mono ?_; rintro e w5 ⟨rfl, -, b5, -⟩; refine Hid.out ?_)
        all_goals try (exfalso; omega)
        refine Lib.hid ?_
        go_wp2
        go_ret2
        exact ⟨rfl, b1.trans ((hb2.trans b5).mono b1.size)⟩
theorem ChasePicture_ok (width height : Int) (pieces : List Piece) (placed : List Plc) (hb : ∀ p ∈ placed, p.2.1 ≤ 1000000 ∧ p.2.2.1 ≤ 1000000) : OkA Try.prog 14 [.int .i64 width, .int .i64 height, .isl 2 (rows cPiece pieces), .isl 4 (rows cPlaced placed)] (· = sb (picA width height pieces placed)) := by
  refine ⟨⟨_, Try.func14, rfl, rfl⟩, fun w I vs hI hargs => ?_⟩
  obtain ⟨vps, vpl, rfl⟩ : ∃ vps vpl, vs = [.int .i64 width, .int .i64 height, vps, vpl] := by
    cases hargs with
    | cons h1 t => cases t with
      | cons h2 t => cases t with
        | cons h3 t => cases t with
          | cons h4 t =>
            cases t
            cases h1 with
            | one h1 => cases h1; cases h2 with
              | one h2 => cases h2; exact ⟨_, _, rfl⟩
  refine (pic_walk width height pieces placed hb vps vpl w I hI hargs).mono ?_
  rintro e w' ⟨rfl, hbl⟩
  refine ⟨_, sb (picA width height pieces placed), [] ++ ([] ++ []), rfl, rfl, hbl, List.nodup_nil, (fun g hg => by cases hg), .tup (.cons (.imm (.str _ ?_)) (.cons (.imm (.bool _)) .nil))⟩
  unfold picA
  cases hF : chaseF width height pieces placed with
  | none => unfold maxLen; simp
  | some G =>
    obtain ⟨hc, -, -⟩ := chaseF_some hF
    obtain ⟨bw, bh, -⟩ := okCh_spec hc
    show (picF (tabG width.toNat height.toNat G)).length ≤ maxLen
    rw [pic_length]
    exact Nat.le_trans (Nat.mul_le_mul (show height.toNat ≤ 8 by omega) (show width.toNat + 1 ≤ 9 by omega)) (by unfold maxLen; omega)

end Go.Proofs.Ytiaodmfipeoegaa.Ai
