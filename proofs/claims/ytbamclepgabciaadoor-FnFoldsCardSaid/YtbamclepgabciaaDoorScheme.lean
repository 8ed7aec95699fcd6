/- impl.SchemeText: its text is built by strings.Builder, row by row. -/
import Derived.Test.YtbamclepgabciaaDoorFolds
import Derived.Shelf.Strings.BuilderK
import Derived.WalkKit
import Derived.BigCall
import Derived.Lib.Hide
namespace Go.Proofs.YtbamclepgabciaaDoor.Ai
open Go Go.Proofs Go.RowKit
set_option linter.unusedSimpArgs false
set_option linter.unusedVariables false

theorem repIs_ints0 {w : World} {I : Nat → Prop} : ∀ {l : List Int} {vs : List Value}, RepIs w I (l.map cInt).flatten vs → vs = l.map (Value.int .i64)
  | [], _, h => by cases h; rfl
  | x :: r, _, h => by
    simp only [List.map_cons, List.flatten_cons, cInt, List.cons_append, List.nil_append] at h
    cases h with
    | cons h1 h2 =>
      cases h1 with
      | int k n hn => rw [List.map_cons, repIs_ints0 h2]

theorem repIs_ints1 {w : World} {I : Nat → Prop} : ∀ {l : List Int}, (∀ x ∈ l, IntKind.i64.wrap x = x) → RepIs w I (l.map cInt).flatten (l.map (Value.int .i64))
  | [], _ => .nil
  | x :: r, h => .cons (.int _ _ (h x (by simp))) (repIs_ints1 fun y hy => h y (by simp [hy]))

section
variable {P : Program} {w : World} {I : Nat → Prop}
theorem calls_bool {f : FuncId} {args : List PV} {b : Bool} (h : OkA P f args (· = .bool b)) {vs : List Value} (hI : InR w I) (ha : All2 (RepArg w I) args vs) :
    Calls P f vs.toArray w fun e w' => e = .returned (.bool b) ∧ Below w.heap.size w w' := by
  refine (h.2 w I vs hI ha).mono ?_
  rintro e w' ⟨v, r, gs, rfl, rfl, hb, -, -, hr⟩
  cases hr with
  | one hr => cases hr with
    | imm hr => cases hr; exact ⟨rfl, hb⟩
theorem calls_str {f : FuncId} {args : List PV} {s : List UInt8} (h : OkA P f args (· = .str s)) {vs : List Value} (hI : InR w I) (ha : All2 (RepArg w I) args vs) :
    Calls P f vs.toArray w fun e w' => e = .returned (.string ⟨s.toArray⟩) ∧ Below w.heap.size w w' := by
  refine (h.2 w I vs hI ha).mono ?_
  rintro e w' ⟨v, r, gs, rfl, rfl, hb, -, -, hr⟩
  cases hr with
  | one hr => cases hr with
    | imm hr => cases hr; exact ⟨rfl, hb⟩
theorem calls_ii {f : FuncId} {args : List PV} {p : Int × Int} (h : OkA P f args (· = ii p)) {vs : List Value} (hI : InR w I) (ha : All2 (RepArg w I) args vs) :
    Calls P f vs.toArray w fun e w' => e = .returned (.tuple #[.int .i64 p.1, .int .i64 p.2]) ∧ Below w.heap.size w w' := by
  refine (h.2 w I vs hI ha).mono ?_
  rintro e w' ⟨v, r, gs, rfl, rfl, hb, -, -, hr⟩
  unfold ii at hr
  cases hr with
  | one hr => cases hr with
    | imm hr => cases hr
  | tup hr =>
    cases hr with
    | cons h1 h2 => cases h2 with
      | cons h2 h3 => cases h3; cases h1 with
        | imm h1 => cases h1; cases h2 with
          | imm h2 => cases h2; exact ⟨rfl, hb⟩
theorem calls_row {f : FuncId} {args : List PV} {e : TypeId} {l : List Int} (h : OkA P f args (· = .fr e 1 (rows cInt l))) {vs : List Value} (hI : InR w I) (ha : All2 (RepArg w I) args vs) :
    Calls P f vs.toArray w fun en w' => ∃ v, en = .returned v ∧ Below w.heap.size w w' ∧ w'.ownsRow w.heap.size e 1 v l.length (l.map (.int .i64)) := by
  refine (h.2 w I vs hI ha).mono ?_
  rintro en w' ⟨v, r, gs, rfl, rfl, hb, -, -, hr⟩
  refine ⟨v, rfl, hb, ?_⟩
  cases hr with
  | one hr => cases hr with
    | imm hr => cases hr
    | fr _ _ _ _ vals ho hr hl =>
      rw [rows_eq] at ho hr
      have := repIs_ints0 hr
      subst this
      simpa using ho
end

theorem InR.on {w w' : World} {I : Nat → Prop} (h : InR w I) (hb : Below w.heap.size w w') : InR w' I := by
  obtain ⟨h1, T, h2, h3⟩ := h
  have hs : w.heap.size ≤ w'.heap.size := hb.size
  exact ⟨fun g hg => Nat.lt_of_lt_of_le (h1 g hg) hs, T, Nat.le_trans h2 hs, h3.on (hb.mono h2)⟩
theorem IsBuilderF_old {T e : TypeId} {B b : Nat} {bs : List Value} {w w' : World} (h : Lib.IsBuilderF T e B b bs w) (hk : ∀ k, k < w.heap.size → w'.heap[k]? = w.heap[k]?) : Lib.IsBuilderF T e B b bs w' := by
  have one : ∀ p, Lib.BuilderAtF T e B b p bs w → Lib.BuilderAtF T e B b p bs w' := by
    rintro p ⟨hB, v, hb, ⟨h1, h2⟩, h3⟩
    have lt : ∀ {k : Nat} {o : Obj}, w.heap[k]? = some o → w'.heap[k]? = some o := fun {k o} ho => by rw [hk k (Array.getElem?_eq_some_iff.1 ho).1]; exact ho
    refine ⟨hB, v, lt hb, ⟨h1, ?_⟩, h3⟩
    rcases h2 with h2 | ⟨g, cap, cur, fz, a, b', c, d⟩
    · exact .inl h2
    · exact .inr ⟨g, cap, cur, fz, a, b', lt c, d⟩
  exact h.imp (one _) (one _)
/-- What is left of the pages: a slice into a row of numbers. -/
def RestAt (w : World) (v : Value) (l : List Int) : Prop :=
  ∃ A cap, v = .slice A l.length cap ∧ l.length ≤ cap ∧ cap ≤ maxLen ∧ (∀ x ∈ l, 1 ≤ x ∧ x ≤ 32) ∧ (l ≠ [] → ∃ g o arr fz, A = some ⟨g, o, none⟩ ∧ w.heap[g]? = some (.cells arr 3 fz) ∧ ∀ j x, l[j]? = some x → arr[o + j]? = some (.int .i64 x))

theorem joinC_len : ∀ l : List Int, (joinC l).length ≤ 3 * l.length
  | [] => by simp [joinC]
  | [x] => by have := dg_len x; simp only [joinC, List.length_cons, List.length_nil]; omega
  | x :: y :: r => by
    have h1 := dg_len x
    have h2 := joinC_len (y :: r)
    simp only [joinC, List.length_append, List.length_cons] at h2 ⊢
    omega
theorem size_join (l : List UInt8) : ((⟨l.toArray⟩ : ByteArray) ++ ⟨#[47]⟩).size = l.length + 1 := by simp [ByteArray.size_append, ByteArray.size]
theorem cells_join (l : List UInt8) : Lib.strCells ((⟨l.toArray⟩ : ByteArray) ++ ⟨#[47]⟩) = Lib.byteCells (l ++ [47]) := by
  rw [show ((⟨l.toArray⟩ : ByteArray) ++ ⟨#[47]⟩) = ⟨(l ++ [47]).toArray⟩ by apply ByteArray.ext; simp]; rfl
theorem schS_len (c : Nat) : ∀ (l : List Int) (i : Nat), (schS c l i).length ≤ 3 * l.length
  | [], _ => by simp [schS]
  | x :: r, i => by
    have h1 := dg_len x
    have h2 := schS_len c r (i + 1)
    simp only [schS, List.length_append, List.length_cons]
    omega
theorem schF_len (fs : List Fold) : (schF fs).1.length ≤ 48 := by
  unfold schF
  split
  · rename_i hg
    have h1 := schS_len (2 ^ wide fs) (pagesL fs true) 0
    have h2 := (text_ok hg).lenf
    have h3 := pow16 (goodF_le hg)
    show (schL fs).length ≤ 48
    unfold schL
    omega
  · simp
theorem schI_nil (c : Nat) : ∀ k, schI c k [] = []
  | 0 => rfl
  | _ + 1 => rfl
theorem rest_own {w : World} {B : Nat} {v : Value} {l : List Int} (h : w.ownsRow B 3 1 v l.length (l.map (.int .i64))) (hx : ∀ x ∈ l, 1 ≤ x ∧ x ≤ 32) : RestAt w v l := by
  obtain ⟨-, ⟨rfl, hn⟩ | ⟨g, cap, cur, rfl, hb, hg, h1, h2, h3, h4⟩⟩ := h
  · exact ⟨none, 0, by rw [hn], by omega, by unfold maxLen; omega, hx, fun hl => absurd (List.length_eq_zero_iff.1 hn) hl⟩
  · refine ⟨_, cap, rfl, h1, h2, hx, fun _ => ⟨g, 0, cur, _, rfl, hg, fun j x hj => ?_⟩⟩
    have hlt := (List.getElem?_eq_some_iff.1 hj).1
    rw [Nat.mul_one] at h4
    have : (cur.toList.take l.length)[j]? = some (.int .i64 x) := by rw [h4, List.getElem?_map, hj]; rfl
    rw [List.getElem?_take, if_pos hlt] at this
    rw [Nat.zero_add, ← Array.getElem?_toList]; exact this
def sliceLen : Value → Nat
  | .slice _ n _ => n
  | _ => 0
set_option maxHeartbeats 4000000 in
set_option maxRecDepth 1000000 in
theorem scheme_walk (folds : List Fold) (v : Value) (w : World) (I : Nat → Prop) (hI : InR w I) (hv : RepI w I (.isl 2 (rows cFold folds)) v) :
    Calls Tryd.prog 34 #[v] w fun e w' => e = .returned (.tuple #[.string ⟨(schF folds).1.toArray⟩, .bool (schF folds).2]) ∧ Below w.heap.size w w' := by
  have A1 : Calls Tryd.prog 36 #[v] w _ := calls_bool (AreFolds_ok folds) hI (All2.cons (.one hv) .nil)
  cases hg : goodF folds with
  | false =>
    rw [hg] at A1
    go_enter Tryd.func34, Tryd.ntmps34
    go_wp2_with (go_at_call 36; refine A1.mono ?_; rintro e w1 ⟨rfl, b1⟩)
    go_ret2
    refine ⟨?_, b1⟩
    rw [schF, hg]; rfl
  | true =>
    rw [hg] at A1
    go_enter Tryd.func34, Tryd.ntmps34
    go_wp2_with (go_at_call 36; refine A1.mono ?_; rintro e w1 ⟨rfl, b1⟩; refine Hid.out ?_)
    refine Lib.hid ?_
    have hI1 := hI.on b1
    have hv1 : RepI w1 I (.isl 2 (rows cFold folds)) v := hv.mono fun g h => ⟨h, b1.block g (hI.1 g h)⟩
    have A2 : Calls Tryd.prog 92 #[v] w1 _ := calls_ii (sheetSize_ok folds (goodF_le hg)) hI1 (All2.cons (.one hv1) .nil)
    go_wp2_with (go_at_call 92; refine A2.mono ?_; rintro e w2 ⟨rfl, b2⟩; refine Hid.out ?_)
    refine Lib.hid ?_
    have hI2 := hI1.on b2
    have hv2 : RepI w2 I (.isl 2 (rows cFold folds)) v := hv1.mono fun g h => ⟨h, b2.block g (hI1.1 g h)⟩
    have ba : Below w2.heap.size w2 (w2.alloc (.cells #[.pointer none, .slice none 0 0] 108)) := (Below.refl _ _).alloc (Nat.le_refl _) _
    have hIa := hI2.on ba
    have hva : RepI (w2.alloc (.cells #[.pointer none, .slice none 0 0] 108)) I (.isl 2 (rows cFold folds)) v := hv2.mono fun g h => ⟨h, ba.block g (hI2.1 g h)⟩
    have A3 : Calls Tryd.prog 86 #[v, .bool true] (w2.alloc (.cells #[.pointer none, .slice none 0 0] 108)) _ := calls_row (pages_ok folds true hg) hIa (All2.cons (.one hva) (All2.cons (.one (.bool true)) .nil))
    go_wp2_with (go_at_call 86; refine A3.mono ?_; rintro e w3 ⟨u, rfl, b3, hown⟩; refine Hid.out ?_)
    refine Lib.hid ?_
    go_wp2
    go_loopw [7] (fun u wr => ∃ (acc : List UInt8) (rest : List Int) (n fuel : Nat), Lib.IsBuilderF 108 5 w2.heap.size w2.heap.size (Lib.byteCells acc) wr ∧ RestAt wr u rest ∧ Below w2.heap.size w2 wr ∧
        acc ++ schI (2 ^ wide folds) fuel rest = schL folds ∧ rest.length = n * 2 ^ wide folds ∧ n ≤ fuel ∧ n ≤ 16 ∧ acc.length ≤ 100 * (16 - n)) (fun u _ => sliceLen u)
    case atStart =>
      have tx := text_ok hg
      refine ⟨[], pagesL folds true, 2 ^ high folds, 16, IsBuilderF_old (Lib.IsBuilderF.of (Lib.fresh_isBuilder 108 5 w2)) b3.block, ?_, ba.trans (b3.mono ba.size), by rw [tx.text]; rfl, by rw [tx.size, Nat.mul_comm], ?_, ?_, Nat.zero_le _⟩
      · exact rest_own hown tx.front
      · exact pow16 (Nat.le_trans (high_le folds) (goodF_le hg))
      · exact pow16 (Nat.le_trans (high_le folds) (goodF_le hg))
    case round =>
      obtain ⟨acc, rest, n, fuel, hB, hR, hb, htx, hlen, hnf, hn16, hacc⟩ := hrel
      obtain ⟨A, cap, rfl, hc1, hc2, hx, hA⟩ := hR
      have hIr := hI2.on hb
      have hcp : 1 ≤ 2 ^ wide folds := Nat.pow_pos (by omega)
      have hc16 := pow16 (k := wide folds) (Nat.le_trans (wide_le folds) (goodF_le hg))
      have HL0 := Lib.hid hlen
      clear hlen
      rcases Nat.eq_zero_or_pos rest.length with h0 | h0
      · go_wp2_with (go_at_call 96; refine (Any.Builder_String_any_k ({ lays156 with } : Lays.n169 Tryd.prog lays156_ren) extra156 w2.heap.size w2.heap.size acc wr hB hb.size).mono ?_; rintro e w5 ⟨rfl, -, b5, -⟩; refine Hid.out ?_)
        all_goals try (exfalso; omega)
        refine Lib.hid ?_
        go_wp2
        go_ret2
        refine ⟨?_, b1.trans ((b2.mono b1.size).trans ((hb.mono (Nat.le_trans b1.size b2.size)).trans (b5.mono (Nat.le_trans b1.size b2.size))))⟩
        rw [List.length_eq_zero_iff.1 h0, schI_nil, List.append_nil] at htx
        rw [schF, hg, htx]; rfl
      · obtain ⟨g, o, arr, fz, rfl, hga, hcell⟩ := hA (List.length_pos_iff.1 h0)
        have hlen := HL0.out
        obtain ⟨m, rfl⟩ : ∃ m, n = m + 1 := ⟨n - 1, by cases n with | zero => omega | succ n => simp⟩
        obtain ⟨f, rfl⟩ : ∃ f, fuel = f + 1 := ⟨fuel - 1, by omega⟩
        have hcw : (sizeF folds).1 = ((2 ^ wide folds : Nat) : Int) := rfl
        have hcn : (sizeF folds).1.toNat = 2 ^ wide folds := by rw [hcw, Int.toNat_natCast]
        have hC0 : 0 ≤ (sizeF folds).1 := by omega
        rw [Nat.add_mul, Nat.one_mul] at hlen
        have hle : 2 ^ wide folds ≤ rest.length := by omega
        have htl : (rest.take (2 ^ wide folds)).length = 2 ^ wide folds := by rw [List.length_take]; omega
        have hrp : RepI wr (fun k => k < wr.heap.size) (.isl 1 (rows cInt (rest.take (2 ^ wide folds)))) (.slice (some ⟨g, o, none⟩) (sizeF folds).1.toNat cap) := by
          have := RepI.isl (w := wr) (I := fun k => k < wr.heap.size) 1 ((rest.take (2 ^ wide folds)).map cInt) g o cap ((rest.take (2 ^ wide folds)).map (.int .i64)) (fun e he => by obtain ⟨y, -, rfl⟩ := List.mem_map.1 he; rfl)
            (repIs_ints1 fun y hy => by have := hx y (List.mem_of_mem_take hy); exact wrap64 (by omega) (by omega)) (Array.getElem?_eq_some_iff.1 hga).1
            (fun j y hy => by
              rw [List.getElem?_map] at hy
              cases hz : (rest.take (2 ^ wide folds))[j]? with
              | none => rw [hz] at hy; cases hy
              | some z =>
                rw [hz] at hy
                obtain rfl := Option.some.inj hy
                rw [List.getElem?_take] at hz
                split at hz
                · simp [World.cell?, hga, hcell j z hz]
                · cases hz) (by rw [List.length_map, htl]; omega) hc2
          rw [List.length_map, htl] at this
          rw [rows_eq, hcn]; exact this
        have hIj : InR wr (fun k => k < wr.heap.size) := by obtain ⟨-, T, hT, hG⟩ := hIr; exact ⟨fun _ h => h, T, hT, hG⟩
        have hxt : ∀ y ∈ rest.take (2 ^ wide folds), 1 ≤ y ∧ y ≤ 32 := fun y hy => hx y (List.mem_of_mem_take hy)
        have AJ : Calls Tryd.prog 95 #[.slice (some ⟨g, o, none⟩) (sizeF folds).1.toNat cap, .string ⟨#[44]⟩] wr _ :=
          calls_str (join_ok (rest.take (2 ^ wide folds)) [44] (by omega) (by decide) (fun y hy => by have := hxt y hy; omega)) hIj (All2.cons (.one hrp) (All2.cons (.one (.str [44] (by decide))) .nil))
        rw [join_dg fun y hy => by have := hxt y hy; omega] at AJ
        have hC1 : (sizeF folds).1 ≤ (cap : Int) := by omega
        have hC2 : (sizeF folds).1 ≤ (rest.length : Int) := by omega
        have HCN := Lib.hid hcn
        have HL := Lib.hid hlen
        have HT := Lib.hid htl
        clear hcw hcn hlen htl
        go_wp2_with (go_at_call 95; refine AJ.mono ?_; rintro e w4 ⟨rfl, b4⟩; refine Hid.out ?_)
        all_goals try (exfalso; omega)
        refine Lib.hid ?_
        have hB4 := IsBuilderF_old hB b4.block
        have hs4 : w2.heap.size ≤ w4.heap.size := Nat.le_trans hb.size b4.size
        have lj : (joinC (rest.take (2 ^ wide folds))).length ≤ 48 := by have h1 := joinC_len (rest.take (2 ^ wide folds)); have h2 := HT.out; omega
        have AW := Any.Builder_WriteString_k ({ lays156 with } : Lays.n166 Tryd.prog lays156_ren) extra156 w2.heap.size w2.heap.size (Lib.byteCells acc) (⟨(joinC (rest.take (2 ^ wide folds))).toArray⟩ ++ ⟨#[47]⟩) w4 hB4 (by rw [Lib.byteCells_length, size_join]; omega) hs4
        go_wp2_with (go_at_call 94; refine AW.mono ?_; rintro e w5 ⟨rfl, h5, b5, k5⟩; refine Hid.out ?_)
        all_goals try (exfalso; omega)
        refine Lib.hid ?_
        go_wp2
        have hcn := HCN.out
        have hl2 := HL.out
        refine ⟨⟨acc ++ (joinC (rest.take (2 ^ wide folds)) ++ [47]), rest.drop (2 ^ wide folds), m, f, ?_, ?_, hb.trans ((b4.mono hb.size).trans b5), ?_, by rw [List.length_drop]; omega, by omega, by omega, ?_⟩, ?_⟩
        · rw [Lib.byteCells_append, ← cells_join]; exact Or.inr h5
        · rw [hcn]
          have hgb : g ≠ w2.heap.size := by
            rintro rfl
            have : ∃ q, wr.heap[w2.heap.size]? = some (.cells q 108 (0, 0)) := by
              rcases hB with ⟨-, z, hz, -⟩ | ⟨-, z, hz, -⟩ <;> exact ⟨_, hz⟩
            obtain ⟨q, hq⟩ := this
            rw [hga] at hq
            cases hq
          have hg4 : w4.heap[g]? = some (.cells arr 3 fz) := by rw [b4.block g (Array.getElem?_eq_some_iff.1 hga).1]; exact hga
          have hg5 : w5.heap[g]? = some (.cells arr 3 fz) := k5 g _ hg4 (fun e => hgb (Option.some.inj e)) (fun c z e => by cases e)
          refine ⟨_, _, by rw [List.length_drop], by rw [List.length_drop]; omega, by omega, fun y hy => hx y (List.mem_of_mem_drop hy), fun hne => ?_⟩
          have hne' : 2 ^ wide folds < rest.length := by
            rcases Nat.lt_or_ge (2 ^ wide folds) rest.length with h | h
            · exact h
            · exact absurd (List.drop_of_length_le h) hne
          refine ⟨g, o + 2 ^ wide folds, arr, fz, if_neg (by omega), hg5, fun j y hy => ?_⟩
          rw [List.getElem?_drop] at hy
          rw [Nat.add_assoc]; exact hcell _ y hy
        · rw [schI, if_neg (List.length_pos_iff.1 h0)] at htx
          rw [← htx]; simp only [List.append_assoc]
        · simp only [List.length_append, List.length_cons, List.length_nil]; omega
        · show rest.length - (sizeF folds).1.toNat < rest.length
          omega
theorem SchemeText_ok (folds : List Fold) : OkA Tryd.prog 34 [.isl 2 (rows cFold folds)] (· = sb (schF folds)) := by
  refine ⟨⟨_, Tryd.func34, rfl, rfl⟩, fun w I vs hI hargs => ?_⟩
  obtain ⟨v, rfl, hv⟩ : ∃ v, vs = [v] ∧ RepI w I (.isl 2 (rows cFold folds)) v := by
    cases hargs with
    | cons h t =>
      cases t
      cases h with
      | one h => exact ⟨_, rfl, h⟩
  refine (scheme_walk folds v w I hI hv).mono ?_
  rintro e w' ⟨rfl, hb⟩
  refine ⟨_, sb (schF folds), [] ++ ([] ++ []), rfl, rfl, hb, List.nodup_nil, (fun g hg => by cases hg), .tup (.cons (.imm (.str _ ?_)) (.cons (.imm (.bool _)) .nil))⟩
  have := schF_len folds
  unfold maxLen; omega
end Go.Proofs.YtbamclepgabciaaDoor.Ai
