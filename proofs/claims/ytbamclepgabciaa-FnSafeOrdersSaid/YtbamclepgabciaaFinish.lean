/- Forms that are finished: a list from which an element is taken out, in place. -/
import Derived.Test.YtbamclepgabciaaFormGive
import Derived.Test.YtbamclepgabciaaForm3
import Derived.Test.YtbamclepgabciaaAiNest
namespace Go.Proofs.Ytbamclepgabciaa.Ai
open Go Go.Proofs
set_option linter.unusedVariables false
set_option linter.unusedSimpArgs false
set_option maxRecDepth 10000
set_option maxHeartbeats 4000000
theorem rows_take {α : Type} (f : α → List PV) (l : List α) (n : Nat) : (rows f l).take n = rows f (l.take n) := by rw [rows_eq, rows_eq, List.map_take]
theorem rows_drop {α : Type} (f : α → List PV) (l : List α) (n : Nat) : (rows f l).drop n = rows f (l.drop n) := by rw [rows_eq, rows_eq, List.map_drop]
theorem r_appendV {P : Program} {b : Bool} {X : Req → (PV → Prop) → Prop} {K : PV → Prop} {α : Type} {f : α → List PV} {xs : List α} {l : Nat} {i j k : Nat} (h : Std P b X) (hj : xs.length ≤ j)
    (h1 : ((xs.take i).length + (xs.drop k).length : Int) * l ≤ 140737488355328) (h2 : ((xs.take i).length + (xs.drop k).length : Int) ≤ 1099511627776)
    (H : ∀ zs, zs = xs.take i ++ xs.drop k → K (.isl 0 (rows f zs))) : X (.append ((rows f xs).take i) (((rows f xs).take j).drop k) l) K := by
  rw [rows_take, rows_take, rows_drop, List.take_of_length_le hj]
  exact r_append h h1 h2 H
theorem finA_no {free : List Int} {l : List PForm} {i : Int} (h : (askB free l i && canF free ([], wantAt l i)) = false) : ([], [], false) = finA free l i := by
  rw [finA, if_neg (by rw [h]; simp)]
theorem finA_yes {free : List Int} {l : List PForm} {i : Int} {x : PForm} (h1 : askB free l i = true) (hx : l[i.toNat]? = some x) (h2 : canF free x = true) : (plusL free x.1 1, l.take i.toNat ++ l.drop (i.toNat + 1), true) = finA free l i := by
  rw [finA, wantAt_some hx, if_pos (by rw [h1, ← canF_want, h2]; rfl), heldAt_some hx]
theorem FinishForm_ok (free : List Int) (l : List PForm) (i : Int) : OkA Try.prog 16 [.isl 1 (rows cInt free), .isl 2 (rows cForm l), .int .i64 i] (· = giveI (finA free l i)) :=
  OkA.unnil2 1 2 (fn_intro (nestIn_ok 25 envOk) (nestIn_fields 25 fieldsOk) mixed Try.func16 rfl fun κ X Y L Q m hQ => by
    have no : ∀ {p : List Int × List PForm × Bool}, ([], [], false) = p → Ai.unnil2 1 2 (Ai.ice (.tup [.fr 3 1 [], .isl 2 (coolL []), .bool false])) = giveI p := fun e => by subst e; rw [cool_nil]; simp only [giveI, Ai.unnil2, unnilI, Ai.ice, ice1, ice0, List.map_cons, List.map_nil, rows_nil]
    conv => cbv
    refine r_callB m.sX (isForm_ok free l i) (fun h1 => ?_) (fun h1 => ?_) <;> conv => cbv
    · obtain ⟨as1, as2, as3, ⟨xA, xB⟩, as4, as5⟩ := askB_spec h1
      obtain ⟨ab1, ab2, ab3, ab4⟩ := formB_spec as5
      dsimp only at ab1 ab2 ab3 ab4
      have fl0 := forms_len as1
      have fs0 := formsB_spec as1
      have hs0 : ∀ x ∈ l, x.1.length ≤ 1000 ∧ x.2.length ≤ 1000 := fun x hx => by have z := formB_spec (fs0.1 x hx); omega
      have B1 : allB free 0 1000000 = true := allB_up fs0.2.2.1 (by omega)
      have B2 : allB xA 0 1000000 = true := allB_up ab3 (by omega)
      have li : i.toNat < l.length := by omega
      refine r_index m.sX (by omega) (by omega) fun v hx1A => ?_
      obtain ⟨x1A, x1B⟩ := v
      conv => cbv
      obtain ⟨rfl, rfl⟩ : xA = x1A ∧ xB = x1B := by have z := Option.some.inj (as4.symm.trans hx1A); exact ⟨congrArg Prod.fst z, congrArg Prod.snd z⟩
      refine r_callB m.sX (canFinish_ok free (xA, xB) (by dsimp only; omega)) (fun h2 => ?_) (fun h2 => ?_) <;> conv => cbv
      · refine r_callF (fun l => PV.fr _ _ (rows _ l)) m.sX (cloneForms_ok l (by omega) hs0) fun others hothers => ?_
        conv => cbv
        refine r_draw m (by kernel_rfl) ?_
        conv => cbv
        refine r_index m.sY (by omega) (by omega) fun v hx2A => ?_
        obtain ⟨x2A, x2B⟩ := v
        conv => cbv
        obtain ⟨rfl, rfl⟩ : xA = x2A ∧ xB = x2B := by have z := Option.some.inj (as4.symm.trans hx2A); exact ⟨congrArg Prod.fst z, congrArg Prod.snd z⟩
        refine r_callFS (fun l => PV.fr _ _ (rows _ l)) m.sY (plus_ok free xA 1 (by omega) (by omega) B1 B2 (by omega)) trivial fun v1 hv1 => ?_
        conv => cbv
        have lo : others.length = l.length := by rw [hothers]
        refine r_islice (i := 0) (j := i) m.sY (by omega) (by omega) (by omega) fun _ _ => ?_
        conv => cbv
        refine r_addf m.sY (by omega) (by omega) fun r1 hr1 => ?_
        conv => cbv
        refine r_islice' (i := r1) m.sY (by omega) (by omega) fun _ _ => ?_
        conv => cbv
        refine r_appendV m.sY ?_ ?_ ?_ fun zs hzs => ?_
        · have z := rows_length cForm others
          split
          · rename_i heq
            have h : rows cForm others = [] := heq
            rw [h] at z
            simp only [List.length_nil] at z
            omega
          · rename_i c cs heq
            have h : rows cForm others = c :: cs := heq
            rw [h] at z
            simp only [List.length_cons] at z
            omega
        · simp only [List.length_take, List.length_drop]; omega
        · simp only [List.length_take, List.length_drop]; omega
        conv => cbv
        refine hQ (.tup [.fr 3 1 (rows cInt v1), .fr 33 2 (rows cForm zs), .bool true]) ?_
        have e : zs = l.take i.toNat ++ l.drop (i.toNat + 1) := by
          rw [hzs, hothers]
          show l.take (Int.toNat i) ++ l.drop (Int.toNat r1) = _
          rw [show Int.toNat r1 = i.toNat + 1 by omega]
        rw [← finA_yes h1 as4 h2, e, hv1]
        rfl
      · exact hQ (.tup [.fr 3 1 [], .isl 2 (coolL []), .bool false]) (no (finA_no (by rw [wantAt_some as4, ← canF_want, h2]; simp)))
    · exact hQ (.tup [.fr 3 1 [], .isl 2 (coolL []), .bool false]) (no (finA_no (by rw [h1]; rfl))))
/-! ### The reference's -/
def finT (l : List PForm) (i n : Nat) : List PForm := (l.take n).take i ++ (l.take n).drop (i + 1)
theorem finT_end {l : List PForm} {i n : Nat} (h : l.length ≤ n) : finT l i n = l.take i ++ l.drop (i + 1) := by rw [finT, List.take_of_length_le h]
theorem finT_skip {l : List PForm} {i : Nat} : finT l i (i + 1) = finT l i i := by
  rw [finT, finT, List.take_take, List.take_take, List.drop_of_length_le (by rw [List.length_take]; omega), List.drop_of_length_le (by rw [List.length_take]; omega)]
  congr 2
  omega
theorem finT_more {l : List PForm} {i n : Nat} {x : PForm} (hx : l[n]? = some x) (hn : n ≠ i) : finT l i (n + 1) = finT l i n ++ [x] := by
  have hl := (List.getElem?_eq_some_iff.1 hx).1
  have e : l.take (n + 1) = l.take n ++ [x] := by rw [List.take_add_one, hx]; rfl
  have hln : (l.take n).length = n := by rw [List.length_take]; omega
  rw [finT, finT, e]
  rcases (by omega : n < i ∨ i < n) with h | h
  · have t1 : (l.take n ++ [x]).take i = l.take n ++ [x] := List.take_of_length_le (by rw [List.length_append, hln]; simp only [List.length_cons, List.length_nil]; omega)
    have t2 : (l.take n ++ [x]).drop (i + 1) = [] := List.drop_of_length_le (by rw [List.length_append, hln]; simp only [List.length_cons, List.length_nil]; omega)
    have t3 : (l.take n).take i = l.take n := List.take_of_length_le (by omega)
    have t4 : (l.take n).drop (i + 1) = [] := List.drop_of_length_le (by omega)
    rw [t1, t2, t3, t4]
    simp
  · rw [List.take_append_of_le_length (by omega), List.drop_append_of_le_length (by omega), List.append_assoc]
theorem finT_len (l : List PForm) (i n : Nat) : (finT l i n).length ≤ n := by
  rw [finT, List.length_append, List.length_take, List.length_drop, List.length_take]; omega
theorem specFinishForm_ok (free : List Int) (l : List PForm) (i : Int) : OkA Try.prog 17 [.isl 1 (rows cInt free), .isl 2 (rows cForm l), .int .i64 i] (· = giveI (finA free l i)) :=
  OkA.unnil2 1 2 (fn_intro (nestIn_ok 25 envOk) (nestIn_fields 25 fieldsOk) mixed Try.func17 rfl fun κ X Y L Q m hQ => by
    have no : ∀ {p : List Int × List PForm × Bool}, ([], [], false) = p → Ai.unnil2 1 2 (Ai.ice (.tup [.nil, .nil, .bool false])) = giveI p := fun e => by subst e; simp only [giveI, Ai.unnil2, unnilI, Ai.ice, ice1, ice0, List.map_cons, List.map_nil, rows_nil]
    conv => cbv
    refine r_callB m.sX (stAsked_ok free l i) (fun h1 => ?_) (fun h1 => ?_) <;> conv => cbv
    · obtain ⟨as1, as2, as3, ⟨xA, xB⟩, as4, as5⟩ := askB_spec h1
      obtain ⟨ab1, ab2, ab3, ab4⟩ := formB_spec as5
      dsimp only at ab1 ab2 ab3 ab4
      have fl0 := forms_len as1
      have fs0 := formsB_spec as1
      have hs0 : ∀ x ∈ l, x.1.length ≤ 1000 ∧ x.2.length ≤ 1000 := fun x hx => by have z := formB_spec (fs0.1 x hx); omega
      have B1 : allB free 0 1000000 = true := allB_up fs0.2.2.1 (by omega)
      have B2 : allB xA 0 1000000 = true := allB_up ab3 (by omega)
      have li : i.toNat < l.length := by omega
      refine r_index m.sX (by omega) (by omega) fun v hx1A => ?_
      obtain ⟨x1A, x1B⟩ := v
      conv => cbv
      obtain ⟨rfl, rfl⟩ : xA = x1A ∧ xB = x1B := by have z := Option.some.inj (as4.symm.trans hx1A); exact ⟨congrArg Prod.fst z, congrArg Prod.snd z⟩
      refine r_callB m.sX (stCan_ok free (xA, xB) (by dsimp only; omega)) (fun h2 => ?_) (fun h2 => ?_) <;> conv => cbv
      · refine r_lenR m.sX fun n1 hn1 mn1 => ?_
        conv => cbv
        refine r_loopF (α := List PForm × Int) m 50 [0, 1, 2, 26, 27, 28] [⟨9, 73, 33 + 1000000, 2, 0⟩] (fun σ => [(0, .isl 1 (rows cInt free)), (1, .isl 2 (rows cForm l)), (2, .int .i64 i), (9, .osl 73 0), (26, .isl 2 (rows cForm l)), (27, .int .i64 n1), (28, .int .i64 σ.2)]) (fun σ => [(73, 0, .tree 33 2 (rows cFormN σ.1))])
          (fun σ => (0 ≤ σ.2) ∧ (σ.2 ≤ n1) ∧ σ.1 = finT l i.toNat σ.2.toNat) (fun σ => (n1 - σ.2).toNat) ([], 0) ?_ ?_ ?_ ?_
        · cbv
        · (try dsimp only); (try simp only [rows_cons, rows_nil]); cbv
        · exact ⟨by dsimp only; omega, by dsimp only; omega, by simp [finT]⟩
        rintro ⟨out, i1⟩ ⟨lo1, hi1, q1⟩ E hE F hF
        dsimp only at lo1 hi1 q1
        have lq1 : out.length ≤ i1.toNat := by rw [q1]; exact finT_len _ _ _
        conv => cbv
        refine r_lss m.sX (fun h3 => ?_) (fun h3 => ?_) <;> conv => cbv
        · refine r_index m.sX (by omega) (by omega) fun v hzA => ?_
          obtain ⟨zA, zB⟩ := v
          conv => cbv
          have hx := hzA
          have mx := get_mem hx
          have xs := hs0 _ mx
          refine r_neq m.sX (fun h4 => ?_) (fun h4 => ?_) <;> conv => cbv
          · refine r_callF ownF m.sX (stOwn_ok (zA, zB) xs.1 xs.2) fun v hv1 => ?_
            obtain ⟨v1, v2⟩ := v
            conv => cbv
            refine r_append1 ((v1, v2)) m.sX (cFormN_pair v1 v2) (by dsimp only; omega) (by omega) fun out_2 hout_2 => ?_
            conv => cbv
            refine r_addf m.sX (by omega) (by omega) fun r1 hr1 => ?_
            conv => cbv
            have tr1 : Int.toNat r1 = Int.toNat i1 + 1 := by omega
            refine hE _ (out_2, r1) ?_ ?_ ⟨by dsimp only; omega, by dsimp only; omega, by dsimp only; rw [tr1, finT_more hx (by omega), ← q1, hout_2, hv1]⟩ (by dsimp only; omega)
            · cbv
            · cbv
          · refine r_addf m.sX (by omega) (by omega) fun r2 hr2 => ?_
            conv => cbv
            have tr2 : Int.toNat r2 = Int.toNat i1 + 1 := by omega
            refine hE _ (out, r2) ?_ ?_ ⟨by dsimp only; omega, by dsimp only; omega, by dsimp only; rw [tr2, h4, finT_skip, q1, h4]⟩ (by dsimp only; omega)
            · cbv
            · cbv
        · have tz : out = l.take i.toNat ++ l.drop (i.toNat + 1) := by rw [q1, finT_end (by omega)]
          refine hF _ _ ?_
          conv => cbv
          refine r_index m.sX (by omega) (by omega) fun v hx2A => ?_
          obtain ⟨x2A, x2B⟩ := v
          conv => cbv
          obtain ⟨rfl, rfl⟩ : xA = x2A ∧ xB = x2B := by have z := Option.some.inj (as4.symm.trans hx2A); exact ⟨congrArg Prod.fst z, congrArg Prod.snd z⟩
          refine r_callF (fun l => PV.fr _ _ (rows _ l)) m.sX (stSum_ok free xA (by omega) (by omega) B1 B2) fun v2 hv2 => ?_
          conv => cbv
          refine hQ (.tup [.fr 3 1 (rows cInt v2), .isl 2 (coolL (rows cFormN out)), .bool true]) ?_
          rw [cool_cForm, ← finA_yes h1 as4 h2, tz, hv2]
          rfl
      · exact hQ (.tup [.nil, .nil, .bool false]) (no (finA_no (by rw [wantAt_some as4, ← canF_want, h2]; simp)))
    · exact hQ (.tup [.nil, .nil, .bool false]) (no (finA_no (by rw [h1]; rfl))))
end Go.Proofs.Ytbamclepgabciaa.Ai
