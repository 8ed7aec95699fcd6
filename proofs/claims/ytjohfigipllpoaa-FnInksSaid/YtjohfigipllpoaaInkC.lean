/- impl.CountInk: letters of a forme (strings.Count). -/
import Derived.Test.YtjohfigipllpoaaInkK2
import Derived.Test.YtjohfigipllpoaaLaysC
namespace Go.Proofs.Ytjohfigipllpoaa.Ai
open Go Go.Proofs Go.RowKit
set_option linter.unusedSimpArgs false
set_option linter.unusedVariables false
theorem FormeOf_ok (x : Inked) (ink : List UInt8) : OkA Try.prog 10 [.agg (cInked x), .str ink] (· = sb (formeA x ink)) := by
  refine ⟨⟨_, Try.func10, rfl, rfl⟩, fun w I vs hI hargs => ?_⟩
  obtain rfl : vs = [inkV x, strV ink] := by
    cases hargs with
    | cons h1 t => cases t with
      | cons h2 t => cases t; rw [ink_arg h1, (str_arg h2).1]
  refine (forme_walk x ink w I hI hargs).mono ?_
  rintro e w' ⟨rfl, hbl⟩
  refine ⟨_, sb (formeA x ink), [] ++ ([] ++ []), rfl, rfl, hbl, List.nodup_nil, (fun g hg => by cases hg), .tup (.cons (.imm (.str _ ?_)) (.cons (.imm (.bool _)) .nil))⟩
  unfold formeA
  split
  · rename_i h
    have xo := okInked_spec (Bool.and_eq_true_iff.1 h).1
    show (zipU _ x.1 x.2).length ≤ maxLen
    rw [zipU_length _ xo.len]
    have := xo.few
    unfold maxLen; omega
  · exact Nat.zero_le _
theorem spc_count : ∀ l : List UInt8, ((Lib.countByte l 32 : Nat) : Int) = spcU l
  | [] => rfl
  | a :: l => by
    have ih := spc_count l
    unfold Lib.countByte at ih ⊢
    rw [List.count_cons, spcU, ← ih]
    by_cases h : (a.toNat : Int) = 32
    · have e : a = 32 := u8_eq (by rw [h]; rfl)
      subst e
      simp; omega
    · have e : ¬ a = 32 := fun e => h (by rw [e]; rfl)
      simp [e, h]
theorem count_forme (x : Inked) (ink : List UInt8) : (((formeA x ink).1.length : Nat) : Int) - spcU (formeA x ink).1 = (countA x ink).1 ∧ (formeA x ink).2 = (countA x ink).2 := by
  unfold formeA countA
  split
  · rename_i h
    have xo := okInked_spec (Bool.and_eq_true_iff.1 h).1
    exact ⟨spc_forme _ xo.len, rfl⟩
  · exact ⟨rfl, rfl⟩
set_option maxHeartbeats 4000000 in
set_option maxRecDepth 1000000 in
theorem count_walk (x : Inked) (ink : List UInt8) (w : World) (I : Nat → Prop) (hI : InR w I) (ha : All2 (RepArg w I) [.agg (cInked x), .str ink] [inkV x, strV ink]) :
    Calls Try.prog 13 #[inkV x, strV ink] w fun e w' => e = .returned (.tuple #[.int .i64 (countA x ink).1, .bool (countA x ink).2]) ∧ Below w.heap.size w w' := by
  obtain ⟨t, k⟩ := x
  obtain ⟨lt, lk⟩ : t.length ≤ maxLen ∧ k.length ≤ maxLen := by
    cases ha with
    | cons h1 _ => exact ink_len h1
  have li : ink.length ≤ maxLen := by
    cases ha with
    | cons h1 h => cases h with
      | cons h2 h => exact (str_arg h2).2
  obtain ⟨c1, c2⟩ := count_forme (t, k) ink
  have AF : ∀ W : World, Calls Try.prog 10 #[inkV (t, k), strV ink] W fun e w' => e = .returned (.tuple #[strV (formeA (t, k) ink).1, .bool (formeA (t, k) ink).2]) ∧ Below W.heap.size W w' := fun W => forme_walk (t, k) ink W _ (inr_all W) (.cons (arg_ink lt lk) (.cons (.one (.str _ li)) .nil))
  obtain ⟨fl, hfl⟩ : ∃ fl, fl = (formeA (t, k) ink).1 := ⟨_, rfl⟩
  obtain ⟨fb, hfb⟩ : ∃ fb, fb = (formeA (t, k) ink).2 := ⟨_, rfl⟩
  have hlen : fl.length ≤ 30 := by
    rw [hfl]
    unfold formeA
    split
    · rename_i h
      have xo := okInked_spec (Bool.and_eq_true_iff.1 h).1
      show (zipU _ t k).length ≤ 30
      rw [zipU_length _ xo.len]; exact xo.few
    · exact Nat.zero_le _
  rw [← hfl, ← hfb] at AF
  rw [← hfl] at c1
  rw [← hfb] at c2
  rw [← c1, ← c2]
  clear c1 c2 hfl hfb
  have hsc := spc_count fl
  have ss := size_mk fl
  have q1 := alloc_below w (.cells #[strV t, strV k] 24)
  have hle : Lib.countByte fl 32 ≤ fl.length := List.count_le_length
  have wm : IntKind.i64.wrap ((fl.length : Int) - (Lib.countByte fl 32 : Nat)) = (fl.length : Int) - (Lib.countByte fl 32 : Nat) := wrap64 (by omega) (by omega)
  have AC := fun W => Any.strings_Count_one lays138 (⟨fl.toArray⟩ : ByteArray) 32 W
  go_enter Try.func13, Try.ntmps13
  go_wp2_with (first | (go_at_call 10; refine (AF _).mono ?_; rintro e w3 ⟨rfl, b3⟩) | (go_at_call 27; refine (AC _).mono ?_; rintro e w4 ⟨rfl, rfl⟩))
  go_ret2
  exact ⟨rfl, q1.trans (b3.mono q1.size)⟩
theorem CountInk_ok (x : Inked) (ink : List UInt8) : OkA Try.prog 13 [.agg (cInked x), .str ink] (· = ib (countA x ink)) := by
  refine ⟨⟨_, Try.func13, rfl, rfl⟩, fun w I vs hI hargs => ?_⟩
  obtain rfl : vs = [inkV x, strV ink] := by
    cases hargs with
    | cons h1 t => cases t with
      | cons h2 t => cases t; rw [ink_arg h1, (str_arg h2).1]
  refine (count_walk x ink w I hI hargs).mono ?_
  rintro e w' ⟨rfl, hbl⟩
  refine ⟨_, ib (countA x ink), [] ++ ([] ++ []), rfl, rfl, hbl, List.nodup_nil, (fun g hg => by cases hg), .tup (.cons (.imm (.int _ _ ?_)) (.cons (.imm (.bool _)) .nil))⟩
  unfold countA
  split
  · rename_i h
    have xo := okInked_spec (Bool.and_eq_true_iff.1 h).1
    have := cntU_bound (ink.headD 0) x.1 x.2
    have := xo.few
    exact wrap64 (by dsimp only; omega) (by dsimp only; omega)
  · rfl
end Go.Proofs.Ytjohfigipllpoaa.Ai
