/- Numbers as texts: the contracts of strconv.Itoa, strings.Join, spec.l1Num. -/
import Derived.Test.YtbamclepgabciaaDoorLaysItoa
import Derived.Test.YtbamclepgabciaaDoorLaysJoin
import Derived.Test.YtbamclepgabciaaDoorStr
import Derived.Lib.ItoaLen
import Derived.Lib.AppendIntMem
namespace Go.Proofs.YtbamclepgabciaaDoor.Ai
open Go Go.Proofs Go.RowKit
set_option linter.unusedSimpArgs false
set_option maxRecDepth 10000
set_option maxHeartbeats 4000000
set_option linter.unusedVariables false

theorem itoa_ok (n : Int) (h0 : -9223372036854775808 ≤ n) (h1 : n ≤ 9223372036854775807) : OkA Tryd.prog 82 [.int .i64 n] (· = .str (Lib.itoa n)) := by
  refine ⟨⟨_, Tryd.func82, rfl, rfl⟩, fun w I vs hI hargs => ?_⟩
  obtain ⟨hI, T, hT, hg⟩ := hI
  obtain ⟨v, rfl, hv⟩ : ∃ v, vs = [v] ∧ v = .int .i64 n := by
    cases hargs with
    | cons h t =>
      cases t
      cases h with
      | one h => cases h with
        | int k n hn => exact ⟨_, rfl, rfl⟩
  subst hv
  refine (Any.strconv_Itoa lays171 n h0 h1 w (hg w (Below.refl _ _))).mono ?_
  rintro e w' ⟨rfl, k, os, rfl⟩
  refine ⟨_, .str (Lib.itoa n), [], rfl, rfl, Lib.below_grow _ _ (Nat.le_refl _) _ _, List.nodup_nil, (fun g hg => by cases hg), .one (.imm (.str _ ?_))⟩
  have := Lib.itoa_length_le n h0 h1
  unfold maxLen; omega

theorem repIs_strs {w : World} {I : Nat → Prop} : ∀ {l : List (List UInt8)} {vs : List Value}, RepIs w I (l.map cStr).flatten vs → vs = l.map fun s => Value.string ⟨s.toArray⟩
  | [], _, h => by cases h; rfl
  | x :: r, _, h => by
    simp only [List.map_cons, List.flatten_cons, cStr, List.cons_append, List.nil_append] at h
    cases h with
    | cons h1 h2 =>
      cases h1 with
      | str s hs => rw [List.map_cons, repIs_strs h2]

theorem extra156 : Builder.Extra Tryd.prog lays156_ren where
  sizeBuilder := by kernel_rfl
  liesBuilder := by kernel_rfl
  t5 := Tryd.underlying5
  a5 := Tryd.isAgg5
  z5 := Tryd.sizeOf5
  v5 := Tryd.zeroValue5
  infoByte := by kernel_rfl
  cellsByte := by kernel_rfl
  sizeByte := by kernel_rfl
  neB5 := by decide

theorem joinS_ok (ws : List (List UInt8)) (sep : List UInt8) (hw : ws.length ≤ 140737488355328) (hl : (Lib.join ws sep).length ≤ 140737488355328) :
    OkA Tryd.prog 143 [.isl 1 (rows cStr ws), .str sep] (· = .str (Lib.join ws sep)) := by
  refine ⟨⟨_, Tryd.func143, rfl, rfl⟩, fun w I vs hI hargs => ?_⟩
  obtain ⟨hI, T, hT, hg⟩ := hI
  obtain ⟨v, rfl, hv⟩ : ∃ v, vs = [v, .string ⟨sep.toArray⟩] ∧ RepI w I (.isl 1 (rows cStr ws)) v := by
    cases hargs with
    | cons h t =>
      cases t with
      | cons h2 t =>
        cases t
        cases h2 with
        | one h2 => cases h2 with
          | str s hs =>
            cases h with
            | one h => exact ⟨_, rfl, h⟩
  have fin : ∀ w', Below w.heap.size w w' → ∃ v r gs, Ending.returned (.string ⟨(Lib.join ws sep).toArray⟩) = .returned v ∧ r = .str (Lib.join ws sep) ∧ Below w.heap.size w w' ∧ RepR (fun g => (true = true ∧ I g) ∨ w.heap.size ≤ g) w.heap.size w' r v gs := fun w' hb =>
    ⟨_, .str (Lib.join ws sep), [], rfl, rfl, hb, List.nodup_nil, (fun g hg => by cases hg), .one (.imm (.str _ (by unfold maxLen; omega)))⟩
  rw [rows_eq] at hv
  generalize he : ws.map cStr = es at hv
  cases hv with
  | isl0 _ A c hm =>
    obtain rfl : ws = [] := List.map_eq_nil_iff.1 he
    refine (Any.strings_Join_none lays156 extra156 A c ⟨sep.toArray⟩ w).mono ?_
    rintro e w' ⟨rfl, rfl⟩
    exact fin w' (Below.refl _ _)
  | isl _ _ g o c vs hl1 hr hI1 hcell hc hm =>
    subst he
    have hvs := repIs_strs hr
    have hlen : (ws.map fun s => (⟨s.toArray⟩ : ByteArray)).length = (ws.map cStr).length := by simp
    have hmap : ((ws.map fun s => (⟨s.toArray⟩ : ByteArray)).map (·.data.toList)) = ws := by
      rw [List.map_map]; exact (List.map_congr_left (g := id) fun s _ => by simp).trans (List.map_id ws)
    have hj := Any.strings_Join lays156 extra156 g o c (ws.map fun s => (⟨s.toArray⟩ : ByteArray)) ⟨sep.toArray⟩ w (fun j x hx => by
      rw [List.getElem?_map] at hx
      cases hws : ws[j]? with
      | none => rw [hws] at hx; cases hx
      | some s =>
        rw [hws] at hx
        obtain rfl := Option.some.inj hx
        refine hcell j _ ?_
        rw [hvs, List.getElem?_map, hws]; rfl) (hI g hI1) (by simpa using hw) (by simpa using hc) (by rw [hmap]; simpa using hl)
    rw [hlen, hmap] at hj
    refine hj.mono ?_
    rintro e w' ⟨rfl, hb⟩
    simpa using fin w' hb

theorem joinTail_len (sep : List UInt8) : ∀ (l : List Int), (∀ n ∈ l, -9223372036854775808 ≤ n ∧ n ≤ 9223372036854775807) → (Lib.joinTail sep (l.map Lib.itoa)).length ≤ l.length * (sep.length + 21)
  | [], _ => by simp [Lib.joinTail]
  | x :: r, h => by
    have h1 := joinTail_len sep r fun n hn => h n (List.mem_cons_of_mem _ hn)
    have h2 := Lib.itoa_length_le x (h x (List.mem_cons_self ..)).1 (h x (List.mem_cons_self ..)).2
    simp only [Lib.joinTail, List.map_cons, List.flatten_cons, List.length_append, List.length_cons, Nat.add_mul] at h1 ⊢
    omega
theorem join_len (sep : List UInt8) (l : List Int) (hb : ∀ n ∈ l, -9223372036854775808 ≤ n ∧ n ≤ 9223372036854775807) (hl : l.length ≤ 1000000) (hs : sep.length ≤ 16) : (Lib.join (l.map Lib.itoa) sep).length ≤ 100000000 := by
  cases l with
  | nil => rw [List.map_nil, Lib.join_nil]; simp
  | cons x r =>
    have h1 := joinTail_len sep r fun n hn => hb n (List.mem_cons_of_mem _ hn)
    have h2 := Lib.itoa_length_le x (hb x (List.mem_cons_self ..)).1 (hb x (List.mem_cons_self ..)).2
    rw [List.map_cons, Lib.join_cons, List.length_append]
    simp only [List.length_cons] at hl
    have h3 : r.length * (sep.length + 21) ≤ 1000000 * 37 := Nat.mul_le_mul (by omega) (by omega)
    omega

theorem decDigits_big {n : Nat} (h : ¬ n < 10) : Lib.decDigits n = Lib.decDigits (n / 10) ++ [UInt8.ofNat (48 + n % 10)] := by rw [Lib.decDigits, dif_neg h]
theorem decDigits_le {n : Nat} (h : n < 18446744073709551616) : (Lib.decDigits n).length ≤ 20 := by rw [Lib.decDigits_length]; exact Lib.nDigits_le20 n h

theorem l1Num_go : ∀ (k : Nat) (n : Int), n.toNat < k → 0 ≤ n → n ≤ 9223372036854775807 → OkA Tryd.prog 84 [.int .i64 n] (· = .str (Lib.decDigits n.toNat))
  | 0, n, hk, _, _ => absurd hk (Nat.not_lt_zero _)
  | k + 1, n, hk, hn0, hn1 =>
  fn_intro envOk fieldsOk mixed Tryd.func84 rfl fun κ X Y L Q m hQ => by
    conv => cbv
    refine r_lss m.sX (fun h1 => ?_) (fun h1 => ?_) <;> conv => cbv
    · refine r_addf m.sX (by omega) (by omega) fun r1 hr1 => ?_
      conv => cbv
      refine r_conv m.sX fun r2 hr2 => ?_   -- r2 = uint8 of r1
      conv => cbv
      refine r_tostr ([r2] : List Int) m.sX rfl fun s1 hs1 => ?_   -- s1 = string of bytes
      conv => cbv
      refine hQ _ ?_
      rw [hs1, Lib.decDigits_one (by omega)]
      have e2 : r2 = r1 := by rw [hr2, IntKind.wrap_u8]; omega
      rw [e2, hr1, List.map_cons, List.map_nil, show (48 + n).toNat = 48 + n.toNat by omega]; rfl
    · refine r_draw m (by kernel_rfl) ?_
      conv => cbv
      first | refine r_divf m.sY (by omega) (by omega) fun r3 hr3 br3 => ?_ | refine r_tdivf m.sY (by omega) (by omega) fun r3 hr3 br3 => ?_
      conv => cbv
      refine r_callFS .str m.sY ((l1Num_go k r3 (by omega) (by omega) (by omega))) trivial fun v1 hv1 => ?_
      conv => cbv
      refine r_modf m.sY (by omega) (by omega) fun r4 hr4 br4 => ?_
      conv => cbv
      refine r_addf m.sY (by omega) (by omega) fun r5 hr5 => ?_
      conv => cbv
      refine r_conv m.sY fun r6 hr6 => ?_   -- r6 = uint8 of r5
      conv => cbv
      refine r_tostr ([r6] : List Int) m.sY rfl fun s2 hs2 => ?_   -- s2 = string of bytes
      have ls2 : (s2.length : Int) = 1 := by rw [hs2]; rfl
      conv => cbv
      have lv1 := decDigits_le (n := r3.toNat) (by omega)
      refine r_scat (u := v1) (v := s2) m.sY (by rw [hv1]; omega) fun s3 hs3 => ?_   -- s3 = v1 ++ s2
      conv => cbv
      refine hQ _ ?_
      have e6 : r6 = r5 := by rw [hr6, IntKind.wrap_u8]; omega
      rw [hs3, hv1, hs2, decDigits_big (n := n.toNat) (by omega), show n.toNat / 10 = r3.toNat by omega, e6, List.map_cons, List.map_nil, show r5.toNat = 48 + n.toNat % 10 by omega]; rfl
theorem l1Num_ok (n : Int) (h0 : 0 ≤ n) (h1 : n ≤ 9223372036854775807) : OkA Tryd.prog 84 [.int .i64 n] (· = .str (Lib.decDigits n.toNat)) := l1Num_go (n.toNat + 1) n (Nat.lt_succ_self _) h0 h1
end Go.Proofs.YtbamclepgabciaaDoor.Ai
