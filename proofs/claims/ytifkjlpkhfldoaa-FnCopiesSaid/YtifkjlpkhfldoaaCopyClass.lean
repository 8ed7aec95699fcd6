/- Contracts of the functions that lay copies into classes: rows within rows. -/
import Derived.Test.YtifkjlpkhfldoaaCopyDraw2
import Derived.Test.YtifkjlpkhfldoaaFreeze
namespace Go.Proofs.Ytifkjlpkhfldoaa.Ai
open Go Go.Proofs
set_option maxRecDepth 10000
set_option maxHeartbeats 4000000
set_option linter.unusedVariables false
noncomputable def cRun (x : List Int) : List PV := [.fr 3 1 (rows cInt x)]
theorem cool_runs (l : List (List Int)) : coolL (rows cRun l) = rows (cSl 1 cInt) l := cool_rows cRun l
theorem cRun_one (a : Int) : [PV.fr 3 1 [[.int .i64 a]]] = cRun [a] := by simp only [cRun, rows_cons, rows_nil, cInt]
theorem cRun_clean : ∀ x, ∀ c ∈ cRun x, (∃ e z rs, c = PV.fr e z rs) ∨ c.pure = true := fun x c hc => by
  simp only [cRun, List.mem_singleton] at hc
  exact .inl ⟨_, _, _, hc⟩
theorem lbI_nil {α : Type} (n : Nat) (f : α → List PV) (b : Bool) : lbI n f ([], b) = .tup [.isl n [], .bool b] := by simp [lbI, rows_nil]
theorem classT_next {cs : List (List Tx)} {n : Nat} {c : List Tx} {i first : Int} (h : cs[n]? = some c) (hi : i = n) (hf : first = stateF cs c) : classT cs (n + 1) = classStep cs (classT cs n) i first := by
  subst hi hf
  rw [classT, List.getD_eq_getElem?_getD, h]; rfl
theorem putC_yes {first i a : Int} {t : List Int} (h : a = first) : putC first i (a :: t) = (a :: t) ++ [i] := by subst h; exact if_pos rfl
theorem putC_no {first i a : Int} {t : List Int} (h : a ≠ first) : putC first i (a :: t) = a :: t := if_neg fun e => h (Option.some.inj e)
set_option maxHeartbeats 8000000
theorem CopyClasses_ok (copies : List (List Tx)) : OkA Try.prog 43 [.isl 1 (rows (cSl 1 cStr) copies)] (· = lbI 1 (cSl 1 cInt) (classAns copies)) :=
  fn_intro (nestIn_ok 24 envOk) (nestIn_fields 24 fieldsOk) mixed Try.func43 rfl fun κ X Y L Q m hQ => by
    conv => cbv
    refine r_callB m.sX (areCopies_ok copies) (fun h1 => ?_) (fun h1 => ?_) <;> conv => cbv
    · obtain ⟨hp, hl⟩ := copiesB_len h1
      have hw : ∀ p ∈ copies, p.length ≤ 1000000 := fun p hm => by have := proofB_len (hp p hm); omega
      refine r_lenR m.sX fun n1 hn1 mn1 => ?_
      conv => cbv
      refine r_loopF (α := List (List Int) × Int) m 58 [0, 14, 15, 16] [⟨4, 33, 1000030, 1, 0⟩] (fun σ => [(0, .isl 1 (rows (cSl 1 cStr) copies)), (4, .osl 33 0), (14, .isl 1 (rows (cSl 1 cStr) copies)), (15, .int .i64 n1), (16, .int .i64 σ.2)]) (fun σ => [(33, 0, .tree 30 1 (rows cRun σ.1))])
        (fun σ => 0 ≤ σ.2 ∧ σ.2 ≤ n1 ∧ σ.1 = classT copies σ.2.toNat) (fun σ => (n1 - σ.2).toNat) ([], 0) ?_ ?_ ?_ ?_
      · cbv
      · (try dsimp only); (try simp only [rows_nil]); cbv
      · exact ⟨by dsimp only; omega, by dsimp only; omega, rfl⟩
      rintro ⟨acc, i⟩ ⟨b1, b2, ha⟩ E hE F hF
      dsimp only at b1 b2 ha
      have I := classI copies i.toNat (by omega)
      rw [← ha] at I
      have la := I.len
      conv => cbv
      refine r_lss m.sX (fun h2 => ?_) (fun h2 => ?_) <;> conv => cbv
      · refine r_index m.sX (by omega) (by omega) fun c hc => ?_
        conv => cbv
        refine r_callF (PV.int .i64) m.sX (stateOf_ok copies c hw) fun first hfirst => ?_
        conv => cbv
        obtain ⟨f0, f1, f2, f3⟩ := stateF_self hc
        have fb : 0 ≤ first ∧ first ≤ i := by omega
        have hnx := classT_next hc (show i = ((i.toNat : Nat) : Int) by omega) hfirst
        rw [← ha] at hnx
        refine r_eql m.sX (fun h3 => ?_) (fun h3 => ?_) <;> conv => cbv
        · refine r_append1 ([i]) m.sX (cRun_one i) (by dsimp only; omega) (by omega) fun acc2 hacc2 => ?_
          conv => cbv
          refine r_addf m.sX (by omega) (by omega) fun r1 hr1 => ?_
          conv => cbv
          refine hE _ (acc2, r1) ?_ ?_ ⟨by dsimp only; omega, by dsimp only; omega, by dsimp only; rw [hacc2, show r1.toNat = i.toNat + 1 by omega, hnx, classStep_eq, if_pos h3]⟩ (by dsimp only; omega)
          · cbv
          · cbv
        · refine r_lenR m.sX fun n2 hn2 mn2 => ?_
          conv => cbv
          refine r_loopF (α := List (List Int) × Int) m 58 [0, 5, 7, 14, 15, 16, 33, 34] [⟨4, 33, 1000030, 1, 0⟩] (fun σ => [(0, .isl 1 (rows (cSl 1 cStr) copies)), (4, .osl 33 0), (5, .int .i64 i), (7, .int .i64 first), (14, .isl 1 (rows (cSl 1 cStr) copies)), (15, .int .i64 n1), (16, .int .i64 i), (33, .int .i64 n2), (34, .int .i64 σ.2)]) (fun σ => [(33, 0, .tree 30 1 (rows cRun σ.1))])
            (fun σ => 0 ≤ σ.2 ∧ σ.2 ≤ n2 ∧ σ.1 = mapT (putC first i) acc σ.2.toNat) (fun σ => (n2 - σ.2).toNat) (acc, 0) ?_ ?_ ?_ ?_
          · cbv
          · cbv
          · exact ⟨by dsimp only; omega, by dsimp only; omega, (mapT_zero _ _).symm⟩
          rintro ⟨lk, k⟩ ⟨k1, k2, hlk⟩ E2 hE2 F2 hF2
          dsimp only at k1 k2 hlk
          have ll : lk.length = acc.length := by rw [hlk, mapT_len]
          conv => cbv
          refine r_lss m.sX (fun h4 => ?_) (fun h4 => ?_) <;> conv => cbv
          · obtain ⟨x, hx⟩ := get_ex (xs := acc) (i := k.toNat) (by omega)
            have hx2 : lk[k.toNat]? = some x := by rw [hlk]; exact mapT_at hx
            obtain ⟨a, t, e1, e2, e3, e4⟩ := I.head x (get_mem hx)
            have lx := I.lens x (get_mem hx)
            subst e1
            refine r_oindex m.sX (by omega) (by omega) ?_
            conv => cbv
            refine r_oload m.sX hx2 (Nat.le_of_ble_eq_true rfl) ?_
            conv => cbv
            refine r_oload m.sX hx2 (Nat.le_of_ble_eq_true rfl) ?_
            conv => cbv
            refine r_oindex m.sX (by omega) (by simp) ?_
            conv => cbv
            refine r_oload m.sX hx2 (Nat.le_of_ble_eq_true rfl) ?_
            conv => cbv
            refine r_oload (x := a) m.sX rfl (Nat.le_of_ble_eq_true rfl) ?_
            conv => cbv
            refine r_eql m.sX (fun h5 => ?_) (fun h5 => ?_) <;> conv => cbv
            · refine r_oindex m.sX (by omega) (by omega) ?_
              conv => cbv
              refine r_oload m.sX hx2 (Nat.le_of_ble_eq_true rfl) ?_
              conv => cbv
              refine r_oload m.sX hx2 (Nat.le_of_ble_eq_true rfl) ?_
              conv => cbv
              refine r_append1 (i) m.sX rfl (by dsimp only; omega) (by omega) fun zs hzs => ?_
              conv => cbv
              refine r_ostoreU m.sX hx2 (Nat.le_of_ble_eq_true rfl) rfl fun es1 hes1 => ?_
              conv => cbv
              refine r_oindexV m.sX hes1 (by omega) (by omega) ?_
              conv => cbv
              refine r_ostoreR zs m.sX hes1 (show k.toNat < lk.length by omega) (Nat.le_of_ble_eq_true rfl) rfl fun lk2 hlk2 => ?_
              conv => cbv
              refine r_clean m.sX cRun_clean ?_
              conv => cbv
              refine r_addf m.sX (by omega) (by omega) fun r1 hr1 => ?_
              conv => cbv
              have hz : zs = putC first i (a :: t) := by rw [hzs, putC_yes h5]
              refine hE2 _ (lk2, r1) ?_ ?_ ⟨by dsimp only; omega, by dsimp only; omega, by dsimp only; rw [show lk2 = lk.set k.toNat zs from hlk2, hz, hlk, show r1.toNat = k.toNat + 1 by omega, mapT_step hx]⟩ (by dsimp only; omega)
              · cbv
              · cbv
            · refine r_addf m.sX (by omega) (by omega) fun r1 hr1 => ?_
              conv => cbv
              refine hE2 _ (lk, r1) ?_ ?_ ⟨by dsimp only; omega, by dsimp only; omega, by dsimp only; rw [hlk, show r1.toNat = k.toNat + 1 by omega, mapT_same hx (putC_no h5)]⟩ (by dsimp only; omega)
              · cbv
              · cbv
          · refine hF2 _ _ ?_
            conv => cbv
            refine r_addf m.sX (by omega) (by omega) fun r1 hr1 => ?_
            conv => cbv
            refine hE _ (lk, r1) ?_ ?_ ⟨by dsimp only; omega, by dsimp only; omega, by dsimp only; rw [hlk, mapT_all (by omega), show r1.toNat = i.toNat + 1 by omega, hnx, classStep_eq, if_neg h3]⟩ (by dsimp only; omega)
            · cbv
            · cbv
      · refine hF _ _ ?_
        conv => cbv
        refine hQ _ ?_
        have e : PV.tup [.isl 1 (rows (cSl 1 cInt) acc), .bool true] = lbI 1 (cSl 1 cInt) (classAns copies) := by
          rw [classAns, if_pos h1, ha, show i.toNat = copies.length by omega]; rfl
        rw [← cool_runs] at e
        exact e
    · refine hQ _ ?_
      have e : oneRes [PV.isl 1 (coolL []), PV.bool false] = lbI 1 (cSl 1 cInt) (classAns copies) := by
        rw [classAns, if_neg (by rw [h1]; simp), lbI_nil, cool_nil]; rfl
      exact e
theorem map_none {first i : Int} {acc : List (List Int)} (h : ∀ x ∈ acc, x.head? ≠ some first) : acc.map (putC first i) = acc := by
  refine (List.map_congr_left fun x hx => ?_).trans (List.map_id acc)
  rw [putC, if_neg (h x hx)]; rfl
/-- Whether one of the first k classes is the one that is looked for. -/
def metB (first : Int) (acc : List (List Int)) (k : Nat) : Bool := (acc.take k).any fun x => decide (x.head? = some first)
theorem metB_step {first : Int} {acc : List (List Int)} {k : Nat} {x : List Int} (h : acc[k]? = some x) : metB first acc (k + 1) = (metB first acc k || decide (x.head? = some first)) := by
  rw [metB, List.take_add_one, h, Option.toList_some, List.any_append]; simp [metB]
theorem metB_dist {first : Int} {acc : List (List Int)} {k : Nat} {x : List Int} (hd : acc.Pairwise fun a b => a.head? ≠ b.head?) (h : acc[k]? = some x) (hm : metB first acc k = true) : x.head? ≠ some first := fun e => by
  obtain ⟨y, hy, e2⟩ := List.any_eq_true.1 hm
  obtain ⟨j, hj, rfl⟩ := List.getElem_of_mem hy
  have hjl : j < k ∧ j < acc.length := by rw [List.length_take] at hj; omega
  have hk := (List.getElem?_eq_some_iff.1 h)
  have := List.pairwise_iff_getElem.1 hd j k hjl.2 hk.1 hjl.1
  rw [List.getElem_take] at e2
  rw [hk.2, e] at this
  exact this (by simpa using e2)
theorem metB_all {first : Int} {acc : List (List Int)} {k : Nat} (h : acc.length ≤ k) : metB first acc k = true ↔ ∃ x ∈ acc, x.head? = some first := by
  rw [metB, List.take_of_length_le h, List.any_eq_true]; simp
theorem specCopyClasses_ok (copies : List (List Tx)) : OkA Try.prog 44 [.isl 1 (rows (cSl 1 cStr) copies)] (· = lbI 1 (cSl 1 cInt) (classAns copies)) :=
  OkA.unnilI 1 (fn_intro (nestIn_ok 24 envOk) (nestIn_fields 24 fieldsOk) mixed Try.func44 rfl fun κ X Y L Q m hQ => by
    conv => cbv
    refine r_callB m.sX (rvCopies_ok copies) (fun h1 => ?_) (fun h1 => ?_) <;> conv => cbv
    · obtain ⟨hp, hl⟩ := copiesB_len h1
      refine r_lenR m.sX fun n1 hn1 mn1 => ?_
      conv => cbv
      refine r_loopF (α := List (List Int) × Int) m 59 [0, 12, 13, 14] [⟨4, 33, 1000030, 1, 0⟩] (fun σ => [(0, .isl 1 (rows (cSl 1 cStr) copies)), (4, .osl 33 0), (12, .isl 1 (rows (cSl 1 cStr) copies)), (13, .int .i64 n1), (14, .int .i64 σ.2)]) (fun σ => [(33, 0, .tree 30 1 (rows cRun σ.1))])
        (fun σ => 0 ≤ σ.2 ∧ σ.2 ≤ n1 ∧ σ.1 = classT copies σ.2.toNat) (fun σ => (n1 - σ.2).toNat) ([], 0) ?_ ?_ ?_ ?_
      · cbv
      · (try dsimp only); (try simp only [rows_nil]); cbv
      · exact ⟨by dsimp only; omega, by dsimp only; omega, rfl⟩
      rintro ⟨acc, i⟩ ⟨b1, b2, ha⟩ E hE F hF
      dsimp only at b1 b2 ha
      have I := classI copies i.toNat (by omega)
      rw [← ha] at I
      have la := I.len
      conv => cbv
      refine r_lss m.sX (fun h2 => ?_) (fun h2 => ?_) <;> conv => cbv
      · refine r_index m.sX (by omega) (by omega) fun lines hlines => ?_
        conv => cbv
        obtain ⟨f0, f1, f2, f3⟩ := stateF_self hlines
        obtain ⟨first, hfirst⟩ : ∃ first, first = stateF copies lines := ⟨_, rfl⟩
        have fb : 0 ≤ first ∧ first ≤ i := by omega
        have hnx := classT_next hlines (show i = ((i.toNat : Nat) : Int) by omega) hfirst
        rw [← ha] at hnx
        have hfd := class_found hlines I
        rw [← hfirst] at hfd
        refine r_lenR m.sX fun n2 hn2 mn2 => ?_
        conv => cbv
        refine r_loopF (α := List (List Int) × Bool × Int) m 59 [0, 5, 6, 7, 12, 13, 14, 20, 21] [⟨4, 33, 1000030, 1, 0⟩] (fun σ => [(0, .isl 1 (rows (cSl 1 cStr) copies)), (4, .osl 33 0), (5, .int .i64 i), (6, .isl 1 (rows cStr lines)), (7, .bool σ.2.1), (12, .isl 1 (rows (cSl 1 cStr) copies)), (13, .int .i64 n1), (14, .int .i64 i), (20, .int .i64 n2), (21, .int .i64 σ.2.2)]) (fun σ => [(33, 0, .tree 30 1 (rows cRun σ.1))])
          (fun σ => 0 ≤ σ.2.2 ∧ σ.2.2 ≤ n2 ∧ σ.1 = mapT (putC first i) acc σ.2.2.toNat ∧ σ.2.1 = metB first acc σ.2.2.toNat) (fun σ => (n2 - σ.2.2).toNat) (acc, false, 0) ?_ ?_ ?_ ?_
        · cbv
        · cbv
        · exact ⟨by dsimp only; omega, by dsimp only; omega, (mapT_zero _ _).symm, rfl⟩
        rintro ⟨lk, found, k⟩ ⟨k1, k2, hlk, hfo⟩ E2 hE2 F2 hF2
        dsimp only at k1 k2 hlk hfo
        have ll : lk.length = acc.length := by rw [hlk, mapT_len]
        conv => cbv
        refine r_lss m.sX (fun h4 => ?_) (fun h4 => ?_) <;> conv => cbv
        · obtain ⟨x, hx⟩ := get_ex (xs := acc) (i := k.toNat) (by omega)
          have hx2 : lk[k.toNat]? = some x := by rw [hlk]; exact mapT_at hx
          obtain ⟨a, t, e1, e2, e3, e4⟩ := class_head hlines I (get_mem hx)
          have lx := I.lens x (get_mem hx)
          have hms := metB_step (first := first) hx
          have hmd := metB_dist (first := first) I.dist hx
          subst e1
          rcases Bool.eq_false_or_eq_true found with rfl | rfl <;> conv => cbv
          · have hne : a ≠ first := fun e => hmd hfo.symm (by rw [e]; rfl)
            refine r_addf m.sX (by omega) (by omega) fun r1 hr1 => ?_
            conv => cbv
            refine hE2 _ (lk, true, r1) ?_ ?_ ⟨by dsimp only; omega, by dsimp only; omega, by dsimp only; rw [hlk, show r1.toNat = k.toNat + 1 by omega, mapT_same hx (putC_no hne)], by dsimp only; rw [show r1.toNat = k.toNat + 1 by omega, hms, ← hfo]; rfl⟩ (by dsimp only; omega)
            · cbv
            · cbv
          · refine r_oindex m.sX (by omega) (by omega) ?_
            conv => cbv
            refine r_oload m.sX hx2 (Nat.le_of_ble_eq_true rfl) ?_
            conv => cbv
            refine r_oload m.sX hx2 (Nat.le_of_ble_eq_true rfl) ?_
            conv => cbv
            refine r_oindex m.sX (by omega) (by simp) ?_
            conv => cbv
            refine r_oload m.sX hx2 (Nat.le_of_ble_eq_true rfl) ?_
            conv => cbv
            refine r_oload (x := a) m.sX rfl (Nat.le_of_ble_eq_true rfl) ?_
            conv => cbv
            refine r_index m.sX (by omega) (by omega) fun y hy => ?_
            conv => cbv
            have hy2 : copies.getD a.toNat [] = y := by rw [List.getD_eq_getElem?_getD, hy]; rfl
            rw [hy2, ← hfirst] at e4
            refine r_callB m.sX (rvSame_ok y lines) (fun h5 => ?_) (fun h5 => ?_) <;> conv => cbv
            · have hya : a = first := e4.1 (of_decide_eq_true h5)
              refine r_oindex m.sX (by omega) (by omega) ?_
              conv => cbv
              refine r_oload m.sX hx2 (Nat.le_of_ble_eq_true rfl) ?_
              conv => cbv
              refine r_oload m.sX hx2 (Nat.le_of_ble_eq_true rfl) ?_
              conv => cbv
              refine r_append1 (i) m.sX rfl (by dsimp only; omega) (by omega) fun zs hzs => ?_
              conv => cbv
              refine r_ostoreU m.sX hx2 (Nat.le_of_ble_eq_true rfl) rfl fun es1 hes1 => ?_
              conv => cbv
              refine r_oindexV m.sX hes1 (by omega) (by omega) ?_
              conv => cbv
              refine r_ostoreR zs m.sX hes1 (show k.toNat < lk.length by omega) (Nat.le_of_ble_eq_true rfl) rfl fun lk2 hlk2 => ?_
              conv => cbv
              refine r_clean m.sX cRun_clean ?_
              conv => cbv
              refine r_addf m.sX (by omega) (by omega) fun r1 hr1 => ?_
              conv => cbv
              have hz : zs = putC first i (a :: t) := by rw [hzs, putC_yes hya]
              refine hE2 _ (lk2, true, r1) ?_ ?_ ⟨by dsimp only; omega, by dsimp only; omega, by dsimp only; rw [show lk2 = lk.set k.toNat zs from hlk2, hz, hlk, show r1.toNat = k.toNat + 1 by omega, mapT_step hx], by dsimp only; rw [show r1.toNat = k.toNat + 1 by omega, hms, hya]; simp⟩ (by dsimp only; omega)
              · cbv
              · cbv
            · have hya : a ≠ first := fun e => by have := of_decide_eq_false h5; exact this (e4.2 e)
              refine r_addf m.sX (by omega) (by omega) fun r1 hr1 => ?_
              conv => cbv
              refine hE2 _ (lk, false, r1) ?_ ?_ ⟨by dsimp only; omega, by dsimp only; omega, by dsimp only; rw [hlk, show r1.toNat = k.toNat + 1 by omega, mapT_same hx (putC_no hya)], by dsimp only; rw [show r1.toNat = k.toNat + 1 by omega, hms, ← hfo]; simpa using hya⟩ (by dsimp only; omega)
              · cbv
              · cbv
        · refine hF2 _ _ ?_
          conv => cbv
          have hall := metB_all (first := first) (acc := acc) (k := k.toNat) (by omega)
          rw [← hfo, hfd] at hall
          rcases Bool.eq_false_or_eq_true found with rfl | rfl <;> conv => cbv
          · have hne := hall.1 rfl
            refine r_addf m.sX (by omega) (by omega) fun r1 hr1 => ?_
            conv => cbv
            refine hE _ (lk, r1) ?_ ?_ ⟨by dsimp only; omega, by dsimp only; omega, by dsimp only; rw [hlk, mapT_all (by omega), show r1.toNat = i.toNat + 1 by omega, hnx, classStep_eq, if_neg (by omega)]⟩ (by dsimp only; omega)
            · cbv
            · cbv
          · have hfi : first = i := by
              have := mt hall.2 (by simp)
              omega
            have hlk3 : lk = acc := by
              rw [hlk, mapT_all (by omega)]
              refine map_none fun x hx e => ?_
              have := hfd.1 ⟨x, hx, e⟩
              omega
            refine r_append1 ([i]) m.sX (cRun_one i) (by dsimp only; omega) (by omega) fun acc2 hacc2 => ?_
            conv => cbv
            refine r_addf m.sX (by omega) (by omega) fun r1 hr1 => ?_
            conv => cbv
            refine hE _ (acc2, r1) ?_ ?_ ⟨by dsimp only; omega, by dsimp only; omega, by dsimp only; rw [hacc2, hlk3, show r1.toNat = i.toNat + 1 by omega, hnx, classStep_eq, if_pos hfi]⟩ (by dsimp only; omega)
            · cbv
            · cbv
      · refine hF _ _ ?_
        conv => cbv
        refine hQ _ ?_
        have e : unnilTI 1 (oneRes [PV.isl 1 (rows (cSl 1 cInt) acc), .bool true]) = lbI 1 (cSl 1 cInt) (classAns copies) := by
          rw [classAns, if_pos h1, ha, show i.toNat = copies.length by omega]; rfl
        rw [← cool_runs] at e
        exact e
    · refine hQ _ ?_
      rw [classAns, if_neg (by rw [h1]; simp)]
      exact (lbI_nil 1 (cSl 1 cInt) false).symm)
end Go.Proofs.Ytifkjlpkhfldoaa.Ai
