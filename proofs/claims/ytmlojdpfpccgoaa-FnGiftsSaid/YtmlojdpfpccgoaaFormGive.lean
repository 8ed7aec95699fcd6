/- The reference's gift: forms are copied into a tree, and the counts are given in it. -/
import Derived.Test.YtmlojdpfpccgoaaForm
import Derived.Test.YtmlojdpfpccgoaaForm2
import Derived.Test.YtmlojdpfpccgoaaAiNest
namespace Go.Proofs.Ytmlojdpfpccgoaa.Ai
open Go Go.Proofs
set_option linter.unusedSimpArgs false
set_option maxRecDepth 10000
set_option maxHeartbeats 4000000
set_option linter.unusedVariables false
noncomputable def cFormN (x : PForm) : List PV := [.fr 3 1 (rows cInt x.1), .fr 3 1 (rows cInt x.2)]
noncomputable def ownF (x : PForm) : PV := .agg (cFormN x)
theorem cool_cForm (l : List PForm) : coolL (rows cFormN l) = rows cForm l := cool_rows cFormN l
theorem cFormN_pair (a b : List Int) : [PV.fr 3 1 (rows cInt a), PV.fr 3 1 (rows cInt b)] = cFormN (a, b) := rfl
/-! ### Plain -/
theorem giveOk_at {free : List Int} {l : List PForm} {i : Int} {c : List Int} (h : giveOk free l i c = true) {x : PForm} (hx : l[i.toNat]? = some x) {k : Nat} (hk : k < c.length) : 0 ≤ nth c k ∧ nth c k ≤ nth free k ∧ nth c k ≤ nth x.2 k := by
  simp only [giveOk, Bool.and_eq_true, decide_eq_true_eq] at h
  obtain ⟨⟨h1, h2⟩, h3, h4⟩ := h
  obtain ⟨a1, a2, a3, y, a4, a5⟩ := askB_spec h1
  obtain rfl : x = y := Option.some.inj (hx.symm.trans a4)
  obtain ⟨b1, b2, -, -⟩ := formB_spec a5
  obtain ⟨f1, f2, f3, f4⟩ := formsB_spec h4
  have c1 := allB_nth h3 hk
  have c2 := allB_nth f3 (k := k) (by rw [plusL_len]; omega)
  rw [nth_plus (by omega)] at c2
  have hm : (plusL x.1 c 1, plusL x.2 c (-1)) ∈ setF l i.toNat c := by
    rw [setF_some c hx]
    exact List.mem_set (List.getElem?_eq_some_iff.1 hx).1 _
  obtain ⟨-, -, -, d4⟩ := formB_spec (f1 _ hm)
  have c3 := allB_nth d4 (k := k) (by dsimp only; rw [plusL_len]; omega)
  dsimp only at c3
  rw [nth_plus (by omega)] at c3
  omega
theorem giveA_at {free : List Int} {l : List PForm} {i : Int} {c : List Int} {x : PForm} (hx : l[i.toNat]? = some x) {k : Nat} (hk : k < c.length) (hn : ¬ (0 ≤ nth c k ∧ nth c k ≤ nth free k ∧ nth c k ≤ nth x.2 k)) : ([], [], false) = giveA free l i c := by
  refine giveA_no ?_
  cases h : giveOk free l i c with
  | false => rfl
  | true => exact absurd (giveOk_at h hx hk) hn
theorem mixT_next {a c : List Int} {f : Int} {k : Nat} {z : Int} (hk : k < a.length) (hz : z = nth a k + f * nth c k) : (mixT a c f k).set k z = mixT a c f (k + 1) := by rw [hz, mixT_step hk]
theorem set_same {α : Type} {l : List α} {i : Nat} {x : α} (h : l[i]? = some x) : l.set i x = l := by
  obtain ⟨hi, e⟩ := List.getElem?_eq_some_iff.1 h
  rw [← e, List.set_getElem_self]
theorem stOwn_ok (x : PForm) (h1 : x.1.length ≤ 1000) (h2 : x.2.length ≤ 1000) : OkA Try.prog 94 [.agg (cForm x)] (· = ownF x) := by
  obtain ⟨xA, xB⟩ := x
  try dsimp only at *
  exact fn_introO envOk fieldsOk mixed Try.func94 rfl fun κ X Y L Q m hQ => by
    conv => cbv
    refine r_draw m (by kernel_rfl) ?_
    conv => cbv
    refine r_callFS (fun l => PV.fr _ _ (rows _ l)) m.sY (l1Own_ok xA (by omega)) trivial fun v1 hv1 => ?_
    conv => cbv
    try dsimp only at hv1
    refine r_callFS (fun l => PV.fr _ _ (rows _ l)) m.sY (l1Own_ok xB (by omega)) trivial fun v2 hv2 => ?_
    conv => cbv
    try dsimp only at hv2
    subst hv1 hv2
    exact hQ (ownF (v1, v2)) rfl
theorem specGive_ok (free : List Int) (l : List PForm) (i : Int) (counts : List Int) : OkA Try.prog 100 [.isl 1 (rows cInt free), .isl 2 (rows cForm l), .int .i64 i, .isl 1 (rows cInt counts)] (· = giveI (giveA free l i counts)) :=
  OkA.unnil2 1 2 (fn_intro (nestIn_ok 25 envOk) (nestIn_fields 25 fieldsOk) mixed Try.func100 rfl fun κ X Y L Q m hQ => by
    have no : ∀ {p : List Int × List PForm × Bool}, ([], [], false) = p → Ai.unnil2 1 2 (Ai.ice (.tup [.nil, .nil, .bool false])) = giveI p := fun e => by subst e; simp only [giveI, Ai.unnil2, unnilI, Ai.ice, ice1, ice0, List.map_cons, List.map_nil, rows_nil]
    conv => cbv
    refine r_callB m.sX (stAsked_ok free l i) (fun h1 => ?_) (fun h1 => ?_) <;> conv => cbv
    · obtain ⟨as1, as2, as3, ⟨xA, xB⟩, as4, as5⟩ := askB_spec h1
      obtain ⟨ab1, ab2, ab3, ab4⟩ := formB_spec as5
      dsimp only at ab1 ab2 ab3 ab4
      have fl0 := forms_len as1
      have fs0 := formsB_spec as1
      have hs0 : ∀ x ∈ l, x.1.length ≤ 1000 ∧ x.2.length ≤ 1000 := fun x hx => by have z := formB_spec (fs0.1 x hx); omega
      have li : i.toNat < l.length := by omega
      refine r_lenR m.sX fun n1 hn1 mn1 => ?_
      conv => cbv
      refine r_lenR m.sX fun n2 hn2 mn2 => ?_
      conv => cbv
      refine r_neq m.sX (fun h2 => ?_) (fun h2 => ?_) <;> conv => cbv
      · exact hQ (.tup [.nil, .nil, .bool false]) (no (giveA_no (by rw [giveOk, decide_eq_false (by omega)]; simp)))
      · refine r_callF (fun l => PV.fr _ _ (rows _ l)) m.sX (l1Own_ok free (by omega)) fun left hleft => ?_
        conv => cbv
        try dsimp only at hleft
        refine r_lenR m.sX fun n3 hn3 mn3 => ?_
        conv => cbv
        refine r_loopF (α := List PForm × Int) m 102 [0, 1, 2, 3, 31, 32, 33] [⟨11, 89, 3, 1, 0⟩, ⟨12, 97, 33 + 1000000, 2, 0⟩] (fun σ => [(0, .isl 1 (rows cInt free)), (1, .isl 2 (rows cForm l)), (2, .int .i64 i), (3, .isl 1 (rows cInt counts)), (11, .osl 89 0), (12, .osl 97 0), (31, .isl 2 (rows cForm l)), (32, .int .i64 n3), (33, .int .i64 σ.2)]) (fun σ => [(89, 0, .row 3 1 (rows cInt left)), (97, 0, .tree 33 2 (rows cFormN σ.1))])
          (fun σ => (0 ≤ σ.2) ∧ (σ.2 ≤ n3) ∧ σ.1 = l.take σ.2.toNat) (fun σ => (n3 - σ.2).toNat) ([], 0) ?_ ?_ ?_ ?_
        · cbv
        · (try dsimp only); (try simp only [rows_cons, rows_nil]); cbv
        · exact ⟨by dsimp only; omega, by dsimp only; omega, rfl⟩
        rintro ⟨out, i1⟩ ⟨lo1, hi1, q1⟩ E hE F hF
        dsimp only at lo1 hi1 q1
        have lq1 : out.length = i1.toNat := by rw [q1, List.length_take]; omega
        conv => cbv
        refine r_lss m.sX (fun h3 => ?_) (fun h3 => ?_) <;> conv => cbv
        · refine r_index m.sX (by omega) (by omega) fun v hzA => ?_
          obtain ⟨zA, zB⟩ := v
          conv => cbv
          have hx := hzA
          have mx := get_mem hx
          have kx := take_snoc hx
          have xs := hs0 _ mx
          refine r_callF ownF m.sX (stOwn_ok (zA, zB) xs.1 xs.2) fun v hv1 => ?_
          obtain ⟨v1, v2⟩ := v
          conv => cbv
          refine r_append1 ((v1, v2)) m.sX (cFormN_pair v1 v2) (by dsimp only; omega) (by omega) fun out_2 hout_2 => ?_
          conv => cbv
          refine r_addf m.sX (by omega) (by omega) fun r1 hr1 => ?_
          conv => cbv
          have tr1 : Int.toNat r1 = Int.toNat i1 + 1 := by omega
          refine hE _ (out_2, r1) ?_ ?_ ⟨by dsimp only; omega, by dsimp only; omega, by dsimp only; rw [tr1, kx, ← q1, hout_2, hv1]⟩ (by dsimp only; omega)
          · cbv
          · cbv
        · have tz : out = l := by rw [q1, List.take_of_length_le (by omega)]
          clear q1 lq1
          subst tz
          refine hF _ _ ?_
          conv => cbv
          refine r_lenR m.sX fun n4 hn4 mn4 => ?_
          conv => cbv
          refine r_loopF (α := List Int × List PForm × Int) m 102 [0, 1, 2, 43, 44, 45] [⟨11, 89, 3, 1, 0⟩, ⟨12, 97, 33, 2, 0⟩] (fun σ => [(0, .isl 1 (rows cInt free)), (1, .isl 2 (rows cForm out)), (2, .int .i64 i), (11, .osl 89 0), (12, .osl 97 0), (43, .isl 1 (rows cInt counts)), (44, .int .i64 n4), (45, .int .i64 σ.2.2)]) (fun σ => [(89, 0, .row 3 1 (rows cInt σ.1)), (97, 0, .tree 33 2 (rows cFormN σ.2.1))])
            (fun σ => (0 ≤ σ.2.2) ∧ (σ.2.2 ≤ n4) ∧ σ.1 = mixT free counts (-1) σ.2.2.toNat ∧ σ.2.1 = out.set i.toNat (mixT xA counts 1 σ.2.2.toNat, mixT xB counts (-1) σ.2.2.toNat) ∧ ∀ k, k < σ.2.2.toNat → 0 ≤ nth counts k ∧ nth counts k ≤ 1000) (fun σ => (n4 - σ.2.2).toNat) (left, out, 0) ?_ ?_ ?_ ?_
          · cbv
          · cbv
          · refine ⟨by dsimp only; omega, by dsimp only; omega, by dsimp only; rw [hleft]; exact (mixT_zero _ _ _).symm, ?_, fun k hk => absurd hk (by simp)⟩
            dsimp only
            rw [show Int.toNat 0 = 0 from rfl, mixT_zero, mixT_zero, set_same as4]
          rintro ⟨left_2, out_2, i2⟩ ⟨lo2, hi2, q2, q3, q4⟩ E hE F hF
          dsimp only at lo2 hi2 q2 q3 q4
          conv => cbv
          refine r_lss m.sX (fun h4 => ?_) (fun h4 => ?_) <;> conv => cbv
          · have mf := mixT_at (a := free) (b := counts) (f := -1) (n := i2.toNat) (by omega)
            have ma := mixT_at (a := xA) (b := counts) (f := 1) (n := i2.toNat) (by omega)
            have mb := mixT_at (a := xB) (b := counts) (f := -1) (n := i2.toNat) (by omega)
            have nf := allB_nth fs0.2.2.1 (k := i2.toNat) (by omega)
            have na := allB_nth ab3 (k := i2.toNat) (by omega)
            have nb := allB_nth ab4 (k := i2.toNat) (by omega)
            refine r_index m.sX (by omega) (by omega) fun n hn => ?_
            conv => cbv
            have vn := nth_some hn
            refine r_draw m (by kernel_rfl) ?_
            conv => cbv
            refine r_index m.sY (by omega) (by omega) fun x1 hx1 => ?_
            conv => cbv
            have vx1 := nth_some hx1
            refine r_index m.sY (by omega) (by omega) fun v hx2A => ?_
            obtain ⟨x2A, x2B⟩ := v
            conv => cbv
            obtain ⟨rfl, rfl⟩ : xA = x2A ∧ xB = x2B := by have z := Option.some.inj (as4.symm.trans hx2A); exact ⟨congrArg Prod.fst z, congrArg Prod.snd z⟩
            refine r_index m.sY (by omega) (by omega) fun x3 hx3 => ?_
            conv => cbv
            have vx3 := nth_some hx3
            refine r_callFS (PV.int .i64) m.sY (l1Least_ok x1 x3) trivial fun r2 hr2 => ?_
            conv => cbv
            try dsimp only at hr2
            refine r_callBS m.sY (l1In_ok n 0 r2) (fun h5 => ?_) (fun h5 => ?_) <;> conv => cbv
            · have nn := inB_spec h5
              have nn1 : 0 ≤ n ∧ n ≤ 1000 := by omega
              have hx4 : left_2[Int.toNat i2]? = some x1 := by rw [q2, mf, vx1]
              have hx5 : out_2[Int.toNat i]? = some (mixT xA counts 1 i2.toNat, mixT xB counts (-1) i2.toNat) := by rw [q3, List.getElem?_set_self (by omega)]
              have lo : out_2.length = out.length := by rw [q3]; simp
              have ll : left_2.length = free.length := by rw [q2, mixT_len (by omega)]
              have la := mixT_len (a := xA) (b := counts) (f := 1) (n := i2.toNat) (by omega)
              have lb_ := mixT_len (a := xB) (b := counts) (f := -1) (n := i2.toNat) (by omega)
              generalize eA : mixT xA counts 1 i2.toNat = zA at *
              generalize eB : mixT xB counts (-1) i2.toNat = zB at *
              refine r_oindex m.sX (by omega) (by omega) ?_
              conv => cbv
              refine r_oload m.sX hx4 (Nat.le_of_ble_eq_true rfl) ?_
              conv => cbv
              refine r_subf m.sX (by omega) (by omega) fun r3 hr3 => ?_
              conv => cbv
              refine r_oindex m.sX (by omega) (by omega) ?_
              conv => cbv
              refine r_ostore (l := Int.toNat i2) r3 m.sX hx4 (Nat.le_of_ble_eq_true rfl) rfl fun left_3 hleft_3 => ?_
              conv => cbv
              obtain ⟨u, eu⟩ : ∃ u, u = nth xA i2.toNat := ⟨_, rfl⟩
              obtain ⟨v, ev⟩ : ∃ v, v = nth xB i2.toNat := ⟨_, rfl⟩
              have hx6 : zA[Int.toNat i2]? = some u := by rw [eu]; exact ma
              have hx7 : zB[Int.toNat i2]? = some v := by rw [ev]; exact mb
              rw [← eu] at na
              rw [← ev] at nb
              refine r_oindex m.sX (by omega) (by omega) ?_
              conv => cbv
              refine r_oload m.sX hx5 (Nat.le_of_ble_eq_true rfl) ?_
              conv => cbv
              refine r_oload m.sX hx5 (Nat.le_of_ble_eq_true rfl) ?_
              conv => cbv
              refine r_oindex m.sX (by omega) (by omega) ?_
              conv => cbv
              refine r_oload m.sX hx5 (Nat.le_of_ble_eq_true rfl) ?_
              conv => cbv
              refine r_oload m.sX hx6 (Nat.le_of_ble_eq_true rfl) ?_
              conv => cbv
              refine r_addf m.sX (by omega) (by omega) fun r4 hr4 => ?_
              conv => cbv
              refine r_oload m.sX hx5 (Nat.le_of_ble_eq_true rfl) ?_
              conv => cbv
              refine r_oindex m.sX (by omega) (by omega) ?_
              conv => cbv
              refine r_oload m.sX hx5 (Nat.le_of_ble_eq_true rfl) ?_
              conv => cbv
              refine r_ostore (x := u) (l := Int.toNat i2) r4 m.sX hx6 (Nat.le_of_ble_eq_true rfl) rfl fun z1 hz1 => ?_
              conv => cbv
              refine r_ostore (l := Int.toNat i) (z1, zB) m.sX hx5 (Nat.le_of_ble_eq_true rfl) rfl fun out_3 hout_3 => ?_
              conv => cbv
              have hx8 : out_3[Int.toNat i]? = some (z1, zB) := by rw [hout_3, List.getElem?_set_self (by omega)]
              have lo3 : out_3.length = out_2.length := by rw [hout_3]; simp
              refine r_oindex m.sX (by omega) (by omega) ?_
              conv => cbv
              refine r_oload m.sX hx8 (Nat.le_of_ble_eq_true rfl) ?_
              conv => cbv
              refine r_oload m.sX hx8 (Nat.le_of_ble_eq_true rfl) ?_
              conv => cbv
              refine r_oindex m.sX (by omega) (by omega) ?_
              conv => cbv
              refine r_oload m.sX hx8 (Nat.le_of_ble_eq_true rfl) ?_
              conv => cbv
              refine r_oload m.sX hx7 (Nat.le_of_ble_eq_true rfl) ?_
              conv => cbv
              refine r_subf m.sX (by omega) (by omega) fun r5 hr5 => ?_
              conv => cbv
              refine r_oload m.sX hx8 (Nat.le_of_ble_eq_true rfl) ?_
              conv => cbv
              refine r_oindex m.sX (by omega) (by omega) ?_
              conv => cbv
              refine r_oload m.sX hx8 (Nat.le_of_ble_eq_true rfl) ?_
              conv => cbv
              refine r_ostore (x := v) (l := Int.toNat i2) r5 m.sX hx7 (Nat.le_of_ble_eq_true rfl) rfl fun z2 hz2 => ?_
              conv => cbv
              refine r_ostore (l := Int.toNat i) (z1, z2) m.sX hx8 (Nat.le_of_ble_eq_true rfl) rfl fun out_4 hout_4 => ?_
              conv => cbv
              have e1 : left_3 = mixT free counts (-1) (i2.toNat + 1) := by rw [hleft_3, q2, ← mixT_step (by omega), hr3, ← vx1, vn]; congr 1; omega
              have e2 : z1 = mixT xA counts 1 (i2.toNat + 1) := by rw [hz1, ← eA, ← mixT_step (by omega), hr4, vn, ← eu]; congr 1; omega
              have e3 : z2 = mixT xB counts (-1) (i2.toNat + 1) := by rw [hz2, ← eB, ← mixT_step (by omega), hr5, vn, ← ev]; congr 1; omega
              refine r_addf m.sX (by omega) (by omega) fun r6 hr6 => ?_
              conv => cbv
              have tr6 : Int.toNat r6 = Int.toNat i2 + 1 := by omega
              refine hE _ (left_3, out_4, r6) ?_ ?_ ⟨by dsimp only; omega, by dsimp only; omega, by dsimp only; rw [tr6]; exact e1, by dsimp only; rw [tr6, ← e2, ← e3, hout_4, hout_3, q3, List.set_set, List.set_set], fun k hk => ?_⟩ (by dsimp only; omega)
              · cbv
              · cbv
              dsimp only at hk
              rcases (by omega : k < i2.toNat ∨ k = i2.toNat) with hk | rfl
              · exact q4 k hk
              · rw [vn]; exact nn1
            · refine hF _ _ ?_
              conv => cbv
              exact hQ (.tup [.nil, .nil, .bool false]) (no (giveA_at as4 (k := i2.toNat) (by omega) (fun z => by have w := inB_yes (n := n) (a := 0) (b := r2) (by omega) (by dsimp only at z; omega); rw [w] at h5; cases h5)))
          · refine hF _ _ ?_
            conv => cbv
            have en : i2.toNat = free.length := by omega
            have e1 : left_2 = plusL free counts (-1) := by rw [q2, mixT_end en]
            have e2 : out_2 = setF out i.toNat counts := by rw [q3, setF_some counts as4, mixT_end (by omega), mixT_end (by omega)]
            have e3 : allB counts 0 1000 = true := allB_iff.2 fun k hk => q4 k (by omega)
            have s0 := stGood_ok left_2 out_2
            rw [← cool_cForm] at s0
            refine .inl (r_callBO m.sX (s0.ok flat_bool) (fun h6 => ?_) (fun h6 => ?_)) <;> conv => cbv
            · refine hQ (.tup [.fr 3 1 (rows cInt left_2), .isl 2 (coolL (rows cFormN out_2)), .bool true]) ?_
              rw [cool_cForm, ← giveA_yes h1 (by omega) e3 e1 e2 h6]
              rfl
            · exact hQ (.tup [.nil, .nil, .bool false]) (no (giveA_no (by rw [giveOk, ← e1, ← e2, h6]; simp)))
    · exact hQ (.tup [.nil, .nil, .bool false]) (no (giveA_no (by rw [giveOk, h1]; rfl))))
end Go.Proofs.Ytmlojdpfpccgoaa.Ai
