/- Contracts behind the exact laws on what is missing, and on learning in an order. -/
import Derived.Test.YtnamefdhmlbcpaaCommonC
import Derived.Test.YtnamefdhmlbcpaaMissLaw
import Derived.Test.YtnamefdhmlbcpaaSort0
import Derived.Test.YtnamefdhmlbcpaaThaw
namespace Go.Proofs.Ytnamefdhmlbcpaa.Ai
open Go Go.RowKit Go.Proofs
set_option maxRecDepth 10000
set_option maxHeartbeats 4000000
set_option linter.unusedVariables false
section
variable {P : Program} {X : Req → (PV → Prop) → Prop} {K : PV → Prop} {t kt et : Nat} {n : Int}
theorem r_mput (h : Std P false X) {l : List Int} (hu : P.underlying t = some (.map kt et)) (hk : P.underlying kt = some (.int .i64)) (H : ∀ z, z = putM l n → K (.isl 1 (rows cInt z))) : X (.mput t (rows cInt l) n) K := by
  rw [h.eq]
  refine ⟨⟨kt, et, hu, hk⟩, l, rows_eq _ _, ?_⟩
  have := H _ rfl
  rw [rows_eq] at this
  exact this
theorem r_mput0 (h : Std P false X) (hu : P.underlying t = some (.map kt et)) (hk : P.underlying kt = some (.int .i64)) (H : ∀ z, z = [n] → K (.isl 1 (rows cInt z))) : X (.mput t [] n) K := by
  rw [h.eq]
  refine ⟨⟨kt, et, hu, hk⟩, [], rfl, ?_⟩
  have := H [n] rfl
  rw [rows_eq] at this
  exact this
theorem r_mget (h : Std P false X) {l : List Int} (hu : P.underlying t = some (.map kt et)) (hk : P.underlying kt = some (.int .i64)) (he : P.underlying et = some .bool) (hz : ∀ w, (zeroValue et).run P w = .ok (.bool false) w)
    (H1 : n ∈ l → K (.bool true)) (H2 : n ∉ l → K (.bool false)) : X (.mget t (rows cInt l) n) K := by
  rw [h.eq]
  refine ⟨⟨kt, et, hu, hk, he, hz⟩, l, rows_eq _ _, ?_⟩
  by_cases e : n ∈ l
  · rw [decide_eq_true e]; exact H1 e
  · rw [decide_eq_false e]; exact H2 e
end
theorem missI_step {l : List Craft} {set : List Int} {i : Int} {W L : List Int} (h : 0 ≤ i) : missI l set (i + 1).toNat W L = if i ∈ W ∧ has set i = false then missI l set i.toNat (putsM W (needsAt l i.toNat)) (L ++ [i]) else missI l set i.toNat W L := by
  rw [show (i + 1).toNat = i.toNat + 1 by omega, missI, show ((i.toNat : Nat) : Int) = i by omega]
theorem missS_step {l : List Craft} {set : List Int} {i : Int} {out : List Int} (h : 0 ≤ i) : missS l set (i + 1).toNat out = if has out i = true then missS l set i.toNat (putsS set out (needsAt l i.toNat)) else missS l set i.toNat out := by
  rw [show (i + 1).toNat = i.toNat + 1 by omega, missS, show ((i.toNat : Nat) : Int) = i by omega]
theorem needs_len {l : List Craft} {set : List Int} (h : asked l set = true) {k : Nat} {c : Craft} (hc : l[k]? = some c) : (c.1.length : Int) ≤ 10 := by
  have h1 := asked_le h
  simp only [asked, good, Bool.and_eq_true] at h
  have hr : ∀ {i : Int} {cs : List Craft} {k : Nat} {c : Craft}, goodFrom i cs = true → cs[k]? = some c → rising 0 (i + k - 1) none c.1 = true := by
    intro i cs
    induction cs generalizing i with
    | nil => intro k c _ hc; simp at hc
    | cons a r ih =>
      intro k c h hc
      simp only [goodFrom, Bool.and_eq_true] at h
      cases k with
      | zero =>
        obtain rfl := Option.some.inj hc
        have e : i + ((0 : Nat) : Int) - 1 = i - 1 := by omega
        rw [e]
        exact h.1.1
      | succ k =>
        have := ih h.2 (by simpa using hc : r[k]? = some c)
        have e : i + ((k + 1 : Nat) : Int) - 1 = i + 1 + k - 1 := by omega
        rw [e]; exact this
  have hk := hr h.1.1 hc
  have hlen : ∀ (xs : List Int) (p : Option Int) (hi : Int), rising 0 hi p xs = true → (∀ y, p = some y → -1 ≤ y) → (xs.length : Int) ≤ hi - (p.getD (-1)) ∨ xs = [] := by
    intro xs
    induction xs with
    | nil => intro p hi _ _; exact .inr rfl
    | cons x r ih =>
      intro p hi hx hp
      rw [rising_cons] at hx
      simp only [Bool.and_eq_true] at hx
      have hb := inB_spec hx.1.1
      have hpx : p.getD (-1) < x := by
        cases p with
        | none => simp; omega
        | some y => simpa using hx.1.2
      rcases ih (some x) hi hx.2 (fun y hy => by obtain rfl := Option.some.inj hy; omega) with h2 | h2
      · left
        simp only [Option.getD_some, List.length_cons] at h2 ⊢
        omega
      · subst h2
        left
        simp only [List.length_cons, List.length_nil]
        omega
  have hkl := (List.getElem?_eq_some_iff.1 hc).1
  rcases hlen c.1 none _ hk (fun y hy => by cases hy) with h2 | h2
  · simp only [Option.getD_none] at h2; omega
  · rw [h2]; simp
theorem missing_ok (l : List Craft) (set : List Int) (craft : Int) (ha : asked l set = true) (hc : 0 ≤ craft ∧ craft < l.length) : OkA Try.prog 60 [.isl 2 (rows cCraft l), .isl 1 (rows cInt set), .int .i64 craft] (· = .fr 3 1 (rows cInt (missF l set craft))) :=
  OkA.unnil 3 1 (fn_intro envOk fieldsOk mixed Try.func60 rfl fun κ X Y L Q m hQ => by
    have al := asked_le ha
    conv => cbv
    refine r_mput0 m.sX rfl rfl fun ks1 hks1 => ?_   -- ks1: the key craft
    conv => cbv
    refine r_loopF (α := List Int × List Int × Int) m 49 [0, 1, 9] [⟨7, 57, 3, 1, 0⟩, ⟨8, 65, 3, 1, 0⟩] (fun σ => [(0, .isl 2 (rows cCraft l)), (1, .isl 1 (rows cInt set)), (7, .osl 57 0), (8, .osl 65 0), (9, .int .i64 σ.2.2)]) (fun σ => [(57, 0, .map (rows cInt σ.1)), (65, 0, .row 3 1 (rows cInt σ.2.1))])
      (fun σ => (-1 ≤ σ.2.2 ∧ σ.2.2 ≤ craft) ∧ ((σ.2.1.length : Int) ≤ craft - σ.2.2) ∧ (missI l set (craft + 1).toNat [craft] [] = missI l set (σ.2.2 + 1).toNat σ.1 σ.2.1)) (fun σ => (σ.2.2 + 1).toNat) (ks1, [], craft) ?_ ?_ ?_ ?_
    · cbv
    · (try dsimp only); simp only [rows_cons, rows_nil]; cbv
    · exact ⟨(by (try dsimp only) <;> (omega)), (by (try dsimp only) <;> (first | omega | (simp; done) | (simp; omega))), (by (try dsimp only) <;> ((rw [hks1])))⟩
    rintro ⟨wanted, list, i⟩ ⟨ib, ll, q⟩ E hE F hF
    dsimp only at ib ll q
    conv => cbv
    refine r_geq m.sX (fun h1 => ?_) (fun h1 => ?_) <;> conv => cbv
    · rw [missI_step (i := i) (by omega)] at q
      refine r_mget (l := wanted) m.sX rfl rfl rfl (fun w => by kernel_rfl) (fun h2 => ?_) (fun h2 => ?_) <;> conv => cbv   -- i among wanted
      · refine r_callB m.sX (hasNumber_ok set i) (fun h3 => ?_) (fun h3 => ?_) <;> conv => cbv
        · refine r_subf m.sX (by omega) (by omega) fun i_2 hi_2 => ?_
          conv => cbv
          refine hE _ (wanted, list, i_2) ?_ ?_ ⟨(by (try dsimp only) <;> (omega)), (by (try dsimp only) <;> (omega)), (by (try dsimp only) <;> (first | (rw [q, hi_2, if_neg (by rw [h3]; simp), show (i - 1 + 1 : Int) = i by omega]; done) | (rw [q, hi_4, if_neg (by intro hh; exact h2 hh.1), show (i - 1 + 1 : Int) = i by omega]; done) | (rw [q, hi_3, if_pos ⟨h2, h3⟩, show (i - 1 + 1 : Int) = i by omega, hlist_2, needsAt_some hx1, q2, dz_i1]; rfl)))⟩ (by first | omega | (dsimp only; omega))
          · cbv
          · cbv
        · refine r_append1 (i) m.sX rfl (by first | omega | (dsimp only; omega)) (by first | omega | (dsimp only; omega)) fun list_2 hlist_2 => ?_
          conv => cbv
          have llist_2 : (list_2.length : Int) = list.length + 1 := by rw [hlist_2]; first | done | (simp; done) | (simp; omega)
          refine r_index m.sX (by omega) (by omega) fun v hx1A => ?_
          obtain ⟨x1A, x1B⟩ := v
          conv => cbv
          have hx1 := hx1A
          have mx1 := get_mem hx1
          have nl := needs_len ha hx1
          try dsimp only at nl
          refine r_lenR m.sX fun n1 hn1 mn1 => ?_
          conv => cbv
          refine r_loopF (α := List Int × Int) m 49 [0, 1, 9, 38, 39, 40] [⟨7, 57, 3, 1, 0⟩, ⟨8, 65, 3, 1, 0⟩] (fun σ => [(0, .isl 2 (rows cCraft l)), (1, .isl 1 (rows cInt set)), (7, .osl 57 0), (8, .osl 65 0), (9, .int .i64 i), (38, .isl 1 (rows cInt x1A)), (39, .int .i64 n1), (40, .int .i64 σ.2)]) (fun σ => [(57, 0, .map (rows cInt σ.1)), (65, 0, .row 3 1 (rows cInt list_2))])
            (fun σ => (0 ≤ σ.2) ∧ (σ.2 ≤ n1) ∧ (putsM wanted x1A = putsM σ.1 (x1A.drop σ.2.toNat))) (fun σ => (n1 - σ.2).toNat) (wanted, 0) ?_ ?_ ?_ ?_
          · cbv
          · cbv
          · exact ⟨(by (try dsimp only); first | omega | (simp only [List.length_nil]; omega)), (by (try dsimp only); first | omega | (simp only [List.length_nil]; omega)), (by (try dsimp only) <;> (rfl))⟩
          rintro ⟨wanted_2, i1⟩ ⟨lo2, hi2, q2⟩ E2 hE2 F2 hF2
          dsimp only at lo2 hi2 q2
          conv => cbv
          refine r_lss m.sX (fun h4 => ?_) (fun h4 => ?_) <;> conv => cbv
          · refine r_index m.sX (by omega) (by omega) fun n hn => ?_
            conv => cbv
            have mn := get_mem hn
            have dn := drop_cons hn
            have kn := take_snoc hn
            have jn : (i1 + 1).toNat = Int.toNat i1 + 1 := by omega
            have vn := nth_some hn
            rw [dn, putsM] at q2
            refine r_mput (l := wanted_2) m.sX rfl rfl fun ks2 hks2 => ?_   -- ks2: the key n into wanted_2
            conv => cbv
            refine r_addf m.sX (by omega) (by omega) fun r1 hr1 => ?_
            conv => cbv
            try have tr1 : Int.toNat r1 = Int.toNat i1 + 1 := by omega
            refine hE2 _ (ks2, r1) ?_ ?_ ⟨(by (try dsimp only); first | omega | (simp only [List.length_nil]; omega)), (by (try dsimp only); first | omega | (simp only [List.length_nil]; omega)), (by (try dsimp only) <;> (rw [q2, hks2, tr1]; rfl))⟩ (by first | omega | (dsimp only; omega))
            · cbv
            · cbv
          · have dz_i1 := drop_end (xs := x1A) (i := Int.toNat i1) (by omega)
            have tz_i1 := take_end (xs := x1A) (i := Int.toNat i1) (by omega)
            refine hF2 _ _ ?_
            conv => cbv
            refine r_subf m.sX (by omega) (by omega) fun i_3 hi_3 => ?_
            conv => cbv
            refine hE _ (wanted_2, list_2, i_3) ?_ ?_ ⟨(by (try dsimp only) <;> (omega)), (by (try dsimp only) <;> (omega)), (by (try dsimp only) <;> (first | (rw [q, hi_2, if_neg (by rw [h3]; simp), show (i - 1 + 1 : Int) = i by omega]; done) | (rw [q, hi_4, if_neg (by intro hh; exact h2 hh.1), show (i - 1 + 1 : Int) = i by omega]; done) | (rw [q, hi_3, if_pos ⟨h2, h3⟩, show (i - 1 + 1 : Int) = i by omega, hlist_2, needsAt_some hx1, q2, dz_i1]; rfl)))⟩ (by first | omega | (dsimp only; omega))
            · cbv
            · cbv
      · refine r_subf m.sX (by omega) (by omega) fun i_4 hi_4 => ?_
        conv => cbv
        refine hE _ (wanted, list, i_4) ?_ ?_ ⟨(by (try dsimp only) <;> (omega)), (by (try dsimp only) <;> (omega)), (by (try dsimp only) <;> (first | (rw [q, hi_2, if_neg (by rw [h3]; simp), show (i - 1 + 1 : Int) = i by omega]; done) | (rw [q, hi_4, if_neg (by intro hh; exact h2 hh.1), show (i - 1 + 1 : Int) = i by omega]; done) | (rw [q, hi_3, if_pos ⟨h2, h3⟩, show (i - 1 + 1 : Int) = i by omega, hlist_2, needsAt_some hx1, q2, dz_i1]; rfl)))⟩ (by first | omega | (dsimp only; omega))
        · cbv
        · cbv
    · refine hF _ _ ?_
      conv => cbv
      refine .inl (r_callFO (fun l => PV.fr _ _ (rows _ l)) m.sX ((sorted0_ok list (by omega)).ok (flat_fr flat_cInt)) fun v1 hv1 => ?_)
      conv => cbv
      try dsimp only at hv1
      exact hQ (.fr 3 1 (rows cInt v1)) (Eq.trans (by first | rfl | (simp only [lb, lbI, rows_cons, rows_nil, unnilT, unnil, unnilTI, unnilI]; done) | (simp only [lb, lbI, rows_cons, rows_nil, unnilT, unnil, unnilTI, unnilI]; rfl)) (congrArg (fun l => PV.fr 3 1 (rows cInt l)) (show v1 = missF l set craft from by rw [missF, q, show (i + 1).toNat = 0 by omega, hv1]; rfl))))   -- leaf 1

theorem apMissing_ok (l : List Craft) (set : List Int) (craft : Int) (ha : asked l set = true) (hc : 0 ≤ craft ∧ craft < l.length) : OkA Try.prog 58 [.isl 2 (rows cCraft l), .isl 1 (rows cInt set), .int .i64 craft] (· = .isl 1 (rows cInt (missF l set craft))) :=
  OkA.iceI 1 (fn_intro envOk fieldsOk mixed Try.func58 rfl fun κ X Y L Q m hQ => by
    have al := asked_le ha
    conv => cbv
    refine r_callB m.sX (l1Has_ok set craft) (fun h1 => ?_) (fun h1 => ?_) <;> conv => cbv
    · exact hQ (.nil) (Eq.trans (by first | rfl | (simp only [lb, lbI, rows_cons, rows_nil, unnilT, unnil, unnilTI, unnilI]; done) | (simp only [lb, lbI, rows_cons, rows_nil, unnilT, unnil, unnilTI, unnilI]; rfl)) (congrArg (fun l => PV.isl 1 (rows cInt l)) (show [] = missF l set craft from by first | (rw [miss_set hc.1 h1]; done) | (rw [← miss_eq ha hc.1 h1, q, show (i + 1).toNat = 0 by omega]; rfl))))   -- leaf 1
    · refine r_seal 7 m rfl rfl ?_
      conv => cbv
      refine r_loopF (α := List Int × Int) m 44 [0, 1, 7, 8] [] (fun σ => [(0, .isl 2 (rows cCraft l)), (1, .isl 1 (rows cInt set)), (7, .isl 1 (rows cInt σ.1)), (8, .int .i64 σ.2)]) (fun σ => [])
        (fun σ => (-1 ≤ σ.2 ∧ σ.2 ≤ craft) ∧ ((σ.1.length : Int) ≤ 1 + 10 * (craft - σ.2)) ∧ (missS l set (craft + 1).toNat [craft] = missS l set (σ.2 + 1).toNat σ.1)) (fun σ => (σ.2 + 1).toNat) ([craft], craft) ?_ ?_ ?_ ?_
      · cbv
      · (try dsimp only); simp only [rows_cons, rows_nil]; cbv
      · exact ⟨(by (try dsimp only) <;> (omega)), (by (try dsimp only) <;> (first | omega | (simp; done) | (simp; omega))), (by (try dsimp only) <;> (rfl))⟩
      rintro ⟨out, i⟩ ⟨ib, ll, q⟩ E hE F hF
      dsimp only at ib ll q
      conv => cbv
      refine r_geq m.sX (fun h2 => ?_) (fun h2 => ?_) <;> conv => cbv
      · rw [missS_step (i := i) (by omega)] at q
        refine r_callB m.sX (l1Has_ok out i) (fun h3 => ?_) (fun h3 => ?_) <;> conv => cbv
        · refine r_index m.sX (by omega) (by omega) fun v hx1A => ?_
          obtain ⟨x1A, x1B⟩ := v
          conv => cbv
          have hx1 := hx1A
          have mx1 := get_mem hx1
          have nl := needs_len ha hx1
          try dsimp only at nl
          refine r_lenR m.sX fun n1 hn1 mn1 => ?_
          conv => cbv
          refine r_loopF (α := List Int × Int) m 44 [0, 1, 7, 8, 29, 30, 31] [] (fun σ => [(0, .isl 2 (rows cCraft l)), (1, .isl 1 (rows cInt set)), (7, .isl 1 (rows cInt σ.1)), (8, .int .i64 i), (29, .isl 1 (rows cInt x1A)), (30, .int .i64 n1), (31, .int .i64 σ.2)]) (fun σ => [])
            (fun σ => (0 ≤ σ.2) ∧ (σ.2 ≤ n1) ∧ ((σ.1.length : Int) ≤ out.length + σ.2) ∧ (putsS set out x1A = putsS set σ.1 (x1A.drop σ.2.toNat))) (fun σ => (n1 - σ.2).toNat) (out, 0) ?_ ?_ ?_ ?_
          · cbv
          · cbv
          · exact ⟨(by (try dsimp only); first | omega | (simp only [List.length_nil]; omega)), (by (try dsimp only); first | omega | (simp only [List.length_nil]; omega)), (by (try dsimp only) <;> (omega)), (by (try dsimp only) <;> (rfl))⟩
          rintro ⟨out_2, i1⟩ ⟨lo2, hi2, l2, q2⟩ E2 hE2 F2 hF2
          dsimp only at lo2 hi2 l2 q2
          conv => cbv
          refine r_lss m.sX (fun h4 => ?_) (fun h4 => ?_) <;> conv => cbv
          · refine r_index m.sX (by omega) (by omega) fun k hk => ?_
            conv => cbv
            have mk := get_mem hk
            have dk := drop_cons hk
            have kk := take_snoc hk
            have jk : (i1 + 1).toNat = Int.toNat i1 + 1 := by omega
            have vk := nth_some hk
            rw [dk, putsS] at q2
            refine r_callB m.sX (l1Has_ok set k) (fun h5 => ?_) (fun h5 => ?_) <;> conv => cbv
            · refine r_addf m.sX (by omega) (by omega) fun r1 hr1 => ?_
              conv => cbv
              try have tr1 : Int.toNat r1 = Int.toNat i1 + 1 := by omega
              refine hE2 _ (out_2, r1) ?_ ?_ ⟨(by (try dsimp only); first | omega | (simp only [List.length_nil]; omega)), (by (try dsimp only); first | omega | (simp only [List.length_nil]; omega)), (by (try dsimp only) <;> (omega)), (by (try dsimp only) <;> (rw [q2, tr1]; first | (rw [if_pos h5]; done) | (rw [if_neg (by rw [h5]; simp), hout_3]; done)))⟩ (by first | omega | (dsimp only; omega))
              · cbv
              · cbv
            · refine r_callF (fun l => PV.isl _ (rows _ l)) m.sX (l1Put_ok out_2 k (by omega)) fun out_3 hout_3 => ?_
              conv => cbv
              try dsimp only at hout_3
              have pl := put_len out_2 k
              try dsimp only at pl
              rw [← hout_3] at pl
              refine r_addf m.sX (by omega) (by omega) fun r2 hr2 => ?_
              conv => cbv
              try have tr2 : Int.toNat r2 = Int.toNat i1 + 1 := by omega
              refine hE2 _ (out_3, r2) ?_ ?_ ⟨(by (try dsimp only); first | omega | (simp only [List.length_nil]; omega)), (by (try dsimp only); first | omega | (simp only [List.length_nil]; omega)), (by (try dsimp only) <;> (omega)), (by (try dsimp only) <;> (rw [q2, tr2]; first | (rw [if_pos h5]; done) | (rw [if_neg (by rw [h5]; simp), hout_3]; done)))⟩ (by first | omega | (dsimp only; omega))
              · cbv
              · cbv
          · have dz_i1 := drop_end (xs := x1A) (i := Int.toNat i1) (by omega)
            have tz_i1 := take_end (xs := x1A) (i := Int.toNat i1) (by omega)
            refine hF2 _ _ ?_
            conv => cbv
            refine r_subf m.sX (by omega) (by omega) fun i_2 hi_2 => ?_
            conv => cbv
            refine hE _ (out_2, i_2) ?_ ?_ ⟨(by (try dsimp only) <;> (omega)), (by (try dsimp only) <;> (omega)), (by (try dsimp only) <;> (first | (rw [q, hi_2, if_pos h3, show (i - 1 + 1 : Int) = i by omega, needsAt_some hx1, q2, dz_i1]; rfl) | (rw [q, hi_3, if_neg (by rw [h3]; simp), show (i - 1 + 1 : Int) = i by omega]; done)))⟩ (by first | omega | (dsimp only; omega))
            · cbv
            · cbv
        · refine r_subf m.sX (by omega) (by omega) fun i_3 hi_3 => ?_
          conv => cbv
          refine hE _ (out, i_3) ?_ ?_ ⟨(by (try dsimp only) <;> (omega)), (by (try dsimp only) <;> (omega)), (by (try dsimp only) <;> (first | (rw [q, hi_2, if_pos h3, show (i - 1 + 1 : Int) = i by omega, needsAt_some hx1, q2, dz_i1]; rfl) | (rw [q, hi_3, if_neg (by rw [h3]; simp), show (i - 1 + 1 : Int) = i by omega]; done)))⟩ (by first | omega | (dsimp only; omega))
          · cbv
          · cbv
      · refine hF _ _ ?_
        conv => cbv
        exact hQ (.isl 1 (rows cInt out)) (Eq.trans (by first | rfl | (simp only [lb, lbI, rows_cons, rows_nil, unnilT, unnil, unnilTI, unnilI]; done) | (simp only [lb, lbI, rows_cons, rows_nil, unnilT, unnil, unnilTI, unnilI]; rfl)) (congrArg (fun l => PV.isl 1 (rows cInt l)) (show out = missF l set craft from by first | (rw [miss_set hc.1 h1]; done) | (rw [← miss_eq ha hc.1 h1, q, show (i + 1).toNat = 0 by omega]; rfl)))))   -- leaf 2

theorem specMissingCrafts_ok (l : List Craft) (set : List Int) (craft : Int)  : OkA Try.prog 24 [.isl 2 (rows cCraft l), .isl 1 (rows cInt set), .int .i64 craft] (· = (lbI 1 cInt) (missAns l set craft)) :=
  OkA.iceI 1 (fn_intro envOk fieldsOk mixed Try.func24 rfl fun κ X Y L Q m hQ => by
    conv => cbv
    refine r_callB m.sX (apAsked_ok l set) (fun h1 => ?_) (fun h1 => ?_) <;> conv => cbv
    · refine r_lenR m.sX fun n1 hn1 mn1 => ?_
      conv => cbv
      refine r_subf m.sX (by omega) (by omega) fun r1 hr1 => ?_
      conv => cbv
      refine r_callB m.sX (l1In_ok craft 0 r1) (fun h2 => ?_) (fun h2 => ?_) <;> conv => cbv
      · have cb := inB_spec h2
        refine r_callF (fun l => PV.isl _ (rows _ l)) m.sX (apMissing_ok l set craft (by first | rfl | assumption | omega | (simp only [List.length_append, List.length_cons, List.length_nil] at *; omega)) (by first | rfl | assumption | omega | (simp only [List.length_append, List.length_cons, List.length_nil] at *; omega))) fun v1 hv1 => ?_
        conv => cbv
        exact hQ (.tup [.isl 1 (rows cInt v1), .bool true]) (Eq.trans (by first | rfl | (simp only [lb, lbI, rows_cons, rows_nil, unnilT, unnil, unnilTI, unnilI]; done) | (simp only [lb, lbI, rows_cons, rows_nil, unnilT, unnil, unnilTI, unnilI]; rfl)) (congrArg ((lbI 1 cInt)) (show (v1, true) = missAns l set craft from by first | (rw [missAns, h1, show (l.length : Int) - 1 = r1 by omega, h2, hv1]; rfl) | (rw [missAns, h1, show (l.length : Int) - 1 = r1 by omega, h2]; rfl) | (rw [missAns, h1]; rfl))))   -- leaf 1
      · exact hQ (.tup [.nil, .bool false]) (Eq.trans (by first | rfl | (simp only [lb, lbI, rows_cons, rows_nil, unnilT, unnil, unnilTI, unnilI]; done) | (simp only [lb, lbI, rows_cons, rows_nil, unnilT, unnil, unnilTI, unnilI]; rfl)) (congrArg ((lbI 1 cInt)) (show ([], false) = missAns l set craft from by first | (rw [missAns, h1, show (l.length : Int) - 1 = r1 by omega, h2, hv1]; rfl) | (rw [missAns, h1, show (l.length : Int) - 1 = r1 by omega, h2]; rfl) | (rw [missAns, h1]; rfl))))   -- leaf 2
    · exact hQ (.tup [.nil, .bool false]) (Eq.trans (by first | rfl | (simp only [lb, lbI, rows_cons, rows_nil, unnilT, unnil, unnilTI, unnilI]; done) | (simp only [lb, lbI, rows_cons, rows_nil, unnilT, unnil, unnilTI, unnilI]; rfl)) (congrArg ((lbI 1 cInt)) (show ([], false) = missAns l set craft from by first | (rw [missAns, h1, show (l.length : Int) - 1 = r1 by omega, h2, hv1]; rfl) | (rw [missAns, h1, show (l.length : Int) - 1 = r1 by omega, h2]; rfl) | (rw [missAns, h1]; rfl)))))   -- leaf 3

theorem MissingCrafts_ok (l : List Craft) (set : List Int) (craft : Int)  : OkA Try.prog 25 [.isl 2 (rows cCraft l), .isl 1 (rows cInt set), .int .i64 craft] (· = (lb 3 1 cInt) (missAns l set craft)) :=
  OkA.unnil 3 1 (fn_intro envOk fieldsOk mixed Try.func25 rfl fun κ X Y L Q m hQ => by
    conv => cbv
    refine r_callB m.sX (isApprentice_ok l set) (fun h1 => ?_) (fun h1 => ?_) <;> conv => cbv
    · refine r_callB m.sX (isCraft_ok l craft) (fun h2 => ?_) (fun h2 => ?_) <;> conv => cbv
      · have cb := inB_spec h2
        refine r_callF (fun l => PV.fr _ _ (rows _ l)) m.sX (missing_ok l set craft (by first | rfl | assumption | omega | (simp only [List.length_append, List.length_cons, List.length_nil] at *; omega)) (by first | rfl | assumption | omega | (simp only [List.length_append, List.length_cons, List.length_nil] at *; omega))) fun v1 hv1 => ?_
        conv => cbv
        exact hQ (.tup [.fr 3 1 (rows cInt v1), .bool true]) (Eq.trans (by first | rfl | (simp only [lb, lbI, rows_cons, rows_nil, unnilT, unnil, unnilTI, unnilI]; done) | (simp only [lb, lbI, rows_cons, rows_nil, unnilT, unnil, unnilTI, unnilI]; rfl)) (congrArg ((lb 3 1 cInt)) (show (v1, true) = missAns l set craft from by first | (rw [missAns, h1, h2, hv1]; rfl) | (rw [missAns, h1, h2]; rfl) | (rw [missAns, h1]; rfl))))   -- leaf 1
      · exact hQ (.tup [.fr 3 1 [], .bool false]) (Eq.trans (by first | rfl | (simp only [lb, lbI, rows_cons, rows_nil, unnilT, unnil, unnilTI, unnilI]; done) | (simp only [lb, lbI, rows_cons, rows_nil, unnilT, unnil, unnilTI, unnilI]; rfl)) (congrArg ((lb 3 1 cInt)) (show ([], false) = missAns l set craft from by first | (rw [missAns, h1, h2, hv1]; rfl) | (rw [missAns, h1, h2]; rfl) | (rw [missAns, h1]; rfl))))   -- leaf 2
    · exact hQ (.tup [.fr 3 1 [], .bool false]) (Eq.trans (by first | rfl | (simp only [lb, lbI, rows_cons, rows_nil, unnilT, unnil, unnilTI, unnilI]; done) | (simp only [lb, lbI, rows_cons, rows_nil, unnilT, unnil, unnilTI, unnilI]; rfl)) (congrArg ((lb 3 1 cInt)) (show ([], false) = missAns l set craft from by first | (rw [missAns, h1, h2, hv1]; rfl) | (rw [missAns, h1, h2]; rfl) | (rw [missAns, h1]; rfl)))))   -- leaf 3

theorem sumMo_take {l : List Craft} {zs : List Int} {k : Nat} {z : Int} (h : zs[k]? = some z) : sumMo l (zs.take (k + 1)) = sumMo l (zs.take k) + monthsAt l z := by
  unfold sumMo
  rw [List.take_add_one, h, List.map_append, List.sum_append]
  simp
theorem missAns_facts {l : List Craft} {set : List Int} {craft : Int} {list : List Int} {ok : Bool} (h : (list, ok) = missAns l set craft) :
    list.length ≤ 10 ∧ (∀ z ∈ list, 0 ≤ z ∧ z < l.length) ∧ (∀ z ∈ list, ∀ c, l[z.toNat]? = some c → 1 ≤ c.2 ∧ c.2 ≤ 60) ∧ monthAns l set craft = (sumMo l list, ok) := by
  have hl := missAns_len l set craft
  rw [← h] at hl
  refine ⟨hl, ?_⟩
  unfold missAns at h
  split at h
  · rename_i hc
    obtain ⟨rfl, rfl⟩ := Prod.mk.inj h
    have hc' := hc
    simp only [Bool.and_eq_true] at hc
    have cb := inB_spec hc.2
    exact ⟨missF_in cb.1 (by omega), fun z _ c hz => months_in hc.1 hz, by rw [monthAns, if_pos hc']⟩
  · rename_i hc
    obtain ⟨rfl, rfl⟩ := Prod.mk.inj h
    exact ⟨fun z hz => by (cases hz), fun z hz => by (cases hz), by rw [monthAns, if_neg hc]; rfl⟩
theorem specMonthsTo_ok (l : List Craft) (set : List Int) (craft : Int)  : OkA Try.prog 22 [.isl 2 (rows cCraft l), .isl 1 (rows cInt set), .int .i64 craft] (· = ib (monthAns l set craft)) :=
  fn_intro envOk fieldsOk mixed Try.func22 rfl fun κ X Y L Q m hQ => by
    conv => cbv
    refine r_callB m.sX (apAsked_ok l set) (fun h1 => ?_) (fun h1 => ?_) <;> conv => cbv
    · refine r_lenR m.sX fun n1 hn1 mn1 => ?_
      conv => cbv
      refine r_subf m.sX (by omega) (by omega) fun r1 hr1 => ?_
      conv => cbv
      refine r_callB m.sX (l1In_ok craft 0 r1) (fun h2 => ?_) (fun h2 => ?_) <;> conv => cbv
      · have cb := inB_spec h2
        refine r_callF (fun l => PV.isl _ (rows _ l)) m.sX (apMissing_ok l set craft (by first | rfl | assumption | omega | (simp only [List.length_append, List.length_cons, List.length_nil] at *; omega)) (by first | rfl | assumption | omega | (simp only [List.length_append, List.length_cons, List.length_nil] at *; omega))) fun v1 hv1 => ?_
        conv => cbv
        have vin : ∀ z ∈ v1, 0 ≤ z ∧ z < l.length := (by rw [hv1]; exact missF_in cb.1 (by omega))
        have al := asked_le h1
        have vl : v1.length ≤ 10 := (by have e := missF_len (l := l) (set := set) (craft := craft); rw [hv1]; omega)
        refine r_lenR m.sX fun n2 hn2 mn2 => ?_
        conv => cbv
        refine r_loopF (α := Int × Int) m 41 [0, 8, 26, 27, 28] [] (fun σ => [(0, .isl 2 (rows cCraft l)), (8, .int .i64 σ.1), (26, .isl 1 (rows cInt v1)), (27, .int .i64 n2), (28, .int .i64 σ.2)]) (fun σ => [])
          (fun σ => (0 ≤ σ.2) ∧ (σ.2 ≤ n2) ∧ (σ.1 = sumMo l (v1.take σ.2.toNat)) ∧ (0 ≤ σ.1 ∧ σ.1 ≤ 60 * σ.2)) (fun σ => (n2 - σ.2).toNat) (0, 0) ?_ ?_ ?_ ?_
        · cbv
        · cbv
        · exact ⟨(by (try dsimp only); first | omega | (simp only [List.length_nil]; omega)), (by (try dsimp only); first | omega | (simp only [List.length_nil]; omega)), (by (try dsimp only) <;> (rfl)), (by (try dsimp only) <;> first | omega | rfl | (simp [*]; done))⟩
        rintro ⟨sum, i1⟩ ⟨lo1, hi1, q, sb⟩ E hE F hF
        dsimp only at lo1 hi1 q sb
        conv => cbv
        refine r_lss m.sX (fun h3 => ?_) (fun h3 => ?_) <;> conv => cbv
        · refine r_index m.sX (by omega) (by omega) fun i hi => ?_
          conv => cbv
          have mi := get_mem hi
          have di := drop_cons hi
          have ki := take_snoc hi
          have ji : (i1 + 1).toNat = Int.toNat i1 + 1 := by omega
          have vi := nth_some hi
          have iv := vin i mi
          refine r_index m.sX (by omega) (by omega) fun v hx1A => ?_
          obtain ⟨x1A, x1B⟩ := v
          conv => cbv
          have hx1 := hx1A
          have mx1 := get_mem hx1
          have gm := months_in h1 hx1
          try dsimp only at gm
          have m1 := monthsAt_some hx1
          try dsimp only at m1
          refine r_addf m.sX (by omega) (by omega) fun sum_2 hsum_2 => ?_
          conv => cbv
          refine r_addf m.sX (by omega) (by omega) fun r2 hr2 => ?_
          conv => cbv
          try have tr2 : Int.toNat r2 = Int.toNat i1 + 1 := by omega
          refine hE _ (sum_2, r2) ?_ ?_ ⟨(by (try dsimp only); first | omega | (simp only [List.length_nil]; omega)), (by (try dsimp only); first | omega | (simp only [List.length_nil]; omega)), (by (try dsimp only) <;> (rw [hsum_2, q, tr2, sumMo_take hi, m1])), (by (try dsimp only) <;> (omega))⟩ (by first | omega | (dsimp only; omega))
          · cbv
          · cbv
        · have dz_i1 := drop_end (xs := v1) (i := Int.toNat i1) (by omega)
          have tz_i1 := take_end (xs := v1) (i := Int.toNat i1) (by omega)
          refine hF _ _ ?_
          conv => cbv
          exact hQ (.tup [.int .i64 sum, .bool true]) (Eq.trans (by first | rfl | (simp only [lb, lbI, rows_cons, rows_nil, unnilT, unnil, unnilTI, unnilI]; done) | (simp only [lb, lbI, rows_cons, rows_nil, unnilT, unnil, unnilTI, unnilI]; rfl)) (congrArg (ib) (show (sum, true) = monthAns l set craft from by first | (rw [monthAns, h1, show (l.length : Int) - 1 = r1 by omega, h2, q, tz_i1, hv1]; rfl) | (rw [monthAns, h1, show (l.length : Int) - 1 = r1 by omega, h2]; rfl) | (rw [monthAns, h1]; rfl))))   -- leaf 1
      · exact hQ (.tup [.int .i64 0, .bool false]) (Eq.trans (by first | rfl | (simp only [lb, lbI, rows_cons, rows_nil, unnilT, unnil, unnilTI, unnilI]; done) | (simp only [lb, lbI, rows_cons, rows_nil, unnilT, unnil, unnilTI, unnilI]; rfl)) (congrArg (ib) (show (0, false) = monthAns l set craft from by first | (rw [monthAns, h1, show (l.length : Int) - 1 = r1 by omega, h2, q, tz_i1, hv1]; rfl) | (rw [monthAns, h1, show (l.length : Int) - 1 = r1 by omega, h2]; rfl) | (rw [monthAns, h1]; rfl))))   -- leaf 2
    · exact hQ (.tup [.int .i64 0, .bool false]) (Eq.trans (by first | rfl | (simp only [lb, lbI, rows_cons, rows_nil, unnilT, unnil, unnilTI, unnilI]; done) | (simp only [lb, lbI, rows_cons, rows_nil, unnilT, unnil, unnilTI, unnilI]; rfl)) (congrArg (ib) (show (0, false) = monthAns l set craft from by first | (rw [monthAns, h1, show (l.length : Int) - 1 = r1 by omega, h2, q, tz_i1, hv1]; rfl) | (rw [monthAns, h1, show (l.length : Int) - 1 = r1 by omega, h2]; rfl) | (rw [monthAns, h1]; rfl))))   -- leaf 3

theorem MonthsTo_ok (l : List Craft) (set : List Int) (craft : Int)  : OkA Try.prog 23 [.isl 2 (rows cCraft l), .isl 1 (rows cInt set), .int .i64 craft] (· = ib (monthAns l set craft)) :=
  fn_intro envOk fieldsOk mixed Try.func23 rfl fun κ X Y L Q m hQ => by
    conv => cbv
    refine r_callF (lb 3 1 cInt) m.sX (MissingCrafts_ok l set craft) fun v hlist => ?_
    obtain ⟨list, ok⟩ := v
    conv => cbv
    obtain ⟨vl, vin, vm, va⟩ := missAns_facts hlist
    refine r_lenR m.sX fun n1 hn1 mn1 => ?_
    conv => cbv
    refine r_loopF (α := Int × Int) m 36 [0, 9, 10, 21, 22] [⟨20, 161, 3, 1, 0⟩] (fun σ => [(0, .isl 2 (rows cCraft l)), (9, .bool ok), (10, .int .i64 σ.1), (20, .osl 161 0), (21, .int .i64 n1), (22, .int .i64 σ.2)]) (fun σ => [(161, 0, .row 3 1 (rows cInt list))])
      (fun σ => (0 ≤ σ.2) ∧ (σ.2 ≤ n1) ∧ (σ.1 = sumMo l (list.take σ.2.toNat)) ∧ (0 ≤ σ.1 ∧ σ.1 ≤ 60 * σ.2)) (fun σ => (n1 - σ.2).toNat) (0, 0) ?_ ?_ ?_ ?_
    · cbv
    · cbv
    · exact ⟨(by (try dsimp only); first | omega | (simp only [List.length_nil]; omega)), (by (try dsimp only); first | omega | (simp only [List.length_nil]; omega)), (by (try dsimp only) <;> (rfl)), (by (try dsimp only) <;> first | omega | rfl | (simp [*]; done))⟩
    rintro ⟨months, i1⟩ ⟨lo1, hi1, q, sb⟩ E hE F hF
    dsimp only at lo1 hi1 q sb
    conv => cbv
    refine r_lss m.sX (fun h1 => ?_) (fun h1 => ?_) <;> conv => cbv
    · refine r_oindex m.sX (by omega) (by omega) ?_
      conv => cbv
      obtain ⟨i, hi⟩ := get_ex (xs := list) (i := Int.toNat i1) (by omega)
      have mi := get_mem hi
      have di := drop_cons hi
      have ki := take_snoc hi
      have ji : (i1 + 1).toNat = Int.toNat i1 + 1 := by omega
      have vi := nth_some hi
      have iv := vin i mi
      refine r_oload m.sX hi (Nat.le_of_ble_eq_true rfl) ?_
      conv => cbv
      refine r_index m.sX (by omega) (by omega) fun v hx1A => ?_
      obtain ⟨x1A, x1B⟩ := v
      conv => cbv
      have hx1 := hx1A
      have mx1 := get_mem hx1
      have gm := vm i mi (x1A, x1B) hx1
      try dsimp only at gm
      have m1 := monthsAt_some hx1
      try dsimp only at m1
      refine r_addf m.sX (by omega) (by omega) fun months_2 hmonths_2 => ?_
      conv => cbv
      refine r_addf m.sX (by omega) (by omega) fun r1 hr1 => ?_
      conv => cbv
      try have tr1 : Int.toNat r1 = Int.toNat i1 + 1 := by omega
      refine hE _ (months_2, r1) ?_ ?_ ⟨(by (try dsimp only); first | omega | (simp only [List.length_nil]; omega)), (by (try dsimp only); first | omega | (simp only [List.length_nil]; omega)), (by (try dsimp only) <;> (rw [hmonths_2, q, tr1, sumMo_take hi, m1])), (by (try dsimp only) <;> (omega))⟩ (by first | omega | (dsimp only; omega))
      · cbv
      · cbv
    · have dz_i1 := drop_end (xs := list) (i := Int.toNat i1) (by omega)
      have tz_i1 := take_end (xs := list) (i := Int.toNat i1) (by omega)
      refine hF _ _ ?_
      conv => cbv
      exact hQ (.tup [.int .i64 months, .bool ok]) (Eq.trans (by first | rfl | (simp only [lb, lbI, rows_cons, rows_nil, unnilT, unnil, unnilTI, unnilI]; done) | (simp only [lb, lbI, rows_cons, rows_nil, unnilT, unnil, unnilTI, unnilI]; rfl)) (congrArg (ib) (show (months, ok) = monthAns l set craft from by rw [va, q, tz_i1])))   -- leaf 1

end Go.Proofs.Ytnamefdhmlbcpaa.Ai
