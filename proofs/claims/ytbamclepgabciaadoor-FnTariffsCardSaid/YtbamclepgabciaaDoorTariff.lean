/- Contracts of the tariff functions. -/
import Derived.Test.YtbamclepgabciaaDoorCraft
namespace Go.Proofs.YtbamclepgabciaaDoor.Ai
open Go Go.Proofs
set_option linter.unusedSimpArgs false
set_option maxRecDepth 10000
set_option maxHeartbeats 4000000
set_option linter.unusedVariables false

/-- Rounded up. -/
def upF (n d : Int) : Int := (n + d - 1) / d

theorem upF_bound {n d : Int} (h0 : 0 ≤ n) (h1 : 0 < d) : 0 ≤ upF n d ∧ upF n d ≤ n + d - 1 := ⟨Int.ediv_nonneg (by omega) (by omega), Int.ediv_le_self _ (by omega)⟩

theorem up_ok (n d : Int) (h0 : 0 ≤ n) (h1 : 0 < d) (h2 : n + d ≤ 9223372036854775807) : OkA Tryd.prog 116 [.int .i64 n, .int .i64 d] (· = .int .i64 (upF n d)) :=
  fn_intro envOk fieldsOk mixed Tryd.func116 rfl fun κ X Y L Q m hQ => by
    conv => cbv
    refine r_addf m.sX (by omega) (by omega) fun s hs => ?_
    conv => cbv
    refine r_subf m.sX (by omega) (by omega) fun t ht => ?_
    conv => cbv
    first | refine r_divf m.sX (by omega) (by omega) fun q hq bq => ?_ | refine r_tdivf m.sX (by omega) (by omega) fun q hq bq => ?_
    conv => cbv
    exact hQ _ (congrArg (PV.int .i64) (by rw [hq, upF, ht, hs]))

theorem esUp_ok (n d : Int) (h0 : 0 ≤ n) (h1 : 0 < d) (h2 : n + d ≤ 9223372036854775807) : OkA Tryd.prog 117 [.int .i64 n, .int .i64 d] (· = .int .i64 (upF n d)) :=
  fn_intro envOk fieldsOk mixed Tryd.func117 rfl fun κ X Y L Q m hQ => by
    conv => cbv
    refine r_addf m.sX (by omega) (by omega) fun s hs => ?_
    conv => cbv
    refine r_subf m.sX (by omega) (by omega) fun t ht => ?_
    conv => cbv
    first | refine r_divf m.sX (by omega) (by omega) fun q hq bq => ?_ | refine r_tdivf m.sX (by omega) (by omega) fun q hq bq => ?_
    conv => cbv
    exact hQ _ (congrArg (PV.int .i64) (by rw [hq, upF, ht, hs]))

theorem tMost_ok (a b : Int) : OkA Tryd.prog 123 [.int .i64 a, .int .i64 b] (· = .int .i64 (max a b)) :=
  fn_intro envOk fieldsOk mixed Tryd.func123 rfl fun κ X Y L Q m hQ => by
    conv => cbv
    refine r_gtr m.sX (fun h => ?_) (fun h => ?_) <;> conv => cbv
    · exact hQ _ (congrArg (PV.int .i64) (by omega))
    · exact hQ _ (congrArg (PV.int .i64) (by omega))

def allIn (xs : List Int) (lo hi : Int) : Bool := xs.all fun x => inB x lo hi
theorem allIn_cons (x : Int) (r : List Int) (lo hi : Int) : allIn (x :: r) lo hi = (inB x lo hi && allIn r lo hi) := rfl

theorem tAll_ok (xs : List Int) (lo hi : Int) : OkA Tryd.prog 112 [.isl 1 (rows cInt xs), .int .i64 lo, .int .i64 hi] (· = .bool (allIn xs lo hi)) :=
  fn_intro envOk fieldsOk mixed Tryd.func112 rfl fun κ X Y L Q m hQ => by
    conv => cbv
    refine r_lenR m.sX fun k hk mk => ?_
    conv => cbv
    refine r_loop (α := Int) m 21 [1, 2, 9, 10, 11] [] (fun a => [(1, .int .i64 lo), (2, .int .i64 hi), (9, .isl 1 (rows cInt xs)), (10, .int .i64 k), (11, .int .i64 a)]) (fun a => [])
      (fun a => 0 ≤ a ∧ a ≤ xs.length ∧ allIn xs lo hi = allIn (xs.drop a.toNat) lo hi) (fun a => xs.length - a.toNat) 0 ?_ ?_ ?_ ?_
    · cbv
    · cbv
    · exact ⟨by omega, by omega, rfl⟩
    rintro i ⟨h1, h2, h3⟩ E hE
    conv => cbv
    refine r_lss m.sX (fun h4 => ?_) (fun h4 => ?_) <;> conv => cbv
    · refine r_index m.sX (by omega) (by omega) fun x hx => ?_
      conv => cbv
      rw [drop_cons hx, allIn_cons] at h3
      refine r_callB m.sX (l1In_ok x lo hi) (fun h5 => ?_) (fun h5 => ?_) <;> conv => cbv
      · refine r_addf m.sX (by omega) (by omega) fun j hj => ?_
        conv => cbv
        refine hE _ j ?_ ?_ ⟨by omega, by omega, by rw [h3, show j.toNat = i.toNat + 1 by omega, h5]; rfl⟩ (by first | omega | (dsimp only; omega))
        · cbv
        · cbv
      · exact hQ _ (congrArg PV.bool (by rw [h3, h5]; rfl))
    · exact hQ _ (congrArg PV.bool (by rw [h3, show i.toNat = xs.length by omega, List.drop_length]; rfl))

theorem isPence_ok (n : Int) : OkA Tryd.prog 118 [.int .i64 n] (· = .bool (inB n 0 100000)) :=
  fn_intro envOk fieldsOk mixed Tryd.func118 rfl fun κ X Y L Q m hQ => by
    conv => cbv
    refine r_callF PV.bool m.sX (within_ok n 0 100000) fun b hb => ?_
    conv => cbv
    exact hQ _ (congrArg PV.bool hb)

theorem isEns_ok (n : Int) : OkA Tryd.prog 103 [.int .i64 n] (· = .bool (inB n 0 3000000)) :=
  fn_intro envOk fieldsOk mixed Tryd.func103 rfl fun κ X Y L Q m hQ => by
    conv => cbv
    refine r_callF PV.bool m.sX (within_ok n 0 3000000) fun b hb => ?_
    conv => cbv
    exact hQ _ (congrArg PV.bool hb)

theorem isJobSize_ok (n : Int) : OkA Tryd.prog 104 [.int .i64 n] (· = .bool (inB n 0 10000)) :=
  fn_intro envOk fieldsOk mixed Tryd.func104 rfl fun κ X Y L Q m hQ => by
    conv => cbv
    refine r_callF PV.bool m.sX (within_ok n 0 10000) fun b hb => ?_
    conv => cbv
    exact hQ _ (congrArg PV.bool hb)

theorem esEns_ok (n : Int) : OkA Tryd.prog 147 [.int .i64 n] (· = .bool (inB n 0 3000000)) :=
  fn_intro envOk fieldsOk mixed Tryd.func147 rfl fun κ X Y L Q m hQ => by
    conv => cbv
    refine r_callF PV.bool m.sX (l1In_ok n 0 3000000) fun b hb => ?_
    conv => cbv
    exact hQ _ (congrArg PV.bool hb)

abbrev Tariff := Int × Int × Int × Int
def cTariff (t : Tariff) : List PV := [.int .i64 t.1, .int .i64 t.2.1, .int .i64 t.2.2.1, .int .i64 t.2.2.2]
def goodT (t : Tariff) : Bool := allIn [t.1, t.2.1, t.2.2.1, t.2.2.2] 0 100000

theorem goodT_spec {a b c d : Int} (h : goodT (a, b, c, d) = true) : (0 ≤ a ∧ a ≤ 100000) ∧ (0 ≤ b ∧ b ≤ 100000) ∧ (0 ≤ c ∧ c ≤ 100000) ∧ (0 ≤ d ∧ d ≤ 100000) := by
  simp only [goodT, allIn, List.all_cons, List.all_nil, Bool.and_true, Bool.and_eq_true] at h
  exact ⟨inB_spec h.1, inB_spec h.2.1, inB_spec h.2.2.1, inB_spec h.2.2.2⟩

theorem IsTariff_ok (a b c d : Int) : OkA Tryd.prog 54 [.agg (cTariff (a, b, c, d))] (· = .bool (goodT (a, b, c, d))) :=
  fn_intro envOk fieldsOk mixed Tryd.func54 rfl fun κ X Y L Q m hQ => by
    have e : goodT (a, b, c, d) = (inB a 0 100000 && (inB b 0 100000 && (inB c 0 100000 && (inB d 0 100000 && true)))) := rfl
    conv => cbv
    refine r_callB m.sX (isPence_ok a) (fun h1 => ?_) (fun h1 => ?_) <;> conv => cbv
    · refine r_callB m.sX (isPence_ok b) (fun h2 => ?_) (fun h2 => ?_) <;> conv => cbv
      · refine r_callB m.sX (isPence_ok c) (fun h3 => ?_) (fun h3 => ?_) <;> conv => cbv
        · refine r_callF PV.bool m.sX (isPence_ok d) fun r hr => ?_
          conv => cbv
          exact hQ _ (congrArg PV.bool (by rw [e, h1, h2, h3, hr]; simp))
        · exact hQ _ (congrArg PV.bool (by rw [e, h1, h2, h3]; rfl))
      · exact hQ _ (congrArg PV.bool (by rw [e, h1, h2]; rfl))
    · exact hQ _ (congrArg PV.bool (by rw [e, h1]; rfl))

theorem esTariff_ok (a b c d : Int) : OkA Tryd.prog 108 [.agg (cTariff (a, b, c, d))] (· = .bool (goodT (a, b, c, d))) :=
  fn_intro envOk fieldsOk mixed Tryd.func108 rfl fun κ X Y L Q m hQ => by
    conv => cbv
    have hc := tAll_ok [a, b, c, d] 0 100000
    rw [rows_eq] at hc
    refine .inl (r_callFO PV.bool m.sX (hc.ok (fun r h => (by subst h; trivial))) fun r hr => ?_)
    conv => cbv
    exact hQ _ (congrArg PV.bool (hr))

def settingF (th ens : Int) : Int := upF (ens * th) 1000
def minutesF (hr mi : Int) : Int := upF (upF mi 15 * hr) 4
def priceF (t : Tariff) (ens pg mi : Int) : Int := max t.2.2.2 (settingF t.1 ens + pg * t.2.1 + minutesF t.2.2.1 mi)

theorem settingPrice_ok (a b c d ens : Int) (ha : 0 ≤ a ∧ a ≤ 100000) (he : 0 ≤ ens ∧ ens ≤ 3000000) : OkA Tryd.prog 146 [.agg (cTariff (a, b, c, d)), .int .i64 ens] (· = .int .i64 (settingF a ens)) :=
  fn_intro envOk fieldsOk mixed Tryd.func146 rfl fun κ X Y L Q m hQ => by
    have hb := mul_bound he.1 he.2 ha.1 ha.2
    conv => cbv
    refine r_mulf m.sX (by first | omega | (subst_vars; omega)) (by first | omega | (subst_vars; omega)) fun p hp => ?_
    conv => cbv
    refine r_callF (PV.int .i64) m.sX (up_ok p 1000 (by omega) (by omega) (by omega)) fun r hr => ?_
    conv => cbv
    exact hQ _ (congrArg (PV.int .i64) (by rw [hr, hp]; rfl))

theorem esSetting_ok (a b c d ens : Int) (ha : 0 ≤ a ∧ a ≤ 100000) (he : 0 ≤ ens ∧ ens ≤ 3000000) : OkA Tryd.prog 148 [.agg (cTariff (a, b, c, d)), .int .i64 ens] (· = .int .i64 (settingF a ens)) :=
  fn_intro envOk fieldsOk mixed Tryd.func148 rfl fun κ X Y L Q m hQ => by
    have hb := mul_bound ha.1 ha.2 he.1 he.2
    conv => cbv
    refine r_mulf m.sX (by first | omega | (subst_vars; omega)) (by first | omega | (subst_vars; omega)) fun p hp => ?_
    conv => cbv
    refine r_callF (PV.int .i64) m.sX (esUp_ok p 1000 (by omega) (by omega) (by omega)) fun r hr => ?_
    conv => cbv
    exact hQ _ (congrArg (PV.int .i64) (by rw [hr, hp, Int.mul_comm]; rfl))

theorem correctionPrice_ok (a b c d mi : Int) (ha : 0 ≤ c ∧ c ≤ 100000) (he : 0 ≤ mi ∧ mi ≤ 30000) : OkA Tryd.prog 110 [.agg (cTariff (a, b, c, d)), .int .i64 mi] (· = .int .i64 (minutesF c mi)) :=
  fn_intro envOk fieldsOk mixed Tryd.func110 rfl fun κ X Y L Q m hQ => by
    have hu := upF_bound (d := 15) he.1 (by omega)
    have hb := mul_bound (A := 40000) hu.1 (by omega) ha.1 ha.2
    conv => cbv
    refine r_draw m (by kernel_rfl) ?_
    conv => cbv
    refine r_callFS (PV.int .i64) m.sY (up_ok mi 15 (by omega) (by omega) (by omega)) trivial fun u hu => ?_
    conv => cbv
    rw [← hu] at hb
    refine r_mulf m.sY (by first | omega | (subst_vars; omega)) (by first | omega | (subst_vars; omega)) fun p hp => ?_
    conv => cbv
    refine r_callFS (PV.int .i64) m.sY (up_ok p 4 (by omega) (by omega) (by omega)) trivial fun r hr => ?_
    conv => cbv
    exact hQ _ (congrArg (PV.int .i64) (by rw [hr, hp, hu]; rfl))

theorem esMinutes_ok (a b c d mi : Int) (ha : 0 ≤ c ∧ c ≤ 100000) (he : 0 ≤ mi ∧ mi ≤ 30000) : OkA Tryd.prog 113 [.agg (cTariff (a, b, c, d)), .int .i64 mi] (· = .int .i64 (minutesF c mi)) :=
  fn_intro envOk fieldsOk mixed Tryd.func113 rfl fun κ X Y L Q m hQ => by
    have hu := upF_bound (d := 15) he.1 (by omega)
    have hb := mul_bound (B := 40000) ha.1 ha.2 hu.1 (by omega)
    conv => cbv
    refine r_draw m (by kernel_rfl) ?_
    conv => cbv
    refine r_callFS (PV.int .i64) m.sY (esUp_ok mi 15 (by omega) (by omega) (by omega)) trivial fun u hu => ?_
    conv => cbv
    rw [← hu] at hb
    refine r_mulf m.sY (by first | omega | (subst_vars; omega)) (by first | omega | (subst_vars; omega)) fun p hp => ?_
    conv => cbv
    refine r_callFS (PV.int .i64) m.sY (esUp_ok p 4 (by omega) (by omega) (by omega)) trivial fun r hr => ?_
    conv => cbv
    exact hQ _ (congrArg (PV.int .i64) (by rw [hr, hp, hu, Int.mul_comm]; rfl))

theorem price_bounds {a b c d ens pg mi : Int} (ht : goodT (a, b, c, d) = true) (h1 : 0 ≤ ens ∧ ens ≤ 3000000) (h2 : 0 ≤ pg ∧ pg ≤ 10000) (h3 : 0 ≤ mi ∧ mi ≤ 10000) :
    (0 ≤ settingF a ens ∧ settingF a ens ≤ 300000001000) ∧ (0 ≤ pg * b ∧ pg * b ≤ 1000000000) ∧ (0 ≤ minutesF c mi ∧ minutesF c mi ≤ 3000000000) ∧ 0 ≤ priceF (a, b, c, d) ens pg mi ∧ priceF (a, b, c, d) ens pg mi ≤ 400000000000 := by
  obtain ⟨ha, hb, hc, hd⟩ := goodT_spec ht
  have e1 := mul_bound h1.1 h1.2 ha.1 ha.2
  have e2 := mul_bound h2.1 h2.2 hb.1 hb.2
  have e3 := upF_bound (d := 15) h3.1 (by omega)
  have e4 := mul_bound (A := 20000) e3.1 (by omega) hc.1 hc.2
  have e5 := upF_bound (d := 1000) e1.1 (by omega)
  have e6 := upF_bound (d := 4) e4.1 (by omega)
  have e7 : settingF a ens = upF (ens * a) 1000 := rfl
  have e8 : minutesF c mi = upF (upF mi 15 * c) 4 := rfl
  have e9 : priceF (a, b, c, d) ens pg mi = max d (settingF a ens + pg * b + minutesF c mi) := rfl
  omega

theorem jobPrice_ok (a b c d ens pg mi : Int) (ht : goodT (a, b, c, d) = true) (h1 : 0 ≤ ens ∧ ens ≤ 3000000) (h2 : 0 ≤ pg ∧ pg ≤ 10000) (h3 : 0 ≤ mi ∧ mi ≤ 10000) :
    OkA Tryd.prog 105 [.agg (cTariff (a, b, c, d)), .int .i64 ens, .int .i64 pg, .int .i64 mi] (· = .int .i64 (priceF (a, b, c, d) ens pg mi)) :=
  fn_intro envOk fieldsOk mixed Tryd.func105 rfl fun κ X Y L Q m hQ => by
    obtain ⟨ha, hb, hc, hd⟩ := goodT_spec ht
    have hB := price_bounds ht h1 h2 h3
    conv => cbv
    refine r_draw m (by kernel_rfl) ?_
    conv => cbv
    refine r_callFS (PV.int .i64) m.sY (settingPrice_ok a b c d ens ha h1) trivial fun s hs => ?_
    conv => cbv
    refine r_mulf m.sY (by first | omega | (subst_vars; omega)) (by first | omega | (subst_vars; omega)) fun p hp => ?_
    conv => cbv
    refine r_addf m.sY (by omega) (by omega) fun t ht => ?_
    conv => cbv
    refine r_callFS (PV.int .i64) m.sY (correctionPrice_ok a b c d mi hc (by omega)) trivial fun u hu => ?_
    conv => cbv
    refine r_addf m.sY (by omega) (by omega) fun v hv => ?_
    conv => cbv
    refine r_max m.sY fun r hr => ?_
    conv => cbv
    exact hQ _ (congrArg (PV.int .i64) (by rw [hr, hv, ht, hp, hs, hu]; rfl))

theorem esPrice_ok (a b c d ens pg mi : Int) (ht : goodT (a, b, c, d) = true) (h1 : 0 ≤ ens ∧ ens ≤ 3000000) (h2 : 0 ≤ pg ∧ pg ≤ 10000) (h3 : 0 ≤ mi ∧ mi ≤ 10000) :
    OkA Tryd.prog 109 [.agg (cTariff (a, b, c, d)), .int .i64 ens, .int .i64 pg, .int .i64 mi] (· = .int .i64 (priceF (a, b, c, d) ens pg mi)) :=
  fn_intro envOk fieldsOk mixed Tryd.func109 rfl fun κ X Y L Q m hQ => by
    obtain ⟨ha, hb, hc, hd⟩ := goodT_spec ht
    have hB := price_bounds ht h1 h2 h3
    rw [Int.mul_comm pg b] at hB
    conv => cbv
    refine r_draw m (by kernel_rfl) ?_
    conv => cbv
    refine r_callFS (PV.int .i64) m.sY (esSetting_ok a b c d ens ha h1) trivial fun s hs => ?_
    conv => cbv
    refine r_mulf m.sY (by first | omega | (subst_vars; omega)) (by first | omega | (subst_vars; omega)) fun p hp => ?_
    conv => cbv
    refine r_addf m.sY (by omega) (by omega) fun t ht => ?_
    conv => cbv
    refine r_callFS (PV.int .i64) m.sY (esMinutes_ok a b c d mi hc (by omega)) trivial fun u hu => ?_
    conv => cbv
    refine r_addf m.sY (by omega) (by omega) fun v hv => ?_
    conv => cbv
    refine r_callFS (PV.int .i64) m.sY (tMost_ok d v) trivial fun r hr => ?_
    conv => cbv
    exact hQ _ (congrArg (PV.int .i64) (by rw [hr, hv, ht, hp, hs, hu, Int.mul_comm]; rfl))
end Go.Proofs.YtbamclepgabciaaDoor.Ai
