/- Contracts of the tariff functions. -/
import Derived.Test.YtkdaikliahnenabCraft
namespace Go.Proofs.Ytkdaikliahnenab.Ai
open Go Go.Proofs
set_option maxRecDepth 10000
set_option maxHeartbeats 4000000
set_option linter.unusedVariables false

/-- Rounded up. -/
def upF (n d : Int) : Int := (n + d - 1) / d

theorem upF_bound {n d : Int} (h0 : 0 ≤ n) (h1 : 0 < d) : 0 ≤ upF n d ∧ upF n d ≤ n + d - 1 := ⟨Int.ediv_nonneg (by omega) (by omega), Int.ediv_le_self _ (by omega)⟩

theorem l1Most_ok (a b : Int) : OkA Try.prog 118 [.int .i64 a, .int .i64 b] (· = .int .i64 (max a b)) :=
  fn_intro envOk fieldsOk mixed Try.func118 rfl fun κ X Y L Q m hQ => by
    conv => cbv
    refine r_gtr m.sX (fun h => ?_) (fun h => ?_) <;> conv => cbv
    · exact hQ _ (congrArg (PV.int .i64) (by omega))
    · exact hQ _ (congrArg (PV.int .i64) (by omega))

def allIn (xs : List Int) (lo hi : Int) : Bool := xs.all fun x => inB x lo hi
theorem allIn_cons (x : Int) (r : List Int) (lo hi : Int) : allIn (x :: r) lo hi = (inB x lo hi && allIn r lo hi) := rfl

theorem l1All_ok (xs : List Int) (lo hi : Int) : OkA Try.prog 124 [.isl 1 (rows cInt xs), .int .i64 lo, .int .i64 hi] (· = .bool (allIn xs lo hi)) :=
  fn_intro envOk fieldsOk mixed Try.func124 rfl fun κ X Y L Q m hQ => by
    conv => cbv
    refine r_lenR m.sX fun k hk mk => ?_
    conv => cbv
    refine r_loop (α := Int) m 21 [1, 2, 9, 10, 11] [] (fun a => [(1, .int .i64 lo), (2, .int .i64 hi), (9, .isl 1 (rows cInt xs)), (10, .int .i64 k), (11, .int .i64 a)]) (fun a => [])
      (fun a => 0 ≤ a ∧ a ≤ xs.length ∧ allIn xs lo hi = allIn (xs.drop a.toNat) lo hi) (fun a => xs.length - a.toNat) 0 ?_ ?_ ?_ ?_
    · cbv
    · cbv
    · exact ⟨by omega, by omega, rfl⟩
    rintro i ⟨h1, h2, h3⟩ E hE
    conv => cbv
    refine r_lss m.sX (fun h4 => ?_) (fun h4 => ?_) <;> conv => cbv
    · refine r_index m.sX (by omega) (by omega) fun x hx => ?_
      conv => cbv
      rw [drop_cons hx, allIn_cons] at h3
      refine r_callB m.sX (l1In_ok x lo hi) (fun h5 => ?_) (fun h5 => ?_) <;> conv => cbv
      · refine r_addf m.sX (by omega) (by omega) fun j hj => ?_
        conv => cbv
        refine hE _ j ?_ ?_ ⟨by omega, by omega, by rw [h3, show j.toNat = i.toNat + 1 by omega, h5]; rfl⟩ (by first | omega | (dsimp only; omega))
        · cbv
        · cbv
      · exact hQ _ (congrArg PV.bool (by rw [h3, h5]; rfl))
    · exact hQ _ (congrArg PV.bool (by rw [h3, show i.toNat = xs.length by omega, List.drop_length]; rfl))

abbrev Tariff := Int × Int × Int × Int
def cTariff (t : Tariff) : List PV := [.int .i64 t.1, .int .i64 t.2.1, .int .i64 t.2.2.1, .int .i64 t.2.2.2]
def goodT (t : Tariff) : Bool := allIn [t.1, t.2.1, t.2.2.1, t.2.2.2] 0 100000

theorem goodT_spec {a b c d : Int} (h : goodT (a, b, c, d) = true) : (0 ≤ a ∧ a ≤ 100000) ∧ (0 ≤ b ∧ b ≤ 100000) ∧ (0 ≤ c ∧ c ≤ 100000) ∧ (0 ≤ d ∧ d ≤ 100000) := by
  simp only [goodT, allIn, List.all_cons, List.all_nil, Bool.and_true, Bool.and_eq_true] at h
  exact ⟨inB_spec h.1, inB_spec h.2.1, inB_spec h.2.2.1, inB_spec h.2.2.2⟩

def settingF (th ens : Int) : Int := upF (ens * th) 1000
def minutesF (hr mi : Int) : Int := upF (upF mi 15 * hr) 4
def priceF (t : Tariff) (ens pg mi : Int) : Int := max t.2.2.2 (settingF t.1 ens + pg * t.2.1 + minutesF t.2.2.1 mi)

theorem price_bounds {a b c d ens pg mi : Int} (ht : goodT (a, b, c, d) = true) (h1 : 0 ≤ ens ∧ ens ≤ 3000000) (h2 : 0 ≤ pg ∧ pg ≤ 10000) (h3 : 0 ≤ mi ∧ mi ≤ 10000) :
    (0 ≤ settingF a ens ∧ settingF a ens ≤ 300000001000) ∧ (0 ≤ pg * b ∧ pg * b ≤ 1000000000) ∧ (0 ≤ minutesF c mi ∧ minutesF c mi ≤ 3000000000) ∧ 0 ≤ priceF (a, b, c, d) ens pg mi ∧ priceF (a, b, c, d) ens pg mi ≤ 400000000000 := by
  obtain ⟨ha, hb, hc, hd⟩ := goodT_spec ht
  have e1 := mul_bound h1.1 h1.2 ha.1 ha.2
  have e2 := mul_bound h2.1 h2.2 hb.1 hb.2
  have e3 := upF_bound (d := 15) h3.1 (by omega)
  have e4 := mul_bound (A := 20000) e3.1 (by omega) hc.1 hc.2
  have e5 := upF_bound (d := 1000) e1.1 (by omega)
  have e6 := upF_bound (d := 4) e4.1 (by omega)
  have e7 : settingF a ens = upF (ens * a) 1000 := rfl
  have e8 : minutesF c mi = upF (upF mi 15 * c) 4 := rfl
  have e9 : priceF (a, b, c, d) ens pg mi = max d (settingF a ens + pg * b + minutesF c mi) := rfl
  omega

end Go.Proofs.Ytkdaikliahnenab.Ai
