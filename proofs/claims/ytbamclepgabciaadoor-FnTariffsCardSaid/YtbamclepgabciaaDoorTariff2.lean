/- Contracts of CheapestTariff and of the laws' helpers for []laws.Tariff. -/
import Derived.Test.YtbamclepgabciaaDoorTariff
namespace Go.Proofs.YtbamclepgabciaaDoor.Ai
open Go Go.Proofs
set_option linter.unusedSimpArgs false
set_option maxRecDepth 10000
set_option maxHeartbeats 4000000
set_option linter.unusedVariables false

section
variable (ens pg mi : Int)
def cheapFrom : Int → Int → Int → List Tariff → Int × Int × Bool
  | _, best, least, [] => (best, least, true)
  | i, best, least, t :: r => if goodT t then (if least < 0 ∨ priceF t ens pg mi < least then cheapFrom (i + 1) i (priceF t ens pg mi) r else cheapFrom (i + 1) best least r) else (0, 0, false)
def jobOk : Bool := inB ens 0 3000000 && inB pg 0 10000 && inB mi 0 10000
def cheapest (xs : List Tariff) : Int × Int × Bool := if inB xs.length 1 10 && jobOk ens pg mi then cheapFrom ens pg mi 0 0 (-1) xs else (0, 0, false)
end

theorem esJob_ok (a b c : Int) : OkA Tryd.prog 107 [.int .i64 a, .int .i64 b, .int .i64 c] (· = .bool (jobOk a b c)) :=
  fn_intro envOk fieldsOk mixed Tryd.func107 rfl fun κ X Y L Q m hQ => by
    conv => cbv
    refine r_callB m.sX (esEns_ok a) (fun h1 => ?_) (fun h1 => ?_) <;> conv => cbv
    · refine r_callB m.sX (l1In_ok b 0 10000) (fun h2 => ?_) (fun h2 => ?_) <;> conv => cbv
      · refine r_callF PV.bool m.sX (l1In_ok c 0 10000) fun r hr => ?_
        conv => cbv
        exact hQ _ (congrArg PV.bool (by rw [jobOk, h1, h2, hr]; rfl))
      · exact hQ _ (congrArg PV.bool (by rw [jobOk, h1, h2]; rfl))
    · exact hQ _ (congrArg PV.bool (by rw [jobOk, h1]; rfl))

theorem CheapestTariff_ok (xs : List Tariff) (ens pg mi : Int) : OkA Tryd.prog 41 [.isl 4 (rows cTariff xs), .int .i64 ens, .int .i64 pg, .int .i64 mi] (· = iib (cheapest ens pg mi xs)) :=
  fn_intro envOk fieldsOk mixed Tryd.func41 rfl fun κ X Y L Q m hQ => by
    conv => cbv
    refine r_lenR m.sX fun n hn mn => ?_
    conv => cbv
    refine r_callB m.sX (within_ok n 1 10) (fun g1 => ?_) (fun g1 => ?_) <;> conv => cbv
    rotate_left
    · exact hQ (iib (0, 0, false)) (congrArg iib (by rw [cheapest, ← hn, g1]; rfl))
    refine r_callB m.sX (isEns_ok ens) (fun g2 => ?_) (fun g2 => ?_) <;> conv => cbv
    rotate_left
    · exact hQ (iib (0, 0, false)) (congrArg iib (by rw [cheapest, jobOk, g2]; simp))
    refine r_callB m.sX (isJobSize_ok pg) (fun g3 => ?_) (fun g3 => ?_) <;> conv => cbv
    rotate_left
    · exact hQ (iib (0, 0, false)) (congrArg iib (by rw [cheapest, jobOk, g3]; simp))
    refine r_callB m.sX (isJobSize_ok mi) (fun g4 => ?_) (fun g4 => ?_) <;> conv => cbv
    rotate_left
    · exact hQ (iib (0, 0, false)) (congrArg iib (by rw [cheapest, jobOk, g4]; simp))
    have e0 : cheapest ens pg mi xs = cheapFrom ens pg mi 0 0 (-1) xs := by rw [cheapest, jobOk, ← hn, g1, g2, g3, g4]; rfl
    rw [e0] at hQ
    have b2 := inB_spec g2
    have b3 := inB_spec g3
    have b4 := inB_spec g4
    refine r_lenR m.sX fun k hk mk => ?_
    conv => cbv
    refine r_loop (α := Int × Int × Int) m 62 [1, 2, 3, 11, 12, 35, 36, 37] [] (fun a => [(1, .int .i64 ens), (2, .int .i64 pg), (3, .int .i64 mi), (11, .int .i64 a.2.1), (12, .int .i64 a.2.2), (35, .isl 4 (rows cTariff xs)), (36, .int .i64 k), (37, .int .i64 a.1)]) (fun a => [])
      (fun a => 0 ≤ a.1 ∧ a.1 ≤ xs.length ∧ cheapFrom ens pg mi 0 0 (-1) xs = cheapFrom ens pg mi a.1 a.2.1 a.2.2 (xs.drop a.1.toNat)) (fun a => xs.length - a.1.toNat) (0, 0, -1) ?_ ?_ ?_ ?_
    · cbv
    · cbv
    · exact ⟨by dsimp only; omega, by dsimp only; omega, rfl⟩
    rintro ⟨i, best, least⟩ ⟨h1, h2, h3⟩ E hE
    dsimp only at h1 h2 h3
    conv => cbv
    refine r_lss m.sX (fun h4 => ?_) (fun h4 => ?_) <;> conv => cbv
    · refine r_index m.sX (by omega) (by omega) fun t ht => ?_
      conv => cbv
      rw [drop_cons ht, cheapFrom] at h3
      obtain ⟨t1, t2, t3, t4⟩ := t
      refine r_callB m.sX (IsTariff_ok t1 t2 t3 t4) (fun h5 => ?_) (fun h5 => ?_) <;> conv => cbv
      · rw [h5, if_pos rfl] at h3
        refine r_callF (PV.int .i64) m.sX (jobPrice_ok t1 t2 t3 t4 ens pg mi h5 b2 b3 b4) fun p hp => ?_
        conv => cbv
        rw [← hp] at h3
        refine r_lss m.sX (fun h6 => ?_) (fun h6 => ?_) <;> conv => cbv
        · rw [if_pos (.inl h6)] at h3
          refine r_addf m.sX (by omega) (by omega) fun j hj => ?_
          conv => cbv
          refine hE _ (j, i, p) ?_ ?_ ⟨by dsimp only; omega, by dsimp only; omega, by dsimp only; rw [h3, show j.toNat = i.toNat + 1 by omega, hj]⟩ (by first | omega | (dsimp only; omega))
          · cbv
          · cbv
        · refine r_lss m.sX (fun h7 => ?_) (fun h7 => ?_) <;> conv => cbv
          · rw [if_pos (.inr h7)] at h3
            refine r_addf m.sX (by omega) (by omega) fun j hj => ?_
            conv => cbv
            refine hE _ (j, i, p) ?_ ?_ ⟨by dsimp only; omega, by dsimp only; omega, by dsimp only; rw [h3, show j.toNat = i.toNat + 1 by omega, hj]⟩ (by first | omega | (dsimp only; omega))
            · cbv
            · cbv
          · rw [if_neg (by omega)] at h3
            refine r_addf m.sX (by omega) (by omega) fun j hj => ?_
            conv => cbv
            refine hE _ (j, best, least) ?_ ?_ ⟨by dsimp only; omega, by dsimp only; omega, by dsimp only; rw [h3, show j.toNat = i.toNat + 1 by omega, hj]⟩ (by first | omega | (dsimp only; omega))
            · cbv
            · cbv
      · rw [h5] at h3
        exact hQ (iib (0, 0, false)) (congrArg iib (by rw [h3]; rfl))
    · exact hQ (iib (best, least, true)) (congrArg iib (by rw [h3, show i.toNat = xs.length by omega, List.drop_length]; rfl))

theorem specCheapestTariff_ok (xs : List Tariff) (ens pg mi : Int) : OkA Tryd.prog 42 [.isl 4 (rows cTariff xs), .int .i64 ens, .int .i64 pg, .int .i64 mi] (· = iib (cheapest ens pg mi xs)) :=
  fn_intro envOk fieldsOk mixed Tryd.func42 rfl fun κ X Y L Q m hQ => by
    conv => cbv
    refine r_lenR m.sX fun n hn mn => ?_
    conv => cbv
    refine r_callB m.sX (l1In_ok n 1 10) (fun g1 => ?_) (fun g1 => ?_) <;> conv => cbv
    rotate_left
    · exact hQ (iib (0, 0, false)) (congrArg iib (by rw [cheapest, ← hn, g1]; rfl))
    refine r_callB m.sX (esJob_ok ens pg mi) (fun g2 => ?_) (fun g2 => ?_) <;> conv => cbv
    rotate_left
    · exact hQ (iib (0, 0, false)) (congrArg iib (by rw [cheapest, g2]; simp))
    have e0 : cheapest ens pg mi xs = cheapFrom ens pg mi 0 0 (-1) xs := by rw [cheapest, ← hn, g1, g2]; rfl
    rw [e0] at hQ
    have g1' := inB_spec g1
    rw [jobOk, Bool.and_eq_true, Bool.and_eq_true] at g2
    have b2 := inB_spec g2.1.1
    have b3 := inB_spec g2.1.2
    have b4 := inB_spec g2.2
    refine r_lenR m.sX fun k hk mk => ?_
    conv => cbv
    refine r_loop (α := Int × Int) m 60 [0, 1, 2, 3, 11, 25, 26, 27] [] (fun a => [(0, .isl 4 (rows cTariff xs)), (1, .int .i64 ens), (2, .int .i64 pg), (3, .int .i64 mi), (11, .int .i64 a.2), (25, .isl 4 (rows cTariff xs)), (26, .int .i64 k), (27, .int .i64 a.1)]) (fun a => [])
      (fun a => 0 ≤ a.1 ∧ a.1 ≤ xs.length ∧ 0 ≤ a.2 ∧ (a.1 = 0 ∧ a.2 = 0 ∧ cheapFrom ens pg mi 0 0 (-1) xs = cheapFrom ens pg mi 0 0 (-1) xs ∨ a.2 < a.1 ∧ ∃ t, xs[a.2.toNat]? = some t ∧ goodT t = true ∧ cheapFrom ens pg mi 0 0 (-1) xs = cheapFrom ens pg mi a.1 a.2 (priceF t ens pg mi) (xs.drop a.1.toNat))) (fun a => xs.length - a.1.toNat) (0, 0) ?_ ?_ ?_ ?_
    · cbv
    · cbv
    · exact ⟨by dsimp only; omega, by dsimp only; omega, by dsimp only; omega, .inl ⟨rfl, rfl, rfl⟩⟩
    rintro ⟨i, best⟩ ⟨h1, h2, h2', h3⟩ E hE
    dsimp only at h1 h2 h2' h3
    conv => cbv
    refine r_lss m.sX (fun h4 => ?_) (fun h4 => ?_) <;> conv => cbv
    · refine r_index m.sX (by omega) (by omega) fun t ht => ?_
      conv => cbv
      obtain ⟨t1, t2, t3, t4⟩ := t
      refine r_callB m.sX (esTariff_ok t1 t2 t3 t4) (fun h5 => ?_) (fun h5 => ?_) <;> conv => cbv
      · refine r_draw m (by kernel_rfl) ?_
        conv => cbv
        refine r_callFS (PV.int .i64) m.sY (esPrice_ok t1 t2 t3 t4 ens pg mi h5 b2 b3 b4) trivial fun p hp => ?_
        conv => cbv
        have hlt : best ≤ i ∧ best < xs.length := by rcases h3 with h3 | h3 <;> omega
        refine r_index m.sY (by omega) (by omega) fun u hu => ?_
        conv => cbv
        obtain ⟨u1, u2, u3, u4⟩ := u
        have hu5 : goodT (u1, u2, u3, u4) = true := by
          rcases h3 with ⟨e1, e2, -⟩ | ⟨e1, t', e2, e3, -⟩
          · rw [e2, ← e1, ht] at hu; rw [← Option.some.inj hu]; exact h5
          · rw [hu] at e2; rw [Option.some.inj e2]; exact e3
        refine r_callFS (PV.int .i64) m.sY (esPrice_ok u1 u2 u3 u4 ens pg mi hu5 b2 b3 b4) trivial fun q hq => ?_
        conv => cbv
        have hpb := (price_bounds h5 b2 b3 b4).2.2.2
        have hqb := (price_bounds hu5 b2 b3 b4).2.2.2
        refine r_lss m.sY (fun h6 => ?_) (fun h6 => ?_) <;> conv => cbv
        · have h3' : cheapFrom ens pg mi 0 0 (-1) xs = cheapFrom ens pg mi (i + 1) i p (xs.drop (i.toNat + 1)) := by
            rcases h3 with ⟨e1, e2, -⟩ | ⟨e1, t', e2, e3, e4⟩
            · exfalso
              rw [e2, ← e1, ht] at hu
              rw [hp, hq, Option.some.inj hu] at h6
              omega
            · rw [hu] at e2
              obtain rfl := Option.some.inj e2
              rw [e4, drop_cons ht, cheapFrom, h5, if_pos rfl, if_pos (.inr (by omega)), hp]
          refine r_addf m.sX (by omega) (by omega) fun j hj => ?_
          conv => cbv
          refine hE _ (j, i) ?_ ?_ ⟨by dsimp only; omega, by dsimp only; omega, by dsimp only; omega, .inr ⟨by dsimp only; omega, _, ht, h5, by dsimp only; rw [h3', hp, show j.toNat = i.toNat + 1 by omega, hj]⟩⟩ (by first | omega | (dsimp only; omega))
          · cbv
          · cbv
        · have h3' : cheapFrom ens pg mi 0 0 (-1) xs = cheapFrom ens pg mi (i + 1) best q (xs.drop (i.toNat + 1)) := by
            rcases h3 with ⟨e1, e2, -⟩ | ⟨e1, t', e2, e3, e4⟩
            · subst e1 e2
              rw [hu] at ht
              obtain ⟨rfl, rfl, rfl, rfl⟩ : u1 = t1 ∧ u2 = t2 ∧ u3 = t3 ∧ u4 = t4 := by simpa using ht
              have := drop_cons hu
              simp only [Int.toNat_zero, List.drop_zero] at this
              rw [this, cheapFrom, h5, if_pos rfl, if_pos (.inl (by omega)), hq]
              rfl
            · rw [hu] at e2
              obtain rfl := Option.some.inj e2
              rw [e4, drop_cons ht, cheapFrom, h5, if_pos rfl, if_neg (by omega), hq]
          refine r_addf m.sX (by omega) (by omega) fun j hj => ?_
          conv => cbv
          refine hE _ (j, best) ?_ ?_ ⟨by dsimp only; omega, by dsimp only; omega, by dsimp only; omega, .inr ⟨by dsimp only; omega, _, hu, hu5, by dsimp only; rw [h3', hq, show j.toNat = i.toNat + 1 by omega, hj]⟩⟩ (by first | omega | (dsimp only; omega))
          · cbv
          · cbv
      · refine hQ (iib (0, 0, false)) (congrArg iib ?_)
        rcases h3 with ⟨e1, e2, -⟩ | ⟨e1, t', e2, e3, e4⟩
        · subst e1
          have := drop_cons ht
          simp only [Int.toNat_zero, List.drop_zero] at this
          rw [this, cheapFrom, h5]; rfl
        · rw [e4, drop_cons ht, cheapFrom, h5]; rfl
    · have hlt : best < i := by rcases h3 with h3 | h3 <;> omega
      refine r_index m.sX (by omega) (by omega) fun u hu => ?_
      conv => cbv
      obtain ⟨u1, u2, u3, u4⟩ := u
      rcases h3 with ⟨e1, e2, -⟩ | ⟨e1, t', e2, e3, e4⟩
      · omega
      rw [hu] at e2
      obtain rfl := Option.some.inj e2
      refine r_callF (PV.int .i64) m.sX (esPrice_ok u1 u2 u3 u4 ens pg mi e3 b2 b3 b4) fun q hq => ?_
      conv => cbv
      exact hQ (iib (best, q, true)) (congrArg iib (by rw [e4, show i.toNat = xs.length by omega, List.drop_length, hq]; rfl))
end Go.Proofs.YtbamclepgabciaaDoor.Ai
