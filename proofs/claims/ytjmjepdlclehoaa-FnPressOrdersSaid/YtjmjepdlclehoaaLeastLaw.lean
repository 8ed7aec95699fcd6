/- Plain laws on presses: the sheets that are needed, minutes. -/
import Derived.Test.YtjmjepdlclehoaaCommon
import Derived.Test.YtjmjepdlclehoaaCastLaw
namespace Go.Proofs.Ytjmjepdlclehoaa.Ai
open Go Go.Proofs
set_option linter.unusedSimpArgs false
set_option linter.unusedVariables false
set_option maxRecDepth 10000
set_option maxHeartbeats 4000000

abbrev Press := Int × Int × Int × List Int
abbrev PressJob := Int × Int × Int
noncomputable def cPress (p : Press) : List PV := [.int .i64 p.1, .int .i64 p.2.1, .int .i64 p.2.2.1, .isl 1 (rows cInt p.2.2.2)]
def cPressJob (x : PressJob) : List PV := [.int .i64 x.1, .int .i64 x.2.1, .int .i64 x.2.2]

def okJob (x : PressJob) : Bool := inB x.1 0 4 && (inB x.2.1 1 20000 && inB x.2.2 0 100000)
def okPress (p : Press) : Bool := allB p.2.2.2 0 300 && (inB p.1 1 5000 && (inB p.2.1 0 600 && (inB p.2.2.1 0 500 && decide ((p.2.2.2.length : Int) = 5))))

theorem okPress_spec {p : Press} (h : okPress p = true) : (∀ n ∈ p.2.2.2, 0 ≤ n ∧ n ≤ 300) ∧ (1 ≤ p.1 ∧ p.1 ≤ 5000) ∧ (0 ≤ p.2.1 ∧ p.2.1 ≤ 600) ∧ (0 ≤ p.2.2.1 ∧ p.2.2.1 ≤ 500) ∧ (p.2.2.2.length : Int) = 5 := by
  simp only [okPress, Bool.and_eq_true, decide_eq_true_eq] at h
  exact ⟨allB_mem h.1, inB_spec h.2.1, inB_spec h.2.2.1, inB_spec h.2.2.2.1, h.2.2.2.2⟩
theorem okJob_spec {x : PressJob} (h : okJob x = true) : (0 ≤ x.1 ∧ x.1 ≤ 4) ∧ (1 ≤ x.2.1 ∧ x.2.1 ≤ 20000) ∧ (0 ≤ x.2.2 ∧ x.2.2 ≤ 100000) := by
  simp only [okJob, Bool.and_eq_true] at h
  exact ⟨inB_spec h.1, inB_spec h.2.1, inB_spec h.2.2⟩

/-- What is lost of n sheets. -/
def lost (s n : Int) : Int := (s * n + 999) / 1000
/-- n is the least number of sheets of which enough are good. -/
def Needed (s x n : Int) : Prop := x ≤ n ∧ x ≤ n - lost s n ∧ ∀ k, x ≤ k → k < n → k - lost s k < x

theorem Needed.unique {s x n m : Int} (h : Needed s x n) (k : Needed s x m) : n = m := by
  rcases Int.lt_trichotomy n m with hlt | he | hlt
  · have := k.2.2 n h.1 hlt
    have := h.2.1
    omega
  · exact he
  · have := h.2.2 m k.1 hlt
    have := k.2.1
    omega

theorem lost_bound {s n : Int} (h0 : 0 ≤ s) (h1 : s ≤ 500) (hn : 0 ≤ n) : 0 ≤ s * n ∧ s * n ≤ 500 * n ∧ 0 ≤ lost s n ∧ 2 * lost s n ≤ n + 1 := by
  have a1 := Int.mul_nonneg h0 hn
  have a2 := Int.mul_le_mul_of_nonneg_right h1 hn
  refine ⟨a1, a2, ?_, ?_⟩
  · exact Int.ediv_nonneg (by omega) (by omega)
  · unfold lost
    omega

theorem Needed.bound {s x n : Int} (h0 : 0 ≤ s) (h1 : s ≤ 500) (hx : 1 ≤ x) (h : Needed s x n) : n ≤ 2 * x + 1 := by
  rcases Int.lt_or_le (2 * x + 1) n with hlt | hle
  · have h2 := h.2.2 (2 * x + 1) (by omega) hlt
    have := (lost_bound h0 h1 (show 0 ≤ 2 * x + 1 by omega)).2.2.2
    omega
  · exact hle

theorem needed_ex {s x : Int} (h0 : 0 ≤ s) (h1 : s ≤ 500) (hx : 1 ≤ x) : ∀ (fuel : Nat) (n : Int), x ≤ n → (∀ k, x ≤ k → k < n → k - lost s k < x) → 2 * x + 1 ≤ n + fuel → ∃ n, Needed s x n
  | 0, n, a1, a2, a3 => by
    have h2 := (lost_bound h0 h1 (show 0 ≤ 2 * x + 1 by omega)).2.2.2
    rcases Int.lt_or_le (2 * x + 1) n with hlt | hle
    · have := a2 (2 * x + 1) (by omega) hlt
      omega
    · exact ⟨n, a1, by rw [show n = 2 * x + 1 by omega]; omega, a2⟩
  | k + 1, n, a1, a2, a3 => by
    rcases Int.lt_or_le (n - lost s n) x with hlt | hle
    · refine needed_ex h0 h1 hx k (n + 1) (by omega) (fun j b1 b2 => ?_) (by omega)
      rcases Int.lt_or_le j n with hj | hj
      · exact a2 j b1 hj
      · rw [show j = n by omega]; exact hlt
    · exact ⟨n, a1, hle, a2⟩

open Classical in
/-- The sheets that are needed. -/
noncomputable def needF (s x : Int) : Int := if h : ∃ n, Needed s x n then Classical.choose h else 0
theorem Needed.need {s x n : Int} (h : Needed s x n) : n = needF s x := by
  have hex : ∃ n, Needed s x n := ⟨n, h⟩
  rw [needF, dif_pos hex]
  exact h.unique (Classical.choose_spec hex)
theorem needF_spec {s x : Int} (h0 : 0 ≤ s) (h1 : s ≤ 500) (hx : 1 ≤ x) : Needed s x (needF s x) := by
  have hex := needed_ex h0 h1 hx (x + 1).toNat x (Int.le_refl _) (fun k a b => absurd a (by omega)) (by omega)
  rw [needF, dif_pos hex]
  exact Classical.choose_spec hex

/-- The minutes that sheets take. -/
def runF (hourly n : Int) : Int := (60 * n + hourly - 1) / hourly

theorem runF_spec {h n : Int} (hh : 1 ≤ h) (hn : 0 ≤ n) : 60 * n ≤ runF h n * h ∧ runF h n * h ≤ 60 * n + h - 1 ∧ 0 ≤ runF h n ∧ runF h n ≤ 60 * n + h - 1 := by
  have e1 := Int.mul_ediv_add_emod (60 * n + h - 1) h
  have e2 := Int.emod_nonneg (60 * n + h - 1) (show h ≠ 0 by omega)
  have e3 := Int.emod_lt_of_pos (60 * n + h - 1) (show 0 < h by omega)
  rw [Int.mul_comm] at e1
  exact ⟨by unfold runF; omega, by unfold runF; omega, Int.ediv_nonneg (by omega) (by omega), Int.ediv_le_self _ (by omega)⟩

/-- Washing from one ink to another one. -/
def washF (w : List Int) (a b : Int) : Int := if a = b then 0 else if b < a then (w[a.toNat]?).getD 0 else ((w[a.toNat]?).getD 0 + 1) / 2

/- Contracts of the functions on presses. -/

theorem isInkNumber_ok (n : Int)  : OkA Try.prog 146 [.int .i64 n] (· = .bool (inB n 0 4)) :=
  fn_intro envOk fieldsOk mixed Try.func146 rfl fun κ X Y L Q m hQ => by
    conv => cbv
    refine r_callB m.sX (within_ok n 0 4) (fun h1 => ?_) (fun h1 => ?_) <;> conv => cbv
    · exact hQ _ (congrArg PV.bool (by simp [*]))   -- leaf 1
    · exact hQ _ (congrArg PV.bool (by simp [*]))   -- leaf 2

theorem prInk_ok (n : Int)  : OkA Try.prog 149 [.int .i64 n] (· = .bool (inB n 0 4)) :=
  fn_intro envOk fieldsOk mixed Try.func149 rfl fun κ X Y L Q m hQ => by
    conv => cbv
    refine r_callB m.sX (l1In_ok n 0 4) (fun h1 => ?_) (fun h1 => ?_) <;> conv => cbv
    · exact hQ _ (congrArg PV.bool (by simp [*]))   -- leaf 1
    · exact hQ _ (congrArg PV.bool (by simp [*]))   -- leaf 2


theorem isPressJob_ok (x : PressJob)  : OkA Try.prog 115 [.agg (cPressJob x)] (· = .bool (okJob x)) := by
  obtain ⟨xA, xB, xC⟩ := x
  try dsimp only at *
  exact fn_intro envOk fieldsOk mixed Try.func115 rfl fun κ X Y L Q m hQ => by
    conv => cbv
    refine r_callB m.sX (isInkNumber_ok xA) (fun h1 => ?_) (fun h1 => ?_) <;> conv => cbv
    · refine r_callB m.sX (within_ok xB 1 20000) (fun h2 => ?_) (fun h2 => ?_) <;> conv => cbv
      · refine r_callB m.sX (within_ok xC 0 100000) (fun h3 => ?_) (fun h3 => ?_) <;> conv => cbv
        · exact hQ _ (congrArg PV.bool (by first | rfl | omega | (simp [okJob, *]; done) | (subst_vars; simp [okJob, *]; done)))   -- leaf 1
        · exact hQ _ (congrArg PV.bool (by first | rfl | omega | (simp [okJob, *]; done) | (subst_vars; simp [okJob, *]; done)))   -- leaf 2
      · exact hQ _ (congrArg PV.bool (by first | rfl | omega | (simp [okJob, *]; done) | (subst_vars; simp [okJob, *]; done)))   -- leaf 3
    · exact hQ _ (congrArg PV.bool (by first | rfl | omega | (simp [okJob, *]; done) | (subst_vars; simp [okJob, *]; done)))   -- leaf 4

theorem prJob_ok (x : PressJob)  : OkA Try.prog 159 [.agg (cPressJob x)] (· = .bool (okJob x)) := by
  obtain ⟨xA, xB, xC⟩ := x
  try dsimp only at *
  exact fn_intro envOk fieldsOk mixed Try.func159 rfl fun κ X Y L Q m hQ => by
    conv => cbv
    refine r_callB m.sX (l1In_ok xA 0 4) (fun h1 => ?_) (fun h1 => ?_) <;> conv => cbv
    · refine r_callB m.sX (l1In_ok xB 1 20000) (fun h2 => ?_) (fun h2 => ?_) <;> conv => cbv
      · refine r_callB m.sX (l1In_ok xC 0 100000) (fun h3 => ?_) (fun h3 => ?_) <;> conv => cbv
        · exact hQ _ (congrArg PV.bool (by first | rfl | omega | (simp [okJob, *]; done) | (subst_vars; simp [okJob, *]; done)))   -- leaf 1
        · exact hQ _ (congrArg PV.bool (by first | rfl | omega | (simp [okJob, *]; done) | (subst_vars; simp [okJob, *]; done)))   -- leaf 2
      · exact hQ _ (congrArg PV.bool (by first | rfl | omega | (simp [okJob, *]; done) | (subst_vars; simp [okJob, *]; done)))   -- leaf 3
    · exact hQ _ (congrArg PV.bool (by first | rfl | omega | (simp [okJob, *]; done) | (subst_vars; simp [okJob, *]; done)))   -- leaf 4


def okJobs (l : List PressJob) : Bool := l.all okJob && decide ((l.length : Int) ≤ 7)

theorem ArePressJobs_ok (l : List PressJob)  : OkA Try.prog 50 [.isl 3 (rows cPressJob l)] (· = .bool (okJobs l)) :=
  fn_intro envOk fieldsOk mixed Try.func50 rfl fun κ X Y L Q m hQ => by
    conv => cbv
    refine r_lenR m.sX fun n1 hn1 mn1 => ?_
    conv => cbv
    refine r_loopF (α := Int) m 18 [0, 5, 6, 7] [] (fun σ => [(0, .isl 3 (rows cPressJob l)), (5, .isl 3 (rows cPressJob l)), (6, .int .i64 n1), (7, .int .i64 σ)]) (fun σ => [])
      (fun σ => (0 ≤ σ) ∧ (σ ≤ n1) ∧ (l.all okJob = (l.drop σ.toNat).all okJob)) (fun σ => (n1 - σ).toNat) 0 ?_ ?_ ?_ ?_
    · cbv
    · cbv
    · exact ⟨(by (try dsimp only); first | omega | (simp only [List.length_nil]; omega)), (by (try dsimp only); first | omega | (simp only [List.length_nil]; omega)), (by (try dsimp only) <;> first | omega | rfl | (simp [*]; done))⟩
    rintro i1 ⟨lo1, hi1, q⟩ E hE F hF
    conv => cbv
    refine r_lss m.sX (fun h1 => ?_) (fun h1 => ?_) <;> conv => cbv
    · refine r_index m.sX (by omega) (by omega) fun v hxA => ?_
      obtain ⟨xA, xB, xC⟩ := v
      conv => cbv
      have hx := hxA
      have mx := get_mem hx
      have dx := drop_cons hx
      have kx := take_snoc hx
      have jx : (i1 + 1).toNat = Int.toNat i1 + 1 := by omega
      refine r_callB m.sX (isPressJob_ok (xA, xB, xC)) (fun h2 => ?_) (fun h2 => ?_) <;> conv => cbv
      · refine r_addf m.sX (by omega) (by omega) fun r1 hr1 => ?_
        conv => cbv
        have tr1 : Int.toNat r1 = Int.toNat i1 + 1 := by omega
        refine hE _ r1 ?_ ?_ ⟨(by (try dsimp only); first | omega | (simp only [List.length_nil]; omega)), (by (try dsimp only); first | omega | (simp only [List.length_nil]; omega)), (by (try dsimp only) <;> first | omega | rfl | (simp [*]; done) | (rw [q]; simp [*]; done))⟩ (by first | omega | (dsimp only; omega))
        · cbv
        · cbv
      · refine hF _ _ ?_
        conv => cbv
        exact hQ _ (congrArg PV.bool (by rw [okJobs, q]; simp [*] <;> omega))   -- leaf 1
    · have dz_i1 := drop_end (xs := l) (i := Int.toNat i1) (by omega)
      have tz_i1 := take_end (xs := l) (i := Int.toNat i1) (by omega)
      refine hF _ _ ?_
      conv => cbv
      refine r_lenR m.sX fun n2 hn2 mn2 => ?_
      conv => cbv
      refine r_leq m.sX (fun h3 => ?_) (fun h3 => ?_) <;> conv => cbv
      · exact hQ _ (congrArg PV.bool (by rw [okJobs, q]; simp [*] <;> omega))   -- leaf 2
      · exact hQ _ (congrArg PV.bool (by rw [okJobs, q]; simp [*] <;> omega))   -- leaf 3

theorem prJobs_ok (l : List PressJob)  : OkA Try.prog 150 [.isl 3 (rows cPressJob l)] (· = .bool (okJobs l)) :=
  fn_intro envOk fieldsOk mixed Try.func150 rfl fun κ X Y L Q m hQ => by
    conv => cbv
    refine r_lenR m.sX fun n1 hn1 mn1 => ?_
    conv => cbv
    refine r_loopF (α := Int) m 18 [0, 5, 6, 7] [] (fun σ => [(0, .isl 3 (rows cPressJob l)), (5, .isl 3 (rows cPressJob l)), (6, .int .i64 n1), (7, .int .i64 σ)]) (fun σ => [])
      (fun σ => (0 ≤ σ) ∧ (σ ≤ n1) ∧ (l.all okJob = (l.drop σ.toNat).all okJob)) (fun σ => (n1 - σ).toNat) 0 ?_ ?_ ?_ ?_
    · cbv
    · cbv
    · exact ⟨(by (try dsimp only); first | omega | (simp only [List.length_nil]; omega)), (by (try dsimp only); first | omega | (simp only [List.length_nil]; omega)), (by (try dsimp only) <;> first | omega | rfl | (simp [*]; done))⟩
    rintro i1 ⟨lo1, hi1, q⟩ E hE F hF
    conv => cbv
    refine r_lss m.sX (fun h1 => ?_) (fun h1 => ?_) <;> conv => cbv
    · refine r_index m.sX (by omega) (by omega) fun v hxA => ?_
      obtain ⟨xA, xB, xC⟩ := v
      conv => cbv
      have hx := hxA
      have mx := get_mem hx
      have dx := drop_cons hx
      have kx := take_snoc hx
      have jx : (i1 + 1).toNat = Int.toNat i1 + 1 := by omega
      refine r_callB m.sX (prJob_ok (xA, xB, xC)) (fun h2 => ?_) (fun h2 => ?_) <;> conv => cbv
      · refine r_addf m.sX (by omega) (by omega) fun r1 hr1 => ?_
        conv => cbv
        have tr1 : Int.toNat r1 = Int.toNat i1 + 1 := by omega
        refine hE _ r1 ?_ ?_ ⟨(by (try dsimp only); first | omega | (simp only [List.length_nil]; omega)), (by (try dsimp only); first | omega | (simp only [List.length_nil]; omega)), (by (try dsimp only) <;> first | omega | rfl | (simp [*]; done) | (rw [q]; simp [*]; done))⟩ (by first | omega | (dsimp only; omega))
        · cbv
        · cbv
      · refine hF _ _ ?_
        conv => cbv
        exact hQ _ (congrArg PV.bool (by rw [okJobs, q]; simp [*] <;> omega))   -- leaf 1
    · have dz_i1 := drop_end (xs := l) (i := Int.toNat i1) (by omega)
      have tz_i1 := take_end (xs := l) (i := Int.toNat i1) (by omega)
      refine hF _ _ ?_
      conv => cbv
      refine r_lenR m.sX fun n2 hn2 mn2 => ?_
      conv => cbv
      refine r_leq m.sX (fun h3 => ?_) (fun h3 => ?_) <;> conv => cbv
      · exact hQ _ (congrArg PV.bool (by rw [okJobs, q]; simp [*] <;> omega))   -- leaf 2
      · exact hQ _ (congrArg PV.bool (by rw [okJobs, q]; simp [*] <;> omega))   -- leaf 3


theorem IsPress_ok (p : Press)  : OkA Try.prog 49 [.agg (cPress p)] (· = .bool (okPress p)) := by
  obtain ⟨pA, pB, pC, pD⟩ := p
  try dsimp only at *
  exact fn_intro envOk fieldsOk mixed Try.func49 rfl fun κ X Y L Q m hQ => by
    conv => cbv
    refine r_lenR m.sX fun n1 hn1 mn1 => ?_
    conv => cbv
    refine r_loopF (α := Int) m 35 [6, 7, 8] [⟨1, 9, 0, 0, 0⟩] (fun σ => [(1, .optr 9 0 4 0 0), (6, .isl 1 (rows cInt pD)), (7, .int .i64 n1), (8, .int .i64 σ)]) (fun σ => [(9, 0, .box [.int .i64 pA, .int .i64 pB, .int .i64 pC, .isl 1 (rows cInt pD)])])
      (fun σ => (0 ≤ σ) ∧ (σ ≤ n1) ∧ (allB pD 0 300 = allB (pD.drop σ.toNat) 0 300)) (fun σ => (n1 - σ).toNat) 0 ?_ ?_ ?_ ?_
    · cbv
    · cbv
    · exact ⟨(by (try dsimp only); first | omega | (simp only [List.length_nil]; omega)), (by (try dsimp only); first | omega | (simp only [List.length_nil]; omega)), (by (try dsimp only) <;> first | omega | rfl | (simp [allB_cons, allB_nil, *]; done))⟩
    rintro i1 ⟨lo1, hi1, q⟩ E hE F hF
    conv => cbv
    refine r_lss m.sX (fun h1 => ?_) (fun h1 => ?_) <;> conv => cbv
    · refine r_index m.sX (by omega) (by omega) fun n hn => ?_
      conv => cbv
      have mn := get_mem hn
      have dn := drop_cons hn
      have kn := take_snoc hn
      have jn : (i1 + 1).toNat = Int.toNat i1 + 1 := by omega
      have vn := nth_some hn
      refine r_callB m.sX (within_ok n 0 300) (fun h2 => ?_) (fun h2 => ?_) <;> conv => cbv
      · refine r_addf m.sX (by omega) (by omega) fun r1 hr1 => ?_
        conv => cbv
        have tr1 : Int.toNat r1 = Int.toNat i1 + 1 := by omega
        refine hE _ r1 ?_ ?_ ⟨(by (try dsimp only); first | omega | (simp only [List.length_nil]; omega)), (by (try dsimp only); first | omega | (simp only [List.length_nil]; omega)), (by (try dsimp only) <;> first | omega | rfl | (simp [allB_cons, allB_nil, *]; done) | (rw [q]; simp [allB_cons, allB_nil, *]; done))⟩ (by first | omega | (dsimp only; omega))
        · cbv
        · cbv
      · refine hF _ _ ?_
        conv => cbv
        exact hQ _ (congrArg PV.bool (by rw [okPress, q]; simp [allB_cons, allB_nil, *] <;> omega))   -- leaf 1
    · have dz_i1 := drop_end (xs := pD) (i := Int.toNat i1) (by omega)
      have tz_i1 := take_end (xs := pD) (i := Int.toNat i1) (by omega)
      refine hF _ _ ?_
      conv => cbv
      refine r_callB m.sX (within_ok pA 1 5000) (fun h3 => ?_) (fun h3 => ?_) <;> conv => cbv
      · refine r_callB m.sX (within_ok pB 0 600) (fun h4 => ?_) (fun h4 => ?_) <;> conv => cbv
        · refine r_callB m.sX (within_ok pC 0 500) (fun h5 => ?_) (fun h5 => ?_) <;> conv => cbv
          · refine r_lenR m.sX fun n2 hn2 mn2 => ?_
            conv => cbv
            refine r_eql m.sX (fun h6 => ?_) (fun h6 => ?_) <;> conv => cbv
            · exact hQ _ (congrArg PV.bool (by rw [okPress, q]; simp [allB_cons, allB_nil, *] <;> omega))   -- leaf 2
            · exact hQ _ (congrArg PV.bool (by rw [okPress, q]; simp [allB_cons, allB_nil, *] <;> omega))   -- leaf 3
          · exact hQ _ (congrArg PV.bool (by rw [okPress, q]; simp [allB_cons, allB_nil, *] <;> omega))   -- leaf 4
        · exact hQ _ (congrArg PV.bool (by rw [okPress, q]; simp [allB_cons, allB_nil, *] <;> omega))   -- leaf 5
      · exact hQ _ (congrArg PV.bool (by rw [okPress, q]; simp [allB_cons, allB_nil, *] <;> omega))   -- leaf 6

theorem prGood_ok (p : Press)  : OkA Try.prog 148 [.agg (cPress p)] (· = .bool (okPress p)) := by
  obtain ⟨pA, pB, pC, pD⟩ := p
  try dsimp only at *
  exact fn_intro envOk fieldsOk mixed Try.func148 rfl fun κ X Y L Q m hQ => by
    conv => cbv
    refine r_callB m.sX (l1In_ok pA 1 5000) (fun h1 => ?_) (fun h1 => ?_) <;> conv => cbv
    · refine r_callB m.sX (l1In_ok pB 0 600) (fun h2 => ?_) (fun h2 => ?_) <;> conv => cbv
      · refine r_callB m.sX (l1In_ok pC 0 500) (fun h3 => ?_) (fun h3 => ?_) <;> conv => cbv
        · refine r_lenR m.sX fun n1 hn1 mn1 => ?_
          conv => cbv
          refine r_eql m.sX (fun h4 => ?_) (fun h4 => ?_) <;> conv => cbv
          · refine r_callB m.sX (l1All_ok pD 0 300) (fun h5 => ?_) (fun h5 => ?_) <;> conv => cbv
            · exact hQ _ (congrArg PV.bool (by rw [okPress]; simp [*] <;> omega))   -- leaf 1
            · exact hQ _ (congrArg PV.bool (by rw [okPress]; simp [*] <;> omega))   -- leaf 2
          · exact hQ _ (congrArg PV.bool (by rw [okPress]; simp [*] <;> omega))   -- leaf 3
        · exact hQ _ (congrArg PV.bool (by rw [okPress]; simp [*] <;> omega))   -- leaf 4
      · exact hQ _ (congrArg PV.bool (by rw [okPress]; simp [*] <;> omega))   -- leaf 5
    · exact hQ _ (congrArg PV.bool (by rw [okPress]; simp [*] <;> omega))   -- leaf 6


theorem sheets_ok (p : Press) (x : PressJob) (hs : 0 ≤ p.2.2.1 ∧ p.2.2.1 ≤ 500) (hx : 1 ≤ x.2.1 ∧ x.2.1 ≤ 20000) : OkA Try.prog 152 [.agg (cPress p), .agg (cPressJob x)] (· = .int .i64 (needF p.2.2.1 x.2.1)) := by
  obtain ⟨pA, pB, pC, pD⟩ := p
  obtain ⟨xA, xB, xC⟩ := x
  try dsimp only at *
  exact fn_intro envOk fieldsOk mixed Try.func152 rfl fun κ X Y L Q m hQ => by
    have nd := needF_spec hs.1 hs.2 hx.1
    try dsimp only at nd
    have nb := nd.bound hs.1 hs.2 hx.1
    try dsimp only at nb
    have na := nd.1
    try dsimp only at na
    conv => cbv
    refine r_loopF (α := Int) m 22 [5] [⟨2, 17, 0, 0, 0⟩, ⟨3, 25, 0, 0, 0⟩] (fun σ => [(2, .optr 17 0 4 0 0), (3, .optr 25 0 3 0 0), (5, .int .i64 σ)]) (fun σ => [(17, 0, .box [.int .i64 pA, .int .i64 pB, .int .i64 pC, .isl 1 (rows cInt pD)]), (25, 0, .box [.int .i64 xA, .int .i64 xB, .int .i64 xC])])
      (fun σ => (xB ≤ σ) ∧ (σ ≤ needF pC xB)) (fun σ => (needF pC xB - σ).toNat) xB ?_ ?_ ?_ ?_
    · cbv
    · cbv
    · exact ⟨(by (try dsimp only) <;> first | omega | rfl | (simp [*]; done)), (by (try dsimp only) <;> first | omega | rfl | (simp [*]; done))⟩
    rintro n ⟨b1, b2⟩ E hE F hF
    have lb0 := lost_bound hs.1 hs.2 (show 0 ≤ n by omega)
    try dsimp only at lb0
    conv => cbv
    refine r_mulf m.sX (by first | omega | (subst_vars; omega)) (by first | omega | (subst_vars; omega)) fun r1 hr1 => ?_
    conv => cbv
    refine r_addf m.sX (by omega) (by omega) fun r2 hr2 => ?_
    conv => cbv
    first | refine r_divf m.sX (by omega) (by omega) fun r3 hr3 br3 => ?_ | refine r_tdivf m.sX (by omega) (by omega) fun r3 hr3 br3 => ?_
    conv => cbv
    have e3 : r3 = lost pC n := by rw [hr3, hr2, hr1]; rfl
    refine r_subf m.sX (by omega) (by omega) fun r4 hr4 => ?_
    conv => cbv
    refine r_lss m.sX (fun h1 => ?_) (fun h1 => ?_) <;> conv => cbv
    · have c1 : n ≠ needF pC xB := fun e => by have := nd.2.1; rw [← e] at this; omega
      refine r_addf m.sX (by omega) (by omega) fun n_2 hn_2 => ?_
      conv => cbv
      refine hE _ n_2 ?_ ?_ ⟨(by (try dsimp only) <;> first | omega | rfl | (simp [*]; done) | (rw [b1]; simp [*]; done)), (by (try dsimp only) <;> first | omega | rfl | (simp [*]; done) | (rw [b2]; simp [*]; done))⟩ (by first | omega | (dsimp only; omega))
      · cbv
      · cbv
    · have c1 := nd.2.2 n b1
      try dsimp only at c1
      refine hF _ _ ?_
      conv => cbv
      exact hQ (.int .i64 n) (Eq.trans (by first | rfl | (simp only [lb, lbI, rows_cons, rows_nil, unnilT, unnil, unnilTI, unnilI]; done) | (simp only [lb, lbI, rows_cons, rows_nil, unnilT, unnil, unnilTI, unnilI]; rfl)) (congrArg (PV.int .i64) (show n = needF pC xB from by omega)))   -- leaf 1

theorem prNeeded_ok (p : Press) (sheets : Int) (hs : 0 ≤ p.2.2.1 ∧ p.2.2.1 ≤ 500) (hx : 1 ≤ sheets ∧ sheets ≤ 20000) : OkA Try.prog 157 [.agg (cPress p), .int .i64 sheets] (· = .int .i64 (needF p.2.2.1 sheets)) := by
  obtain ⟨pA, pB, pC, pD⟩ := p
  try dsimp only at *
  exact fn_intro envOk fieldsOk mixed Try.func157 rfl fun κ X Y L Q m hQ => by
    have nd := needF_spec hs.1 hs.2 hx.1
    try dsimp only at nd
    have nb := nd.bound hs.1 hs.2 hx.1
    try dsimp only at nb
    have na := nd.1
    try dsimp only at na
    conv => cbv
    refine r_loopF (α := Int) m 20 [1, 5] [⟨2, 17, 0, 0, 0⟩] (fun σ => [(1, .int .i64 sheets), (2, .optr 17 0 4 0 0), (5, .int .i64 σ)]) (fun σ => [(17, 0, .box [.int .i64 pA, .int .i64 pB, .int .i64 pC, .isl 1 (rows cInt pD)])])
      (fun σ => (sheets ≤ σ) ∧ (σ ≤ needF pC sheets)) (fun σ => (needF pC sheets - σ).toNat) sheets ?_ ?_ ?_ ?_
    · cbv
    · cbv
    · exact ⟨(by (try dsimp only) <;> first | omega | rfl | (simp [*]; done)), (by (try dsimp only) <;> first | omega | rfl | (simp [*]; done))⟩
    rintro n ⟨b1, b2⟩ E hE F hF
    have lb0 := lost_bound hs.1 hs.2 (show 0 ≤ n by omega)
    try dsimp only at lb0
    conv => cbv
    refine r_mulf m.sX (by first | omega | (subst_vars; omega)) (by first | omega | (subst_vars; omega)) fun r1 hr1 => ?_
    conv => cbv
    refine r_addf m.sX (by omega) (by omega) fun r2 hr2 => ?_
    conv => cbv
    first | refine r_divf m.sX (by omega) (by omega) fun r3 hr3 br3 => ?_ | refine r_tdivf m.sX (by omega) (by omega) fun r3 hr3 br3 => ?_
    conv => cbv
    have e3 : r3 = lost pC n := by rw [hr3, hr2, hr1]; rfl
    refine r_subf m.sX (by omega) (by omega) fun r4 hr4 => ?_
    conv => cbv
    refine r_lss m.sX (fun h1 => ?_) (fun h1 => ?_) <;> conv => cbv
    · have c1 : n ≠ needF pC sheets := fun e => by have := nd.2.1; rw [← e] at this; omega
      refine r_addf m.sX (by omega) (by omega) fun n_2 hn_2 => ?_
      conv => cbv
      refine hE _ n_2 ?_ ?_ ⟨(by (try dsimp only) <;> first | omega | rfl | (simp [*]; done) | (rw [b1]; simp [*]; done)), (by (try dsimp only) <;> first | omega | rfl | (simp [*]; done) | (rw [b2]; simp [*]; done))⟩ (by first | omega | (dsimp only; omega))
      · cbv
      · cbv
    · have c1 := nd.2.2 n b1
      try dsimp only at c1
      refine hF _ _ ?_
      conv => cbv
      exact hQ (.int .i64 n) (Eq.trans (by first | rfl | (simp only [lb, lbI, rows_cons, rows_nil, unnilT, unnil, unnilTI, unnilI]; done) | (simp only [lb, lbI, rows_cons, rows_nil, unnilT, unnil, unnilTI, unnilI]; rfl)) (congrArg (PV.int .i64) (show n = needF pC sheets from by omega)))   -- leaf 1


theorem okJobs_mem {l : List PressJob} (h : okJobs l = true) : ∀ x ∈ l, okJob x = true := by
  rw [okJobs, Bool.and_eq_true] at h
  exact List.all_eq_true.1 h.1
theorem okJobs_len {l : List PressJob} (h : okJobs l = true) : (l.length : Int) ≤ 7 := by
  rw [okJobs, Bool.and_eq_true, decide_eq_true_eq] at h
  exact h.2

def hasS (p : Press) : Prop := 0 ≤ p.2.2.1 ∧ p.2.2.1 ≤ 500
noncomputable def needAns (p : Press) (x : PressJob) : Int × Bool := if okPress p && okJob x then (needF p.2.2.1 x.2.1, true) else (0, false)
noncomputable def minsF (p : Press) (x : PressJob) : Int := p.2.1 + runF p.1 (needF p.2.2.1 x.2.1)
noncomputable def minAns (p : Press) (x : PressJob) : Int × Bool := if okPress p && okJob x then (minsF p x, true) else (0, false)
def washAns (p : Press) (a b : Int) : Int × Bool := if okPress p && (inB a 0 4 && inB b 0 4) then (washF p.2.2.2 a b, true) else (0, false)
noncomputable def paperF (s : Int) (l : List PressJob) : Int := (l.map fun x => needF s x.2.1).sum
theorem paperF_snoc (s : Int) (l : List PressJob) (x : PressJob) : paperF s (l ++ [x]) = paperF s l + needF s x.2.1 := by simp [paperF]
noncomputable def paperAns (p : Press) (l : List PressJob) : Int × Bool := if okPress p && okJobs l then (paperF p.2.2.1 l, true) else (0, false)

theorem need_bound {s x : Int} (h0 : 0 ≤ s) (h1 : s ≤ 500) (hx : 1 ≤ x) : x ≤ needF s x ∧ needF s x ≤ 2 * x + 1 := ⟨(needF_spec h0 h1 hx).1, (needF_spec h0 h1 hx).bound h0 h1 hx⟩

theorem minutes_ok (p : Press) (x : PressJob) (hp : okPress p = true) (hx : okJob x = true) : OkA Try.prog 116 [.agg (cPress p), .agg (cPressJob x)] (· = .int .i64 (minsF p x)) := by
  obtain ⟨pA, pB, pC, pD⟩ := p
  obtain ⟨xA, xB, xC⟩ := x
  try dsimp only at *
  exact fn_intro envOk fieldsOk mixed Try.func116 rfl fun κ X Y L Q m hQ => by
    have s1 := okPress_spec hp
    try dsimp only at s1
    have s2 := okJob_spec hx
    try dsimp only at s2
    have nb := need_bound s1.2.2.2.1.1 s1.2.2.2.1.2 s2.2.1.1
    try dsimp only at nb
    conv => cbv
    refine r_draw m (by kernel_rfl) ?_
    conv => cbv
    refine r_callFS (PV.int .i64) m.sY (sheets_ok (pA, pB, pC, pD) (xA, xB, xC) (by first | rfl | assumption | omega | (simp only [List.length_append, List.length_cons, List.length_nil] at *; omega)) (by first | rfl | assumption | omega | (simp only [List.length_append, List.length_cons, List.length_nil] at *; omega))) trivial fun r1 hr1 => ?_
    conv => cbv
    try dsimp only at hr1
    refine r_mulf m.sY (by first | omega | (subst_vars; omega)) (by first | omega | (subst_vars; omega)) fun r2 hr2 => ?_
    conv => cbv
    refine r_addf m.sY (by omega) (by omega) fun r3 hr3 => ?_
    conv => cbv
    refine r_subf m.sY (by omega) (by omega) fun r4 hr4 => ?_
    conv => cbv
    first | refine r_divf m.sY (by omega) (by omega) fun r5 hr5 br5 => ?_ | refine r_tdivf m.sY (by omega) (by omega) fun r5 hr5 br5 => ?_
    conv => cbv
    refine r_addf m.sY (by omega) (by omega) fun r6 hr6 => ?_
    conv => cbv
    exact hQ (.int .i64 r6) (Eq.trans (by first | rfl | (simp only [lb, lbI, rows_cons, rows_nil, unnilT, unnil, unnilTI, unnilI]; done) | (simp only [lb, lbI, rows_cons, rows_nil, unnilT, unnil, unnilTI, unnilI]; rfl)) (congrArg (PV.int .i64) (show r6 = minsF (pA, pB, pC, pD) (xA, xB, xC) from by simp [minsF, runF, *])))   -- leaf 1

theorem prMinutes_ok (p : Press) (x : PressJob) (hp : okPress p = true) (hx : okJob x = true) : OkA Try.prog 144 [.agg (cPress p), .agg (cPressJob x)] (· = .int .i64 (minsF p x)) := by
  obtain ⟨pA, pB, pC, pD⟩ := p
  obtain ⟨xA, xB, xC⟩ := x
  try dsimp only at *
  exact fn_intro envOk fieldsOk mixed Try.func144 rfl fun κ X Y L Q m hQ => by
    have s1 := okPress_spec hp
    try dsimp only at s1
    have s2 := okJob_spec hx
    try dsimp only at s2
    have nb := need_bound s1.2.2.2.1.1 s1.2.2.2.1.2 s2.2.1.1
    try dsimp only at nb
    conv => cbv
    refine r_draw m (by kernel_rfl) ?_
    conv => cbv
    refine r_callFS (PV.int .i64) m.sY (prNeeded_ok (pA, pB, pC, pD) xB (by first | rfl | assumption | omega | (simp only [List.length_append, List.length_cons, List.length_nil] at *; omega)) (by first | rfl | assumption | omega | (simp only [List.length_append, List.length_cons, List.length_nil] at *; omega))) trivial fun r1 hr1 => ?_
    conv => cbv
    try dsimp only at hr1
    refine r_mulf m.sY (by first | omega | (subst_vars; omega)) (by first | omega | (subst_vars; omega)) fun r2 hr2 => ?_
    conv => cbv
    refine r_addf m.sY (by omega) (by omega) fun r3 hr3 => ?_
    conv => cbv
    refine r_subf m.sY (by omega) (by omega) fun r4 hr4 => ?_
    conv => cbv
    first | refine r_divf m.sY (by omega) (by omega) fun r5 hr5 br5 => ?_ | refine r_tdivf m.sY (by omega) (by omega) fun r5 hr5 br5 => ?_
    conv => cbv
    refine r_addf m.sY (by omega) (by omega) fun r6 hr6 => ?_
    conv => cbv
    exact hQ (.int .i64 r6) (Eq.trans (by first | rfl | (simp only [lb, lbI, rows_cons, rows_nil, unnilT, unnil, unnilTI, unnilI]; done) | (simp only [lb, lbI, rows_cons, rows_nil, unnilT, unnil, unnilTI, unnilI]; rfl)) (congrArg (PV.int .i64) (show r6 = minsF (pA, pB, pC, pD) (xA, xB, xC) from by simp [minsF, runF, *])))   -- leaf 1

theorem JobMinutes_ok (p : Press) (x : PressJob)  : OkA Try.prog 47 [.agg (cPress p), .agg (cPressJob x)] (· = ib (minAns p x)) := by
  obtain ⟨pA, pB, pC, pD⟩ := p
  obtain ⟨xA, xB, xC⟩ := x
  try dsimp only at *
  exact fn_intro envOk fieldsOk mixed Try.func47 rfl fun κ X Y L Q m hQ => by
    conv => cbv
    refine r_callB m.sX (IsPress_ok (pA, pB, pC, pD)) (fun h1 => ?_) (fun h1 => ?_) <;> conv => cbv
    · refine r_callB m.sX (isPressJob_ok (xA, xB, xC)) (fun h2 => ?_) (fun h2 => ?_) <;> conv => cbv
      · refine r_callF (PV.int .i64) m.sX (minutes_ok (pA, pB, pC, pD) (xA, xB, xC) (by first | rfl | assumption | omega | (simp only [List.length_append, List.length_cons, List.length_nil] at *; omega)) (by first | rfl | assumption | omega | (simp only [List.length_append, List.length_cons, List.length_nil] at *; omega))) fun r1 hr1 => ?_
        conv => cbv
        try dsimp only at hr1
        exact hQ (.tup [.int .i64 r1, .bool true]) (Eq.trans (by first | rfl | (simp only [lb, lbI, rows_cons, rows_nil, unnilT, unnil, unnilTI, unnilI]; done) | (simp only [lb, lbI, rows_cons, rows_nil, unnilT, unnil, unnilTI, unnilI]; rfl)) (congrArg (ib) (show (r1, true) = minAns (pA, pB, pC, pD) (xA, xB, xC) from by simp [minAns, *])))   -- leaf 1
      · exact hQ (.tup [.int .i64 0, .bool false]) (Eq.trans (by first | rfl | (simp only [lb, lbI, rows_cons, rows_nil, unnilT, unnil, unnilTI, unnilI]; done) | (simp only [lb, lbI, rows_cons, rows_nil, unnilT, unnil, unnilTI, unnilI]; rfl)) (congrArg (ib) (show (0, false) = minAns (pA, pB, pC, pD) (xA, xB, xC) from by simp [minAns, *])))   -- leaf 2
    · exact hQ (.tup [.int .i64 0, .bool false]) (Eq.trans (by first | rfl | (simp only [lb, lbI, rows_cons, rows_nil, unnilT, unnil, unnilTI, unnilI]; done) | (simp only [lb, lbI, rows_cons, rows_nil, unnilT, unnil, unnilTI, unnilI]; rfl)) (congrArg (ib) (show (0, false) = minAns (pA, pB, pC, pD) (xA, xB, xC) from by simp [minAns, *])))   -- leaf 3

theorem wash_ok (p : Press) (from_ : Int) (to_ : Int) (hp : okPress p = true) (ha : 0 ≤ from_ ∧ from_ ≤ 4) : OkA Try.prog 142 [.agg (cPress p), .int .i64 from_, .int .i64 to_] (· = .int .i64 (washF p.2.2.2 from_ to_)) := by
  obtain ⟨pA, pB, pC, pD⟩ := p
  try dsimp only at *
  exact fn_intro envOk fieldsOk mixed Try.func142 rfl fun κ X Y L Q m hQ => by
    have s1 := okPress_spec hp
    try dsimp only at s1
    conv => cbv
    refine r_lss m.sX (fun h1 => ?_) (fun h1 => ?_) <;> conv => cbv
    · refine r_index m.sX (by omega) (by omega) fun x1 hx1 => ?_
      conv => cbv
      have mx1 := get_mem hx1
      have vx1 := nth_some hx1
      have bx1 := s1.1 _ mx1
      try dsimp only at bx1
      exact hQ (.int .i64 x1) (Eq.trans (by first | rfl | (simp only [lb, lbI, rows_cons, rows_nil, unnilT, unnil, unnilTI, unnilI]; done) | (simp only [lb, lbI, rows_cons, rows_nil, unnilT, unnil, unnilTI, unnilI]; rfl)) (congrArg (PV.int .i64) (show x1 = washF pD from_ to_ from by rw [washF, if_neg (by omega), if_pos (by omega), hx1]; rfl)))   -- leaf 1
    · refine r_gtr m.sX (fun h2 => ?_) (fun h2 => ?_) <;> conv => cbv
      · refine r_index m.sX (by omega) (by omega) fun x2 hx2 => ?_
        conv => cbv
        have mx2 := get_mem hx2
        have vx2 := nth_some hx2
        have bx2 := s1.1 _ mx2
        try dsimp only at bx2
        refine r_addf m.sX (by omega) (by omega) fun r1 hr1 => ?_
        conv => cbv
        first | refine r_divf m.sX (by omega) (by omega) fun r2 hr2 br2 => ?_ | refine r_tdivf m.sX (by omega) (by omega) fun r2 hr2 br2 => ?_
        conv => cbv
        exact hQ (.int .i64 r2) (Eq.trans (by first | rfl | (simp only [lb, lbI, rows_cons, rows_nil, unnilT, unnil, unnilTI, unnilI]; done) | (simp only [lb, lbI, rows_cons, rows_nil, unnilT, unnil, unnilTI, unnilI]; rfl)) (congrArg (PV.int .i64) (show r2 = washF pD from_ to_ from by rw [washF, if_neg (by omega), if_neg (by omega), hx2]; dsimp only [Option.getD_some]; omega)))   -- leaf 2
      · exact hQ (.int .i64 0) (Eq.trans (by first | rfl | (simp only [lb, lbI, rows_cons, rows_nil, unnilT, unnil, unnilTI, unnilI]; done) | (simp only [lb, lbI, rows_cons, rows_nil, unnilT, unnil, unnilTI, unnilI]; rfl)) (congrArg (PV.int .i64) (show 0 = washF pD from_ to_ from by rw [washF, if_pos (by omega)])))   -- leaf 3

theorem prWash_ok (p : Press) (from_ : Int) (to_ : Int) (hp : okPress p = true) (ha : 0 ≤ from_ ∧ from_ ≤ 4) : OkA Try.prog 143 [.agg (cPress p), .int .i64 from_, .int .i64 to_] (· = .int .i64 (washF p.2.2.2 from_ to_)) := by
  obtain ⟨pA, pB, pC, pD⟩ := p
  try dsimp only at *
  exact fn_intro envOk fieldsOk mixed Try.func143 rfl fun κ X Y L Q m hQ => by
    have s1 := okPress_spec hp
    try dsimp only at s1
    conv => cbv
    refine r_eql m.sX (fun h1 => ?_) (fun h1 => ?_) <;> conv => cbv
    · exact hQ (.int .i64 0) (Eq.trans (by first | rfl | (simp only [lb, lbI, rows_cons, rows_nil, unnilT, unnil, unnilTI, unnilI]; done) | (simp only [lb, lbI, rows_cons, rows_nil, unnilT, unnil, unnilTI, unnilI]; rfl)) (congrArg (PV.int .i64) (show 0 = washF pD from_ to_ from by rw [washF, if_pos (by omega)])))   -- leaf 1
    · refine r_lss m.sX (fun h2 => ?_) (fun h2 => ?_) <;> conv => cbv
      · refine r_index m.sX (by omega) (by omega) fun x1 hx1 => ?_
        conv => cbv
        have mx1 := get_mem hx1
        have vx1 := nth_some hx1
        have bx1 := s1.1 _ mx1
        try dsimp only at bx1
        exact hQ (.int .i64 x1) (Eq.trans (by first | rfl | (simp only [lb, lbI, rows_cons, rows_nil, unnilT, unnil, unnilTI, unnilI]; done) | (simp only [lb, lbI, rows_cons, rows_nil, unnilT, unnil, unnilTI, unnilI]; rfl)) (congrArg (PV.int .i64) (show x1 = washF pD from_ to_ from by rw [washF, if_neg (by omega), if_pos (by omega), hx1]; rfl)))   -- leaf 2
      · refine r_index m.sX (by omega) (by omega) fun x2 hx2 => ?_
        conv => cbv
        have mx2 := get_mem hx2
        have vx2 := nth_some hx2
        have bx2 := s1.1 _ mx2
        try dsimp only at bx2
        refine r_addf m.sX (by omega) (by omega) fun r1 hr1 => ?_
        conv => cbv
        first | refine r_divf m.sX (by omega) (by omega) fun r2 hr2 br2 => ?_ | refine r_tdivf m.sX (by omega) (by omega) fun r2 hr2 br2 => ?_
        conv => cbv
        exact hQ (.int .i64 r2) (Eq.trans (by first | rfl | (simp only [lb, lbI, rows_cons, rows_nil, unnilT, unnil, unnilTI, unnilI]; done) | (simp only [lb, lbI, rows_cons, rows_nil, unnilT, unnil, unnilTI, unnilI]; rfl)) (congrArg (PV.int .i64) (show r2 = washF pD from_ to_ from by rw [washF, if_neg (by omega), if_neg (by omega), hx2]; dsimp only [Option.getD_some]; omega)))   -- leaf 3

def leastStep (C : List Int → Int) (n : Nat) (a : List Int × Int) (o : List Int) : List Int × Int := if o.length < n then a else if a.2 < 0 ∨ C o < a.2 then (o, C o) else a
def leastF (C : List Int → Int) (n : Nat) : List Int × Int := (ordersF n n []).foldl (leastStep C n) ([], -1)
/-- The reference's search. -/
def prS (C : List Int → Int) (n : Nat) : Nat → List Int → List Int × Int × Bool → List Int × Int × Bool
  | 0, o, a => if a.2.2 = true ∧ a.2.1 ≤ C o then (a.1, a.2.1, true) else (o, C o, true)
  | k + 1, o, a => if a.2.2 = true ∧ a.2.1 ≤ C o then (a.1, a.2.1, true) else
      (List.range n).foldl (fun b (i : Nat) => if (i : Int) ∈ o then b else prS C n k (o ++ [(i : Int)]) b) a
structure IsCost (C : List Int → Int) : Prop where
  pos : ∀ o, 0 ≤ C o
  mono : ∀ o s, C o ≤ C (o ++ s)
theorem least_keep {C : List Int → Int} {n : Nat} : ∀ {ps : List (List Int)} {a : List Int × Int}, 0 ≤ a.2 → (∀ p ∈ ps, p.length < n ∨ a.2 ≤ C p) → ps.foldl (leastStep C n) a = a
  | [], _, _, _ => rfl
  | p :: r, a, ha, h => by
    rw [List.foldl_cons]
    have e : leastStep C n a p = a := by
      unfold leastStep
      split
      · rfl
      · rename_i hc
        exact if_neg fun hd => by rcases h p (by simp) with h1 | h1 <;> omega
    rw [e]
    exact least_keep ha fun q hq => h q (List.mem_cons_of_mem _ hq)
def LeastRel (a : List Int × Int) (s : List Int × Int × Bool) : Prop := (a.2 < 0 ∧ s.2.2 = false) ∨ (0 ≤ a.2 ∧ s = (a.1, a.2, true))
theorem least_rel {C : List Int → Int} {n : Nat} (hC : IsCost C) : ∀ (k : Nat) (o : List Int) (a : List Int × Int) (s : List Int × Int × Bool), o.length + k = n → LeastRel a s → LeastRel ((ordersF n k o).foldl (leastStep C n) a) (prS C n k o s)
  | 0, o, a, s, hk, hr => by
    have hp := hC.pos o
    rw [ordersF, List.foldl_cons, List.foldl_nil, prS, leastStep, if_neg (by omega)]
    rcases hr with ⟨h1, h2⟩ | ⟨h1, rfl⟩
    · rw [if_pos (.inl h1), if_neg (by rw [h2]; simp)]
      exact .inr ⟨hp, rfl⟩
    · by_cases hc : C o < a.2
      · rw [if_pos (.inr hc), if_neg (fun e => by have := e.2; dsimp only at this; omega)]
        exact .inr ⟨hp, rfl⟩
      · rw [if_neg (by omega), if_pos ⟨rfl, by dsimp only; omega⟩]
        exact .inr ⟨h1, rfl⟩
  | k + 1, o, a, s, hk, hr => by
    rw [ordersF, List.foldl_cons, prS]
    have e0 : leastStep C n a o = a := if_pos (by omega)
    rw [e0]
    by_cases hc : s.2.2 = true ∧ s.2.1 ≤ C o
    · rw [if_pos hc]
      rcases hr with ⟨h1, h2⟩ | ⟨h1, rfl⟩
      · rw [h2] at hc; exact absurd hc.1 (by simp)
      · rw [least_keep h1 fun p hp => ?_]
        · exact .inr ⟨h1, rfl⟩
        · obtain ⟨i, -, hi⟩ := List.mem_flatMap.1 hp
          split at hi
          · simp at hi
          · obtain ⟨t, rfl, -⟩ := orders_ext _ _ _ _ hi
            have := hC.mono o ([(i : Int)] ++ t)
            rw [← List.append_assoc] at this
            have h2 := hc.2
            dsimp only at h2
            exact .inr (by omega)
    · rw [if_neg hc, List.foldl_flatMap]
      refine foldl_rel (R := LeastRel) (fun a s i hr => ?_) _ _ _ hr
      split
      · exact hr
      · exact least_rel hC k _ _ _ (by simp only [List.length_append, List.length_cons, List.length_nil]; omega) hr
theorem least_inv {C : List Int → Int} {n : Nat} (hC : IsCost C) : ∀ (ps : List (List Int)) (a : List Int × Int), (0 ≤ a.2 → 0 ≤ (ps.foldl (leastStep C n) a).2 ∧ (ps.foldl (leastStep C n) a).2 ≤ a.2) ∧
    (∀ p ∈ ps, n ≤ p.length → 0 ≤ (ps.foldl (leastStep C n) a).2 ∧ (ps.foldl (leastStep C n) a).2 ≤ C p) ∧
    (ps.foldl (leastStep C n) a = a ∨ ∃ p ∈ ps, n ≤ p.length ∧ ps.foldl (leastStep C n) a = (p, C p))
  | [], a => ⟨fun h => ⟨h, Int.le_refl _⟩, (fun p hp => by cases hp), .inl rfl⟩
  | p :: r, a => by
    rw [List.foldl_cons]
    obtain ⟨h1, h2, h3⟩ := least_inv (n := n) hC r (leastStep C n a p)
    have hp := hC.pos p
    have h4 : (0 ≤ a.2 → 0 ≤ (leastStep C n a p).2 ∧ (leastStep C n a p).2 ≤ a.2) ∧ (n ≤ p.length → 0 ≤ (leastStep C n a p).2 ∧ (leastStep C n a p).2 ≤ C p) ∧ (leastStep C n a p = a ∨ (n ≤ p.length ∧ leastStep C n a p = (p, C p))) := by
      unfold leastStep
      split
      · rename_i hc; exact ⟨fun h => ⟨h, Int.le_refl _⟩, fun h => by omega, .inl rfl⟩
      · rename_i hc
        split
        · rename_i hd
          refine ⟨fun h => ⟨hp, ?_⟩, fun _ => ⟨hp, Int.le_refl _⟩, .inr ⟨by omega, rfl⟩⟩
          show C p ≤ a.2
          omega
        · rename_i hd
          exact ⟨fun h => ⟨h, Int.le_refl _⟩, fun _ => by omega, .inl rfl⟩
    refine ⟨fun ha => ?_, fun q hq hlq => ?_, ?_⟩
    · have := h4.1 ha
      have := h1 this.1
      omega
    · rcases List.mem_cons.1 hq with rfl | hq
      · have := h4.2.1 hlq
        have := h1 this.1
        omega
      · exact h2 q hq hlq
    · rcases h3 with h3 | ⟨q, hq, h5, h6⟩
      · rw [h3]
        rcases h4.2.2 with h5 | ⟨h5, h6⟩
        · exact .inl h5
        · exact .inr ⟨p, by simp, h5, h6⟩
      · exact .inr ⟨q, List.mem_cons_of_mem _ hq, h5, h6⟩
/-- What is known of the first order with the least cost. -/
theorem leastF_spec {C : List Int → Int} {n : Nat} (hC : IsCost C) : Diff n (leastF C n).1 ∧ (leastF C n).1.length = n ∧ (leastF C n).2 = C (leastF C n).1 ∧ ∀ p, Diff n p → p.length = n → (leastF C n).2 ≤ C p := by
  obtain ⟨h1, h2, h3⟩ := least_inv (n := n) hC (ordersF n n []) ([], -1)
  have hu := upto_diff n
  have hmem := orders_all n n [] (upto n) (by simpa using hu.1) (by omega)
  have h4 := h2 _ (by simpa using hmem) (by omega)
  have e : ∃ p ∈ ordersF n n [], n ≤ p.length ∧ leastF C n = (p, C p) := by
    rcases h3 with h3 | h3
    · rw [h3] at h4; have := h4.1; simp at this
    · exact h3
  obtain ⟨p, hp, hpl, e⟩ := e
  obtain ⟨s, es, hs⟩ := orders_ext _ _ _ _ hp
  refine ⟨by rw [e]; exact orders_diff _ _ _ _ (diff_nil _) hp, by rw [e]; show p.length = n; rw [es] at hpl ⊢; simp at hpl ⊢; omega, by rw [e], fun q hq hql => ?_⟩
  have := orders_all n n [] q (by simpa using hq) (by omega)
  exact (h2 q (by simpa using this) (by omega)).2
theorem prS_eq {C : List Int → Int} {n : Nat} (hC : IsCost C) : prS C n n [] ([], 0, false) = ((leastF C n).1, (leastF C n).2, true) := by
  have h := least_rel (n := n) hC n [] ([], -1) ([], 0, false) (by simp) (.inl ⟨by decide, rfl⟩)
  have h2 := (leastF_spec (n := n) hC).2.2.1
  have h3 := hC.pos (leastF C n).1
  rcases h with ⟨h4, -⟩ | ⟨-, h5⟩
  · have : (leastF C n).2 < 0 := h4
    omega
  · exact h5

/-! ### Runs of a press -/
def jobAt (l : List PressJob) (i : Int) : PressJob := (l[i.toNat]?).getD (0, 0, 0)
theorem jobAt_some {l : List PressJob} {i : Int} {x : PressJob} (h : l[i.toNat]? = some x) : jobAt l i = x := by rw [jobAt, h]; rfl
noncomputable def endAt (p : Press) (l : List PressJob) (k t i : Int) : Int := t + (washF p.2.2.2 k (jobAt l i).1 + minsF p (jobAt l i))
noncomputable def endsP (p : Press) (l : List PressJob) : Int → Int → List Int → List Int
  | _, _, [] => []
  | k, t, i :: r => endAt p l k t i :: endsP p l (jobAt l i).1 (endAt p l k t i) r
def washP (p : Press) (l : List PressJob) : Int → List Int → Int
  | _, [] => 0
  | k, i :: r => washF p.2.2.2 k (jobAt l i).1 + washP p l (jobAt l i).1 r
theorem endsP_length (p : Press) (l : List PressJob) : ∀ (o : List Int) (k t : Int), (endsP p l k t o).length = o.length
  | [], _, _ => rfl
  | i :: r, k, t => by simp [endsP, endsP_length p l r]
noncomputable def lateD (l : List PressJob) (z : List (Int × Int)) : Int := z.foldl (fun m x => max m (x.1 - (jobAt l x.2).2.2)) 0
noncomputable def delayP (p : Press) (l : List PressJob) (k : Int) (o : List Int) : Int := lateD l ((endsP p l k 0 o).zip o)
theorem fold_max_le {α : Type} (g : α → Int) : ∀ (s : List α) (m : Int), m ≤ s.foldl (fun m x => max m (g x)) m
  | [], m => Int.le_refl _
  | x :: r, m => by
    have := fold_max_le g r (max m (g x))
    rw [List.foldl_cons]; omega
theorem fold_max_mem {α : Type} (g : α → Int) : ∀ (s : List α) (m : Int), ∀ x ∈ s, g x ≤ s.foldl (fun m x => max m (g x)) m
  | [], m, x, hx => by cases hx
  | y :: r, m, x, hx => by
    rw [List.foldl_cons]
    rcases List.mem_cons.1 hx with rfl | hx
    · have := fold_max_le g r (max m (g x)); omega
    · exact fold_max_mem g r _ x hx
theorem fold_max_pos {α : Type} (g : α → Int) : ∀ (s : List α) (m : Int), s.foldl (fun m x => max m (g x)) m = m ∨ ∃ x ∈ s, s.foldl (fun m x => max m (g x)) m = g x
  | [], m => .inl rfl
  | y :: r, m => by
    rw [List.foldl_cons]
    rcases fold_max_pos g r (max m (g y)) with h | ⟨x, hx, h⟩
    · rw [h]
      rcases Int.le_total m (g y) with h2 | h2
      · exact .inr ⟨y, by simp, by omega⟩
      · exact .inl (by omega)
    · exact .inr ⟨x, by simp [hx], h⟩
def inkBy (l : List PressJob) : Int → List Int → Int
  | k, [] => k
  | _, i :: r => inkBy l (jobAt l i).1 r
noncomputable def lastBy (p : Press) (l : List PressJob) : Int → Int → List Int → Int
  | _, t, [] => t
  | k, t, i :: r => lastBy p l (jobAt l i).1 (endAt p l k t i) r
theorem endsP_append (p : Press) (l : List PressJob) : ∀ (o : List Int) (k t : Int) (s : List Int), endsP p l k t (o ++ s) = endsP p l k t o ++ endsP p l (inkBy l k o) (lastBy p l k t o) s
  | [], _, _, _ => rfl
  | i :: r, k, t, s => by rw [List.cons_append, endsP, endsP, endsP_append p l r, List.cons_append, inkBy, lastBy]
theorem washP_append (p : Press) (l : List PressJob) : ∀ (o : List Int) (k : Int) (s : List Int), washP p l k (o ++ s) = washP p l k o + washP p l (inkBy l k o) s
  | [], _, _ => by simp [washP, inkBy]
  | i :: r, k, s => by rw [List.cons_append, washP, washP, washP_append p l r, inkBy]; omega
theorem washF_pos {w : List Int} (h : ∀ n ∈ w, 0 ≤ n ∧ n ≤ 300) (a b : Int) : 0 ≤ washF w a b ∧ washF w a b ≤ 300 := by
  have h2 : 0 ≤ (w[a.toNat]?).getD 0 ∧ (w[a.toNat]?).getD 0 ≤ 300 := by
    cases e : w[a.toNat]? with
    | none => simp
    | some n => have := h n (List.mem_of_getElem? e); simpa using this
  unfold washF
  split
  · omega
  · split
    · exact h2
    · omega
theorem washP_pos {p : Press} {l : List PressJob} (h : ∀ n ∈ p.2.2.2, 0 ≤ n ∧ n ≤ 300) : ∀ (o : List Int) (k : Int), 0 ≤ washP p l k o ∧ washP p l k o ≤ 300 * o.length
  | [], _ => by simp [washP]
  | i :: r, k => by
    have h1 := washP_pos (l := l) h r (jobAt l i).1
    have h2 := washF_pos h k (jobAt l i).1
    rw [washP]
    simp only [List.length_cons]
    omega
theorem wash_cost {p : Press} (l : List PressJob) (k : Int) (h : okPress p = true) : IsCost (washP p l k) :=
  ⟨fun o => (washP_pos (okPress_spec h).1 o k).1, fun o s => by
    rw [washP_append]
    have := (washP_pos (l := l) (okPress_spec h).1 s (inkBy l k o)).1
    omega⟩
theorem delay_cost (p : Press) (l : List PressJob) (k : Int) : IsCost (delayP p l k) :=
  ⟨fun o => fold_max_le _ _ _, fun o s => by
    unfold delayP lateD
    rw [endsP_append, List.zip_append (endsP_length p l o k 0), List.foldl_append]
    exact fold_max_le _ _ _⟩
/-- Which jobs are late. -/
noncomputable def lateP (p : Press) (l : List PressJob) (k : Int) (o : List Int) : List Int := (((endsP p l k 0 o).zip o).filter fun x => decide ((jobAt l x.2).2.2 < x.1)).map (·.2)
theorem late_any {p : Press} {l : List PressJob} {k : Int} {o : List Int} : 0 < delayP p l k o ↔ lateP p l k o ≠ [] := by
  unfold delayP lateD lateP
  constructor
  · intro h
    rcases fold_max_pos (fun x : Int × Int => x.1 - (jobAt l x.2).2.2) ((endsP p l k 0 o).zip o) 0 with h1 | ⟨x, hx, h1⟩
    · omega
    · intro e
      have hm : x.2 ∈ (((endsP p l k 0 o).zip o).filter fun x => decide ((jobAt l x.2).2.2 < x.1)).map (·.2) := List.mem_map.2 ⟨x, List.mem_filter.2 ⟨hx, by simp; omega⟩, rfl⟩
      rw [e] at hm; cases hm
  · intro h
    obtain ⟨y, hy⟩ := List.exists_mem_of_ne_nil _ h
    obtain ⟨x, hx, rfl⟩ := List.mem_map.1 hy
    have h1 := List.mem_filter.1 hx
    have h2 := fold_max_mem (fun x : Int × Int => x.1 - (jobAt l x.2).2.2) _ 0 x h1.1
    have h3 := h1.2
    simp at h3
    omega
/-- With different numbers, a number is late just if its end is. -/
theorem late_mem {p : Press} {l : List PressJob} {k : Int} {o : List Int} (hd : o.Nodup) {j : Nat} {i e : Int} (hi : o[j]? = some i) (he : (endsP p l k 0 o)[j]? = some e) : i ∈ lateP p l k o ↔ (jobAt l i).2.2 < e := by
  unfold lateP
  constructor
  · intro h
    obtain ⟨x, hx, hx2⟩ := List.mem_map.1 h
    obtain ⟨h1, h2⟩ := List.mem_filter.1 hx
    obtain ⟨q, hq⟩ := List.getElem?_of_mem h1
    rw [List.getElem?_zip_eq_some] at hq
    have e1 : q = j := by
      have hlq := (List.getElem?_eq_some_iff.1 hq.2).1
      have hlj := (List.getElem?_eq_some_iff.1 hi).1
      refine (List.getElem?_inj hlq hd).1 ?_
      rw [hq.2, hi, hx2]
    subst e1
    have e2 : x.1 = e := Option.some.inj (hq.1.symm.trans he)
    simp at h2
    rw [← e2, ← hx2]; exact h2
  · intro h
    refine List.mem_map.2 ⟨(e, i), List.mem_filter.2 ⟨?_, by simpa using h⟩, rfl⟩
    refine List.mem_of_getElem? (i := j) ?_
    rw [List.getElem?_zip_eq_some]
    exact ⟨he, hi⟩
theorem late_nodup {p : Press} {l : List PressJob} {k : Int} {o : List Int} (hd : o.Nodup) : (lateP p l k o).Nodup := by
  unfold lateP
  have h : (((endsP p l k 0 o).zip o).map (·.2)) = o := by
    rw [List.map_snd_zip]; rw [endsP_length]; exact Nat.le_refl _
  refine List.Nodup.sublist (List.Sublist.map _ (List.filter_sublist)) ?_
  rw [h]; exact hd

end Go.Proofs.Ytjmjepdlclehoaa.Ai
