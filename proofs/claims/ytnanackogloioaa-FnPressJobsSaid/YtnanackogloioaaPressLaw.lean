/- Plain laws on presses: the sheets that are needed, minutes. -/
import Derived.Test.YtnanackogloioaaCommon
namespace Go.Proofs.Ytnanackogloioaa.Ai
open Go Go.Proofs
set_option linter.unusedVariables false

abbrev Press := Int × Int × Int × List Int
abbrev PressJob := Int × Int × Int
noncomputable def cPress (p : Press) : List PV := [.int .i64 p.1, .int .i64 p.2.1, .int .i64 p.2.2.1, .isl 1 (rows cInt p.2.2.2)]
def cPressJob (x : PressJob) : List PV := [.int .i64 x.1, .int .i64 x.2.1, .int .i64 x.2.2]

def okJob (x : PressJob) : Bool := inB x.1 0 4 && (inB x.2.1 1 20000 && inB x.2.2 0 100000)
def okPress (p : Press) : Bool := allB p.2.2.2 0 300 && (inB p.1 1 5000 && (inB p.2.1 0 600 && (inB p.2.2.1 0 500 && decide ((p.2.2.2.length : Int) = 5))))

theorem okPress_spec {p : Press} (h : okPress p = true) : (∀ n ∈ p.2.2.2, 0 ≤ n ∧ n ≤ 300) ∧ (1 ≤ p.1 ∧ p.1 ≤ 5000) ∧ (0 ≤ p.2.1 ∧ p.2.1 ≤ 600) ∧ (0 ≤ p.2.2.1 ∧ p.2.2.1 ≤ 500) ∧ (p.2.2.2.length : Int) = 5 := by
  simp only [okPress, Bool.and_eq_true, decide_eq_true_eq] at h
  exact ⟨allB_mem h.1, inB_spec h.2.1, inB_spec h.2.2.1, inB_spec h.2.2.2.1, h.2.2.2.2⟩
theorem okJob_spec {x : PressJob} (h : okJob x = true) : (0 ≤ x.1 ∧ x.1 ≤ 4) ∧ (1 ≤ x.2.1 ∧ x.2.1 ≤ 20000) ∧ (0 ≤ x.2.2 ∧ x.2.2 ≤ 100000) := by
  simp only [okJob, Bool.and_eq_true] at h
  exact ⟨inB_spec h.1, inB_spec h.2.1, inB_spec h.2.2⟩

/-- What is lost of n sheets. -/
def lost (s n : Int) : Int := (s * n + 999) / 1000
/-- n is the least number of sheets of which enough are good. -/
def Needed (s x n : Int) : Prop := x ≤ n ∧ x ≤ n - lost s n ∧ ∀ k, x ≤ k → k < n → k - lost s k < x

theorem Needed.unique {s x n m : Int} (h : Needed s x n) (k : Needed s x m) : n = m := by
  rcases Int.lt_trichotomy n m with hlt | he | hlt
  · have := k.2.2 n h.1 hlt
    have := h.2.1
    omega
  · exact he
  · have := h.2.2 m k.1 hlt
    have := k.2.1
    omega

theorem lost_bound {s n : Int} (h0 : 0 ≤ s) (h1 : s ≤ 500) (hn : 0 ≤ n) : 0 ≤ s * n ∧ s * n ≤ 500 * n ∧ 0 ≤ lost s n ∧ 2 * lost s n ≤ n + 1 := by
  have a1 := Int.mul_nonneg h0 hn
  have a2 := Int.mul_le_mul_of_nonneg_right h1 hn
  refine ⟨a1, a2, ?_, ?_⟩
  · exact Int.ediv_nonneg (by omega) (by omega)
  · unfold lost
    omega

theorem Needed.bound {s x n : Int} (h0 : 0 ≤ s) (h1 : s ≤ 500) (hx : 1 ≤ x) (h : Needed s x n) : n ≤ 2 * x + 1 := by
  rcases Int.lt_or_le (2 * x + 1) n with hlt | hle
  · have h2 := h.2.2 (2 * x + 1) (by omega) hlt
    have := (lost_bound h0 h1 (show 0 ≤ 2 * x + 1 by omega)).2.2.2
    omega
  · exact hle

theorem needed_ex {s x : Int} (h0 : 0 ≤ s) (h1 : s ≤ 500) (hx : 1 ≤ x) : ∀ (fuel : Nat) (n : Int), x ≤ n → (∀ k, x ≤ k → k < n → k - lost s k < x) → 2 * x + 1 ≤ n + fuel → ∃ n, Needed s x n
  | 0, n, a1, a2, a3 => by
    have h2 := (lost_bound h0 h1 (show 0 ≤ 2 * x + 1 by omega)).2.2.2
    rcases Int.lt_or_le (2 * x + 1) n with hlt | hle
    · have := a2 (2 * x + 1) (by omega) hlt
      omega
    · exact ⟨n, a1, by rw [show n = 2 * x + 1 by omega]; omega, a2⟩
  | k + 1, n, a1, a2, a3 => by
    rcases Int.lt_or_le (n - lost s n) x with hlt | hle
    · refine needed_ex h0 h1 hx k (n + 1) (by omega) (fun j b1 b2 => ?_) (by omega)
      rcases Int.lt_or_le j n with hj | hj
      · exact a2 j b1 hj
      · rw [show j = n by omega]; exact hlt
    · exact ⟨n, a1, hle, a2⟩

open Classical in
/-- The sheets that are needed. -/
noncomputable def needF (s x : Int) : Int := if h : ∃ n, Needed s x n then Classical.choose h else 0
theorem Needed.need {s x n : Int} (h : Needed s x n) : n = needF s x := by
  have hex : ∃ n, Needed s x n := ⟨n, h⟩
  rw [needF, dif_pos hex]
  exact h.unique (Classical.choose_spec hex)
theorem needF_spec {s x : Int} (h0 : 0 ≤ s) (h1 : s ≤ 500) (hx : 1 ≤ x) : Needed s x (needF s x) := by
  have hex := needed_ex h0 h1 hx (x + 1).toNat x (Int.le_refl _) (fun k a b => absurd a (by omega)) (by omega)
  rw [needF, dif_pos hex]
  exact Classical.choose_spec hex

/-- The minutes that sheets take. -/
def runF (hourly n : Int) : Int := (60 * n + hourly - 1) / hourly

theorem runF_spec {h n : Int} (hh : 1 ≤ h) (hn : 0 ≤ n) : 60 * n ≤ runF h n * h ∧ runF h n * h ≤ 60 * n + h - 1 ∧ 0 ≤ runF h n ∧ runF h n ≤ 60 * n + h - 1 := by
  have e1 := Int.mul_ediv_add_emod (60 * n + h - 1) h
  have e2 := Int.emod_nonneg (60 * n + h - 1) (show h ≠ 0 by omega)
  have e3 := Int.emod_lt_of_pos (60 * n + h - 1) (show 0 < h by omega)
  rw [Int.mul_comm] at e1
  exact ⟨by unfold runF; omega, by unfold runF; omega, Int.ediv_nonneg (by omega) (by omega), Int.ediv_le_self _ (by omega)⟩

/-- Washing from one ink to another one. -/
def washF (w : List Int) (a b : Int) : Int := if a = b then 0 else if b < a then (w[a.toNat]?).getD 0 else ((w[a.toNat]?).getD 0 + 1) / 2
end Go.Proofs.Ytnanackogloioaa.Ai
