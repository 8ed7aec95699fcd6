/- Plain laws on justified lines. -/
import Derived.Test.YtiaodmfipeoegaaCommon
namespace Go.Proofs.Ytiaodmfipeoegaa.Ai
open Go Go.Proofs
set_option linter.unusedSimpArgs false
set_option linter.unusedVariables false

/-- Least, Normal, Most. -/
abbrev JRule := Int × Int × Int
def cRule (r : JRule) : List PV := [.int .i64 r.1, .int .i64 r.2.1, .int .i64 r.2.2]
def okRule (r : JRule) : Bool := decide (1 ≤ r.1) && (decide (r.1 ≤ r.2.1) && (decide (r.2.1 ≤ r.2.2) && decide (r.2.2 ≤ 54)))
def okLine (ws : List Int) : Bool := allB ws 1 600 && inB ws.length 1 20
def askJ (ws : List Int) (r : JRule) (m : Int) : Bool := okLine ws && (okRule r && inB m 1 2000)

theorem okRule_spec {r : JRule} (h : okRule r = true) : 1 ≤ r.1 ∧ r.1 ≤ r.2.1 ∧ r.2.1 ≤ r.2.2 ∧ r.2.2 ≤ 54 := by
  simpa [okRule] using h
theorem okLine_spec {ws : List Int} (h : okLine ws = true) : (∀ n ∈ ws, 1 ≤ n ∧ n ≤ 600) ∧ 1 ≤ (ws.length : Int) ∧ (ws.length : Int) ≤ 20 := by
  simp only [okLine, allB, Bool.and_eq_true, List.all_eq_true] at h
  exact ⟨fun n hn => inB_spec (h.1 n hn), inB_spec h.2⟩

def leftF (ws : List Int) (m : Int) : Int := m - ws.sum
def gapsF (ws : List Int) : Int := ws.length - 1
def fitsJ (ws : List Int) (r : JRule) (m : Int) : Bool := inB (leftF ws m) (gapsF ws * r.1) (gapsF ws * r.2.2)
def spaceF (l g : Int) (i : Nat) : Int := l / g + if (i : Int) < l % g then 1 else 0
def spacesF (l g : Int) : List Int := (List.range g.toNat).map (spaceF l g)
def whyF (ws : List Int) (r : JRule) (m : Int) : Int := if fitsJ ws r m then 0 else if gapsF ws = 0 then 3 else if leftF ws m < gapsF ws * r.1 then 1 else 2
def costF (r : JRule) (xs : List Int) : Int := (xs.map fun n => (n - r.2.1) * (n - r.2.1)).sum

theorem spaces_sum (l g : Int) (hg : 0 < g) : (spacesF l g).sum = l := by
  have hm0 := Int.emod_nonneg l (show g ≠ 0 by omega)
  have hm1 := Int.emod_lt_of_pos l hg
  have go : ∀ k : Nat, ((List.range k).map (spaceF l g)).sum = k * (l / g) + min (k : Int) (l % g) := by
    intro k
    induction k with
    | zero => simp; omega
    | succ k ih =>
      rw [List.range_succ, List.map_append, List.sum_append, ih]
      simp only [List.map_cons, List.map_nil, List.sum_cons, List.sum_nil, spaceF, Int.natCast_add, Int.add_mul]
      split <;> simp <;> omega
  have h := go g.toNat
  rw [Int.toNat_of_nonneg (by omega)] at h
  have := Int.mul_ediv_add_emod l g
  rw [spacesF, h]
  omega

theorem space_bounds {l g a b : Int} (hg : 0 < g) (h1 : g * a ≤ l) (h2 : l ≤ g * b) (i : Nat) : a ≤ spaceF l g i ∧ spaceF l g i ≤ b := by
  have hm0 := Int.emod_nonneg l (show g ≠ 0 by omega)
  have hm1 := Int.emod_lt_of_pos l hg
  have hd := Int.mul_ediv_add_emod l g
  have ha : a ≤ l / g := Int.le_ediv_of_mul_le hg (by rw [Int.mul_comm]; exact h1)
  have hb : l / g ≤ b := Int.ediv_le_of_le_mul hg (by rw [Int.mul_comm]; exact h2)
  unfold spaceF
  split
  · rename_i hlt
    refine ⟨by omega, ?_⟩
    rcases Int.lt_or_le (l / g) b with h | h
    · omega
    · have e : l / g = b := by omega
      rw [e] at hd
      omega
  · omega

theorem space_order (l g : Int) (i j : Nat) (h : i ≤ j) : spaceF l g j ≤ spaceF l g i ∧ spaceF l g i ≤ spaceF l g j + 1 := by
  unfold spaceF
  split <;> split <;> omega
end Go.Proofs.Ytiaodmfipeoegaa.Ai
