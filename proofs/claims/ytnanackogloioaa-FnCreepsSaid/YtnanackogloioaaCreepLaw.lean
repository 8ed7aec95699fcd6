/- Plain laws on margins and creeps. -/
import Derived.Test.YtnanackogloioaaFold2
import Derived.Test.YtnanackogloioaaCommon
namespace Go.Proofs.Ytnanackogloioaa.Ai
open Go Go.Proofs
set_option linter.unusedVariables false

/-- Head, Back, Fore, Tail. -/
abbrev Margins := Int × Int × Int × Int
def cMargins (m : Margins) : List PV := [.int .i64 m.1, .int .i64 m.2.1, .int .i64 m.2.2.1, .int .i64 m.2.2.2]
def margL (m : Margins) : List Int := [m.1, m.2.1, m.2.2.1, m.2.2.2]
def okMarg (m : Margins) : Bool := allB (margL m) 0 300
def pageB (w h : Int) : Bool := inB w 60 2000 && inB h 60 2000
def thickB (fs : List Fold) (t : Int) : Bool := goodF fs && inB t 0 500

/-- The creep of a page of a sheet with p pages. -/
def crp (p t k : Int) : Int := min ((k - 1) / 2) (p / 2 - 1 - (k - 1) / 2) * t / 100
def mostF (p t : Int) : Int := crp p t (p / 2)
def crpL (p t : Int) : List Int := (List.range p.toNat).map fun i : Nat => crp p t ((i : Int) + 1)
def backL (b p t : Int) : List Int := (List.range p.toNat).map fun i : Nat => b - crp p t ((i : Int) + 1)

theorem crp_le {p t k : Int} (h1 : 1 ≤ k) (h2 : k ≤ p) (hp : p ≤ 32) (t0 : 0 ≤ t) (hx : p % 2 = 0) : crp p t k ≤ mostF p t := by
  have a : min ((k - 1) / 2) (p / 2 - 1 - (k - 1) / 2) ≤ min ((p / 2 - 1) / 2) (p / 2 - 1 - (p / 2 - 1) / 2) := by omega
  have b := Int.mul_le_mul_of_nonneg_right a t0
  simp only [mostF, crp]
  omega
theorem crp_bound {p t k : Int} (h1 : 1 ≤ k) (h2 : k ≤ p) (hp : p ≤ 32) (t0 : 0 ≤ t) (t1 : t ≤ 500) (hx : p % 2 = 0) : 0 ≤ crp p t k ∧ crp p t k ≤ 80 := by
  have a : 0 ≤ min ((k - 1) / 2) (p / 2 - 1 - (k - 1) / 2) ∧ min ((k - 1) / 2) (p / 2 - 1 - (k - 1) / 2) ≤ 16 := by omega
  have b := Int.mul_nonneg a.1 t0
  have c := Int.mul_le_mul_of_nonneg_right a.2 t0
  simp only [crp]
  omega
theorem most_bound {p t : Int} (h1 : 2 ≤ p) (hp : p ≤ 32) (t0 : 0 ≤ t) (t1 : t ≤ 500) (hx : p % 2 = 0) : 0 ≤ mostF p t ∧ mostF p t ≤ 80 :=
  crp_bound (k := p / 2) (by omega) (by omega) hp t0 t1 hx
theorem crpL_mem {p t : Int} {x : Int} (h : x ∈ crpL p t) : ∃ k, 1 ≤ k ∧ k ≤ p ∧ x = crp p t k := by
  simp only [crpL, List.mem_map, List.mem_range] at h
  obtain ⟨i, hi, e⟩ := h
  exact ⟨(i : Int) + 1, by omega, by omega, e.symm⟩
theorem crpL_most {p t : Int} (h : 2 ≤ p) : mostF p t ∈ crpL p t := by
  simp only [crpL, List.mem_map, List.mem_range]
  exact ⟨(p / 2 - 1).toNat, by omega, by rw [mostF]; congr 1; omega⟩
theorem backL_eq (b p t : Int) : backL b p t = (crpL p t).map fun n => b - n := by simp [backL, crpL]
theorem pgs_even (fs : List Fold) : pgs fs % 2 = 0 := by rw [pgs]; omega

def maxL : Int → List Int → Int
  | a, [] => a
  | a, x :: r => maxL (max a x) r
theorem maxL_ge : ∀ (a : Int) (l : List Int), a ≤ maxL a l ∧ ∀ x ∈ l, x ≤ maxL a l
  | a, [] => ⟨Int.le_refl _, fun x hx => by cases hx⟩
  | a, y :: r => by
    obtain ⟨h1, h2⟩ := maxL_ge (max a y) r
    refine ⟨by rw [maxL]; omega, fun x hx => ?_⟩
    rcases List.mem_cons.1 hx with rfl | hx
    · rw [maxL]; omega
    · exact h2 x hx
theorem maxL_le : ∀ {a b : Int} {l : List Int}, a ≤ b → (∀ x ∈ l, x ≤ b) → maxL a l ≤ b
  | a, b, [], h, _ => h
  | a, b, y :: r, h, hl => maxL_le (l := r) (by have := hl y (by simp); omega) (fun x hx => hl x (by simp [hx]))
theorem maxL_crp {p t : Int} (h1 : 2 ≤ p) (hp : p ≤ 32) (t0 : 0 ≤ t) (t1 : t ≤ 500) (hx : p % 2 = 0) : maxL 0 (crpL p t) = mostF p t := by
  have a := (maxL_ge 0 (crpL p t)).2 _ (crpL_most h1)
  have b : maxL 0 (crpL p t) ≤ mostF p t := maxL_le (most_bound h1 hp t0 t1 hx).1 (fun x hm => by
    obtain ⟨k, k1, k2, e⟩ := crpL_mem hm
    rw [e]; exact crp_le k1 k2 hp t0 hx)
  omega

def crpAns (fs : List Fold) (t k : Int) : Int × Bool := if thickB fs t && inB k 1 (pgs fs) then (crp (pgs fs) t k, true) else (0, false)
def mostAns (fs : List Fold) (t : Int) : Int × Bool := if thickB fs t then (mostF (pgs fs) t, true) else (0, false)
def backAns (fs : List Fold) (m : Margins) (t : Int) : List Int × Bool :=
  if thickB fs t && (okMarg m && decide (mostF (pgs fs) t ≤ m.2.1)) then (backL m.2.1 (pgs fs) t, true) else ([], false)
def foreAns (fs : List Fold) (m : Margins) (t : Int) : Int × Bool :=
  if thickB fs t && (okMarg m && decide (mostF (pgs fs) t ≤ m.2.2.1)) then (m.2.2.1 - mostF (pgs fs) t, true) else (0, false)
def shAns (fs : List Fold) (w h tr : Int) : Int × Int × Bool :=
  if goodF fs && (pageB w h && inB tr 0 100) then ((sizeF fs).1 * (w + tr), (sizeF fs).2 * (h + tr), true) else (0, 0, false)
def fitAns (fs : List Fold) (w h tr sw sh : Int) : Bool × Bool :=
  if (shAns fs w h tr).2.2 && (inB sw 1 20000 && inB sh 1 20000) then
    ((decide ((shAns fs w h tr).1 ≤ sw) && decide ((shAns fs w h tr).2.1 ≤ sh)) || (decide ((shAns fs w h tr).1 ≤ sh) && decide ((shAns fs w h tr).2.1 ≤ sw)), true)
  else (false, false)
theorem thick_spec {fs : List Fold} {t : Int} (h : thickB fs t = true) : goodF fs = true ∧ 0 ≤ t ∧ t ≤ 500 := by
  rw [thickB, Bool.and_eq_true] at h
  exact ⟨h.1, inB_spec h.2⟩
theorem marg_spec {a b c d : Int} (h : okMarg (a, b, c, d) = true) : (0 ≤ a ∧ a ≤ 300) ∧ (0 ≤ b ∧ b ≤ 300) ∧ (0 ≤ c ∧ c ≤ 300) ∧ (0 ≤ d ∧ d ≤ 300) := by
  have h := allB_mem h
  simp only [margL, List.mem_cons, List.not_mem_nil, or_false, forall_eq_or_imp, forall_eq] at h
  exact h
theorem crpL_bd {p t x : Int} (h1 : 2 ≤ p) (hp : p ≤ 32) (t0 : 0 ≤ t) (t1 : t ≤ 500) (hx : p % 2 = 0) (h : x ∈ crpL p t) : 0 ≤ x ∧ x ≤ 80 := by
  obtain ⟨k, k1, k2, e⟩ := crpL_mem h
  rw [e]; exact crp_bound k1 k2 hp t0 t1 hx
theorem size_bound {fs : List Fold} (h : goodF fs = true) : (1 ≤ (sizeF fs).1 ∧ (sizeF fs).1 ≤ 16) ∧ (1 ≤ (sizeF fs).2 ∧ (sizeF fs).2 ≤ 16) := by
  have hl := goodF_le h
  have a := p2_le (show wide fs ≤ 4 by have := wide_le fs; omega)
  have b := p2_le (show high fs ≤ 4 by have := high_le fs; omega)
  exact ⟨⟨p2_pos _, a⟩, ⟨p2_pos _, b⟩⟩
theorem crp_bad {fs : List Fold} {t k : Int} (h : (goodF fs && inB k 1 (pgs fs)) = false) : crpAns fs t k = (0, false) := by
  rw [crpAns, thickB]
  revert h
  cases goodF fs <;> cases inB k 1 (pgs fs) <;> cases inB t 0 500 <;> simp
theorem most_ok {fs : List Fold} {t n : Int} {b : Bool} (h : (n, b) = mostAns fs t) : thickB fs t = b := by
  unfold mostAns at h
  split at h <;> simp_all
theorem most_val {fs : List Fold} {t n : Int} (h : (n, true) = mostAns fs t) : n = mostF (pgs fs) t := by
  have e := most_ok h
  rw [mostAns, if_pos e] at h
  exact (Prod.mk.inj h).1
theorem sh_ok {fs : List Fold} {w h tr a b : Int} {o : Bool} (e : (a, b, o) = shAns fs w h tr) : (goodF fs && (pageB w h && inB tr 0 100)) = o := by
  unfold shAns at e
  split at e <;> simp_all
theorem fit_eq {fs : List Fold} {w h tr sw sh a b : Int} {o : Bool} (e : (a, b, o) = shAns fs w h tr) : fitAns fs w h tr sw sh = if o && (inB sw 1 20000 && inB sh 1 20000) then ((decide (a ≤ sw) && decide (b ≤ sh)) || (decide (a ≤ sh) && decide (b ≤ sw)), true) else (false, false) := by rw [fitAns, ← e]
theorem sh_bound {fs : List Fold} {w h tr a b : Int} (e : (a, b, true) = shAns fs w h tr) : (0 ≤ a ∧ a ≤ 33600) ∧ (0 ≤ b ∧ b ≤ 33600) := by
  have o := sh_ok e
  rw [shAns, if_pos o] at e
  simp only [pageB, Bool.and_eq_true] at o
  obtain ⟨o1, ⟨o2, o3⟩, o4⟩ := o
  have s := size_bound o1
  have b2 := inB_spec o2
  have b3 := inB_spec o3
  have b4 := inB_spec o4
  simp only [Prod.mk.injEq, and_true] at e
  rw [e.1, e.2]
  have m1 := Int.mul_le_mul s.1.2 (show w + tr ≤ 2100 by omega) (by omega) (by omega)
  have m2 := Int.mul_le_mul s.2.2 (show h + tr ≤ 2100 by omega) (by omega) (by omega)
  have n1 := Int.mul_nonneg (show 0 ≤ (sizeF fs).1 by omega) (show 0 ≤ w + tr by omega)
  have n2 := Int.mul_nonneg (show 0 ≤ (sizeF fs).2 by omega) (show 0 ≤ h + tr by omega)
  exact ⟨⟨n1, by omega⟩, ⟨n2, by omega⟩⟩
end Go.Proofs.Ytnanackogloioaa.Ai
