/- The bodies behind strings.Builder's WriteString and String, as this program numbers them. -/
import Derived.Shelf.Strings.BuilderK
import Derived.Test.YtiaodmfipeoegaaCommon
import Derived.Test.YtiaodmfipeoegaaGridOf
import Derived.WalkKit
import Derived.BigCall
import Derived.Lib.Hide
namespace Go.Proofs.Ytiaodmfipeoegaa.Ai
open Go Go.Proofs Go.RowKit
set_option linter.unusedVariables false
set_option linter.unusedSimpArgs false
set_option maxRecDepth 10000
/- impl.ChasePicture: a chase's picture, built by strings.Builder. -/
/-- A row that is read. -/
def RowAt (w : World) (u : Value) (r : List Int) : Prop := ∃ g o c, u = .slice (some ⟨g, o, none⟩) r.length c ∧ ∀ (x : Nat) n, r[x]? = some n → w.cell? ⟨g, o + x, none⟩ = some (.int .i64 n)
theorem row_of {w : World} {I : Nat → Prop} {u : Value} {r : List Int} (h : RepI w I (.isl 1 (rows cInt r)) u) (hne : r ≠ []) : RowAt w u r := by
  rw [rows_eq] at h
  generalize hes : r.map cInt = es at h
  cases h with
  | isl0 sz A c hm => exact absurd (List.map_eq_nil_iff.1 hes) hne
  | isl sz es g o c vs hl hr hI hcell hc hm =>
    subst hes
    have := repIs_ints0 hr
    subst this
    refine ⟨g, o, c, by rw [List.length_map], fun x n hx => hcell x _ (by rw [List.getElem?_map, hx]; rfl)⟩
def GridAt (w : World) (v : Value) (gr : List (List Int)) : Prop := ∃ g o c, v = .slice (some ⟨g, o, none⟩) gr.length c ∧ ∀ (y : Nat) r, gr[y]? = some r → ∃ u, w.cell? ⟨g, o + y, none⟩ = some u ∧ RowAt w u r
theorem repIs_rows0 {w : World} {I : Nat → Prop} : ∀ {l : List (List Int)} {vs : List Value}, RepIs w I (l.map (cSl 1 cInt)).flatten vs → ∀ (y : Nat) r, l[y]? = some r → ∃ u, vs[y]? = some u ∧ RepI w I (.isl 1 (rows cInt r)) u
  | [], _, _, y, r, hr => by simp at hr
  | x :: t, _, h, y, r, hr => by
    simp only [List.map_cons, List.flatten_cons, cSl, List.cons_append, List.nil_append] at h
    cases h with
    | cons h1 h2 =>
      cases y with
      | zero => simp at hr; subst hr; exact ⟨_, rfl, h1⟩
      | succ y => exact repIs_rows0 h2 y r (by simpa using hr)
theorem grid_of {w : World} {I : Nat → Prop} {v : Value} {gr : List (List Int)} (h : RepI w I (.isl 1 (rows (cSl 1 cInt) gr)) v) (hne : gr ≠ []) (hr : ∀ r ∈ gr, r ≠ []) : GridAt w v gr := by
  rw [rows_eq] at h
  generalize hes : gr.map (cSl 1 cInt) = es at h
  cases h with
  | isl0 sz A c hm => exact absurd (List.map_eq_nil_iff.1 hes) hne
  | isl sz es g o c vs hl hrs hI hcell hc hm =>
    subst hes
    refine ⟨g, o, c, by rw [List.length_map], fun y r hy => ?_⟩
    obtain ⟨u, hu, h1⟩ := repIs_rows0 hrs y r hy
    exact ⟨u, hcell y _ hu, row_of h1 (hr r (List.mem_of_getElem? hy))⟩
theorem cell_old {w w' : World} (h : Below w.heap.size w w') {a : Addr} {v : Value} (hc : w.cell? a = some v) : w'.cell? a = some v := by
  rcases Nat.lt_or_ge a.block w.heap.size with hl | hl
  · rw [h.cell hl]; exact hc
  · unfold World.cell? at hc
    rw [Array.getElem?_eq_none hl] at hc
    simp at hc
def sb (p : List UInt8 × Bool) : PV := .tup [.str p.1, .bool p.2]
end Go.Proofs.Ytiaodmfipeoegaa.Ai
