/- Rows of bytes in memory, as []byte(s) lays them, for the kit's walk. -/
import Derived.Test.YtjohfigipllpoaaSwapLaw
import Derived.Test.YtjohfigipllpoaaOwnK
import Derived.Laws.IdiomStrings
import Derived.WalkKit
import Derived.BigCall
import Derived.Lib.Hide
import Derived.Deep.DeepCutAuto
import Derived.Deep.OwnRows
namespace Go.Proofs.Ytjohfigipllpoaa.Ai
open Go Go.Proofs Go.RowKit
set_option linter.unusedSimpArgs false
set_option linter.unusedVariables false
abbrev u8V (b : UInt8) : Value := .int .u8 (b.toNat : Int)
/-- A block that begins with some bytes; its mark lies behind them. -/
def RowB (w : World) (g : Nat) (l : List UInt8) : Prop := ∃ (cur : Array Value) (lo hi : Nat), w.heap[g]? = some (.cells cur 5 (lo, hi)) ∧ ((∀ i, i < cur.size → ¬ (lo ≤ i ∧ i < hi)) ∧ l.length ≤ cur.size) ∧ cur.toList.take l.length = l.map u8V
section
variable {w w' : World} {g : Nat} {l : List UInt8}
theorem RowB.lt (h : RowB w g l) : g < w.heap.size := by obtain ⟨cur, lo, hi, h1, -⟩ := h; exact (Array.getElem?_eq_some_iff.1 h1).1
theorem RowB.keep (h : RowB w g l) (hb : w'.heap[g]? = w.heap[g]?) : RowB w' g l := by obtain ⟨cur, lo, hi, h1, h2⟩ := h; exact ⟨cur, lo, hi, hb.trans h1, h2⟩
theorem RowB.below (h : RowB w g l) (hb : Below w.heap.size w w') : RowB w' g l := h.keep (hb.block _ h.lt)
theorem RowB.cell (h : RowB w g l) {i : Nat} {x : UInt8} (hx : l[i]? = some x) : w.cell? ⟨g, i, none⟩ = some (u8V x) := by
  obtain ⟨cur, lo, hi, h1, h2, h5⟩ := h
  have hl := (List.getElem?_eq_some_iff.1 hx).1
  have : (cur.toList.take l.length)[i]? = some (u8V x) := by rw [h5, List.getElem?_map, hx]; rfl
  rw [List.getElem?_take, if_pos hl, Array.getElem?_toList] at this
  simp [World.cell?, h1, this]
theorem RowB.free (h : RowB w g l) {i : Nat} (hi : i < l.length) : w.frozen? ⟨g, i, none⟩ = false := by
  obtain ⟨cur, lo, hi', h1, h2, h5⟩ := h
  have := h2.1 i (by omega)
  simp only [World.frozen?, h1]
  simp; omega
theorem RowB.set (h : RowB w g l) {i : Nat} (hi : i < l.length) (x : UInt8) : RowB (w.setCell ⟨g, i, none⟩ (u8V x)) g (l.set i x) := by
  obtain ⟨cur, lo, hi', h1, h2, h5⟩ := h
  refine ⟨cur.setIfInBounds i (u8V x), lo, hi', ?_, ⟨by simp only [Array.size_setIfInBounds]; exact h2.1, by simp only [List.length_set, Array.size_setIfInBounds]; exact h2.2⟩, ?_⟩
  · rw [setCell_eq_setRow w g i cur _ (lo, hi') _ h1]
    exact setRow_heap w g cur _ _ _ h1
  · rw [Array.toList_setIfInBounds, List.length_set, List.take_set, h5, List.map_set]
theorem RowB.string (h : RowB w g l) (n cap : Nat) (hn : n = l.length) : (convert 22 9 (.slice (some ⟨g, 0, none⟩) n cap)).run Try.prog w = .ok (.string ⟨l.toArray⟩) w := by
  subst hn
  refine run_convert_bytes_back w _ _ _ ⟨g, 0, none⟩ cap l Try.underlying22 Try.underlying5 Try.underlying9 fun j hj => ?_
  have hadd : (⟨g, 0, none⟩ : Addr).add j = ⟨g, j, none⟩ := by unfold Addr.add; split <;> simp_all
  rw [hadd]; exact h.cell (List.getElem?_eq_getElem hj)
end
/-- The world behind []byte(s). -/
def bytesW (w : World) (l : List UInt8) : World := w.drew.alloc (.cells (bytesRow ⟨l.toArray⟩ (grownCap w l.length 0 5)) 5 ((bytesRow ⟨l.toArray⟩ (grownCap w l.length 0 5)).size, (bytesRow ⟨l.toArray⟩ (grownCap w l.length 0 5)).size + 1))
theorem run_bytesW (w : World) (l : List UInt8) : (convert 9 22 (.string ⟨l.toArray⟩)).run Try.prog w = .ok (.slice (some ⟨w.heap.size, 0, none⟩) l.length (grownCap w l.length 0 5)) (bytesW w l) :=
  run_bytes_of_string w _ _ _ ⟨l.toArray⟩ Try.underlying9 Try.underlying22 Try.underlying5
theorem bytesW_below (w : World) (l : List UInt8) : Below w.heap.size w (bytesW w l) := ((Below.refl _ _).drew).alloc (Nat.le_refl _) _
theorem bytesW_row (w : World) (l : List UInt8) : RowB (bytesW w l) w.heap.size l := by
  have hh : (bytesW w l).heap[w.heap.size]? = some (.cells (bytesRow ⟨l.toArray⟩ (grownCap w l.length 0 5)) 5 ((bytesRow ⟨l.toArray⟩ (grownCap w l.length 0 5)).size, (bytesRow ⟨l.toArray⟩ (grownCap w l.length 0 5)).size + 1)) := by
    show (w.heap.push _)[w.heap.size]? = _
    simp
  have hs : (bytesRow ⟨l.toArray⟩ (grownCap w l.length 0 5)).toList = l.map u8V ++ List.replicate (grownCap w l.length 0 5 - l.length) (.int .u8 0) := by
    simp [bytesRow, ByteArray.size]
  refine ⟨_, _, _, hh, ⟨fun i hi => by omega, ?_⟩, ?_⟩
  · rw [← Array.length_toList, hs]; simp
  · rw [hs, List.take_append_of_le_length (by simp)]
    rw [List.take_of_length_le (by simp)]
theorem bytesW_size (w : World) (l : List UInt8) : (bytesW w l).heap.size = w.heap.size + 1 := Array.size_push _
/-- A row of bytes of one's own. -/
def OwnB (w : World) (B : Nat) (v : Value) (l : List UInt8) : Prop := w.ownsRow B 5 1 v l.length (l.map u8V)
theorem OwnB.new (w : World) {B : Nat} (hB : B ≤ w.heap.size) : OwnB (w.alloc (.cells #[] 5)) B (.slice (some ⟨w.heap.size, 0, none⟩) 0 0) [] := World.ownsRow_made w #[] 0 hB (Nat.zero_le _) rfl
theorem OwnB.rowB {w : World} {B : Nat} {v : Value} {l : List UInt8} (h : OwnB w B v l) (hl : l ≠ []) : ∃ g c, v = .slice (some ⟨g, 0, none⟩) l.length c ∧ RowB w g l ∧ B ≤ g := by
  obtain ⟨-, ⟨rfl, h0⟩ | ⟨g, cap, cur, rfl, hb, hg, h1, h2, h3, h4⟩⟩ := h
  · exact absurd (List.length_eq_zero_iff.1 h0) hl
  · exact ⟨g, cap, rfl, ⟨cur, 0, 0, hg, ⟨fun i _ => by omega, by simp at h3; omega⟩, by simpa using h4⟩, hb⟩
end Go.Proofs.Ytjohfigipllpoaa.Ai
