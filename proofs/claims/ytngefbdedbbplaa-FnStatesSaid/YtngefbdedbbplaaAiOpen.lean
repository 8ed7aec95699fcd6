/- From a row's data to abstract values: what the arguments of a law read as. -/
import Derived.Test.YtngefbdedbbplaaAiBase
import Derived.ChangeArms
import Derived.DataReads
set_option linter.unusedSectionVars false
namespace Go.Proofs.Ytngefbdedbbplaa.Ai
open Go Go.RowKit
set_option linter.unusedVariables false
set_option linter.unusedSimpArgs false

/-- Whatever reads as data of type t is represented by the cells of some 'a'. -/
def Opens {α : Type} (P : Program) (t n : Nat) (f : α → List PV) (V : α → Prop) : Prop :=
  P.cellsOf t = n ∧ ∀ (H : Type) (enc : TypeId × Value → H) (w : World) (base : Nat) (spare : Nat → Bool) (held : Bool) (fuel : Nat) (cs : List Value) (x : DataW H × List MemPlace),
    DataW.trod enc P w base spare held fuel t cs = some x → ∃ a, V a ∧ RepIs w (fun g => g < w.heap.size) (f a) cs ∧ (f a).length = n

section
variable {P : Program} {t : Nat}

theorem Opens.map {α β : Type} {n : Nat} {f : α → List PV} {V : α → Prop} (h : Opens P t n f V) (φ : α → β) (g : β → List PV) (V' : β → Prop) (hg : ∀ a, g (φ a) = f a) (hV : ∀ a, V a → V' (φ a)) : Opens P t n g V' :=
  ⟨h.1, fun H enc w base spare held fuel cs x hx => by
    obtain ⟨a, h1, h2, h3⟩ := h.2 H enc w base spare held fuel cs x hx
    exact ⟨φ a, hV a h1, by rw [hg]; exact h2, by rw [hg]; exact h3⟩⟩

theorem wf_wrap {k : IntKind} {n : Int} (h : (Lit.int k n).wf = true) : k.wrap n = n := by
  simp only [Lit.wf, Bool.and_eq_true, decide_eq_true_eq] at h
  obtain ⟨h1, h2⟩ := h
  cases k <;> simp [IntKind.wrap, IntKind.bits, IntKind.signed, IntKind.min, IntKind.max] at * <;> omega

theorem RepIs.append {w : World} {I : Nat → Prop} : ∀ {p q : List PV} {vs us : List Value}, RepIs w I p vs → RepIs w I q us → RepIs w I (p ++ q) (vs ++ us)
  | _, _, _, _, .nil, h => h
  | _, _, _, _, .cons a b, h => .cons a (RepIs.append b h)

def Fits (x : Int) : Prop := -9223372036854775808 ≤ x ∧ x ≤ 9223372036854775807

theorem opens_int (ht : P.underlying t = some (.int .i64)) (hc : P.cellsOf t = 1) : Opens P t 1 cInt Fits :=
  ⟨hc, fun H enc w base spare held fuel cs x hx => by
    obtain ⟨n, rfl, -, hw⟩ := DataW.trod_int ht hx
    refine ⟨n, ?_, .cons (.int _ _ (wf_wrap hw)) .nil, rfl⟩
    simpa [Fits, Lit.wf, IntKind.min, IntKind.max, IntKind.signed, IntKind.bits] using hw⟩

theorem opens_u8 (ht : P.underlying t = some (.int .u8)) (hc : P.cellsOf t = 1) : Opens P t 1 cU8 (fun x => 0 ≤ x ∧ x ≤ 255) :=
  ⟨hc, fun H enc w base spare held fuel cs x hx => by
    obtain ⟨n, rfl, -, hw⟩ := DataW.trod_int ht hx
    refine ⟨n, ?_, .cons (.int _ _ (wf_wrap hw)) .nil, rfl⟩
    simpa [Lit.wf, IntKind.min, IntKind.max, IntKind.signed, IntKind.bits] using hw⟩

theorem opens_bool (ht : P.underlying t = some .bool) (hc : P.cellsOf t = 1) : Opens P t 1 cBool (fun _ => True) :=
  ⟨hc, fun H enc w base spare held fuel cs x hx => by
    obtain ⟨b, rfl, -⟩ := DataW.trod_bool ht hx
    exact ⟨b, trivial, .cons (.bool b) .nil, rfl⟩⟩

theorem opens_string (ht : P.underlying t = some .string) (hc : P.cellsOf t = 1) : Opens P t 1 cStr (fun s => s.length ≤ maxLen) :=
  ⟨hc, fun H enc w base spare held fuel cs x hx => by
    obtain ⟨s, rfl, -, hl⟩ := DataW.trod_string ht hx
    have hl' : s.data.toList.length ≤ maxLen := by rw [Array.length_toList]; exact hl
    refine ⟨s.data.toList, hl', .cons ?_ .nil, rfl⟩
    have := RepI.str (w := w) (I := fun g => g < w.heap.size) s.data.toList hl'
    rwa [show (⟨s.data.toList.toArray⟩ : ByteArray) = s by cases s; simp] at this⟩

theorem cell_bare {w : World} {a : Addr} {v : Value} (h : w.cell? a = some v) : a.spot = none ∧ a.block < w.heap.size := by
  unfold World.cell? at h
  split at h
  · rename_i c e fr hh
    refine ⟨?_, (Array.getElem?_eq_some_iff.1 hh).1⟩
    cases hs : a.spot with
    | none => rfl
    | some p => simp [hs] at h
  · cases h

theorem add_off (a : Addr) (n : Nat) : (a.add n).off = a.off + n ∧ (a.add n).block = a.block := by
  unfold Addr.add
  split
  · rename_i h; subst h; exact ⟨rfl, rfl⟩
  · exact ⟨rfl, rfl⟩

theorem opens_slice {α : Type} {e n : Nat} {f : α → List PV} {V : α → Prop} (ht : P.underlying t = some (.slice e)) (hc : P.cellsOf t = 1) (hn : 0 < n) (he : Opens P e n f V) :
    Opens P t 1 (fun xs : List α => [.isl n (rows f xs)]) (fun xs => ∀ x ∈ xs, V x) :=
  ⟨hc, fun H enc w base spare held fuel cs x hx => by
    rcases DataW.trod_slice ht hx with ⟨rfl, -⟩ | ⟨a, len, cap, elems, rest, m, rfl, rfl, -, -, hl, hm, hlen, hel, -⟩
    · refine ⟨[], by simp, ?_, rfl⟩
      dsimp only
      rw [rows_nil]
      exact .cons (.isl0 n none 0 (Nat.zero_le _)) .nil
    · have go : ∀ k, k ≤ len → ∃ (xs : List α) (vs : List Value), xs.length = k ∧ (∀ x ∈ xs, V x) ∧ RepIs w (fun g => g < w.heap.size) (xs.map f).flatten vs ∧ vs.length = k * n ∧ (∀ c ∈ xs.map f, c.length = n) ∧
          (∀ j v, vs[j]? = some v → w.cell? ⟨a.block, a.off + j, none⟩ = some v) ∧ (0 < k → a.block < w.heap.size) := by
        intro k
        induction k with
        | zero => exact fun _ => ⟨[], [], rfl, by simp, .nil, by simp, by simp, by simp, by omega⟩
        | succ k ih =>
          intro hk
          obtain ⟨xs, vs, h1, h2, h3, h4, h5, h6, h7⟩ := ih (by omega)
          have hek := hel k (by omega)
          rw [List.getElem?_eq_getElem (by omega : k < elems.length), Option.bind_eq_some_iff] at hek
          obtain ⟨cs', hcs, htr⟩ := hek
          obtain ⟨y, hy1, hy2, hy3⟩ := he.2 H enc w base spare held m cs' _ htr
          rw [he.1] at hcs
          obtain ⟨-, hcl, hat⟩ := World.cells?_some hcs
          have hcell : ∀ j v, cs'[j]? = some v → w.cell? ⟨a.block, a.off + (k * n + j), none⟩ = some v ∧ a.block < w.heap.size := fun j v hj => by
            have hlt : j < n := by have := (List.getElem?_eq_some_iff.1 hj).1; omega
            have h8 := (hat j hlt).trans hj
            obtain ⟨h9, h10⟩ := cell_bare h8
            have e1 := add_off (a.add (k * n)) j
            have e2 := add_off a (k * n)
            generalize hA : (a.add (k * n)).add j = A at *
            obtain ⟨b', o', s'⟩ := A
            simp only at h9 e1 h10
            subst h9
            rw [e2.1, e2.2] at e1
            rw [e1.1, e1.2] at h8
            rw [← Nat.add_assoc]
            exact ⟨h8, by rw [← e2.2, ← (add_off (a.add (k * n)) j).2, hA]; exact h10⟩
          refine ⟨xs ++ [y], vs ++ cs', by simp [h1], ?_, ?_, ?_, ?_, ?_, ?_⟩
          · intro x hx
            rcases List.mem_append.1 hx with hx | hx
            · exact h2 x hx
            · obtain rfl : x = y := by simpa using hx
              exact hy1
          · rw [List.map_append, List.flatten_append]
            refine RepIs.append h3 ?_
            simpa using hy2
          · rw [List.length_append, h4, hcl, Nat.succ_mul]
          · intro c hc
            rw [List.map_append] at hc
            rcases List.mem_append.1 hc with hc | hc
            · exact h5 c hc
            · obtain rfl : c = f y := by simpa using hc
              exact hy3
          · intro j v hj
            rcases Nat.lt_or_ge j vs.length with h | h
            · rw [List.getElem?_append_left h] at hj
              exact h6 j v hj
            · rw [List.getElem?_append_right h] at hj
              have := (hcell _ v hj).1
              rwa [h4, show k * n + (j - k * n) = j by omega] at this
          · intro _
            cases cs' with
            | nil => simp at hcl; omega
            | cons v r => exact (hcell 0 v rfl).2
      obtain ⟨xs, vs, h1, h2, h3, h4, h5, h6, h7⟩ := go len (Nat.le_refl _)
      refine ⟨xs, h2, ?_, rfl⟩
      dsimp only
      rw [rows_eq]
      refine .cons ?_ .nil
      cases len with
      | zero =>
        obtain rfl : xs = [] := List.length_eq_zero_iff.1 h1
        exact .isl0 n (some a) cap hm
      | succ len =>
        have hsp : a.spot = none := by
          have := hel 0 (by omega)
          rw [List.getElem?_eq_getElem (by omega : 0 < elems.length), Option.bind_eq_some_iff] at this
          obtain ⟨cs', hcs, -⟩ := this
          rw [he.1] at hcs
          obtain ⟨-, hcl, hat⟩ := World.cells?_some hcs
          have h0 := hat 0 hn
          rw [List.getElem?_eq_getElem (by omega : 0 < cs'.length)] at h0
          have := (cell_bare h0).1
          simpa [Addr.add] using this
        have := RepI.isl (w := w) (I := fun g => g < w.heap.size) n (xs.map f) a.block a.off cap vs h5 h3 (h7 (by omega)) h6 (by rw [List.length_map, h1]; exact hl) hm
        rw [List.length_map, h1] at this
        obtain ⟨b, o, s⟩ := a
        simp only at hsp
        subst hsp
        exact this⟩

/-! ### Structs -/
def OpensF {α : Type} (P : Program) (fs : List Field) (o m : Nat) (f : α → List PV) (V : α → Prop) : Prop :=
  ∀ (H : Type) (enc : TypeId × Value → H) (w : World) (base : Nat) (spare : Nat → Bool) (held : Bool) (fuel : Nat) (cs : List Value),
    (∀ (i : Nat) (fd : Field), fs[i]? = some fd → ∃ x, DataW.trod enc P w base spare held fuel fd.type ((cs.drop fd.offset).take (P.cellsOf fd.type)) = some x) → cs.length = o + m →
    ∃ a, V a ∧ RepIs w (fun g => g < w.heap.size) (f a) (cs.drop o) ∧ (f a).length = m

theorem opensF_nil {o : Nat} : OpensF P [] o 0 (fun _ : Unit => []) (fun _ => True) := fun H enc w base spare held fuel cs _ hl => ⟨(), trivial, by rw [List.drop_eq_nil_of_le (by omega)]; exact .nil, rfl⟩

theorem opensF_cons {α β : Type} {fd : Field} {fs : List Field} {o k m : Nat} {g : α → List PV} {h : β → List PV} {V : α → Prop} {V' : β → Prop} (ho : fd.offset = o) (hf : Opens P fd.type k g V) (hr : OpensF P fs (o + k) m h V') :
    OpensF P (fd :: fs) o (k + m) (fun a : α × β => g a.1 ++ h a.2) (fun a => V a.1 ∧ V' a.2) := fun H enc w base spare held fuel cs hx hl => by
  obtain ⟨x, hx0⟩ := hx 0 fd rfl
  obtain ⟨a, h1, h2, h3⟩ := hf.2 H enc w base spare held fuel _ x hx0
  obtain ⟨b, h4, h5, h6⟩ := hr H enc w base spare held fuel cs (fun i fd' hi => hx (i + 1) fd' (by simpa using hi)) (by omega)
  refine ⟨(a, b), ⟨h1, h4⟩, ?_, by simp [h3, h6]⟩
  rw [ho, hf.1] at h2
  have : cs.drop o = (cs.drop o).take k ++ cs.drop (o + k) := by rw [← List.drop_drop, List.take_append_drop]
  rw [this]
  exact RepIs.append h2 h5

theorem opens_struct {α : Type} {fs : Array Field} {n q : Nat} {f : α → List PV} {V : α → Prop} (ht : P.underlying t = some (.struct fs)) (hc : P.cellsOf t = n) (h : OpensF P fs.toList 0 q f V) (hq : q = n) : Opens P t n f V :=
  ⟨hc, fun H enc w base spare held fuel cs x hx => by
    subst hq
    obtain ⟨xs, m, rfl, -, hl, hlen, hf⟩ := DataW.trod_struct ht hx
    obtain ⟨a, h1, h2, h3⟩ := h H enc w base spare held m cs (fun i fd hi => by
      have hi' : fs[i]? = some fd := by rw [← Array.getElem?_toList]; exact hi
      have hlt : i < xs.length := by rw [hlen]; exact (Array.getElem?_eq_some_iff.1 hi').1
      exact ⟨_, (hf i fd hi').trans (List.getElem?_eq_getElem hlt)⟩) (by omega)
    exact ⟨a, h1, by simpa using h2, h3⟩⟩

/-! ### Arguments -/
section
variable {α H : Type} {enc : TypeId × Value → H} {w : World} {base : Nat} {spare : Nat → Bool} {held : Bool} {n : Nat} {f : α → List PV} {V : α → Prop} {v : Value} {d : DataW H} {ps : List MemPlace}

theorem arg_one {g : α → PV} (ho : Opens P t 1 (fun a => [g a]) V) (hv : v.cells.toList = [v]) (h : DataW.Trod enc P w base spare held t v d ps) : ∃ a, V a ∧ RepArg w (fun k => k < w.heap.size) (g a) v := by
  obtain ⟨fuel, hf⟩ := h
  obtain ⟨a, h1, h2, -⟩ := ho.2 H enc w base spare held fuel _ _ hf
  rw [hv] at h2
  cases h2 with
  | cons h2 h3 => exact ⟨a, h1, .one h2⟩

theorem arg_agg (ho : Opens P t n f V) {cs : Array Value} (h : DataW.Trod enc P w base spare held t (.agg cs) d ps) : ∃ a, V a ∧ RepArg w (fun k => k < w.heap.size) (.agg (f a)) (.agg cs) := by
  obtain ⟨fuel, hf⟩ := h
  obtain ⟨a, h1, h2, -⟩ := ho.2 H enc w base spare held fuel _ _ hf
  refine ⟨a, h1, ?_⟩
  have := RepArg.agg (w := w) (I := fun k => k < w.heap.size) (f a) _ h2
  simpa [Value.cells] using this
end
end
end Go.Proofs.Ytngefbdedbbplaa.Ai
