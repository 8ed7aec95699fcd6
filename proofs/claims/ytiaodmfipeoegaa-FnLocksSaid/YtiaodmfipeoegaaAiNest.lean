/- Slices of a type may be made as trees: the table of types says so. -/
import Derived.Test.YtiaodmfipeoegaaAiBase
namespace Go.Proofs.Ytiaodmfipeoegaa.Ai
open Go Go.Proofs
set_option linter.unusedVariables false
set_option linter.unusedSimpArgs false

/-- The table in which slices of type T are made as trees. -/
def nestIn (T : Nat) (G : Env) : Env := fun t => match G t with
  | some ti => some ⟨ti.desc, ti.size, ti.bytes, ti.zero, ti.isAgg, Nat.beq t T⟩
  | none => none
theorem nestIn_ok {P : Program} {G : Env} (T : Nat) (h : EnvOk P G) : EnvOk P (nestIn T G) := fun t ti ht => by
  unfold nestIn at ht
  split at ht
  · rename_i t0 h0
    obtain rfl := Option.some.inj ht
    exact h t t0 h0
  · cases ht
theorem nestIn_fields {P : Program} {G : Env} (T : Nat) (h : FieldsOk P G) : FieldsOk P (nestIn T G) := fun t ti F ht hd f hf => by
  unfold nestIn at ht
  split at ht
  · rename_i t0 h0
    obtain rfl := Option.some.inj ht
    exact h t t0 F h0 hd f hf
  · cases ht
theorem cool_rows {α : Type} (f : α → List PV) (l : List α) : coolL (rows f l) = rows (fun x => (f x).map coolC) l := by
  rw [coolL_eq]; simp [rows_eq]
theorem cool_nil : coolL [] = [] := by rw [coolL_eq]; rfl
end Go.Proofs.Ytiaodmfipeoegaa.Ai
