/- MADE BY PROGRAM (gen_types.py): the table of types for the machine, and that it fits the program. -/
import Derived.Test.YtmgebkckindelaaAiRules
import Derived.Test.YtmgebkckindelaaProg
import Derived.KernelRfl
namespace Go.Proofs.Ytmgebkckindelaa.Ai
open Go Go.Proofs
set_option maxRecDepth 10000

def isAggB : TypeDesc → Bool
  | .struct _ | .array _ _ => true
  | _ => false

theorem descOk_of {P : Program} {t : Nat} {d : TypeDesc} {n b : Nat} {zs : List PV} {a : Bool} {z : Value} (hu : P.underlying t = some d)
    (hi : (P.info? t).map (fun i => (i.zero, i.size, i.bytes)) = some (some z, n, b)) (hz : ∀ w I, RepIs w I zs z.cells.toList) (hl : zs.length = n)
    (ha : isAggB d = a) : descOk P t ⟨d, n, b, zs, a⟩ := by
  cases h : P.info? t with
  | none => rw [h] at hi; cases hi
  | some i =>
    rw [h] at hi
    simp only [Option.map_some, Option.some.injEq, Prod.mk.injEq] at hi
    exact ⟨hu, ⟨i, z, h, hi.2.1, hi.2.2, hi.1, hz, hl⟩, by rw [← ha]; cases d <;> rfl⟩

theorem mixed : Try.prog.follows .mixedOrders = true := by kernel_rfl

theorem info3 : (Try.prog.info? 3).map (fun i => (i.zero, i.size, i.bytes)) = some (some (.int .i64 0), 1, 8) := by kernel_rfl
theorem info4 : (Try.prog.info? 4).map (fun i => (i.zero, i.size, i.bytes)) = some (some (.bool false), 1, 1) := by kernel_rfl
theorem info5 : (Try.prog.info? 5).map (fun i => (i.zero, i.size, i.bytes)) = some (some (.int .u8 0), 1, 1) := by kernel_rfl
theorem info9 : (Try.prog.info? 9).map (fun i => (i.zero, i.size, i.bytes)) = some (some (.string ⟨#[]⟩), 1, 16) := by kernel_rfl
theorem info22 : (Try.prog.info? 22).map (fun i => (i.zero, i.size, i.bytes)) = some (some (.slice none 0 0), 1, 24) := by kernel_rfl
theorem info25 : (Try.prog.info? 25).map (fun i => (i.zero, i.size, i.bytes)) = some (some (.slice none 0 0), 1, 24) := by kernel_rfl
theorem info29 : (Try.prog.info? 29).map (fun i => (i.zero, i.size, i.bytes)) = some (some (.slice none 0 0), 1, 24) := by kernel_rfl
theorem info33 : (Try.prog.info? 33).map (fun i => (i.zero, i.size, i.bytes)) = some (some (.slice none 0 0), 1, 24) := by kernel_rfl
theorem info37 : (Try.prog.info? 37).map (fun i => (i.zero, i.size, i.bytes)) = some (some (.slice none 0 0), 1, 24) := by kernel_rfl
theorem info43 : (Try.prog.info? 43).map (fun i => (i.zero, i.size, i.bytes)) = some (some (.slice none 0 0), 1, 24) := by kernel_rfl
theorem info45 : (Try.prog.info? 45).map (fun i => (i.zero, i.size, i.bytes)) = some (some (.agg #[.int .i64 0, .int .i64 0, .int .i64 0, .int .i64 0]), 4, 32) := by kernel_rfl
theorem info73 : (Try.prog.info? 73).map (fun i => (i.zero, i.size, i.bytes)) = some (some (.agg #[.slice none 0 0, .int .i64 0]), 2, 32) := by kernel_rfl
theorem info74 : (Try.prog.info? 74).map (fun i => (i.zero, i.size, i.bytes)) = some (some (.agg #[.slice none 0 0, .int .i64 0]), 2, 32) := by kernel_rfl
theorem info81 : (Try.prog.info? 81).map (fun i => (i.zero, i.size, i.bytes)) = some (some (.agg #[.int .i64 0, .int .i64 0, .int .i64 0, .int .i64 0]), 4, 32) := by kernel_rfl
theorem cells3 : Try.prog.cellsOf 3 = 1 := by kernel_rfl
theorem cells4 : Try.prog.cellsOf 4 = 1 := by kernel_rfl
theorem cells5 : Try.prog.cellsOf 5 = 1 := by kernel_rfl
theorem cells9 : Try.prog.cellsOf 9 = 1 := by kernel_rfl
theorem cells22 : Try.prog.cellsOf 22 = 1 := by kernel_rfl
theorem cells25 : Try.prog.cellsOf 25 = 1 := by kernel_rfl
theorem cells29 : Try.prog.cellsOf 29 = 1 := by kernel_rfl
theorem cells33 : Try.prog.cellsOf 33 = 1 := by kernel_rfl
theorem cells37 : Try.prog.cellsOf 37 = 1 := by kernel_rfl
theorem cells43 : Try.prog.cellsOf 43 = 1 := by kernel_rfl
theorem cells45 : Try.prog.cellsOf 45 = 4 := by kernel_rfl
theorem cells73 : Try.prog.cellsOf 73 = 2 := by kernel_rfl
theorem cells74 : Try.prog.cellsOf 74 = 2 := by kernel_rfl
theorem cells81 : Try.prog.cellsOf 81 = 4 := by kernel_rfl
def ti3 : TI := ⟨.int .i64, 1, 8, [.int .i64 0], false⟩
def ti4 : TI := ⟨.bool, 1, 1, [.bool false], false⟩
def ti5 : TI := ⟨.int .u8, 1, 1, [.int .u8 0], false⟩
def ti9 : TI := ⟨.string, 1, 16, [.str []], false⟩
def ti22 : TI := ⟨.slice 73, 1, 24, [.nil], false⟩
def ti25 : TI := ⟨.slice 74, 1, 24, [.nil], false⟩
def ti29 : TI := ⟨.slice 81, 1, 24, [.nil], false⟩
def ti33 : TI := ⟨.slice 45, 1, 24, [.nil], false⟩
def ti37 : TI := ⟨.slice 3, 1, 24, [.nil], false⟩
def ti43 : TI := ⟨.slice 5, 1, 24, [.nil], false⟩
def ti45 : TI := ⟨.struct #[{ name := "Thousand", type := 3, offset := 0, embedded := false, tag := "", pkgPath := "", byteOffset := 0 }, { name := "Page", type := 3, offset := 1, embedded := false, tag := "", pkgPath := "", byteOffset := 8 }, { name := "Hour", type := 3, offset := 2, embedded := false, tag := "", pkgPath := "", byteOffset := 16 }, { name := "Least", type := 3, offset := 3, embedded := false, tag := "", pkgPath := "", byteOffset := 24 }], 4, 32, [.int .i64 0, .int .i64 0, .int .i64 0, .int .i64 0], true⟩
def ti73 : TI := ⟨.struct #[{ name := "Needs", type := 37, offset := 0, embedded := false, tag := "", pkgPath := "", byteOffset := 0 }, { name := "Months", type := 3, offset := 1, embedded := false, tag := "", pkgPath := "", byteOffset := 24 }], 2, 32, [.nil, .int .i64 0], true⟩
def ti74 : TI := ⟨.struct #[{ name := "Needs", type := 37, offset := 0, embedded := false, tag := "", pkgPath := "", byteOffset := 0 }, { name := "Months", type := 3, offset := 1, embedded := false, tag := "", pkgPath := "", byteOffset := 24 }], 2, 32, [.nil, .int .i64 0], true⟩
def ti81 : TI := ⟨.struct #[{ name := "Thousand", type := 3, offset := 0, embedded := false, tag := "", pkgPath := "", byteOffset := 0 }, { name := "Page", type := 3, offset := 1, embedded := false, tag := "", pkgPath := "", byteOffset := 8 }, { name := "Hour", type := 3, offset := 2, embedded := false, tag := "", pkgPath := "", byteOffset := 16 }, { name := "Least", type := 3, offset := 3, embedded := false, tag := "", pkgPath := "", byteOffset := 24 }], 4, 32, [.int .i64 0, .int .i64 0, .int .i64 0, .int .i64 0], true⟩

def G : Env
  | 3 => some ⟨.int .i64, 1, 8, [.int .i64 0], false⟩
  | 4 => some ⟨.bool, 1, 1, [.bool false], false⟩
  | 5 => some ⟨.int .u8, 1, 1, [.int .u8 0], false⟩
  | 9 => some ⟨.string, 1, 16, [.str []], false⟩
  | 22 => some ⟨.slice 73, 1, 24, [.nil], false⟩
  | 25 => some ⟨.slice 74, 1, 24, [.nil], false⟩
  | 29 => some ⟨.slice 81, 1, 24, [.nil], false⟩
  | 33 => some ⟨.slice 45, 1, 24, [.nil], false⟩
  | 37 => some ⟨.slice 3, 1, 24, [.nil], false⟩
  | 43 => some ⟨.slice 5, 1, 24, [.nil], false⟩
  | 45 => some ⟨.struct #[{ name := "Thousand", type := 3, offset := 0, embedded := false, tag := "", pkgPath := "", byteOffset := 0 }, { name := "Page", type := 3, offset := 1, embedded := false, tag := "", pkgPath := "", byteOffset := 8 }, { name := "Hour", type := 3, offset := 2, embedded := false, tag := "", pkgPath := "", byteOffset := 16 }, { name := "Least", type := 3, offset := 3, embedded := false, tag := "", pkgPath := "", byteOffset := 24 }], 4, 32, [.int .i64 0, .int .i64 0, .int .i64 0, .int .i64 0], true⟩
  | 73 => some ⟨.struct #[{ name := "Needs", type := 37, offset := 0, embedded := false, tag := "", pkgPath := "", byteOffset := 0 }, { name := "Months", type := 3, offset := 1, embedded := false, tag := "", pkgPath := "", byteOffset := 24 }], 2, 32, [.nil, .int .i64 0], true⟩
  | 74 => some ⟨.struct #[{ name := "Needs", type := 37, offset := 0, embedded := false, tag := "", pkgPath := "", byteOffset := 0 }, { name := "Months", type := 3, offset := 1, embedded := false, tag := "", pkgPath := "", byteOffset := 24 }], 2, 32, [.nil, .int .i64 0], true⟩
  | 81 => some ⟨.struct #[{ name := "Thousand", type := 3, offset := 0, embedded := false, tag := "", pkgPath := "", byteOffset := 0 }, { name := "Page", type := 3, offset := 1, embedded := false, tag := "", pkgPath := "", byteOffset := 8 }, { name := "Hour", type := 3, offset := 2, embedded := false, tag := "", pkgPath := "", byteOffset := 16 }, { name := "Least", type := 3, offset := 3, embedded := false, tag := "", pkgPath := "", byteOffset := 24 }], 4, 32, [.int .i64 0, .int .i64 0, .int .i64 0, .int .i64 0], true⟩
  | _ => none

theorem desc3 : descOk Try.prog 3 ti3 := descOk_of Try.underlying3 info3 (fun _ _ => by repeat' first | exact RepIs.nil | refine RepIs.cons ?_ ?_ | exact RepI.bool _ | exact RepI.int _ _ rfl | exact RepI.nil | exact RepI.nilp | exact RepI.str [] (Nat.zero_le _)) rfl rfl
theorem desc4 : descOk Try.prog 4 ti4 := descOk_of Try.underlying4 info4 (fun _ _ => by repeat' first | exact RepIs.nil | refine RepIs.cons ?_ ?_ | exact RepI.bool _ | exact RepI.int _ _ rfl | exact RepI.nil | exact RepI.nilp | exact RepI.str [] (Nat.zero_le _)) rfl rfl
theorem desc5 : descOk Try.prog 5 ti5 := descOk_of Try.underlying5 info5 (fun _ _ => by repeat' first | exact RepIs.nil | refine RepIs.cons ?_ ?_ | exact RepI.bool _ | exact RepI.int _ _ rfl | exact RepI.nil | exact RepI.nilp | exact RepI.str [] (Nat.zero_le _)) rfl rfl
theorem desc9 : descOk Try.prog 9 ti9 := descOk_of Try.underlying9 info9 (fun _ _ => by repeat' first | exact RepIs.nil | refine RepIs.cons ?_ ?_ | exact RepI.bool _ | exact RepI.int _ _ rfl | exact RepI.nil | exact RepI.nilp | exact RepI.str [] (Nat.zero_le _)) rfl rfl
theorem desc22 : descOk Try.prog 22 ti22 := descOk_of Try.underlying22 info22 (fun _ _ => by repeat' first | exact RepIs.nil | refine RepIs.cons ?_ ?_ | exact RepI.bool _ | exact RepI.int _ _ rfl | exact RepI.nil | exact RepI.nilp | exact RepI.str [] (Nat.zero_le _)) rfl rfl
theorem desc25 : descOk Try.prog 25 ti25 := descOk_of Try.underlying25 info25 (fun _ _ => by repeat' first | exact RepIs.nil | refine RepIs.cons ?_ ?_ | exact RepI.bool _ | exact RepI.int _ _ rfl | exact RepI.nil | exact RepI.nilp | exact RepI.str [] (Nat.zero_le _)) rfl rfl
theorem desc29 : descOk Try.prog 29 ti29 := descOk_of Try.underlying29 info29 (fun _ _ => by repeat' first | exact RepIs.nil | refine RepIs.cons ?_ ?_ | exact RepI.bool _ | exact RepI.int _ _ rfl | exact RepI.nil | exact RepI.nilp | exact RepI.str [] (Nat.zero_le _)) rfl rfl
theorem desc33 : descOk Try.prog 33 ti33 := descOk_of Try.underlying33 info33 (fun _ _ => by repeat' first | exact RepIs.nil | refine RepIs.cons ?_ ?_ | exact RepI.bool _ | exact RepI.int _ _ rfl | exact RepI.nil | exact RepI.nilp | exact RepI.str [] (Nat.zero_le _)) rfl rfl
theorem desc37 : descOk Try.prog 37 ti37 := descOk_of Try.underlying37 info37 (fun _ _ => by repeat' first | exact RepIs.nil | refine RepIs.cons ?_ ?_ | exact RepI.bool _ | exact RepI.int _ _ rfl | exact RepI.nil | exact RepI.nilp | exact RepI.str [] (Nat.zero_le _)) rfl rfl
theorem desc43 : descOk Try.prog 43 ti43 := descOk_of Try.underlying43 info43 (fun _ _ => by repeat' first | exact RepIs.nil | refine RepIs.cons ?_ ?_ | exact RepI.bool _ | exact RepI.int _ _ rfl | exact RepI.nil | exact RepI.nilp | exact RepI.str [] (Nat.zero_le _)) rfl rfl
theorem desc45 : descOk Try.prog 45 ti45 := descOk_of Try.underlying45 info45 (fun _ _ => by repeat' first | exact RepIs.nil | refine RepIs.cons ?_ ?_ | exact RepI.bool _ | exact RepI.int _ _ rfl | exact RepI.nil | exact RepI.nilp | exact RepI.str [] (Nat.zero_le _)) rfl rfl
theorem desc73 : descOk Try.prog 73 ti73 := descOk_of Try.underlying73 info73 (fun _ _ => by repeat' first | exact RepIs.nil | refine RepIs.cons ?_ ?_ | exact RepI.bool _ | exact RepI.int _ _ rfl | exact RepI.nil | exact RepI.nilp | exact RepI.str [] (Nat.zero_le _)) rfl rfl
theorem desc74 : descOk Try.prog 74 ti74 := descOk_of Try.underlying74 info74 (fun _ _ => by repeat' first | exact RepIs.nil | refine RepIs.cons ?_ ?_ | exact RepI.bool _ | exact RepI.int _ _ rfl | exact RepI.nil | exact RepI.nilp | exact RepI.str [] (Nat.zero_le _)) rfl rfl
theorem desc81 : descOk Try.prog 81 ti81 := descOk_of Try.underlying81 info81 (fun _ _ => by repeat' first | exact RepIs.nil | refine RepIs.cons ?_ ?_ | exact RepI.bool _ | exact RepI.int _ _ rfl | exact RepI.nil | exact RepI.nilp | exact RepI.str [] (Nat.zero_le _)) rfl rfl

theorem envOk : EnvOk Try.prog G := fun t ti h => by
  unfold G at h
  split at h
  · obtain rfl := Option.some.inj h; exact desc3
  · obtain rfl := Option.some.inj h; exact desc4
  · obtain rfl := Option.some.inj h; exact desc5
  · obtain rfl := Option.some.inj h; exact desc9
  · obtain rfl := Option.some.inj h; exact desc22
  · obtain rfl := Option.some.inj h; exact desc25
  · obtain rfl := Option.some.inj h; exact desc29
  · obtain rfl := Option.some.inj h; exact desc33
  · obtain rfl := Option.some.inj h; exact desc37
  · obtain rfl := Option.some.inj h; exact desc43
  · obtain rfl := Option.some.inj h; exact desc45
  · obtain rfl := Option.some.inj h; exact desc73
  · obtain rfl := Option.some.inj h; exact desc74
  · obtain rfl := Option.some.inj h; exact desc81
  · cases h

theorem isInfo {t : Nat} {x} (h : (Try.prog.info? t).map (fun i => (i.zero, i.size, i.bytes)) = some x) : ∃ i, Try.prog.info? t = some i := by
  cases e : Try.prog.info? t with
  | none => rw [e] at h; cases h
  | some i => exact ⟨i, rfl⟩

theorem fieldsOk : FieldsOk Try.prog G := fun t ti F h hd f hf => by
  unfold G at h
  split at h
  · obtain rfl := Option.some.inj h; cases hd
  · obtain rfl := Option.some.inj h; cases hd
  · obtain rfl := Option.some.inj h; cases hd
  · obtain rfl := Option.some.inj h; cases hd
  · obtain rfl := Option.some.inj h; cases hd
  · obtain rfl := Option.some.inj h; cases hd
  · obtain rfl := Option.some.inj h; cases hd
  · obtain rfl := Option.some.inj h; cases hd
  · obtain rfl := Option.some.inj h; cases hd
  · obtain rfl := Option.some.inj h; cases hd
  · obtain rfl := Option.some.inj h
    obtain rfl := TypeDesc.struct.inj hd
    simp only [List.mem_cons, List.not_mem_nil, or_false] at hf
    rcases hf with rfl | rfl | rfl | rfl
    · exact isInfo info3
    · exact isInfo info3
    · exact isInfo info3
    · exact isInfo info3
  · obtain rfl := Option.some.inj h
    obtain rfl := TypeDesc.struct.inj hd
    simp only [List.mem_cons, List.not_mem_nil, or_false] at hf
    rcases hf with rfl | rfl
    · exact isInfo info37
    · exact isInfo info3
  · obtain rfl := Option.some.inj h
    obtain rfl := TypeDesc.struct.inj hd
    simp only [List.mem_cons, List.not_mem_nil, or_false] at hf
    rcases hf with rfl | rfl
    · exact isInfo info37
    · exact isInfo info3
  · obtain rfl := Option.some.inj h
    obtain rfl := TypeDesc.struct.inj hd
    simp only [List.mem_cons, List.not_mem_nil, or_false] at hf
    rcases hf with rfl | rfl | rfl | rfl
    · exact isInfo info3
    · exact isInfo info3
    · exact isInfo info3
    · exact isInfo info3
  · cases h
end Go.Proofs.Ytmgebkckindelaa.Ai
