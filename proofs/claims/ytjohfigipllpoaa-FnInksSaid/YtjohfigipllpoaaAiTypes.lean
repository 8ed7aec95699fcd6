/- MADE BY PROGRAM (gen_types.py): the table of types for the machine, and that it fits the program. -/
import Derived.Test.YtjohfigipllpoaaAiRules
import Derived.Test.YtjohfigipllpoaaProg
import Derived.KernelRfl
namespace Go.Proofs.Ytjohfigipllpoaa.Ai
open Go Go.Proofs
set_option maxRecDepth 10000

def isAggB : TypeDesc → Bool
  | .struct _ | .array _ _ => true
  | _ => false

theorem descOk_of {P : Program} {t : Nat} {d : TypeDesc} {n b : Nat} {zs : List PV} {a : Bool} {z : Value} (hu : P.underlying t = some d)
    (hi : (P.info? t).map (fun i => (i.zero, i.size, i.bytes)) = some (some z, n, b)) (hz : ∀ w I, RepIs w I zs z.cells.toList) (hl : zs.length = n)
    (ha : isAggB d = a) : descOk P t ⟨d, n, b, zs, a, false⟩ := by
  cases h : P.info? t with
  | none => rw [h] at hi; cases hi
  | some i =>
    rw [h] at hi
    simp only [Option.map_some, Option.some.injEq, Prod.mk.injEq] at hi
    exact ⟨hu, ⟨i, z, h, hi.2.1, hi.2.2, hi.1, hz, hl⟩, by rw [← ha]; cases d <;> rfl⟩

theorem mixed : Try.prog.follows .mixedOrders = true := by kernel_rfl

theorem info2 : (Try.prog.info? 2).map (fun i => (i.zero, i.size, i.bytes)) = some (some (.int .i64 0), 1, 8) := by kernel_rfl
theorem info3 : (Try.prog.info? 3).map (fun i => (i.zero, i.size, i.bytes)) = some (some (.int .i64 0), 1, 8) := by kernel_rfl
theorem info4 : (Try.prog.info? 4).map (fun i => (i.zero, i.size, i.bytes)) = some (some (.bool false), 1, 1) := by kernel_rfl
theorem info5 : (Try.prog.info? 5).map (fun i => (i.zero, i.size, i.bytes)) = some (some (.int .u8 0), 1, 1) := by kernel_rfl
theorem info9 : (Try.prog.info? 9).map (fun i => (i.zero, i.size, i.bytes)) = some (some (.string ⟨#[]⟩), 1, 16) := by kernel_rfl
theorem info21 : (Try.prog.info? 21).map (fun i => (i.zero, i.size, i.bytes)) = some (some (.int .i32 0), 1, 4) := by kernel_rfl
theorem info22 : (Try.prog.info? 22).map (fun i => (i.zero, i.size, i.bytes)) = some (some (.slice none 0 0), 1, 24) := by kernel_rfl
theorem info24 : (Try.prog.info? 24).map (fun i => (i.zero, i.size, i.bytes)) = some (some (.agg #[.string ⟨#[]⟩, .string ⟨#[]⟩]), 2, 32) := by kernel_rfl
theorem info47 : (Try.prog.info? 47).map (fun i => (i.zero, i.size, i.bytes)) = some (some (.int .u64 0), 1, 8) := by kernel_rfl
theorem info49 : (Try.prog.info? 49).map (fun i => (i.zero, i.size, i.bytes)) = some (some (.agg #[.slice none 0 0, .int .i64 0, .int .u64 0]), 3, 40) := by kernel_rfl
theorem info57 : (Try.prog.info? 57).map (fun i => (i.zero, i.size, i.bytes)) = some (some (.slice none 0 0), 1, 24) := by kernel_rfl
theorem info62 : (Try.prog.info? 62).map (fun i => (i.zero, i.size, i.bytes)) = some (some (.int .u64 0), 1, 8) := by kernel_rfl
theorem cells2 : Try.prog.cellsOf 2 = 1 := by kernel_rfl
theorem cells3 : Try.prog.cellsOf 3 = 1 := by kernel_rfl
theorem cells4 : Try.prog.cellsOf 4 = 1 := by kernel_rfl
theorem cells5 : Try.prog.cellsOf 5 = 1 := by kernel_rfl
theorem cells9 : Try.prog.cellsOf 9 = 1 := by kernel_rfl
theorem cells21 : Try.prog.cellsOf 21 = 1 := by kernel_rfl
theorem cells22 : Try.prog.cellsOf 22 = 1 := by kernel_rfl
theorem cells24 : Try.prog.cellsOf 24 = 2 := by kernel_rfl
theorem cells47 : Try.prog.cellsOf 47 = 1 := by kernel_rfl
theorem cells49 : Try.prog.cellsOf 49 = 3 := by kernel_rfl
theorem cells57 : Try.prog.cellsOf 57 = 1 := by kernel_rfl
theorem cells62 : Try.prog.cellsOf 62 = 1 := by kernel_rfl
def ti2 : TI := ⟨.int .i64, 1, 8, [.int .i64 0], false, false⟩
def ti3 : TI := ⟨.int .i64, 1, 8, [.int .i64 0], false, false⟩
def ti4 : TI := ⟨.bool, 1, 1, [.bool false], false, false⟩
def ti5 : TI := ⟨.int .u8, 1, 1, [.int .u8 0], false, false⟩
def ti9 : TI := ⟨.string, 1, 16, [.str []], false, false⟩
def ti21 : TI := ⟨.int .i32, 1, 4, [.int .i32 0], false, false⟩
def ti22 : TI := ⟨.slice 5, 1, 24, [.nil], false, false⟩
def ti24 : TI := ⟨.struct #[{ name := "Text", type := 9, offset := 0, embedded := false, tag := "", pkgPath := "", byteOffset := 0 }, { name := "Inks", type := 9, offset := 1, embedded := false, tag := "", pkgPath := "", byteOffset := 16 }], 2, 32, [.str [], .str []], true, false⟩
def ti47 : TI := ⟨.int .u64, 1, 8, [.int .u64 0], false, false⟩
def ti49 : TI := ⟨.struct #[{ name := "code", type := 22, offset := 0, embedded := false, tag := "", pkgPath := "loop.example/g01054/spec", byteOffset := 0 }, { name := "at", type := 3, offset := 1, embedded := false, tag := "", pkgPath := "loop.example/g01054/spec", byteOffset := 24 }, { name := "seed", type := 47, offset := 2, embedded := false, tag := "", pkgPath := "loop.example/g01054/spec", byteOffset := 32 }], 3, 40, [.nil, .int .i64 0, .int .u64 0], true, false⟩
def ti57 : TI := ⟨.slice 9, 1, 24, [.nil], false, false⟩
def ti62 : TI := ⟨.int .u64, 1, 8, [.int .u64 0], false, false⟩

def G : Env
  | 2 => some ⟨.int .i64, 1, 8, [.int .i64 0], false, false⟩
  | 3 => some ⟨.int .i64, 1, 8, [.int .i64 0], false, false⟩
  | 4 => some ⟨.bool, 1, 1, [.bool false], false, false⟩
  | 5 => some ⟨.int .u8, 1, 1, [.int .u8 0], false, false⟩
  | 9 => some ⟨.string, 1, 16, [.str []], false, false⟩
  | 21 => some ⟨.int .i32, 1, 4, [.int .i32 0], false, false⟩
  | 22 => some ⟨.slice 5, 1, 24, [.nil], false, false⟩
  | 24 => some ⟨.struct #[{ name := "Text", type := 9, offset := 0, embedded := false, tag := "", pkgPath := "", byteOffset := 0 }, { name := "Inks", type := 9, offset := 1, embedded := false, tag := "", pkgPath := "", byteOffset := 16 }], 2, 32, [.str [], .str []], true, false⟩
  | 47 => some ⟨.int .u64, 1, 8, [.int .u64 0], false, false⟩
  | 49 => some ⟨.struct #[{ name := "code", type := 22, offset := 0, embedded := false, tag := "", pkgPath := "loop.example/g01054/spec", byteOffset := 0 }, { name := "at", type := 3, offset := 1, embedded := false, tag := "", pkgPath := "loop.example/g01054/spec", byteOffset := 24 }, { name := "seed", type := 47, offset := 2, embedded := false, tag := "", pkgPath := "loop.example/g01054/spec", byteOffset := 32 }], 3, 40, [.nil, .int .i64 0, .int .u64 0], true, false⟩
  | 57 => some ⟨.slice 9, 1, 24, [.nil], false, false⟩
  | 62 => some ⟨.int .u64, 1, 8, [.int .u64 0], false, false⟩
  | _ => none

theorem desc2 : descOk Try.prog 2 ti2 := descOk_of Try.underlying2 info2 (fun _ _ => by repeat' first | exact RepIs.nil | refine RepIs.cons ?_ ?_ | exact RepI.bool _ | exact RepI.int _ _ rfl | exact RepI.nil | exact RepI.nilp | exact RepI.str [] (Nat.zero_le _)) rfl rfl
theorem desc3 : descOk Try.prog 3 ti3 := descOk_of Try.underlying3 info3 (fun _ _ => by repeat' first | exact RepIs.nil | refine RepIs.cons ?_ ?_ | exact RepI.bool _ | exact RepI.int _ _ rfl | exact RepI.nil | exact RepI.nilp | exact RepI.str [] (Nat.zero_le _)) rfl rfl
theorem desc4 : descOk Try.prog 4 ti4 := descOk_of Try.underlying4 info4 (fun _ _ => by repeat' first | exact RepIs.nil | refine RepIs.cons ?_ ?_ | exact RepI.bool _ | exact RepI.int _ _ rfl | exact RepI.nil | exact RepI.nilp | exact RepI.str [] (Nat.zero_le _)) rfl rfl
theorem desc5 : descOk Try.prog 5 ti5 := descOk_of Try.underlying5 info5 (fun _ _ => by repeat' first | exact RepIs.nil | refine RepIs.cons ?_ ?_ | exact RepI.bool _ | exact RepI.int _ _ rfl | exact RepI.nil | exact RepI.nilp | exact RepI.str [] (Nat.zero_le _)) rfl rfl
theorem desc9 : descOk Try.prog 9 ti9 := descOk_of Try.underlying9 info9 (fun _ _ => by repeat' first | exact RepIs.nil | refine RepIs.cons ?_ ?_ | exact RepI.bool _ | exact RepI.int _ _ rfl | exact RepI.nil | exact RepI.nilp | exact RepI.str [] (Nat.zero_le _)) rfl rfl
theorem desc21 : descOk Try.prog 21 ti21 := descOk_of Try.underlying21 info21 (fun _ _ => by repeat' first | exact RepIs.nil | refine RepIs.cons ?_ ?_ | exact RepI.bool _ | exact RepI.int _ _ rfl | exact RepI.nil | exact RepI.nilp | exact RepI.str [] (Nat.zero_le _)) rfl rfl
theorem desc22 : descOk Try.prog 22 ti22 := descOk_of Try.underlying22 info22 (fun _ _ => by repeat' first | exact RepIs.nil | refine RepIs.cons ?_ ?_ | exact RepI.bool _ | exact RepI.int _ _ rfl | exact RepI.nil | exact RepI.nilp | exact RepI.str [] (Nat.zero_le _)) rfl rfl
theorem desc24 : descOk Try.prog 24 ti24 := descOk_of Try.underlying24 info24 (fun _ _ => by repeat' first | exact RepIs.nil | refine RepIs.cons ?_ ?_ | exact RepI.bool _ | exact RepI.int _ _ rfl | exact RepI.nil | exact RepI.nilp | exact RepI.str [] (Nat.zero_le _)) rfl rfl
theorem desc47 : descOk Try.prog 47 ti47 := descOk_of Try.underlying47 info47 (fun _ _ => by repeat' first | exact RepIs.nil | refine RepIs.cons ?_ ?_ | exact RepI.bool _ | exact RepI.int _ _ rfl | exact RepI.nil | exact RepI.nilp | exact RepI.str [] (Nat.zero_le _)) rfl rfl
theorem desc49 : descOk Try.prog 49 ti49 := descOk_of Try.underlying49 info49 (fun _ _ => by repeat' first | exact RepIs.nil | refine RepIs.cons ?_ ?_ | exact RepI.bool _ | exact RepI.int _ _ rfl | exact RepI.nil | exact RepI.nilp | exact RepI.str [] (Nat.zero_le _)) rfl rfl
theorem desc57 : descOk Try.prog 57 ti57 := descOk_of Try.underlying57 info57 (fun _ _ => by repeat' first | exact RepIs.nil | refine RepIs.cons ?_ ?_ | exact RepI.bool _ | exact RepI.int _ _ rfl | exact RepI.nil | exact RepI.nilp | exact RepI.str [] (Nat.zero_le _)) rfl rfl
theorem desc62 : descOk Try.prog 62 ti62 := descOk_of Try.underlying62 info62 (fun _ _ => by repeat' first | exact RepIs.nil | refine RepIs.cons ?_ ?_ | exact RepI.bool _ | exact RepI.int _ _ rfl | exact RepI.nil | exact RepI.nilp | exact RepI.str [] (Nat.zero_le _)) rfl rfl

theorem envOk : EnvOk Try.prog G := fun t ti h => by
  unfold G at h
  split at h
  · obtain rfl := Option.some.inj h; exact desc2
  · obtain rfl := Option.some.inj h; exact desc3
  · obtain rfl := Option.some.inj h; exact desc4
  · obtain rfl := Option.some.inj h; exact desc5
  · obtain rfl := Option.some.inj h; exact desc9
  · obtain rfl := Option.some.inj h; exact desc21
  · obtain rfl := Option.some.inj h; exact desc22
  · obtain rfl := Option.some.inj h; exact desc24
  · obtain rfl := Option.some.inj h; exact desc47
  · obtain rfl := Option.some.inj h; exact desc49
  · obtain rfl := Option.some.inj h; exact desc57
  · obtain rfl := Option.some.inj h; exact desc62
  · cases h

theorem isInfo {t : Nat} {x} (h : (Try.prog.info? t).map (fun i => (i.zero, i.size, i.bytes)) = some x) : ∃ i, Try.prog.info? t = some i := by
  cases e : Try.prog.info? t with
  | none => rw [e] at h; cases h
  | some i => exact ⟨i, rfl⟩

theorem fieldsOk : FieldsOk Try.prog G := fun t ti F h hd f hf => by
  unfold G at h
  split at h
  · obtain rfl := Option.some.inj h; cases hd
  · obtain rfl := Option.some.inj h; cases hd
  · obtain rfl := Option.some.inj h; cases hd
  · obtain rfl := Option.some.inj h; cases hd
  · obtain rfl := Option.some.inj h; cases hd
  · obtain rfl := Option.some.inj h; cases hd
  · obtain rfl := Option.some.inj h; cases hd
  · obtain rfl := Option.some.inj h
    obtain rfl := TypeDesc.struct.inj hd
    simp only [List.mem_cons, List.not_mem_nil, or_false] at hf
    rcases hf with rfl | rfl
    · exact isInfo info9
    · exact isInfo info9
  · obtain rfl := Option.some.inj h; cases hd
  · obtain rfl := Option.some.inj h
    obtain rfl := TypeDesc.struct.inj hd
    simp only [List.mem_cons, List.not_mem_nil, or_false] at hf
    rcases hf with rfl | rfl | rfl
    · exact isInfo info22
    · exact isInfo info3
    · exact isInfo info47
  · obtain rfl := Option.some.inj h; cases hd
  · obtain rfl := Option.some.inj h; cases hd
  · cases h
end Go.Proofs.Ytjohfigipllpoaa.Ai
