/- MADE BY PROGRAM (gen_types.py): the table of types for the machine, and that it fits the program. -/
import Derived.Test.YtifkjlpkhfldoaaAiRules
import Derived.Test.YtifkjlpkhfldoaaProg
import Derived.KernelRfl
namespace Go.Proofs.Ytifkjlpkhfldoaa.Ai
open Go Go.Proofs
set_option maxRecDepth 10000

def isAggB : TypeDesc → Bool
  | .struct _ | .array _ _ => true
  | _ => false

theorem descOk_of {P : Program} {t : Nat} {d : TypeDesc} {n b : Nat} {zs : List PV} {a : Bool} {z : Value} (hu : P.underlying t = some d)
    (hi : (P.info? t).map (fun i => (i.zero, i.size, i.bytes)) = some (some z, n, b)) (hz : ∀ w I, RepIs w I zs z.cells.toList) (hl : zs.length = n)
    (ha : isAggB d = a) : descOk P t ⟨d, n, b, zs, a, false⟩ := by
  cases h : P.info? t with
  | none => rw [h] at hi; cases hi
  | some i =>
    rw [h] at hi
    simp only [Option.map_some, Option.some.injEq, Prod.mk.injEq] at hi
    exact ⟨hu, ⟨i, z, h, hi.2.1, hi.2.2, hi.1, hz, hl⟩, by rw [← ha]; cases d <;> rfl⟩

theorem mixed : Try.prog.follows .mixedOrders = true := by kernel_rfl

theorem info2 : (Try.prog.info? 2).map (fun i => (i.zero, i.size, i.bytes)) = some (some (.int .i64 0), 1, 8) := by kernel_rfl
theorem info3 : (Try.prog.info? 3).map (fun i => (i.zero, i.size, i.bytes)) = some (some (.int .i64 0), 1, 8) := by kernel_rfl
theorem info4 : (Try.prog.info? 4).map (fun i => (i.zero, i.size, i.bytes)) = some (some (.bool false), 1, 1) := by kernel_rfl
theorem info5 : (Try.prog.info? 5).map (fun i => (i.zero, i.size, i.bytes)) = some (some (.int .u8 0), 1, 1) := by kernel_rfl
theorem info9 : (Try.prog.info? 9).map (fun i => (i.zero, i.size, i.bytes)) = some (some (.string ⟨#[]⟩), 1, 16) := by kernel_rfl
theorem info21 : (Try.prog.info? 21).map (fun i => (i.zero, i.size, i.bytes)) = some (some (.int .i32 0), 1, 4) := by kernel_rfl
theorem info22 : (Try.prog.info? 22).map (fun i => (i.zero, i.size, i.bytes)) = some (some (.slice none 0 0), 1, 24) := by kernel_rfl
theorem info24 : (Try.prog.info? 24).map (fun i => (i.zero, i.size, i.bytes)) = some (some (.slice none 0 0), 1, 24) := by kernel_rfl
theorem info30 : (Try.prog.info? 30).map (fun i => (i.zero, i.size, i.bytes)) = some (some (.slice none 0 0), 1, 24) := by kernel_rfl
theorem info44 : (Try.prog.info? 44).map (fun i => (i.zero, i.size, i.bytes)) = some (some (.slice none 0 0), 1, 24) := by kernel_rfl
theorem info45 : (Try.prog.info? 45).map (fun i => (i.zero, i.size, i.bytes)) = some (some (.slice none 0 0), 1, 24) := by kernel_rfl
theorem info58 : (Try.prog.info? 58).map (fun i => (i.zero, i.size, i.bytes)) = some (some (.slice none 0 0), 1, 24) := by kernel_rfl
theorem info59 : (Try.prog.info? 59).map (fun i => (i.zero, i.size, i.bytes)) = some (some (.slice none 0 0), 1, 24) := by kernel_rfl
theorem info61 : (Try.prog.info? 61).map (fun i => (i.zero, i.size, i.bytes)) = some (some (.agg #[.slice none 0 0, .slice none 0 0]), 2, 48) := by kernel_rfl
theorem info82 : (Try.prog.info? 82).map (fun i => (i.zero, i.size, i.bytes)) = some (some (.slice none 0 0), 1, 24) := by kernel_rfl
theorem info88 : (Try.prog.info? 88).map (fun i => (i.zero, i.size, i.bytes)) = some (some (.agg #[.string ⟨#[]⟩, .int .i64 0, .int .i64 0, .int .i64 0]), 4, 40) := by kernel_rfl
theorem info93 : (Try.prog.info? 93).map (fun i => (i.zero, i.size, i.bytes)) = some (some (.agg #[.string ⟨#[]⟩, .string ⟨#[]⟩, .int .i64 0]), 3, 40) := by kernel_rfl
theorem info108 : (Try.prog.info? 108).map (fun i => (i.zero, i.size, i.bytes)) = some (some (.int .u64 0), 1, 8) := by kernel_rfl
theorem info110 : (Try.prog.info? 110).map (fun i => (i.zero, i.size, i.bytes)) = some (some (.agg #[.slice none 0 0, .int .i64 0, .int .u64 0]), 3, 40) := by kernel_rfl
theorem info146 : (Try.prog.info? 146).map (fun i => (i.zero, i.size, i.bytes)) = some (some (.agg #[.string ⟨#[]⟩, .int .i64 0]), 2, 24) := by kernel_rfl
theorem cells2 : Try.prog.cellsOf 2 = 1 := by kernel_rfl
theorem cells3 : Try.prog.cellsOf 3 = 1 := by kernel_rfl
theorem cells4 : Try.prog.cellsOf 4 = 1 := by kernel_rfl
theorem cells5 : Try.prog.cellsOf 5 = 1 := by kernel_rfl
theorem cells9 : Try.prog.cellsOf 9 = 1 := by kernel_rfl
theorem cells21 : Try.prog.cellsOf 21 = 1 := by kernel_rfl
theorem cells22 : Try.prog.cellsOf 22 = 1 := by kernel_rfl
theorem cells24 : Try.prog.cellsOf 24 = 1 := by kernel_rfl
theorem cells30 : Try.prog.cellsOf 30 = 1 := by kernel_rfl
theorem cells44 : Try.prog.cellsOf 44 = 1 := by kernel_rfl
theorem cells45 : Try.prog.cellsOf 45 = 1 := by kernel_rfl
theorem cells58 : Try.prog.cellsOf 58 = 1 := by kernel_rfl
theorem cells59 : Try.prog.cellsOf 59 = 1 := by kernel_rfl
theorem cells61 : Try.prog.cellsOf 61 = 2 := by kernel_rfl
theorem cells82 : Try.prog.cellsOf 82 = 1 := by kernel_rfl
theorem cells88 : Try.prog.cellsOf 88 = 4 := by kernel_rfl
theorem cells93 : Try.prog.cellsOf 93 = 3 := by kernel_rfl
theorem cells108 : Try.prog.cellsOf 108 = 1 := by kernel_rfl
theorem cells110 : Try.prog.cellsOf 110 = 3 := by kernel_rfl
theorem cells146 : Try.prog.cellsOf 146 = 2 := by kernel_rfl
def ti2 : TI := ⟨.int .i64, 1, 8, [.int .i64 0], false, false⟩
def ti3 : TI := ⟨.int .i64, 1, 8, [.int .i64 0], false, false⟩
def ti4 : TI := ⟨.bool, 1, 1, [.bool false], false, false⟩
def ti5 : TI := ⟨.int .u8, 1, 1, [.int .u8 0], false, false⟩
def ti9 : TI := ⟨.string, 1, 16, [.str []], false, false⟩
def ti21 : TI := ⟨.int .i32, 1, 4, [.int .i32 0], false, false⟩
def ti22 : TI := ⟨.slice 5, 1, 24, [.nil], false, false⟩
def ti24 : TI := ⟨.slice 30, 1, 24, [.nil], false, false⟩
def ti30 : TI := ⟨.slice 3, 1, 24, [.nil], false, false⟩
def ti44 : TI := ⟨.slice 45, 1, 24, [.nil], false, false⟩
def ti45 : TI := ⟨.slice 9, 1, 24, [.nil], false, false⟩
def ti58 : TI := ⟨.slice 146, 1, 24, [.nil], false, false⟩
def ti59 : TI := ⟨.slice 88, 1, 24, [.nil], false, false⟩
def ti61 : TI := ⟨.struct #[{ name := "Boxes", type := 59, offset := 0, embedded := false, tag := "", pkgPath := "", byteOffset := 0 }, { name := "Set", type := 45, offset := 1, embedded := false, tag := "", pkgPath := "", byteOffset := 24 }], 2, 48, [.nil, .nil], true, false⟩
def ti82 : TI := ⟨.slice 93, 1, 24, [.nil], false, false⟩
def ti88 : TI := ⟨.struct #[{ name := "Code", type := 9, offset := 0, embedded := false, tag := "", pkgPath := "", byteOffset := 0 }, { name := "Row", type := 3, offset := 1, embedded := false, tag := "", pkgPath := "", byteOffset := 16 }, { name := "Column", type := 3, offset := 2, embedded := false, tag := "", pkgPath := "", byteOffset := 24 }, { name := "Count", type := 3, offset := 3, embedded := false, tag := "", pkgPath := "", byteOffset := 32 }], 4, 40, [.str [], .int .i64 0, .int .i64 0, .int .i64 0], true, false⟩
def ti93 : TI := ⟨.struct #[{ name := "Code", type := 9, offset := 0, embedded := false, tag := "", pkgPath := "", byteOffset := 0 }, { name := "Into", type := 9, offset := 1, embedded := false, tag := "", pkgPath := "", byteOffset := 16 }, { name := "N", type := 3, offset := 2, embedded := false, tag := "", pkgPath := "", byteOffset := 32 }], 3, 40, [.str [], .str [], .int .i64 0], true, false⟩
def ti108 : TI := ⟨.int .u64, 1, 8, [.int .u64 0], false, false⟩
def ti110 : TI := ⟨.struct #[{ name := "code", type := 22, offset := 0, embedded := false, tag := "", pkgPath := "loop.example/g01054/spec", byteOffset := 0 }, { name := "at", type := 3, offset := 1, embedded := false, tag := "", pkgPath := "loop.example/g01054/spec", byteOffset := 24 }, { name := "seed", type := 108, offset := 2, embedded := false, tag := "", pkgPath := "loop.example/g01054/spec", byteOffset := 32 }], 3, 40, [.nil, .int .i64 0, .int .u64 0], true, false⟩
def ti146 : TI := ⟨.struct #[{ name := "Code", type := 9, offset := 0, embedded := false, tag := "", pkgPath := "", byteOffset := 0 }, { name := "Set", type := 3, offset := 1, embedded := false, tag := "", pkgPath := "", byteOffset := 16 }], 2, 24, [.str [], .int .i64 0], true, false⟩

def G : Env
  | 2 => some ⟨.int .i64, 1, 8, [.int .i64 0], false, false⟩
  | 3 => some ⟨.int .i64, 1, 8, [.int .i64 0], false, false⟩
  | 4 => some ⟨.bool, 1, 1, [.bool false], false, false⟩
  | 5 => some ⟨.int .u8, 1, 1, [.int .u8 0], false, false⟩
  | 9 => some ⟨.string, 1, 16, [.str []], false, false⟩
  | 21 => some ⟨.int .i32, 1, 4, [.int .i32 0], false, false⟩
  | 22 => some ⟨.slice 5, 1, 24, [.nil], false, false⟩
  | 24 => some ⟨.slice 30, 1, 24, [.nil], false, false⟩
  | 30 => some ⟨.slice 3, 1, 24, [.nil], false, false⟩
  | 44 => some ⟨.slice 45, 1, 24, [.nil], false, false⟩
  | 45 => some ⟨.slice 9, 1, 24, [.nil], false, false⟩
  | 58 => some ⟨.slice 146, 1, 24, [.nil], false, false⟩
  | 59 => some ⟨.slice 88, 1, 24, [.nil], false, false⟩
  | 61 => some ⟨.struct #[{ name := "Boxes", type := 59, offset := 0, embedded := false, tag := "", pkgPath := "", byteOffset := 0 }, { name := "Set", type := 45, offset := 1, embedded := false, tag := "", pkgPath := "", byteOffset := 24 }], 2, 48, [.nil, .nil], true, false⟩
  | 82 => some ⟨.slice 93, 1, 24, [.nil], false, false⟩
  | 88 => some ⟨.struct #[{ name := "Code", type := 9, offset := 0, embedded := false, tag := "", pkgPath := "", byteOffset := 0 }, { name := "Row", type := 3, offset := 1, embedded := false, tag := "", pkgPath := "", byteOffset := 16 }, { name := "Column", type := 3, offset := 2, embedded := false, tag := "", pkgPath := "", byteOffset := 24 }, { name := "Count", type := 3, offset := 3, embedded := false, tag := "", pkgPath := "", byteOffset := 32 }], 4, 40, [.str [], .int .i64 0, .int .i64 0, .int .i64 0], true, false⟩
  | 93 => some ⟨.struct #[{ name := "Code", type := 9, offset := 0, embedded := false, tag := "", pkgPath := "", byteOffset := 0 }, { name := "Into", type := 9, offset := 1, embedded := false, tag := "", pkgPath := "", byteOffset := 16 }, { name := "N", type := 3, offset := 2, embedded := false, tag := "", pkgPath := "", byteOffset := 32 }], 3, 40, [.str [], .str [], .int .i64 0], true, false⟩
  | 108 => some ⟨.int .u64, 1, 8, [.int .u64 0], false, false⟩
  | 110 => some ⟨.struct #[{ name := "code", type := 22, offset := 0, embedded := false, tag := "", pkgPath := "loop.example/g01054/spec", byteOffset := 0 }, { name := "at", type := 3, offset := 1, embedded := false, tag := "", pkgPath := "loop.example/g01054/spec", byteOffset := 24 }, { name := "seed", type := 108, offset := 2, embedded := false, tag := "", pkgPath := "loop.example/g01054/spec", byteOffset := 32 }], 3, 40, [.nil, .int .i64 0, .int .u64 0], true, false⟩
  | 146 => some ⟨.struct #[{ name := "Code", type := 9, offset := 0, embedded := false, tag := "", pkgPath := "", byteOffset := 0 }, { name := "Set", type := 3, offset := 1, embedded := false, tag := "", pkgPath := "", byteOffset := 16 }], 2, 24, [.str [], .int .i64 0], true, false⟩
  | _ => none

theorem desc2 : descOk Try.prog 2 ti2 := descOk_of Try.underlying2 info2 (fun _ _ => by repeat' first | exact RepIs.nil | refine RepIs.cons ?_ ?_ | exact RepI.bool _ | exact RepI.int _ _ rfl | exact RepI.nil | exact RepI.nilp | exact RepI.str [] (Nat.zero_le _)) rfl rfl
theorem desc3 : descOk Try.prog 3 ti3 := descOk_of Try.underlying3 info3 (fun _ _ => by repeat' first | exact RepIs.nil | refine RepIs.cons ?_ ?_ | exact RepI.bool _ | exact RepI.int _ _ rfl | exact RepI.nil | exact RepI.nilp | exact RepI.str [] (Nat.zero_le _)) rfl rfl
theorem desc4 : descOk Try.prog 4 ti4 := descOk_of Try.underlying4 info4 (fun _ _ => by repeat' first | exact RepIs.nil | refine RepIs.cons ?_ ?_ | exact RepI.bool _ | exact RepI.int _ _ rfl | exact RepI.nil | exact RepI.nilp | exact RepI.str [] (Nat.zero_le _)) rfl rfl
theorem desc5 : descOk Try.prog 5 ti5 := descOk_of Try.underlying5 info5 (fun _ _ => by repeat' first | exact RepIs.nil | refine RepIs.cons ?_ ?_ | exact RepI.bool _ | exact RepI.int _ _ rfl | exact RepI.nil | exact RepI.nilp | exact RepI.str [] (Nat.zero_le _)) rfl rfl
theorem desc9 : descOk Try.prog 9 ti9 := descOk_of Try.underlying9 info9 (fun _ _ => by repeat' first | exact RepIs.nil | refine RepIs.cons ?_ ?_ | exact RepI.bool _ | exact RepI.int _ _ rfl | exact RepI.nil | exact RepI.nilp | exact RepI.str [] (Nat.zero_le _)) rfl rfl
theorem desc21 : descOk Try.prog 21 ti21 := descOk_of Try.underlying21 info21 (fun _ _ => by repeat' first | exact RepIs.nil | refine RepIs.cons ?_ ?_ | exact RepI.bool _ | exact RepI.int _ _ rfl | exact RepI.nil | exact RepI.nilp | exact RepI.str [] (Nat.zero_le _)) rfl rfl
theorem desc22 : descOk Try.prog 22 ti22 := descOk_of Try.underlying22 info22 (fun _ _ => by repeat' first | exact RepIs.nil | refine RepIs.cons ?_ ?_ | exact RepI.bool _ | exact RepI.int _ _ rfl | exact RepI.nil | exact RepI.nilp | exact RepI.str [] (Nat.zero_le _)) rfl rfl
theorem desc24 : descOk Try.prog 24 ti24 := descOk_of Try.underlying24 info24 (fun _ _ => by repeat' first | exact RepIs.nil | refine RepIs.cons ?_ ?_ | exact RepI.bool _ | exact RepI.int _ _ rfl | exact RepI.nil | exact RepI.nilp | exact RepI.str [] (Nat.zero_le _)) rfl rfl
theorem desc30 : descOk Try.prog 30 ti30 := descOk_of Try.underlying30 info30 (fun _ _ => by repeat' first | exact RepIs.nil | refine RepIs.cons ?_ ?_ | exact RepI.bool _ | exact RepI.int _ _ rfl | exact RepI.nil | exact RepI.nilp | exact RepI.str [] (Nat.zero_le _)) rfl rfl
theorem desc44 : descOk Try.prog 44 ti44 := descOk_of Try.underlying44 info44 (fun _ _ => by repeat' first | exact RepIs.nil | refine RepIs.cons ?_ ?_ | exact RepI.bool _ | exact RepI.int _ _ rfl | exact RepI.nil | exact RepI.nilp | exact RepI.str [] (Nat.zero_le _)) rfl rfl
theorem desc45 : descOk Try.prog 45 ti45 := descOk_of Try.underlying45 info45 (fun _ _ => by repeat' first | exact RepIs.nil | refine RepIs.cons ?_ ?_ | exact RepI.bool _ | exact RepI.int _ _ rfl | exact RepI.nil | exact RepI.nilp | exact RepI.str [] (Nat.zero_le _)) rfl rfl
theorem desc58 : descOk Try.prog 58 ti58 := descOk_of Try.underlying58 info58 (fun _ _ => by repeat' first | exact RepIs.nil | refine RepIs.cons ?_ ?_ | exact RepI.bool _ | exact RepI.int _ _ rfl | exact RepI.nil | exact RepI.nilp | exact RepI.str [] (Nat.zero_le _)) rfl rfl
theorem desc59 : descOk Try.prog 59 ti59 := descOk_of Try.underlying59 info59 (fun _ _ => by repeat' first | exact RepIs.nil | refine RepIs.cons ?_ ?_ | exact RepI.bool _ | exact RepI.int _ _ rfl | exact RepI.nil | exact RepI.nilp | exact RepI.str [] (Nat.zero_le _)) rfl rfl
theorem desc61 : descOk Try.prog 61 ti61 := descOk_of Try.underlying61 info61 (fun _ _ => by repeat' first | exact RepIs.nil | refine RepIs.cons ?_ ?_ | exact RepI.bool _ | exact RepI.int _ _ rfl | exact RepI.nil | exact RepI.nilp | exact RepI.str [] (Nat.zero_le _)) rfl rfl
theorem desc82 : descOk Try.prog 82 ti82 := descOk_of Try.underlying82 info82 (fun _ _ => by repeat' first | exact RepIs.nil | refine RepIs.cons ?_ ?_ | exact RepI.bool _ | exact RepI.int _ _ rfl | exact RepI.nil | exact RepI.nilp | exact RepI.str [] (Nat.zero_le _)) rfl rfl
theorem desc88 : descOk Try.prog 88 ti88 := descOk_of Try.underlying88 info88 (fun _ _ => by repeat' first | exact RepIs.nil | refine RepIs.cons ?_ ?_ | exact RepI.bool _ | exact RepI.int _ _ rfl | exact RepI.nil | exact RepI.nilp | exact RepI.str [] (Nat.zero_le _)) rfl rfl
theorem desc93 : descOk Try.prog 93 ti93 := descOk_of Try.underlying93 info93 (fun _ _ => by repeat' first | exact RepIs.nil | refine RepIs.cons ?_ ?_ | exact RepI.bool _ | exact RepI.int _ _ rfl | exact RepI.nil | exact RepI.nilp | exact RepI.str [] (Nat.zero_le _)) rfl rfl
theorem desc108 : descOk Try.prog 108 ti108 := descOk_of Try.underlying108 info108 (fun _ _ => by repeat' first | exact RepIs.nil | refine RepIs.cons ?_ ?_ | exact RepI.bool _ | exact RepI.int _ _ rfl | exact RepI.nil | exact RepI.nilp | exact RepI.str [] (Nat.zero_le _)) rfl rfl
theorem desc110 : descOk Try.prog 110 ti110 := descOk_of Try.underlying110 info110 (fun _ _ => by repeat' first | exact RepIs.nil | refine RepIs.cons ?_ ?_ | exact RepI.bool _ | exact RepI.int _ _ rfl | exact RepI.nil | exact RepI.nilp | exact RepI.str [] (Nat.zero_le _)) rfl rfl
theorem desc146 : descOk Try.prog 146 ti146 := descOk_of Try.underlying146 info146 (fun _ _ => by repeat' first | exact RepIs.nil | refine RepIs.cons ?_ ?_ | exact RepI.bool _ | exact RepI.int _ _ rfl | exact RepI.nil | exact RepI.nilp | exact RepI.str [] (Nat.zero_le _)) rfl rfl

theorem envOk : EnvOk Try.prog G := fun t ti h => by
  unfold G at h
  split at h
  · obtain rfl := Option.some.inj h; exact desc2
  · obtain rfl := Option.some.inj h; exact desc3
  · obtain rfl := Option.some.inj h; exact desc4
  · obtain rfl := Option.some.inj h; exact desc5
  · obtain rfl := Option.some.inj h; exact desc9
  · obtain rfl := Option.some.inj h; exact desc21
  · obtain rfl := Option.some.inj h; exact desc22
  · obtain rfl := Option.some.inj h; exact desc24
  · obtain rfl := Option.some.inj h; exact desc30
  · obtain rfl := Option.some.inj h; exact desc44
  · obtain rfl := Option.some.inj h; exact desc45
  · obtain rfl := Option.some.inj h; exact desc58
  · obtain rfl := Option.some.inj h; exact desc59
  · obtain rfl := Option.some.inj h; exact desc61
  · obtain rfl := Option.some.inj h; exact desc82
  · obtain rfl := Option.some.inj h; exact desc88
  · obtain rfl := Option.some.inj h; exact desc93
  · obtain rfl := Option.some.inj h; exact desc108
  · obtain rfl := Option.some.inj h; exact desc110
  · obtain rfl := Option.some.inj h; exact desc146
  · cases h

theorem isInfo {t : Nat} {x} (h : (Try.prog.info? t).map (fun i => (i.zero, i.size, i.bytes)) = some x) : ∃ i, Try.prog.info? t = some i := by
  cases e : Try.prog.info? t with
  | none => rw [e] at h; cases h
  | some i => exact ⟨i, rfl⟩

theorem fieldsOk : FieldsOk Try.prog G := fun t ti F h hd f hf => by
  unfold G at h
  split at h
  · obtain rfl := Option.some.inj h; cases hd
  · obtain rfl := Option.some.inj h; cases hd
  · obtain rfl := Option.some.inj h; cases hd
  · obtain rfl := Option.some.inj h; cases hd
  · obtain rfl := Option.some.inj h; cases hd
  · obtain rfl := Option.some.inj h; cases hd
  · obtain rfl := Option.some.inj h; cases hd
  · obtain rfl := Option.some.inj h; cases hd
  · obtain rfl := Option.some.inj h; cases hd
  · obtain rfl := Option.some.inj h; cases hd
  · obtain rfl := Option.some.inj h; cases hd
  · obtain rfl := Option.some.inj h; cases hd
  · obtain rfl := Option.some.inj h; cases hd
  · obtain rfl := Option.some.inj h
    obtain rfl := TypeDesc.struct.inj hd
    simp only [List.mem_cons, List.not_mem_nil, or_false] at hf
    rcases hf with rfl | rfl
    · exact isInfo info59
    · exact isInfo info45
  · obtain rfl := Option.some.inj h; cases hd
  · obtain rfl := Option.some.inj h
    obtain rfl := TypeDesc.struct.inj hd
    simp only [List.mem_cons, List.not_mem_nil, or_false] at hf
    rcases hf with rfl | rfl | rfl | rfl
    · exact isInfo info9
    · exact isInfo info3
    · exact isInfo info3
    · exact isInfo info3
  · obtain rfl := Option.some.inj h
    obtain rfl := TypeDesc.struct.inj hd
    simp only [List.mem_cons, List.not_mem_nil, or_false] at hf
    rcases hf with rfl | rfl | rfl
    · exact isInfo info9
    · exact isInfo info9
    · exact isInfo info3
  · obtain rfl := Option.some.inj h; cases hd
  · obtain rfl := Option.some.inj h
    obtain rfl := TypeDesc.struct.inj hd
    simp only [List.mem_cons, List.not_mem_nil, or_false] at hf
    rcases hf with rfl | rfl | rfl
    · exact isInfo info22
    · exact isInfo info3
    · exact isInfo info108
  · obtain rfl := Option.some.inj h
    obtain rfl := TypeDesc.struct.inj hd
    simp only [List.mem_cons, List.not_mem_nil, or_false] at hf
    rcases hf with rfl | rfl
    · exact isInfo info9
    · exact isInfo info3
  · cases h
end Go.Proofs.Ytifkjlpkhfldoaa.Ai
