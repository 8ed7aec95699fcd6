/- MADE BY PROGRAM (gen_types.py): the table of types for the machine, and that it fits the program. -/
import Derived.Test.YtfnfjgdepilgkaaAiRules
import Derived.Test.YtfnfjgdepilgkaaProg
import Derived.KernelRfl
namespace Go.Proofs.Ytfnfjgdepilgkaa.Ai
open Go Go.Proofs
set_option maxRecDepth 10000

def isAggB : TypeDesc → Bool
  | .struct _ | .array _ _ => true
  | _ => false

theorem descOk_of {P : Program} {t : Nat} {d : TypeDesc} {n b : Nat} {zs : List PV} {a : Bool} {z : Value} (hu : P.underlying t = some d)
    (hi : (P.info? t).map (fun i => (i.zero, i.size, i.bytes)) = some (some z, n, b)) (hz : ∀ w I, RepIs w I zs z.cells.toList) (hl : zs.length = n)
    (ha : isAggB d = a) : descOk P t ⟨d, n, b, zs, a, false⟩ := by
  cases h : P.info? t with
  | none => rw [h] at hi; cases hi
  | some i =>
    rw [h] at hi
    simp only [Option.map_some, Option.some.injEq, Prod.mk.injEq] at hi
    exact ⟨hu, ⟨i, z, h, hi.2.1, hi.2.2, hi.1, hz, hl⟩, by rw [← ha]; cases d <;> rfl⟩

theorem mixed : Try.prog.follows .mixedOrders = true := by kernel_rfl

theorem info2 : (Try.prog.info? 2).map (fun i => (i.zero, i.size, i.bytes)) = some (some (.int .i64 0), 1, 8) := by kernel_rfl
theorem info3 : (Try.prog.info? 3).map (fun i => (i.zero, i.size, i.bytes)) = some (some (.int .i64 0), 1, 8) := by kernel_rfl
theorem info4 : (Try.prog.info? 4).map (fun i => (i.zero, i.size, i.bytes)) = some (some (.bool false), 1, 1) := by kernel_rfl
theorem info5 : (Try.prog.info? 5).map (fun i => (i.zero, i.size, i.bytes)) = some (some (.int .u8 0), 1, 1) := by kernel_rfl
theorem info9 : (Try.prog.info? 9).map (fun i => (i.zero, i.size, i.bytes)) = some (some (.string ⟨#[]⟩), 1, 16) := by kernel_rfl
theorem info21 : (Try.prog.info? 21).map (fun i => (i.zero, i.size, i.bytes)) = some (some (.int .i32 0), 1, 4) := by kernel_rfl
theorem info22 : (Try.prog.info? 22).map (fun i => (i.zero, i.size, i.bytes)) = some (some (.slice none 0 0), 1, 24) := by kernel_rfl
theorem info24 : (Try.prog.info? 24).map (fun i => (i.zero, i.size, i.bytes)) = some (some (.slice none 0 0), 1, 24) := by kernel_rfl
theorem info46 : (Try.prog.info? 46).map (fun i => (i.zero, i.size, i.bytes)) = some (some (.slice none 0 0), 1, 24) := by kernel_rfl
theorem info49 : (Try.prog.info? 49).map (fun i => (i.zero, i.size, i.bytes)) = some (some (.slice none 0 0), 1, 24) := by kernel_rfl
theorem info55 : (Try.prog.info? 55).map (fun i => (i.zero, i.size, i.bytes)) = some (some (.agg #[.int .i64 0, .int .i64 0, .int .i64 0]), 3, 24) := by kernel_rfl
theorem info63 : (Try.prog.info? 63).map (fun i => (i.zero, i.size, i.bytes)) = some (some (.slice none 0 0), 1, 24) := by kernel_rfl
theorem info64 : (Try.prog.info? 64).map (fun i => (i.zero, i.size, i.bytes)) = some (some (.slice none 0 0), 1, 24) := by kernel_rfl
theorem info70 : (Try.prog.info? 70).map (fun i => (i.zero, i.size, i.bytes)) = some (some (.slice none 0 0), 1, 24) := by kernel_rfl
theorem info76 : (Try.prog.info? 76).map (fun i => (i.zero, i.size, i.bytes)) = some (some (.agg #[.slice none 0 0, .slice none 0 0]), 2, 48) := by kernel_rfl
theorem info97 : (Try.prog.info? 97).map (fun i => (i.zero, i.size, i.bytes)) = some (some (.int .u64 0), 1, 8) := by kernel_rfl
theorem info99 : (Try.prog.info? 99).map (fun i => (i.zero, i.size, i.bytes)) = some (some (.agg #[.slice none 0 0, .int .i64 0, .int .u64 0]), 3, 40) := by kernel_rfl
theorem info106 : (Try.prog.info? 106).map (fun i => (i.zero, i.size, i.bytes)) = some (some (.agg #[.slice none 0 0, .int .i64 0]), 2, 32) := by kernel_rfl
theorem info109 : (Try.prog.info? 109).map (fun i => (i.zero, i.size, i.bytes)) = some (some (.agg #[.slice none 0 0, .int .i64 0]), 2, 32) := by kernel_rfl
theorem info143 : (Try.prog.info? 143).map (fun i => (i.zero, i.size, i.bytes)) = some (some (.agg #[.string ⟨#[]⟩, .int .i64 0]), 2, 24) := by kernel_rfl
theorem cells2 : Try.prog.cellsOf 2 = 1 := by kernel_rfl
theorem cells3 : Try.prog.cellsOf 3 = 1 := by kernel_rfl
theorem cells4 : Try.prog.cellsOf 4 = 1 := by kernel_rfl
theorem cells5 : Try.prog.cellsOf 5 = 1 := by kernel_rfl
theorem cells9 : Try.prog.cellsOf 9 = 1 := by kernel_rfl
theorem cells21 : Try.prog.cellsOf 21 = 1 := by kernel_rfl
theorem cells22 : Try.prog.cellsOf 22 = 1 := by kernel_rfl
theorem cells24 : Try.prog.cellsOf 24 = 1 := by kernel_rfl
theorem cells46 : Try.prog.cellsOf 46 = 1 := by kernel_rfl
theorem cells49 : Try.prog.cellsOf 49 = 1 := by kernel_rfl
theorem cells55 : Try.prog.cellsOf 55 = 3 := by kernel_rfl
theorem cells63 : Try.prog.cellsOf 63 = 1 := by kernel_rfl
theorem cells64 : Try.prog.cellsOf 64 = 1 := by kernel_rfl
theorem cells70 : Try.prog.cellsOf 70 = 1 := by kernel_rfl
theorem cells76 : Try.prog.cellsOf 76 = 2 := by kernel_rfl
theorem cells97 : Try.prog.cellsOf 97 = 1 := by kernel_rfl
theorem cells99 : Try.prog.cellsOf 99 = 3 := by kernel_rfl
theorem cells106 : Try.prog.cellsOf 106 = 2 := by kernel_rfl
theorem cells109 : Try.prog.cellsOf 109 = 2 := by kernel_rfl
theorem cells143 : Try.prog.cellsOf 143 = 2 := by kernel_rfl
def ti2 : TI := ⟨.int .i64, 1, 8, [.int .i64 0], false, false⟩
def ti3 : TI := ⟨.int .i64, 1, 8, [.int .i64 0], false, false⟩
def ti4 : TI := ⟨.bool, 1, 1, [.bool false], false, false⟩
def ti5 : TI := ⟨.int .u8, 1, 1, [.int .u8 0], false, false⟩
def ti9 : TI := ⟨.string, 1, 16, [.str []], false, false⟩
def ti21 : TI := ⟨.int .i32, 1, 4, [.int .i32 0], false, false⟩
def ti22 : TI := ⟨.slice 5, 1, 24, [.nil], false, false⟩
def ti24 : TI := ⟨.slice 3, 1, 24, [.nil], false, false⟩
def ti46 : TI := ⟨.slice 106, 1, 24, [.nil], false, false⟩
def ti49 : TI := ⟨.slice 109, 1, 24, [.nil], false, false⟩
def ti55 : TI := ⟨.struct #[{ name := "Least", type := 3, offset := 0, embedded := false, tag := "", pkgPath := "", byteOffset := 0 }, { name := "Normal", type := 3, offset := 1, embedded := false, tag := "", pkgPath := "", byteOffset := 8 }, { name := "Most", type := 3, offset := 2, embedded := false, tag := "", pkgPath := "", byteOffset := 16 }], 3, 24, [.int .i64 0, .int .i64 0, .int .i64 0], true, false⟩
def ti63 : TI := ⟨.slice 143, 1, 24, [.nil], false, false⟩
def ti64 : TI := ⟨.slice 9, 1, 24, [.nil], false, false⟩
def ti70 : TI := ⟨.slice 76, 1, 24, [.nil], false, false⟩
def ti76 : TI := ⟨.struct #[{ name := "Held", type := 24, offset := 0, embedded := false, tag := "", pkgPath := "", byteOffset := 0 }, { name := "Wanted", type := 24, offset := 1, embedded := false, tag := "", pkgPath := "", byteOffset := 24 }], 2, 48, [.nil, .nil], true, false⟩
def ti97 : TI := ⟨.int .u64, 1, 8, [.int .u64 0], false, false⟩
def ti99 : TI := ⟨.struct #[{ name := "code", type := 22, offset := 0, embedded := false, tag := "", pkgPath := "loop.example/g01054/spec", byteOffset := 0 }, { name := "at", type := 3, offset := 1, embedded := false, tag := "", pkgPath := "loop.example/g01054/spec", byteOffset := 24 }, { name := "seed", type := 97, offset := 2, embedded := false, tag := "", pkgPath := "loop.example/g01054/spec", byteOffset := 32 }], 3, 40, [.nil, .int .i64 0, .int .u64 0], true, false⟩
def ti106 : TI := ⟨.struct #[{ name := "Needs", type := 24, offset := 0, embedded := false, tag := "", pkgPath := "", byteOffset := 0 }, { name := "Months", type := 3, offset := 1, embedded := false, tag := "", pkgPath := "", byteOffset := 24 }], 2, 32, [.nil, .int .i64 0], true, false⟩
def ti109 : TI := ⟨.struct #[{ name := "Needs", type := 24, offset := 0, embedded := false, tag := "", pkgPath := "", byteOffset := 0 }, { name := "Months", type := 3, offset := 1, embedded := false, tag := "", pkgPath := "", byteOffset := 24 }], 2, 32, [.nil, .int .i64 0], true, false⟩
def ti143 : TI := ⟨.struct #[{ name := "Code", type := 9, offset := 0, embedded := false, tag := "", pkgPath := "", byteOffset := 0 }, { name := "Set", type := 3, offset := 1, embedded := false, tag := "", pkgPath := "", byteOffset := 16 }], 2, 24, [.str [], .int .i64 0], true, false⟩

def G : Env
  | 2 => some ⟨.int .i64, 1, 8, [.int .i64 0], false, false⟩
  | 3 => some ⟨.int .i64, 1, 8, [.int .i64 0], false, false⟩
  | 4 => some ⟨.bool, 1, 1, [.bool false], false, false⟩
  | 5 => some ⟨.int .u8, 1, 1, [.int .u8 0], false, false⟩
  | 9 => some ⟨.string, 1, 16, [.str []], false, false⟩
  | 21 => some ⟨.int .i32, 1, 4, [.int .i32 0], false, false⟩
  | 22 => some ⟨.slice 5, 1, 24, [.nil], false, false⟩
  | 24 => some ⟨.slice 3, 1, 24, [.nil], false, false⟩
  | 46 => some ⟨.slice 106, 1, 24, [.nil], false, false⟩
  | 49 => some ⟨.slice 109, 1, 24, [.nil], false, false⟩
  | 55 => some ⟨.struct #[{ name := "Least", type := 3, offset := 0, embedded := false, tag := "", pkgPath := "", byteOffset := 0 }, { name := "Normal", type := 3, offset := 1, embedded := false, tag := "", pkgPath := "", byteOffset := 8 }, { name := "Most", type := 3, offset := 2, embedded := false, tag := "", pkgPath := "", byteOffset := 16 }], 3, 24, [.int .i64 0, .int .i64 0, .int .i64 0], true, false⟩
  | 63 => some ⟨.slice 143, 1, 24, [.nil], false, false⟩
  | 64 => some ⟨.slice 9, 1, 24, [.nil], false, false⟩
  | 70 => some ⟨.slice 76, 1, 24, [.nil], false, false⟩
  | 76 => some ⟨.struct #[{ name := "Held", type := 24, offset := 0, embedded := false, tag := "", pkgPath := "", byteOffset := 0 }, { name := "Wanted", type := 24, offset := 1, embedded := false, tag := "", pkgPath := "", byteOffset := 24 }], 2, 48, [.nil, .nil], true, false⟩
  | 97 => some ⟨.int .u64, 1, 8, [.int .u64 0], false, false⟩
  | 99 => some ⟨.struct #[{ name := "code", type := 22, offset := 0, embedded := false, tag := "", pkgPath := "loop.example/g01054/spec", byteOffset := 0 }, { name := "at", type := 3, offset := 1, embedded := false, tag := "", pkgPath := "loop.example/g01054/spec", byteOffset := 24 }, { name := "seed", type := 97, offset := 2, embedded := false, tag := "", pkgPath := "loop.example/g01054/spec", byteOffset := 32 }], 3, 40, [.nil, .int .i64 0, .int .u64 0], true, false⟩
  | 106 => some ⟨.struct #[{ name := "Needs", type := 24, offset := 0, embedded := false, tag := "", pkgPath := "", byteOffset := 0 }, { name := "Months", type := 3, offset := 1, embedded := false, tag := "", pkgPath := "", byteOffset := 24 }], 2, 32, [.nil, .int .i64 0], true, false⟩
  | 109 => some ⟨.struct #[{ name := "Needs", type := 24, offset := 0, embedded := false, tag := "", pkgPath := "", byteOffset := 0 }, { name := "Months", type := 3, offset := 1, embedded := false, tag := "", pkgPath := "", byteOffset := 24 }], 2, 32, [.nil, .int .i64 0], true, false⟩
  | 143 => some ⟨.struct #[{ name := "Code", type := 9, offset := 0, embedded := false, tag := "", pkgPath := "", byteOffset := 0 }, { name := "Set", type := 3, offset := 1, embedded := false, tag := "", pkgPath := "", byteOffset := 16 }], 2, 24, [.str [], .int .i64 0], true, false⟩
  | _ => none

theorem desc2 : descOk Try.prog 2 ti2 := descOk_of Try.underlying2 info2 (fun _ _ => by repeat' first | exact RepIs.nil | refine RepIs.cons ?_ ?_ | exact RepI.bool _ | exact RepI.int _ _ rfl | exact RepI.nil | exact RepI.nilp | exact RepI.str [] (Nat.zero_le _)) rfl rfl
theorem desc3 : descOk Try.prog 3 ti3 := descOk_of Try.underlying3 info3 (fun _ _ => by repeat' first | exact RepIs.nil | refine RepIs.cons ?_ ?_ | exact RepI.bool _ | exact RepI.int _ _ rfl | exact RepI.nil | exact RepI.nilp | exact RepI.str [] (Nat.zero_le _)) rfl rfl
theorem desc4 : descOk Try.prog 4 ti4 := descOk_of Try.underlying4 info4 (fun _ _ => by repeat' first | exact RepIs.nil | refine RepIs.cons ?_ ?_ | exact RepI.bool _ | exact RepI.int _ _ rfl | exact RepI.nil | exact RepI.nilp | exact RepI.str [] (Nat.zero_le _)) rfl rfl
theorem desc5 : descOk Try.prog 5 ti5 := descOk_of Try.underlying5 info5 (fun _ _ => by repeat' first | exact RepIs.nil | refine RepIs.cons ?_ ?_ | exact RepI.bool _ | exact RepI.int _ _ rfl | exact RepI.nil | exact RepI.nilp | exact RepI.str [] (Nat.zero_le _)) rfl rfl
theorem desc9 : descOk Try.prog 9 ti9 := descOk_of Try.underlying9 info9 (fun _ _ => by repeat' first | exact RepIs.nil | refine RepIs.cons ?_ ?_ | exact RepI.bool _ | exact RepI.int _ _ rfl | exact RepI.nil | exact RepI.nilp | exact RepI.str [] (Nat.zero_le _)) rfl rfl
theorem desc21 : descOk Try.prog 21 ti21 := descOk_of Try.underlying21 info21 (fun _ _ => by repeat' first | exact RepIs.nil | refine RepIs.cons ?_ ?_ | exact RepI.bool _ | exact RepI.int _ _ rfl | exact RepI.nil | exact RepI.nilp | exact RepI.str [] (Nat.zero_le _)) rfl rfl
theorem desc22 : descOk Try.prog 22 ti22 := descOk_of Try.underlying22 info22 (fun _ _ => by repeat' first | exact RepIs.nil | refine RepIs.cons ?_ ?_ | exact RepI.bool _ | exact RepI.int _ _ rfl | exact RepI.nil | exact RepI.nilp | exact RepI.str [] (Nat.zero_le _)) rfl rfl
theorem desc24 : descOk Try.prog 24 ti24 := descOk_of Try.underlying24 info24 (fun _ _ => by repeat' first | exact RepIs.nil | refine RepIs.cons ?_ ?_ | exact RepI.bool _ | exact RepI.int _ _ rfl | exact RepI.nil | exact RepI.nilp | exact RepI.str [] (Nat.zero_le _)) rfl rfl
theorem desc46 : descOk Try.prog 46 ti46 := descOk_of Try.underlying46 info46 (fun _ _ => by repeat' first | exact RepIs.nil | refine RepIs.cons ?_ ?_ | exact RepI.bool _ | exact RepI.int _ _ rfl | exact RepI.nil | exact RepI.nilp | exact RepI.str [] (Nat.zero_le _)) rfl rfl
theorem desc49 : descOk Try.prog 49 ti49 := descOk_of Try.underlying49 info49 (fun _ _ => by repeat' first | exact RepIs.nil | refine RepIs.cons ?_ ?_ | exact RepI.bool _ | exact RepI.int _ _ rfl | exact RepI.nil | exact RepI.nilp | exact RepI.str [] (Nat.zero_le _)) rfl rfl
theorem desc55 : descOk Try.prog 55 ti55 := descOk_of Try.underlying55 info55 (fun _ _ => by repeat' first | exact RepIs.nil | refine RepIs.cons ?_ ?_ | exact RepI.bool _ | exact RepI.int _ _ rfl | exact RepI.nil | exact RepI.nilp | exact RepI.str [] (Nat.zero_le _)) rfl rfl
theorem desc63 : descOk Try.prog 63 ti63 := descOk_of Try.underlying63 info63 (fun _ _ => by repeat' first | exact RepIs.nil | refine RepIs.cons ?_ ?_ | exact RepI.bool _ | exact RepI.int _ _ rfl | exact RepI.nil | exact RepI.nilp | exact RepI.str [] (Nat.zero_le _)) rfl rfl
theorem desc64 : descOk Try.prog 64 ti64 := descOk_of Try.underlying64 info64 (fun _ _ => by repeat' first | exact RepIs.nil | refine RepIs.cons ?_ ?_ | exact RepI.bool _ | exact RepI.int _ _ rfl | exact RepI.nil | exact RepI.nilp | exact RepI.str [] (Nat.zero_le _)) rfl rfl
theorem desc70 : descOk Try.prog 70 ti70 := descOk_of Try.underlying70 info70 (fun _ _ => by repeat' first | exact RepIs.nil | refine RepIs.cons ?_ ?_ | exact RepI.bool _ | exact RepI.int _ _ rfl | exact RepI.nil | exact RepI.nilp | exact RepI.str [] (Nat.zero_le _)) rfl rfl
theorem desc76 : descOk Try.prog 76 ti76 := descOk_of Try.underlying76 info76 (fun _ _ => by repeat' first | exact RepIs.nil | refine RepIs.cons ?_ ?_ | exact RepI.bool _ | exact RepI.int _ _ rfl | exact RepI.nil | exact RepI.nilp | exact RepI.str [] (Nat.zero_le _)) rfl rfl
theorem desc97 : descOk Try.prog 97 ti97 := descOk_of Try.underlying97 info97 (fun _ _ => by repeat' first | exact RepIs.nil | refine RepIs.cons ?_ ?_ | exact RepI.bool _ | exact RepI.int _ _ rfl | exact RepI.nil | exact RepI.nilp | exact RepI.str [] (Nat.zero_le _)) rfl rfl
theorem desc99 : descOk Try.prog 99 ti99 := descOk_of Try.underlying99 info99 (fun _ _ => by repeat' first | exact RepIs.nil | refine RepIs.cons ?_ ?_ | exact RepI.bool _ | exact RepI.int _ _ rfl | exact RepI.nil | exact RepI.nilp | exact RepI.str [] (Nat.zero_le _)) rfl rfl
theorem desc106 : descOk Try.prog 106 ti106 := descOk_of Try.underlying106 info106 (fun _ _ => by repeat' first | exact RepIs.nil | refine RepIs.cons ?_ ?_ | exact RepI.bool _ | exact RepI.int _ _ rfl | exact RepI.nil | exact RepI.nilp | exact RepI.str [] (Nat.zero_le _)) rfl rfl
theorem desc109 : descOk Try.prog 109 ti109 := descOk_of Try.underlying109 info109 (fun _ _ => by repeat' first | exact RepIs.nil | refine RepIs.cons ?_ ?_ | exact RepI.bool _ | exact RepI.int _ _ rfl | exact RepI.nil | exact RepI.nilp | exact RepI.str [] (Nat.zero_le _)) rfl rfl
theorem desc143 : descOk Try.prog 143 ti143 := descOk_of Try.underlying143 info143 (fun _ _ => by repeat' first | exact RepIs.nil | refine RepIs.cons ?_ ?_ | exact RepI.bool _ | exact RepI.int _ _ rfl | exact RepI.nil | exact RepI.nilp | exact RepI.str [] (Nat.zero_le _)) rfl rfl

theorem envOk : EnvOk Try.prog G := fun t ti h => by
  unfold G at h
  split at h
  · obtain rfl := Option.some.inj h; exact desc2
  · obtain rfl := Option.some.inj h; exact desc3
  · obtain rfl := Option.some.inj h; exact desc4
  · obtain rfl := Option.some.inj h; exact desc5
  · obtain rfl := Option.some.inj h; exact desc9
  · obtain rfl := Option.some.inj h; exact desc21
  · obtain rfl := Option.some.inj h; exact desc22
  · obtain rfl := Option.some.inj h; exact desc24
  · obtain rfl := Option.some.inj h; exact desc46
  · obtain rfl := Option.some.inj h; exact desc49
  · obtain rfl := Option.some.inj h; exact desc55
  · obtain rfl := Option.some.inj h; exact desc63
  · obtain rfl := Option.some.inj h; exact desc64
  · obtain rfl := Option.some.inj h; exact desc70
  · obtain rfl := Option.some.inj h; exact desc76
  · obtain rfl := Option.some.inj h; exact desc97
  · obtain rfl := Option.some.inj h; exact desc99
  · obtain rfl := Option.some.inj h; exact desc106
  · obtain rfl := Option.some.inj h; exact desc109
  · obtain rfl := Option.some.inj h; exact desc143
  · cases h

theorem isInfo {t : Nat} {x} (h : (Try.prog.info? t).map (fun i => (i.zero, i.size, i.bytes)) = some x) : ∃ i, Try.prog.info? t = some i := by
  cases e : Try.prog.info? t with
  | none => rw [e] at h; cases h
  | some i => exact ⟨i, rfl⟩

theorem fieldsOk : FieldsOk Try.prog G := fun t ti F h hd f hf => by
  unfold G at h
  split at h
  · obtain rfl := Option.some.inj h; cases hd
  · obtain rfl := Option.some.inj h; cases hd
  · obtain rfl := Option.some.inj h; cases hd
  · obtain rfl := Option.some.inj h; cases hd
  · obtain rfl := Option.some.inj h; cases hd
  · obtain rfl := Option.some.inj h; cases hd
  · obtain rfl := Option.some.inj h; cases hd
  · obtain rfl := Option.some.inj h; cases hd
  · obtain rfl := Option.some.inj h; cases hd
  · obtain rfl := Option.some.inj h; cases hd
  · obtain rfl := Option.some.inj h
    obtain rfl := TypeDesc.struct.inj hd
    simp only [List.mem_cons, List.not_mem_nil, or_false] at hf
    rcases hf with rfl | rfl | rfl
    · exact isInfo info3
    · exact isInfo info3
    · exact isInfo info3
  · obtain rfl := Option.some.inj h; cases hd
  · obtain rfl := Option.some.inj h; cases hd
  · obtain rfl := Option.some.inj h; cases hd
  · obtain rfl := Option.some.inj h
    obtain rfl := TypeDesc.struct.inj hd
    simp only [List.mem_cons, List.not_mem_nil, or_false] at hf
    rcases hf with rfl | rfl
    · exact isInfo info24
    · exact isInfo info24
  · obtain rfl := Option.some.inj h; cases hd
  · obtain rfl := Option.some.inj h
    obtain rfl := TypeDesc.struct.inj hd
    simp only [List.mem_cons, List.not_mem_nil, or_false] at hf
    rcases hf with rfl | rfl | rfl
    · exact isInfo info22
    · exact isInfo info3
    · exact isInfo info97
  · obtain rfl := Option.some.inj h
    obtain rfl := TypeDesc.struct.inj hd
    simp only [List.mem_cons, List.not_mem_nil, or_false] at hf
    rcases hf with rfl | rfl
    · exact isInfo info24
    · exact isInfo info3
  · obtain rfl := Option.some.inj h
    obtain rfl := TypeDesc.struct.inj hd
    simp only [List.mem_cons, List.not_mem_nil, or_false] at hf
    rcases hf with rfl | rfl
    · exact isInfo info24
    · exact isInfo info3
  · obtain rfl := Option.some.inj h
    obtain rfl := TypeDesc.struct.inj hd
    simp only [List.mem_cons, List.not_mem_nil, or_false] at hf
    rcases hf with rfl | rfl
    · exact isInfo info9
    · exact isInfo info3
  · cases h
end Go.Proofs.Ytfnfjgdepilgkaa.Ai
