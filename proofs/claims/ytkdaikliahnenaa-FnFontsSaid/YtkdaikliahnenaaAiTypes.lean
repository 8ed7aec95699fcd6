/- MADE BY PROGRAM (gen_types.py): the table of types for the machine, and that it fits the program. -/
import Derived.Test.YtkdaikliahnenaaAiRules
import Derived.Test.YtkdaikliahnenaaProg
import Derived.KernelRfl
namespace Go.Proofs.Ytkdaikliahnenaa.Ai
open Go Go.Proofs
set_option maxRecDepth 10000

def isAggB : TypeDesc → Bool
  | .struct _ | .array _ _ => true
  | _ => false

theorem descOk_of {P : Program} {t : Nat} {d : TypeDesc} {n b : Nat} {zs : List PV} {a : Bool} {z : Value} (hu : P.underlying t = some d)
    (hi : (P.info? t).map (fun i => (i.zero, i.size, i.bytes)) = some (some z, n, b)) (hz : ∀ w I, RepIs w I zs z.cells.toList) (hl : zs.length = n)
    (ha : isAggB d = a) : descOk P t ⟨d, n, b, zs, a, false⟩ := by
  cases h : P.info? t with
  | none => rw [h] at hi; cases hi
  | some i =>
    rw [h] at hi
    simp only [Option.map_some, Option.some.injEq, Prod.mk.injEq] at hi
    exact ⟨hu, ⟨i, z, h, hi.2.1, hi.2.2, hi.1, hz, hl⟩, by rw [← ha]; cases d <;> rfl⟩

theorem mixed : Try.prog.follows .mixedOrders = true := by kernel_rfl

theorem info2 : (Try.prog.info? 2).map (fun i => (i.zero, i.size, i.bytes)) = some (some (.int .i64 0), 1, 8) := by kernel_rfl
theorem info3 : (Try.prog.info? 3).map (fun i => (i.zero, i.size, i.bytes)) = some (some (.int .i64 0), 1, 8) := by kernel_rfl
theorem info4 : (Try.prog.info? 4).map (fun i => (i.zero, i.size, i.bytes)) = some (some (.bool false), 1, 1) := by kernel_rfl
theorem info5 : (Try.prog.info? 5).map (fun i => (i.zero, i.size, i.bytes)) = some (some (.int .u8 0), 1, 1) := by kernel_rfl
theorem info9 : (Try.prog.info? 9).map (fun i => (i.zero, i.size, i.bytes)) = some (some (.string ⟨#[]⟩), 1, 16) := by kernel_rfl
theorem info21 : (Try.prog.info? 21).map (fun i => (i.zero, i.size, i.bytes)) = some (some (.int .i32 0), 1, 4) := by kernel_rfl
theorem info22 : (Try.prog.info? 22).map (fun i => (i.zero, i.size, i.bytes)) = some (some (.slice none 0 0), 1, 24) := by kernel_rfl
theorem info23 : (Try.prog.info? 23).map (fun i => (i.zero, i.size, i.bytes)) = some (some (.slice none 0 0), 1, 24) := by kernel_rfl
theorem info26 : (Try.prog.info? 26).map (fun i => (i.zero, i.size, i.bytes)) = some (some (.slice none 0 0), 1, 24) := by kernel_rfl
theorem info31 : (Try.prog.info? 31).map (fun i => (i.zero, i.size, i.bytes)) = some (some (.slice none 0 0), 1, 24) := by kernel_rfl
theorem info39 : (Try.prog.info? 39).map (fun i => (i.zero, i.size, i.bytes)) = some (some (.agg #[.string ⟨#[]⟩, .int .i64 0]), 2, 24) := by kernel_rfl
theorem info42 : (Try.prog.info? 42).map (fun i => (i.zero, i.size, i.bytes)) = some (some (.agg #[.string ⟨#[]⟩, .string ⟨#[]⟩]), 2, 32) := by kernel_rfl
theorem info58 : (Try.prog.info? 58).map (fun i => (i.zero, i.size, i.bytes)) = some (some (.slice none 0 0), 1, 24) := by kernel_rfl
theorem info64 : (Try.prog.info? 64).map (fun i => (i.zero, i.size, i.bytes)) = some (some (.agg #[.slice none 0 0, .slice none 0 0]), 2, 48) := by kernel_rfl
theorem info83 : (Try.prog.info? 83).map (fun i => (i.zero, i.size, i.bytes)) = some (some (.int .u64 0), 1, 8) := by kernel_rfl
theorem info85 : (Try.prog.info? 85).map (fun i => (i.zero, i.size, i.bytes)) = some (some (.agg #[.slice none 0 0, .int .i64 0, .int .u64 0]), 3, 40) := by kernel_rfl
theorem info94 : (Try.prog.info? 94).map (fun i => (i.zero, i.size, i.bytes)) = some (some (.slice none 0 0), 1, 24) := by kernel_rfl
theorem info95 : (Try.prog.info? 95).map (fun i => (i.zero, i.size, i.bytes)) = some (some (.slice none 0 0), 1, 24) := by kernel_rfl
theorem cells2 : Try.prog.cellsOf 2 = 1 := by kernel_rfl
theorem cells3 : Try.prog.cellsOf 3 = 1 := by kernel_rfl
theorem cells4 : Try.prog.cellsOf 4 = 1 := by kernel_rfl
theorem cells5 : Try.prog.cellsOf 5 = 1 := by kernel_rfl
theorem cells9 : Try.prog.cellsOf 9 = 1 := by kernel_rfl
theorem cells21 : Try.prog.cellsOf 21 = 1 := by kernel_rfl
theorem cells22 : Try.prog.cellsOf 22 = 1 := by kernel_rfl
theorem cells23 : Try.prog.cellsOf 23 = 1 := by kernel_rfl
theorem cells26 : Try.prog.cellsOf 26 = 1 := by kernel_rfl
theorem cells31 : Try.prog.cellsOf 31 = 1 := by kernel_rfl
theorem cells39 : Try.prog.cellsOf 39 = 2 := by kernel_rfl
theorem cells42 : Try.prog.cellsOf 42 = 2 := by kernel_rfl
theorem cells58 : Try.prog.cellsOf 58 = 1 := by kernel_rfl
theorem cells64 : Try.prog.cellsOf 64 = 2 := by kernel_rfl
theorem cells83 : Try.prog.cellsOf 83 = 1 := by kernel_rfl
theorem cells85 : Try.prog.cellsOf 85 = 3 := by kernel_rfl
theorem cells94 : Try.prog.cellsOf 94 = 1 := by kernel_rfl
theorem cells95 : Try.prog.cellsOf 95 = 1 := by kernel_rfl
def ti2 : TI := ⟨.int .i64, 1, 8, [.int .i64 0], false, false⟩
def ti3 : TI := ⟨.int .i64, 1, 8, [.int .i64 0], false, false⟩
def ti4 : TI := ⟨.bool, 1, 1, [.bool false], false, false⟩
def ti5 : TI := ⟨.int .u8, 1, 1, [.int .u8 0], false, false⟩
def ti9 : TI := ⟨.string, 1, 16, [.str []], false, false⟩
def ti21 : TI := ⟨.int .i32, 1, 4, [.int .i32 0], false, false⟩
def ti22 : TI := ⟨.slice 5, 1, 24, [.nil], false, false⟩
def ti23 : TI := ⟨.slice 39, 1, 24, [.nil], false, false⟩
def ti26 : TI := ⟨.slice 3, 1, 24, [.nil], false, false⟩
def ti31 : TI := ⟨.slice 9, 1, 24, [.nil], false, false⟩
def ti39 : TI := ⟨.struct #[{ name := "Code", type := 9, offset := 0, embedded := false, tag := "", pkgPath := "", byteOffset := 0 }, { name := "Set", type := 3, offset := 1, embedded := false, tag := "", pkgPath := "", byteOffset := 16 }], 2, 24, [.str [], .int .i64 0], true, false⟩
def ti42 : TI := ⟨.struct #[{ name := "Text", type := 9, offset := 0, embedded := false, tag := "", pkgPath := "", byteOffset := 0 }, { name := "Inks", type := 9, offset := 1, embedded := false, tag := "", pkgPath := "", byteOffset := 16 }], 2, 32, [.str [], .str []], true, false⟩
def ti58 : TI := ⟨.slice 64, 1, 24, [.nil], false, false⟩
def ti64 : TI := ⟨.struct #[{ name := "Held", type := 26, offset := 0, embedded := false, tag := "", pkgPath := "", byteOffset := 0 }, { name := "Wanted", type := 26, offset := 1, embedded := false, tag := "", pkgPath := "", byteOffset := 24 }], 2, 48, [.nil, .nil], true, false⟩
def ti83 : TI := ⟨.int .u64, 1, 8, [.int .u64 0], false, false⟩
def ti85 : TI := ⟨.struct #[{ name := "code", type := 22, offset := 0, embedded := false, tag := "", pkgPath := "loop.example/g01054/spec", byteOffset := 0 }, { name := "at", type := 3, offset := 1, embedded := false, tag := "", pkgPath := "loop.example/g01054/spec", byteOffset := 24 }, { name := "seed", type := 83, offset := 2, embedded := false, tag := "", pkgPath := "loop.example/g01054/spec", byteOffset := 32 }], 3, 40, [.nil, .int .i64 0, .int .u64 0], true, false⟩
def ti94 : TI := ⟨.slice 26, 1, 24, [.nil], false, false⟩
def ti95 : TI := ⟨.slice 4, 1, 24, [.nil], false, false⟩

def G : Env
  | 2 => some ⟨.int .i64, 1, 8, [.int .i64 0], false, false⟩
  | 3 => some ⟨.int .i64, 1, 8, [.int .i64 0], false, false⟩
  | 4 => some ⟨.bool, 1, 1, [.bool false], false, false⟩
  | 5 => some ⟨.int .u8, 1, 1, [.int .u8 0], false, false⟩
  | 9 => some ⟨.string, 1, 16, [.str []], false, false⟩
  | 21 => some ⟨.int .i32, 1, 4, [.int .i32 0], false, false⟩
  | 22 => some ⟨.slice 5, 1, 24, [.nil], false, false⟩
  | 23 => some ⟨.slice 39, 1, 24, [.nil], false, false⟩
  | 26 => some ⟨.slice 3, 1, 24, [.nil], false, false⟩
  | 31 => some ⟨.slice 9, 1, 24, [.nil], false, false⟩
  | 39 => some ⟨.struct #[{ name := "Code", type := 9, offset := 0, embedded := false, tag := "", pkgPath := "", byteOffset := 0 }, { name := "Set", type := 3, offset := 1, embedded := false, tag := "", pkgPath := "", byteOffset := 16 }], 2, 24, [.str [], .int .i64 0], true, false⟩
  | 42 => some ⟨.struct #[{ name := "Text", type := 9, offset := 0, embedded := false, tag := "", pkgPath := "", byteOffset := 0 }, { name := "Inks", type := 9, offset := 1, embedded := false, tag := "", pkgPath := "", byteOffset := 16 }], 2, 32, [.str [], .str []], true, false⟩
  | 58 => some ⟨.slice 64, 1, 24, [.nil], false, false⟩
  | 64 => some ⟨.struct #[{ name := "Held", type := 26, offset := 0, embedded := false, tag := "", pkgPath := "", byteOffset := 0 }, { name := "Wanted", type := 26, offset := 1, embedded := false, tag := "", pkgPath := "", byteOffset := 24 }], 2, 48, [.nil, .nil], true, false⟩
  | 83 => some ⟨.int .u64, 1, 8, [.int .u64 0], false, false⟩
  | 85 => some ⟨.struct #[{ name := "code", type := 22, offset := 0, embedded := false, tag := "", pkgPath := "loop.example/g01054/spec", byteOffset := 0 }, { name := "at", type := 3, offset := 1, embedded := false, tag := "", pkgPath := "loop.example/g01054/spec", byteOffset := 24 }, { name := "seed", type := 83, offset := 2, embedded := false, tag := "", pkgPath := "loop.example/g01054/spec", byteOffset := 32 }], 3, 40, [.nil, .int .i64 0, .int .u64 0], true, false⟩
  | 94 => some ⟨.slice 26, 1, 24, [.nil], false, false⟩
  | 95 => some ⟨.slice 4, 1, 24, [.nil], false, false⟩
  | _ => none

theorem desc2 : descOk Try.prog 2 ti2 := descOk_of Try.underlying2 info2 (fun _ _ => by repeat' first | exact RepIs.nil | refine RepIs.cons ?_ ?_ | exact RepI.bool _ | exact RepI.int _ _ rfl | exact RepI.nil | exact RepI.nilp | exact RepI.str [] (Nat.zero_le _)) rfl rfl
theorem desc3 : descOk Try.prog 3 ti3 := descOk_of Try.underlying3 info3 (fun _ _ => by repeat' first | exact RepIs.nil | refine RepIs.cons ?_ ?_ | exact RepI.bool _ | exact RepI.int _ _ rfl | exact RepI.nil | exact RepI.nilp | exact RepI.str [] (Nat.zero_le _)) rfl rfl
theorem desc4 : descOk Try.prog 4 ti4 := descOk_of Try.underlying4 info4 (fun _ _ => by repeat' first | exact RepIs.nil | refine RepIs.cons ?_ ?_ | exact RepI.bool _ | exact RepI.int _ _ rfl | exact RepI.nil | exact RepI.nilp | exact RepI.str [] (Nat.zero_le _)) rfl rfl
theorem desc5 : descOk Try.prog 5 ti5 := descOk_of Try.underlying5 info5 (fun _ _ => by repeat' first | exact RepIs.nil | refine RepIs.cons ?_ ?_ | exact RepI.bool _ | exact RepI.int _ _ rfl | exact RepI.nil | exact RepI.nilp | exact RepI.str [] (Nat.zero_le _)) rfl rfl
theorem desc9 : descOk Try.prog 9 ti9 := descOk_of Try.underlying9 info9 (fun _ _ => by repeat' first | exact RepIs.nil | refine RepIs.cons ?_ ?_ | exact RepI.bool _ | exact RepI.int _ _ rfl | exact RepI.nil | exact RepI.nilp | exact RepI.str [] (Nat.zero_le _)) rfl rfl
theorem desc21 : descOk Try.prog 21 ti21 := descOk_of Try.underlying21 info21 (fun _ _ => by repeat' first | exact RepIs.nil | refine RepIs.cons ?_ ?_ | exact RepI.bool _ | exact RepI.int _ _ rfl | exact RepI.nil | exact RepI.nilp | exact RepI.str [] (Nat.zero_le _)) rfl rfl
theorem desc22 : descOk Try.prog 22 ti22 := descOk_of Try.underlying22 info22 (fun _ _ => by repeat' first | exact RepIs.nil | refine RepIs.cons ?_ ?_ | exact RepI.bool _ | exact RepI.int _ _ rfl | exact RepI.nil | exact RepI.nilp | exact RepI.str [] (Nat.zero_le _)) rfl rfl
theorem desc23 : descOk Try.prog 23 ti23 := descOk_of Try.underlying23 info23 (fun _ _ => by repeat' first | exact RepIs.nil | refine RepIs.cons ?_ ?_ | exact RepI.bool _ | exact RepI.int _ _ rfl | exact RepI.nil | exact RepI.nilp | exact RepI.str [] (Nat.zero_le _)) rfl rfl
theorem desc26 : descOk Try.prog 26 ti26 := descOk_of Try.underlying26 info26 (fun _ _ => by repeat' first | exact RepIs.nil | refine RepIs.cons ?_ ?_ | exact RepI.bool _ | exact RepI.int _ _ rfl | exact RepI.nil | exact RepI.nilp | exact RepI.str [] (Nat.zero_le _)) rfl rfl
theorem desc31 : descOk Try.prog 31 ti31 := descOk_of Try.underlying31 info31 (fun _ _ => by repeat' first | exact RepIs.nil | refine RepIs.cons ?_ ?_ | exact RepI.bool _ | exact RepI.int _ _ rfl | exact RepI.nil | exact RepI.nilp | exact RepI.str [] (Nat.zero_le _)) rfl rfl
theorem desc39 : descOk Try.prog 39 ti39 := descOk_of Try.underlying39 info39 (fun _ _ => by repeat' first | exact RepIs.nil | refine RepIs.cons ?_ ?_ | exact RepI.bool _ | exact RepI.int _ _ rfl | exact RepI.nil | exact RepI.nilp | exact RepI.str [] (Nat.zero_le _)) rfl rfl
theorem desc42 : descOk Try.prog 42 ti42 := descOk_of Try.underlying42 info42 (fun _ _ => by repeat' first | exact RepIs.nil | refine RepIs.cons ?_ ?_ | exact RepI.bool _ | exact RepI.int _ _ rfl | exact RepI.nil | exact RepI.nilp | exact RepI.str [] (Nat.zero_le _)) rfl rfl
theorem desc58 : descOk Try.prog 58 ti58 := descOk_of Try.underlying58 info58 (fun _ _ => by repeat' first | exact RepIs.nil | refine RepIs.cons ?_ ?_ | exact RepI.bool _ | exact RepI.int _ _ rfl | exact RepI.nil | exact RepI.nilp | exact RepI.str [] (Nat.zero_le _)) rfl rfl
theorem desc64 : descOk Try.prog 64 ti64 := descOk_of Try.underlying64 info64 (fun _ _ => by repeat' first | exact RepIs.nil | refine RepIs.cons ?_ ?_ | exact RepI.bool _ | exact RepI.int _ _ rfl | exact RepI.nil | exact RepI.nilp | exact RepI.str [] (Nat.zero_le _)) rfl rfl
theorem desc83 : descOk Try.prog 83 ti83 := descOk_of Try.underlying83 info83 (fun _ _ => by repeat' first | exact RepIs.nil | refine RepIs.cons ?_ ?_ | exact RepI.bool _ | exact RepI.int _ _ rfl | exact RepI.nil | exact RepI.nilp | exact RepI.str [] (Nat.zero_le _)) rfl rfl
theorem desc85 : descOk Try.prog 85 ti85 := descOk_of Try.underlying85 info85 (fun _ _ => by repeat' first | exact RepIs.nil | refine RepIs.cons ?_ ?_ | exact RepI.bool _ | exact RepI.int _ _ rfl | exact RepI.nil | exact RepI.nilp | exact RepI.str [] (Nat.zero_le _)) rfl rfl
theorem desc94 : descOk Try.prog 94 ti94 := descOk_of Try.underlying94 info94 (fun _ _ => by repeat' first | exact RepIs.nil | refine RepIs.cons ?_ ?_ | exact RepI.bool _ | exact RepI.int _ _ rfl | exact RepI.nil | exact RepI.nilp | exact RepI.str [] (Nat.zero_le _)) rfl rfl
theorem desc95 : descOk Try.prog 95 ti95 := descOk_of Try.underlying95 info95 (fun _ _ => by repeat' first | exact RepIs.nil | refine RepIs.cons ?_ ?_ | exact RepI.bool _ | exact RepI.int _ _ rfl | exact RepI.nil | exact RepI.nilp | exact RepI.str [] (Nat.zero_le _)) rfl rfl

theorem envOk : EnvOk Try.prog G := fun t ti h => by
  unfold G at h
  split at h
  · obtain rfl := Option.some.inj h; exact desc2
  · obtain rfl := Option.some.inj h; exact desc3
  · obtain rfl := Option.some.inj h; exact desc4
  · obtain rfl := Option.some.inj h; exact desc5
  · obtain rfl := Option.some.inj h; exact desc9
  · obtain rfl := Option.some.inj h; exact desc21
  · obtain rfl := Option.some.inj h; exact desc22
  · obtain rfl := Option.some.inj h; exact desc23
  · obtain rfl := Option.some.inj h; exact desc26
  · obtain rfl := Option.some.inj h; exact desc31
  · obtain rfl := Option.some.inj h; exact desc39
  · obtain rfl := Option.some.inj h; exact desc42
  · obtain rfl := Option.some.inj h; exact desc58
  · obtain rfl := Option.some.inj h; exact desc64
  · obtain rfl := Option.some.inj h; exact desc83
  · obtain rfl := Option.some.inj h; exact desc85
  · obtain rfl := Option.some.inj h; exact desc94
  · obtain rfl := Option.some.inj h; exact desc95
  · cases h

theorem isInfo {t : Nat} {x} (h : (Try.prog.info? t).map (fun i => (i.zero, i.size, i.bytes)) = some x) : ∃ i, Try.prog.info? t = some i := by
  cases e : Try.prog.info? t with
  | none => rw [e] at h; cases h
  | some i => exact ⟨i, rfl⟩

theorem fieldsOk : FieldsOk Try.prog G := fun t ti F h hd f hf => by
  unfold G at h
  split at h
  · obtain rfl := Option.some.inj h; cases hd
  · obtain rfl := Option.some.inj h; cases hd
  · obtain rfl := Option.some.inj h; cases hd
  · obtain rfl := Option.some.inj h; cases hd
  · obtain rfl := Option.some.inj h; cases hd
  · obtain rfl := Option.some.inj h; cases hd
  · obtain rfl := Option.some.inj h; cases hd
  · obtain rfl := Option.some.inj h; cases hd
  · obtain rfl := Option.some.inj h; cases hd
  · obtain rfl := Option.some.inj h; cases hd
  · obtain rfl := Option.some.inj h
    obtain rfl := TypeDesc.struct.inj hd
    simp only [List.mem_cons, List.not_mem_nil, or_false] at hf
    rcases hf with rfl | rfl
    · exact isInfo info9
    · exact isInfo info3
  · obtain rfl := Option.some.inj h
    obtain rfl := TypeDesc.struct.inj hd
    simp only [List.mem_cons, List.not_mem_nil, or_false] at hf
    rcases hf with rfl | rfl
    · exact isInfo info9
    · exact isInfo info9
  · obtain rfl := Option.some.inj h; cases hd
  · obtain rfl := Option.some.inj h
    obtain rfl := TypeDesc.struct.inj hd
    simp only [List.mem_cons, List.not_mem_nil, or_false] at hf
    rcases hf with rfl | rfl
    · exact isInfo info26
    · exact isInfo info26
  · obtain rfl := Option.some.inj h; cases hd
  · obtain rfl := Option.some.inj h
    obtain rfl := TypeDesc.struct.inj hd
    simp only [List.mem_cons, List.not_mem_nil, or_false] at hf
    rcases hf with rfl | rfl | rfl
    · exact isInfo info22
    · exact isInfo info3
    · exact isInfo info83
  · obtain rfl := Option.some.inj h; cases hd
  · obtain rfl := Option.some.inj h; cases hd
  · cases h
end Go.Proofs.Ytkdaikliahnenaa.Ai
