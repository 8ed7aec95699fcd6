/- MADE BY PROGRAM (gen_types.py): the table of types for the machine, and that it fits the program. -/
import Derived.Test.YtbamclepgabciaaDoorAiRules
import Derived.Test.YtbamclepgabciaaDoorProg
import Derived.KernelRfl
namespace Go.Proofs.YtbamclepgabciaaDoor.Ai
open Go Go.Proofs
set_option maxRecDepth 10000

def isAggB : TypeDesc → Bool
  | .struct _ | .array _ _ => true
  | _ => false

theorem descOk_of {P : Program} {t : Nat} {d : TypeDesc} {n b : Nat} {zs : List PV} {a : Bool} {z : Value} (hu : P.underlying t = some d)
    (hi : (P.info? t).map (fun i => (i.zero, i.size, i.bytes)) = some (some z, n, b)) (hz : ∀ w I, RepIs w I zs z.cells.toList) (hl : zs.length = n)
    (ha : isAggB d = a) : descOk P t ⟨d, n, b, zs, a, false⟩ := by
  cases h : P.info? t with
  | none => rw [h] at hi; cases hi
  | some i =>
    rw [h] at hi
    simp only [Option.map_some, Option.some.injEq, Prod.mk.injEq] at hi
    exact ⟨hu, ⟨i, z, h, hi.2.1, hi.2.2, hi.1, hz, hl⟩, by rw [← ha]; cases d <;> rfl⟩

theorem mixed : Tryd.prog.follows .mixedOrders = true := by kernel_rfl

theorem info2 : (Tryd.prog.info? 2).map (fun i => (i.zero, i.size, i.bytes)) = some (some (.int .i64 0), 1, 8) := by kernel_rfl
theorem info3 : (Tryd.prog.info? 3).map (fun i => (i.zero, i.size, i.bytes)) = some (some (.int .i64 0), 1, 8) := by kernel_rfl
theorem info4 : (Tryd.prog.info? 4).map (fun i => (i.zero, i.size, i.bytes)) = some (some (.bool false), 1, 1) := by kernel_rfl
theorem info5 : (Tryd.prog.info? 5).map (fun i => (i.zero, i.size, i.bytes)) = some (some (.int .u8 0), 1, 1) := by kernel_rfl
theorem info9 : (Tryd.prog.info? 9).map (fun i => (i.zero, i.size, i.bytes)) = some (some (.string ⟨#[]⟩), 1, 16) := by kernel_rfl
theorem info21 : (Tryd.prog.info? 21).map (fun i => (i.zero, i.size, i.bytes)) = some (some (.int .i32 0), 1, 4) := by kernel_rfl
theorem info22 : (Tryd.prog.info? 22).map (fun i => (i.zero, i.size, i.bytes)) = some (some (.slice none 0 0), 1, 24) := by kernel_rfl
theorem info23 : (Tryd.prog.info? 23).map (fun i => (i.zero, i.size, i.bytes)) = some (some (.slice none 0 0), 1, 24) := by kernel_rfl
theorem info26 : (Tryd.prog.info? 26).map (fun i => (i.zero, i.size, i.bytes)) = some (some (.slice none 0 0), 1, 24) := by kernel_rfl
theorem info35 : (Tryd.prog.info? 35).map (fun i => (i.zero, i.size, i.bytes)) = some (some (.agg #[.int .i64 0, .int .i64 0, .int .i64 0]), 3, 24) := by kernel_rfl
theorem info41 : (Tryd.prog.info? 41).map (fun i => (i.zero, i.size, i.bytes)) = some (some (.slice none 0 0), 1, 24) := by kernel_rfl
theorem info48 : (Tryd.prog.info? 48).map (fun i => (i.zero, i.size, i.bytes)) = some (some (.slice none 0 0), 1, 24) := by kernel_rfl
theorem info53 : (Tryd.prog.info? 53).map (fun i => (i.zero, i.size, i.bytes)) = some (some (.slice none 0 0), 1, 24) := by kernel_rfl
theorem info58 : (Tryd.prog.info? 58).map (fun i => (i.zero, i.size, i.bytes)) = some (some (.agg #[.int .i64 0, .int .i64 0, .int .i64 0, .int .i64 0]), 4, 32) := by kernel_rfl
theorem info83 : (Tryd.prog.info? 83).map (fun i => (i.zero, i.size, i.bytes)) = some (some (.int .u64 0), 1, 8) := by kernel_rfl
theorem info85 : (Tryd.prog.info? 85).map (fun i => (i.zero, i.size, i.bytes)) = some (some (.agg #[.slice none 0 0, .int .i64 0, .int .u64 0]), 3, 40) := by kernel_rfl
theorem info92 : (Tryd.prog.info? 92).map (fun i => (i.zero, i.size, i.bytes)) = some (some (.slice none 0 0), 1, 24) := by kernel_rfl
theorem info99 : (Tryd.prog.info? 99).map (fun i => (i.zero, i.size, i.bytes)) = some (some (.slice none 0 0), 1, 24) := by kernel_rfl
theorem info102 : (Tryd.prog.info? 102).map (fun i => (i.zero, i.size, i.bytes)) = some (some (.agg #[.int .i64 0, .bool false]), 2, 16) := by kernel_rfl
theorem info116 : (Tryd.prog.info? 116).map (fun i => (i.zero, i.size, i.bytes)) = some (some (.agg #[.int .i64 0, .bool false]), 2, 16) := by kernel_rfl
theorem info129 : (Tryd.prog.info? 129).map (fun i => (i.zero, i.size, i.bytes)) = some (some (.slice none 0 0), 1, 24) := by kernel_rfl
theorem info132 : (Tryd.prog.info? 132).map (fun i => (i.zero, i.size, i.bytes)) = some (some (.slice none 0 0), 1, 24) := by kernel_rfl
theorem info133 : (Tryd.prog.info? 133).map (fun i => (i.zero, i.size, i.bytes)) = some (some (.slice none 0 0), 1, 24) := by kernel_rfl
theorem info136 : (Tryd.prog.info? 136).map (fun i => (i.zero, i.size, i.bytes)) = some (some (.slice none 0 0), 1, 24) := by kernel_rfl
theorem info140 : (Tryd.prog.info? 140).map (fun i => (i.zero, i.size, i.bytes)) = some (some (.slice none 0 0), 1, 24) := by kernel_rfl
theorem cells2 : Tryd.prog.cellsOf 2 = 1 := by kernel_rfl
theorem cells3 : Tryd.prog.cellsOf 3 = 1 := by kernel_rfl
theorem cells4 : Tryd.prog.cellsOf 4 = 1 := by kernel_rfl
theorem cells5 : Tryd.prog.cellsOf 5 = 1 := by kernel_rfl
theorem cells9 : Tryd.prog.cellsOf 9 = 1 := by kernel_rfl
theorem cells21 : Tryd.prog.cellsOf 21 = 1 := by kernel_rfl
theorem cells22 : Tryd.prog.cellsOf 22 = 1 := by kernel_rfl
theorem cells23 : Tryd.prog.cellsOf 23 = 1 := by kernel_rfl
theorem cells26 : Tryd.prog.cellsOf 26 = 1 := by kernel_rfl
theorem cells35 : Tryd.prog.cellsOf 35 = 3 := by kernel_rfl
theorem cells41 : Tryd.prog.cellsOf 41 = 1 := by kernel_rfl
theorem cells48 : Tryd.prog.cellsOf 48 = 1 := by kernel_rfl
theorem cells53 : Tryd.prog.cellsOf 53 = 1 := by kernel_rfl
theorem cells58 : Tryd.prog.cellsOf 58 = 4 := by kernel_rfl
theorem cells83 : Tryd.prog.cellsOf 83 = 1 := by kernel_rfl
theorem cells85 : Tryd.prog.cellsOf 85 = 3 := by kernel_rfl
theorem cells92 : Tryd.prog.cellsOf 92 = 1 := by kernel_rfl
theorem cells99 : Tryd.prog.cellsOf 99 = 1 := by kernel_rfl
theorem cells102 : Tryd.prog.cellsOf 102 = 2 := by kernel_rfl
theorem cells116 : Tryd.prog.cellsOf 116 = 2 := by kernel_rfl
theorem cells129 : Tryd.prog.cellsOf 129 = 1 := by kernel_rfl
theorem cells132 : Tryd.prog.cellsOf 132 = 1 := by kernel_rfl
theorem cells133 : Tryd.prog.cellsOf 133 = 1 := by kernel_rfl
theorem cells136 : Tryd.prog.cellsOf 136 = 1 := by kernel_rfl
theorem cells140 : Tryd.prog.cellsOf 140 = 1 := by kernel_rfl
def ti2 : TI := ⟨.int .i64, 1, 8, [.int .i64 0], false, false⟩
def ti3 : TI := ⟨.int .i64, 1, 8, [.int .i64 0], false, false⟩
def ti4 : TI := ⟨.bool, 1, 1, [.bool false], false, false⟩
def ti5 : TI := ⟨.int .u8, 1, 1, [.int .u8 0], false, false⟩
def ti9 : TI := ⟨.string, 1, 16, [.str []], false, false⟩
def ti21 : TI := ⟨.int .i32, 1, 4, [.int .i32 0], false, false⟩
def ti22 : TI := ⟨.slice 5, 1, 24, [.nil], false, false⟩
def ti23 : TI := ⟨.slice 35, 1, 24, [.nil], false, false⟩
def ti26 : TI := ⟨.slice 3, 1, 24, [.nil], false, false⟩
def ti35 : TI := ⟨.struct #[{ name := "Depth", type := 3, offset := 0, embedded := false, tag := "", pkgPath := "", byteOffset := 0 }, { name := "Note", type := 3, offset := 1, embedded := false, tag := "", pkgPath := "", byteOffset := 8 }, { name := "Paragraph", type := 3, offset := 2, embedded := false, tag := "", pkgPath := "", byteOffset := 16 }], 3, 24, [.int .i64 0, .int .i64 0, .int .i64 0], true, false⟩
def ti41 : TI := ⟨.slice 116, 1, 24, [.nil], false, false⟩
def ti48 : TI := ⟨.slice 4, 1, 24, [.nil], false, false⟩
def ti53 : TI := ⟨.slice 58, 1, 24, [.nil], false, false⟩
def ti58 : TI := ⟨.struct #[{ name := "Thousand", type := 3, offset := 0, embedded := false, tag := "", pkgPath := "", byteOffset := 0 }, { name := "Page", type := 3, offset := 1, embedded := false, tag := "", pkgPath := "", byteOffset := 8 }, { name := "Hour", type := 3, offset := 2, embedded := false, tag := "", pkgPath := "", byteOffset := 16 }, { name := "Least", type := 3, offset := 3, embedded := false, tag := "", pkgPath := "", byteOffset := 24 }], 4, 32, [.int .i64 0, .int .i64 0, .int .i64 0, .int .i64 0], true, false⟩
def ti83 : TI := ⟨.int .u64, 1, 8, [.int .u64 0], false, false⟩
def ti85 : TI := ⟨.struct #[{ name := "code", type := 22, offset := 0, embedded := false, tag := "", pkgPath := "loop.example/g01054/spec", byteOffset := 0 }, { name := "at", type := 3, offset := 1, embedded := false, tag := "", pkgPath := "loop.example/g01054/spec", byteOffset := 24 }, { name := "seed", type := 83, offset := 2, embedded := false, tag := "", pkgPath := "loop.example/g01054/spec", byteOffset := 32 }], 3, 40, [.nil, .int .i64 0, .int .u64 0], true, false⟩
def ti92 : TI := ⟨.slice 23, 1, 24, [.nil], false, false⟩
def ti99 : TI := ⟨.slice 102, 1, 24, [.nil], false, false⟩
def ti102 : TI := ⟨.struct #[{ name := "cell", type := 3, offset := 0, embedded := false, tag := "", pkgPath := "loop.example/g01054/impl", byteOffset := 0 }, { name := "up", type := 4, offset := 1, embedded := false, tag := "", pkgPath := "loop.example/g01054/impl", byteOffset := 8 }], 2, 16, [.int .i64 0, .bool false], true, false⟩
def ti116 : TI := ⟨.struct #[{ name := "Along", type := 3, offset := 0, embedded := false, tag := "", pkgPath := "", byteOffset := 0 }, { name := "Over", type := 4, offset := 1, embedded := false, tag := "", pkgPath := "", byteOffset := 8 }], 2, 16, [.int .i64 0, .bool false], true, false⟩
def ti129 : TI := ⟨.slice 26, 1, 24, [.nil], false, false⟩
def ti132 : TI := ⟨.slice 133, 1, 24, [.nil], false, false⟩
def ti133 : TI := ⟨.slice 99, 1, 24, [.nil], false, false⟩
def ti136 : TI := ⟨.slice 9, 1, 24, [.nil], false, false⟩
def ti140 : TI := ⟨.slice 48, 1, 24, [.nil], false, false⟩

def G : Env
  | 2 => some ⟨.int .i64, 1, 8, [.int .i64 0], false, false⟩
  | 3 => some ⟨.int .i64, 1, 8, [.int .i64 0], false, false⟩
  | 4 => some ⟨.bool, 1, 1, [.bool false], false, false⟩
  | 5 => some ⟨.int .u8, 1, 1, [.int .u8 0], false, false⟩
  | 9 => some ⟨.string, 1, 16, [.str []], false, false⟩
  | 21 => some ⟨.int .i32, 1, 4, [.int .i32 0], false, false⟩
  | 22 => some ⟨.slice 5, 1, 24, [.nil], false, false⟩
  | 23 => some ⟨.slice 35, 1, 24, [.nil], false, false⟩
  | 26 => some ⟨.slice 3, 1, 24, [.nil], false, false⟩
  | 35 => some ⟨.struct #[{ name := "Depth", type := 3, offset := 0, embedded := false, tag := "", pkgPath := "", byteOffset := 0 }, { name := "Note", type := 3, offset := 1, embedded := false, tag := "", pkgPath := "", byteOffset := 8 }, { name := "Paragraph", type := 3, offset := 2, embedded := false, tag := "", pkgPath := "", byteOffset := 16 }], 3, 24, [.int .i64 0, .int .i64 0, .int .i64 0], true, false⟩
  | 41 => some ⟨.slice 116, 1, 24, [.nil], false, false⟩
  | 48 => some ⟨.slice 4, 1, 24, [.nil], false, false⟩
  | 53 => some ⟨.slice 58, 1, 24, [.nil], false, false⟩
  | 58 => some ⟨.struct #[{ name := "Thousand", type := 3, offset := 0, embedded := false, tag := "", pkgPath := "", byteOffset := 0 }, { name := "Page", type := 3, offset := 1, embedded := false, tag := "", pkgPath := "", byteOffset := 8 }, { name := "Hour", type := 3, offset := 2, embedded := false, tag := "", pkgPath := "", byteOffset := 16 }, { name := "Least", type := 3, offset := 3, embedded := false, tag := "", pkgPath := "", byteOffset := 24 }], 4, 32, [.int .i64 0, .int .i64 0, .int .i64 0, .int .i64 0], true, false⟩
  | 83 => some ⟨.int .u64, 1, 8, [.int .u64 0], false, false⟩
  | 85 => some ⟨.struct #[{ name := "code", type := 22, offset := 0, embedded := false, tag := "", pkgPath := "loop.example/g01054/spec", byteOffset := 0 }, { name := "at", type := 3, offset := 1, embedded := false, tag := "", pkgPath := "loop.example/g01054/spec", byteOffset := 24 }, { name := "seed", type := 83, offset := 2, embedded := false, tag := "", pkgPath := "loop.example/g01054/spec", byteOffset := 32 }], 3, 40, [.nil, .int .i64 0, .int .u64 0], true, false⟩
  | 92 => some ⟨.slice 23, 1, 24, [.nil], false, false⟩
  | 99 => some ⟨.slice 102, 1, 24, [.nil], false, false⟩
  | 102 => some ⟨.struct #[{ name := "cell", type := 3, offset := 0, embedded := false, tag := "", pkgPath := "loop.example/g01054/impl", byteOffset := 0 }, { name := "up", type := 4, offset := 1, embedded := false, tag := "", pkgPath := "loop.example/g01054/impl", byteOffset := 8 }], 2, 16, [.int .i64 0, .bool false], true, false⟩
  | 116 => some ⟨.struct #[{ name := "Along", type := 3, offset := 0, embedded := false, tag := "", pkgPath := "", byteOffset := 0 }, { name := "Over", type := 4, offset := 1, embedded := false, tag := "", pkgPath := "", byteOffset := 8 }], 2, 16, [.int .i64 0, .bool false], true, false⟩
  | 129 => some ⟨.slice 26, 1, 24, [.nil], false, false⟩
  | 132 => some ⟨.slice 133, 1, 24, [.nil], false, false⟩
  | 133 => some ⟨.slice 99, 1, 24, [.nil], false, false⟩
  | 136 => some ⟨.slice 9, 1, 24, [.nil], false, false⟩
  | 140 => some ⟨.slice 48, 1, 24, [.nil], false, false⟩
  | _ => none

theorem desc2 : descOk Tryd.prog 2 ti2 := descOk_of Tryd.underlying2 info2 (fun _ _ => by repeat' first | exact RepIs.nil | refine RepIs.cons ?_ ?_ | exact RepI.bool _ | exact RepI.int _ _ rfl | exact RepI.nil | exact RepI.nilp | exact RepI.str [] (Nat.zero_le _)) rfl rfl
theorem desc3 : descOk Tryd.prog 3 ti3 := descOk_of Tryd.underlying3 info3 (fun _ _ => by repeat' first | exact RepIs.nil | refine RepIs.cons ?_ ?_ | exact RepI.bool _ | exact RepI.int _ _ rfl | exact RepI.nil | exact RepI.nilp | exact RepI.str [] (Nat.zero_le _)) rfl rfl
theorem desc4 : descOk Tryd.prog 4 ti4 := descOk_of Tryd.underlying4 info4 (fun _ _ => by repeat' first | exact RepIs.nil | refine RepIs.cons ?_ ?_ | exact RepI.bool _ | exact RepI.int _ _ rfl | exact RepI.nil | exact RepI.nilp | exact RepI.str [] (Nat.zero_le _)) rfl rfl
theorem desc5 : descOk Tryd.prog 5 ti5 := descOk_of Tryd.underlying5 info5 (fun _ _ => by repeat' first | exact RepIs.nil | refine RepIs.cons ?_ ?_ | exact RepI.bool _ | exact RepI.int _ _ rfl | exact RepI.nil | exact RepI.nilp | exact RepI.str [] (Nat.zero_le _)) rfl rfl
theorem desc9 : descOk Tryd.prog 9 ti9 := descOk_of Tryd.underlying9 info9 (fun _ _ => by repeat' first | exact RepIs.nil | refine RepIs.cons ?_ ?_ | exact RepI.bool _ | exact RepI.int _ _ rfl | exact RepI.nil | exact RepI.nilp | exact RepI.str [] (Nat.zero_le _)) rfl rfl
theorem desc21 : descOk Tryd.prog 21 ti21 := descOk_of Tryd.underlying21 info21 (fun _ _ => by repeat' first | exact RepIs.nil | refine RepIs.cons ?_ ?_ | exact RepI.bool _ | exact RepI.int _ _ rfl | exact RepI.nil | exact RepI.nilp | exact RepI.str [] (Nat.zero_le _)) rfl rfl
theorem desc22 : descOk Tryd.prog 22 ti22 := descOk_of Tryd.underlying22 info22 (fun _ _ => by repeat' first | exact RepIs.nil | refine RepIs.cons ?_ ?_ | exact RepI.bool _ | exact RepI.int _ _ rfl | exact RepI.nil | exact RepI.nilp | exact RepI.str [] (Nat.zero_le _)) rfl rfl
theorem desc23 : descOk Tryd.prog 23 ti23 := descOk_of Tryd.underlying23 info23 (fun _ _ => by repeat' first | exact RepIs.nil | refine RepIs.cons ?_ ?_ | exact RepI.bool _ | exact RepI.int _ _ rfl | exact RepI.nil | exact RepI.nilp | exact RepI.str [] (Nat.zero_le _)) rfl rfl
theorem desc26 : descOk Tryd.prog 26 ti26 := descOk_of Tryd.underlying26 info26 (fun _ _ => by repeat' first | exact RepIs.nil | refine RepIs.cons ?_ ?_ | exact RepI.bool _ | exact RepI.int _ _ rfl | exact RepI.nil | exact RepI.nilp | exact RepI.str [] (Nat.zero_le _)) rfl rfl
theorem desc35 : descOk Tryd.prog 35 ti35 := descOk_of Tryd.underlying35 info35 (fun _ _ => by repeat' first | exact RepIs.nil | refine RepIs.cons ?_ ?_ | exact RepI.bool _ | exact RepI.int _ _ rfl | exact RepI.nil | exact RepI.nilp | exact RepI.str [] (Nat.zero_le _)) rfl rfl
theorem desc41 : descOk Tryd.prog 41 ti41 := descOk_of Tryd.underlying41 info41 (fun _ _ => by repeat' first | exact RepIs.nil | refine RepIs.cons ?_ ?_ | exact RepI.bool _ | exact RepI.int _ _ rfl | exact RepI.nil | exact RepI.nilp | exact RepI.str [] (Nat.zero_le _)) rfl rfl
theorem desc48 : descOk Tryd.prog 48 ti48 := descOk_of Tryd.underlying48 info48 (fun _ _ => by repeat' first | exact RepIs.nil | refine RepIs.cons ?_ ?_ | exact RepI.bool _ | exact RepI.int _ _ rfl | exact RepI.nil | exact RepI.nilp | exact RepI.str [] (Nat.zero_le _)) rfl rfl
theorem desc53 : descOk Tryd.prog 53 ti53 := descOk_of Tryd.underlying53 info53 (fun _ _ => by repeat' first | exact RepIs.nil | refine RepIs.cons ?_ ?_ | exact RepI.bool _ | exact RepI.int _ _ rfl | exact RepI.nil | exact RepI.nilp | exact RepI.str [] (Nat.zero_le _)) rfl rfl
theorem desc58 : descOk Tryd.prog 58 ti58 := descOk_of Tryd.underlying58 info58 (fun _ _ => by repeat' first | exact RepIs.nil | refine RepIs.cons ?_ ?_ | exact RepI.bool _ | exact RepI.int _ _ rfl | exact RepI.nil | exact RepI.nilp | exact RepI.str [] (Nat.zero_le _)) rfl rfl
theorem desc83 : descOk Tryd.prog 83 ti83 := descOk_of Tryd.underlying83 info83 (fun _ _ => by repeat' first | exact RepIs.nil | refine RepIs.cons ?_ ?_ | exact RepI.bool _ | exact RepI.int _ _ rfl | exact RepI.nil | exact RepI.nilp | exact RepI.str [] (Nat.zero_le _)) rfl rfl
theorem desc85 : descOk Tryd.prog 85 ti85 := descOk_of Tryd.underlying85 info85 (fun _ _ => by repeat' first | exact RepIs.nil | refine RepIs.cons ?_ ?_ | exact RepI.bool _ | exact RepI.int _ _ rfl | exact RepI.nil | exact RepI.nilp | exact RepI.str [] (Nat.zero_le _)) rfl rfl
theorem desc92 : descOk Tryd.prog 92 ti92 := descOk_of Tryd.underlying92 info92 (fun _ _ => by repeat' first | exact RepIs.nil | refine RepIs.cons ?_ ?_ | exact RepI.bool _ | exact RepI.int _ _ rfl | exact RepI.nil | exact RepI.nilp | exact RepI.str [] (Nat.zero_le _)) rfl rfl
theorem desc99 : descOk Tryd.prog 99 ti99 := descOk_of Tryd.underlying99 info99 (fun _ _ => by repeat' first | exact RepIs.nil | refine RepIs.cons ?_ ?_ | exact RepI.bool _ | exact RepI.int _ _ rfl | exact RepI.nil | exact RepI.nilp | exact RepI.str [] (Nat.zero_le _)) rfl rfl
theorem desc102 : descOk Tryd.prog 102 ti102 := descOk_of Tryd.underlying102 info102 (fun _ _ => by repeat' first | exact RepIs.nil | refine RepIs.cons ?_ ?_ | exact RepI.bool _ | exact RepI.int _ _ rfl | exact RepI.nil | exact RepI.nilp | exact RepI.str [] (Nat.zero_le _)) rfl rfl
theorem desc116 : descOk Tryd.prog 116 ti116 := descOk_of Tryd.underlying116 info116 (fun _ _ => by repeat' first | exact RepIs.nil | refine RepIs.cons ?_ ?_ | exact RepI.bool _ | exact RepI.int _ _ rfl | exact RepI.nil | exact RepI.nilp | exact RepI.str [] (Nat.zero_le _)) rfl rfl
theorem desc129 : descOk Tryd.prog 129 ti129 := descOk_of Tryd.underlying129 info129 (fun _ _ => by repeat' first | exact RepIs.nil | refine RepIs.cons ?_ ?_ | exact RepI.bool _ | exact RepI.int _ _ rfl | exact RepI.nil | exact RepI.nilp | exact RepI.str [] (Nat.zero_le _)) rfl rfl
theorem desc132 : descOk Tryd.prog 132 ti132 := descOk_of Tryd.underlying132 info132 (fun _ _ => by repeat' first | exact RepIs.nil | refine RepIs.cons ?_ ?_ | exact RepI.bool _ | exact RepI.int _ _ rfl | exact RepI.nil | exact RepI.nilp | exact RepI.str [] (Nat.zero_le _)) rfl rfl
theorem desc133 : descOk Tryd.prog 133 ti133 := descOk_of Tryd.underlying133 info133 (fun _ _ => by repeat' first | exact RepIs.nil | refine RepIs.cons ?_ ?_ | exact RepI.bool _ | exact RepI.int _ _ rfl | exact RepI.nil | exact RepI.nilp | exact RepI.str [] (Nat.zero_le _)) rfl rfl
theorem desc136 : descOk Tryd.prog 136 ti136 := descOk_of Tryd.underlying136 info136 (fun _ _ => by repeat' first | exact RepIs.nil | refine RepIs.cons ?_ ?_ | exact RepI.bool _ | exact RepI.int _ _ rfl | exact RepI.nil | exact RepI.nilp | exact RepI.str [] (Nat.zero_le _)) rfl rfl
theorem desc140 : descOk Tryd.prog 140 ti140 := descOk_of Tryd.underlying140 info140 (fun _ _ => by repeat' first | exact RepIs.nil | refine RepIs.cons ?_ ?_ | exact RepI.bool _ | exact RepI.int _ _ rfl | exact RepI.nil | exact RepI.nilp | exact RepI.str [] (Nat.zero_le _)) rfl rfl

theorem envOk : EnvOk Tryd.prog G := fun t ti h => by
  unfold G at h
  split at h
  · obtain rfl := Option.some.inj h; exact desc2
  · obtain rfl := Option.some.inj h; exact desc3
  · obtain rfl := Option.some.inj h; exact desc4
  · obtain rfl := Option.some.inj h; exact desc5
  · obtain rfl := Option.some.inj h; exact desc9
  · obtain rfl := Option.some.inj h; exact desc21
  · obtain rfl := Option.some.inj h; exact desc22
  · obtain rfl := Option.some.inj h; exact desc23
  · obtain rfl := Option.some.inj h; exact desc26
  · obtain rfl := Option.some.inj h; exact desc35
  · obtain rfl := Option.some.inj h; exact desc41
  · obtain rfl := Option.some.inj h; exact desc48
  · obtain rfl := Option.some.inj h; exact desc53
  · obtain rfl := Option.some.inj h; exact desc58
  · obtain rfl := Option.some.inj h; exact desc83
  · obtain rfl := Option.some.inj h; exact desc85
  · obtain rfl := Option.some.inj h; exact desc92
  · obtain rfl := Option.some.inj h; exact desc99
  · obtain rfl := Option.some.inj h; exact desc102
  · obtain rfl := Option.some.inj h; exact desc116
  · obtain rfl := Option.some.inj h; exact desc129
  · obtain rfl := Option.some.inj h; exact desc132
  · obtain rfl := Option.some.inj h; exact desc133
  · obtain rfl := Option.some.inj h; exact desc136
  · obtain rfl := Option.some.inj h; exact desc140
  · cases h

theorem isInfo {t : Nat} {x} (h : (Tryd.prog.info? t).map (fun i => (i.zero, i.size, i.bytes)) = some x) : ∃ i, Tryd.prog.info? t = some i := by
  cases e : Tryd.prog.info? t with
  | none => rw [e] at h; cases h
  | some i => exact ⟨i, rfl⟩

theorem fieldsOk : FieldsOk Tryd.prog G := fun t ti F h hd f hf => by
  unfold G at h
  split at h
  · obtain rfl := Option.some.inj h; cases hd
  · obtain rfl := Option.some.inj h; cases hd
  · obtain rfl := Option.some.inj h; cases hd
  · obtain rfl := Option.some.inj h; cases hd
  · obtain rfl := Option.some.inj h; cases hd
  · obtain rfl := Option.some.inj h; cases hd
  · obtain rfl := Option.some.inj h; cases hd
  · obtain rfl := Option.some.inj h; cases hd
  · obtain rfl := Option.some.inj h; cases hd
  · obtain rfl := Option.some.inj h
    obtain rfl := TypeDesc.struct.inj hd
    simp only [List.mem_cons, List.not_mem_nil, or_false] at hf
    rcases hf with rfl | rfl | rfl
    · exact isInfo info3
    · exact isInfo info3
    · exact isInfo info3
  · obtain rfl := Option.some.inj h; cases hd
  · obtain rfl := Option.some.inj h; cases hd
  · obtain rfl := Option.some.inj h; cases hd
  · obtain rfl := Option.some.inj h
    obtain rfl := TypeDesc.struct.inj hd
    simp only [List.mem_cons, List.not_mem_nil, or_false] at hf
    rcases hf with rfl | rfl | rfl | rfl
    · exact isInfo info3
    · exact isInfo info3
    · exact isInfo info3
    · exact isInfo info3
  · obtain rfl := Option.some.inj h; cases hd
  · obtain rfl := Option.some.inj h
    obtain rfl := TypeDesc.struct.inj hd
    simp only [List.mem_cons, List.not_mem_nil, or_false] at hf
    rcases hf with rfl | rfl | rfl
    · exact isInfo info22
    · exact isInfo info3
    · exact isInfo info83
  · obtain rfl := Option.some.inj h; cases hd
  · obtain rfl := Option.some.inj h; cases hd
  · obtain rfl := Option.some.inj h
    obtain rfl := TypeDesc.struct.inj hd
    simp only [List.mem_cons, List.not_mem_nil, or_false] at hf
    rcases hf with rfl | rfl
    · exact isInfo info3
    · exact isInfo info4
  · obtain rfl := Option.some.inj h
    obtain rfl := TypeDesc.struct.inj hd
    simp only [List.mem_cons, List.not_mem_nil, or_false] at hf
    rcases hf with rfl | rfl
    · exact isInfo info3
    · exact isInfo info4
  · obtain rfl := Option.some.inj h; cases hd
  · obtain rfl := Option.some.inj h; cases hd
  · obtain rfl := Option.some.inj h; cases hd
  · obtain rfl := Option.some.inj h; cases hd
  · obtain rfl := Option.some.inj h; cases hd
  · cases h
end Go.Proofs.YtbamclepgabciaaDoor.Ai
