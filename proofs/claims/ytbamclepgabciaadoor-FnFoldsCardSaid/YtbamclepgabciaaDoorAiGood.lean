/- What is asked of the world ahead of every call: the library's table of powers of ten reads as laid, and goes on so whatever is written from block T on. -/
import Derived.Below
import Derived.Lib.AppendIntMem
import Derived.Test.YtbamclepgabciaaDoorProg
namespace Go.Proofs.YtbamclepgabciaaDoor.Ai
open Go Go.RowKit
set_option linter.unusedVariables false
set_option linter.unusedSimpArgs false

/-- The world is as it has to be; nothing below T is written to. -/
def Good (T : Nat) (w : World) : Prop := Lib.TabBelow Tryd.prog T w "internal/strconv.uint64pow10" .u64 Lib.pow10Tab
theorem Good.on {T : Nat} {w w' : World} (h : Good T w) (hb : Below T w w') : Good T w' := Lib.TabBelow.on h hb
end Go.Proofs.YtbamclepgabciaaDoor.Ai
