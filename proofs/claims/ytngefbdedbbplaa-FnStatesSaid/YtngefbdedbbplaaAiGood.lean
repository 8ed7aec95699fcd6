/- What is asked of the world ahead of every call (here: nothing). A seat whose laws read tables of the library has a text of its own in this place. -/
import Derived.Below
namespace Go.Proofs.Ytngefbdedbbplaa.Ai
open Go Go.RowKit
set_option linter.unusedVariables false
set_option linter.unusedSimpArgs false

/-- The world is as it has to be; nothing below T is written to. -/
def Good (T : Nat) (w : World) : Prop := True
theorem Good.on {T : Nat} {w w' : World} (h : Good T w) (hb : Below T w w') : Good T w' := trivial
theorem Good.triv (T : Nat) (w : World) : Good T w := trivial
end Go.Proofs.Ytngefbdedbbplaa.Ai
