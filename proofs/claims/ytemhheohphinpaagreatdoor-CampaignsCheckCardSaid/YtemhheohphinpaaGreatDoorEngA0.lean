/-
The package-level variables of integers that the code only reads: the row of each one's cells.
-/
import GoSem.Core.Value
namespace Go.Eng
open Go
def tab : Nat → Option (List (IntKind × Int)) := fun _ => none
end Go.Eng
