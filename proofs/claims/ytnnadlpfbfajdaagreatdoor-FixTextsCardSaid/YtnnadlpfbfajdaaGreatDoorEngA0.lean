/-
The package-level variables of integers that the code only reads: the row of each one's cells.
-/
import GoSem.Core.Value
namespace Go.Eng
open Go
def tab : Nat → Option (List (IntKind × Int))
  | 3 => some [(.u64, 1), (.u64, 10), (.u64, 100), (.u64, 1000), (.u64, 10000), (.u64, 100000), (.u64, 1000000), (.u64, 10000000), (.u64, 100000000), (.u64, 1000000000), (.u64, 10000000000), (.u64, 100000000000), (.u64, 1000000000000), (.u64, 10000000000000), (.u64, 100000000000000), (.u64, 1000000000000000), (.u64, 10000000000000000), (.u64, 100000000000000000), (.u64, 1000000000000000000), (.u64, 10000000000000000000)]
  | _ => none
end Go.Eng
