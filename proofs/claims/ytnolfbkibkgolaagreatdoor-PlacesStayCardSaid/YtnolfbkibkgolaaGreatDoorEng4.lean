/-
Tables: from what a row says of package-level variables to the rows of cells; what the kit's contracts of unicode/utf8 ask of them.
-/
import Derived.Test.YtnolfbkibkgolaaGreatDoorEng3
import Derived.Lib.LaidU8
namespace Go.Eng
open Go Go.RowKit
set_option linter.unusedVariables false
set_option linter.unusedSimpArgs false

def accTab : List (IntKind × Int) := (List.range 16).flatMap fun i => [(.u8, (Lib.accLo i : Int)), (.u8, (Lib.accHi i : Int))]
end Go.Eng
