/-
  No cell of these rows narrows 'for every input' (looked for: loops, veiled, ifaces, maps, wideKeys, modest, calm, conditions, laid).
  DERIVED. THE GIVEN ROWS OF THIS SEAT. 3 by the template 'for every input the law returns true; each argument reads behind the call as it read before'; 0 by the template 'total and deterministic' (their statements: YtddkiphgahpfdaaTotals.lean).
  GIVEN WITH THE SEED: the statements are not yours to turn. If you find one false, say at which input.
  Laid BY PROGRAM, IN A SANDBOX (cutbox-rows.mjs): the forced cells as the released guide's own fill.sh prints them over the translation 71db7932625d9722… (all of the seat's roots in one cut). By AI agents, Wed Nov 11 2026. No macro, syntax, notation, axiom, sorry.
-/
import Derived.Test.YtddkiphgahpfdaaChecked
import GoSem.Claim
import GoSem.ClaimJoined
import GoSem.ClaimMapViews
import Derived.JoinedTies
import Derived.KernelRfl
namespace Go.Proofs.Ytddkiphgahpfdaa
/- THE CELL 'sum', in the pinned program and in every row, IS THE sha256 OF THE DUMP (.gsa) THAT YtddkiphgahpfdaaProg.lean LOADS. Nothing in Lean hashes anything: it is a label: what it is worth is what the hold of that sum in a sandbox is worth. -/
noncomputable def Try.pinned : Pinned := { name := "ytddkiphgahpfdaa", sum := "71db7932625d972292dd25c5de76702ba27ebf064b1b1c0aca945141dea3e592", checked := Try.checked }
namespace Rows
def none {H : Type} : Left H := { results := [], args := [] }

/-- 'fleetlaw2.FencesTell': WHATEVER THE INPUT: true; the input reads as it did. -/
def fencesTellSpec : ChangeSpec := { name := "fencesTell", fn := fun _ => fun
  | [d] => { results := [.lit (.bool true)], args := [d] }
  | _ => none }
def fencesTellRow : OpenClaim := { program := "ytddkiphgahpfdaa", sum := "71db7932625d972292dd25c5de76702ba27ebf064b1b1c0aca945141dea3e592", func := "beaconfleet/fleetlaw2.FencesTell", spec := "fencesTell", inPlace := ["internal/bytealg.IndexByteString"], unfollowed := true, recurses := true, apart := false }
def FencesTellSaid : Prop := fencesTellRow.holds Try.pinned (OpenSpec.ofChange fencesTellSpec)

/-- ITS FALSE NEIGHBOUR: 'it returns false'. Refute it at one input. -/
def fencesTellWrong : ChangeSpec := { name := "fencesTell", fn := fun _ => fun
  | [d] => { results := [.lit (.bool false)], args := [d] }
  | _ => none }
def FencesTellWrongFalsely : Prop := fencesTellRow.holds Try.pinned (OpenSpec.ofChange fencesTellWrong)

/-- 'fleetlaw2.FencesSure': WHATEVER THE INPUT: true; the input reads as it did. -/
def fencesSureSpec : ChangeSpec := { name := "fencesSure", fn := fun _ => fun
  | [d] => { results := [.lit (.bool true)], args := [d] }
  | _ => none }
def fencesSureRow : OpenClaim := { program := "ytddkiphgahpfdaa", sum := "71db7932625d972292dd25c5de76702ba27ebf064b1b1c0aca945141dea3e592", func := "beaconfleet/fleetlaw2.FencesSure", spec := "fencesSure", inPlace := ["internal/bytealg.abigen_runtime_cmpstring", "internal/bytealg.IndexByteString"], unfollowed := true, recurses := true, apart := false }
def FencesSureSaid : Prop := fencesSureRow.holds Try.pinned (OpenSpec.ofChange fencesSureSpec)

/-- ITS FALSE NEIGHBOUR: 'it returns false'. Refute it at one input. -/
def fencesSureWrong : ChangeSpec := { name := "fencesSure", fn := fun _ => fun
  | [d] => { results := [.lit (.bool false)], args := [d] }
  | _ => none }
def FencesSureWrongFalsely : Prop := fencesSureRow.holds Try.pinned (OpenSpec.ofChange fencesSureWrong)

/-- 'fleetlaw2.TracksVisit': WHATEVER THE INPUT: true; the input reads as it did. -/
def tracksVisitSpec : ChangeSpec := { name := "tracksVisit", fn := fun _ => fun
  | [d] => { results := [.lit (.bool true)], args := [d] }
  | _ => none }
def tracksVisitRow : OpenClaim := { program := "ytddkiphgahpfdaa", sum := "71db7932625d972292dd25c5de76702ba27ebf064b1b1c0aca945141dea3e592", func := "beaconfleet/fleetlaw2.TracksVisit", spec := "tracksVisit", inPlace := ["internal/bytealg.abigen_runtime_cmpstring", "internal/bytealg.IndexByteString"], unfollowed := true, recurses := true, apart := false }
def TracksVisitSaid : Prop := tracksVisitRow.holds Try.pinned (OpenSpec.ofChange tracksVisitSpec)

/-- ITS FALSE NEIGHBOUR: 'it returns false'. Refute it at one input. -/
def tracksVisitWrong : ChangeSpec := { name := "tracksVisit", fn := fun _ => fun
  | [d] => { results := [.lit (.bool false)], args := [d] }
  | _ => none }
def TracksVisitWrongFalsely : Prop := tracksVisitRow.holds Try.pinned (OpenSpec.ofChange tracksVisitWrong)

/- THE SECOND FORM. 'bulk': how many values and letters a reading holds, each counted each time it is reached (what is shared counts as often as it is met; a slice's spare places count too). A statement '..UptoSaid' is the law's where the arguments, and the package variables that the reading takes, are together of bulk at most 1048576: NARROWER than '..Said'. Prove '..Said' where nothing that the law and all that it calls make is longer than what came in: it says more and counts as full. Else prove '..UptoSaid'. A law counts once. -/
mutual
def uptoBulk {H : Type} : DataW H → Nat
  | .lit (.string bytes) => bytes.length + 1
  | .lit _ => 1
  | .nil => 1
  | .ptr d => uptoBulk d + 1
  | .slice elems spare => uptoBulkAll elems + uptoBulkAll spare + 1
  | .agg parts => uptoBulkAll parts + 1
  | .iface _ d => uptoBulk d + 1
  | .map entries => uptoBulkEntries entries + 1
  | .held _ => 1
def uptoBulkAll {H : Type} : List (DataW H) → Nat
  | [] => 0
  | d :: r => uptoBulk d + uptoBulkAll r
def uptoBulkEntries {H : Type} : List (Lit × DataW H) → Nat
  | [] => 0
  | x :: r => uptoBulkEntry x + uptoBulkEntries r
def uptoBulkEntry {H : Type} : Lit × DataW H → Nat
  | (.string bytes, d) => bytes.length + uptoBulk d + 1
  | (_, d) => uptoBulk d + 1
 end
def uptoSmall : (H : Type) → List (DataW H) → Bool := fun _ ds => decide (uptoBulkAll ds ≤ 1048576)
def OpenSpec.upto (s : _root_.Go.ChangeSpec) : _root_.Go.OpenSpec := { _root_.Go.OpenSpec.ofChange s with cond := some uptoSmall }

/-- 'fleetlaw2.FencesTell', WHERE WHAT IT READS IS OF BULK AT MOST 1048576: true; the input reads as it did. -/
def fencesTellUptoRow : OpenClaim := { program := "ytddkiphgahpfdaa", sum := "71db7932625d972292dd25c5de76702ba27ebf064b1b1c0aca945141dea3e592", func := "beaconfleet/fleetlaw2.FencesTell", spec := "fencesTell", inPlace := ["internal/bytealg.IndexByteString"], unfollowed := true, recurses := true, apart := false, narrowed := true }
def FencesTellUptoSaid : Prop := fencesTellUptoRow.holds Try.pinned (OpenSpec.upto fencesTellSpec)

/-- 'fleetlaw2.FencesSure', WHERE WHAT IT READS IS OF BULK AT MOST 1048576: true; the input reads as it did. -/
def fencesSureUptoRow : OpenClaim := { program := "ytddkiphgahpfdaa", sum := "71db7932625d972292dd25c5de76702ba27ebf064b1b1c0aca945141dea3e592", func := "beaconfleet/fleetlaw2.FencesSure", spec := "fencesSure", inPlace := ["internal/bytealg.abigen_runtime_cmpstring", "internal/bytealg.IndexByteString"], unfollowed := true, recurses := true, apart := false, narrowed := true }
def FencesSureUptoSaid : Prop := fencesSureUptoRow.holds Try.pinned (OpenSpec.upto fencesSureSpec)

/-- 'fleetlaw2.TracksVisit', WHERE WHAT IT READS IS OF BULK AT MOST 1048576: true; the input reads as it did. -/
def tracksVisitUptoRow : OpenClaim := { program := "ytddkiphgahpfdaa", sum := "71db7932625d972292dd25c5de76702ba27ebf064b1b1c0aca945141dea3e592", func := "beaconfleet/fleetlaw2.TracksVisit", spec := "tracksVisit", inPlace := ["internal/bytealg.abigen_runtime_cmpstring", "internal/bytealg.IndexByteString"], unfollowed := true, recurses := true, apart := false, narrowed := true }
def TracksVisitUptoSaid : Prop := tracksVisitUptoRow.holds Try.pinned (OpenSpec.upto tracksVisitSpec)

end Rows
end Go.Proofs.Ytddkiphgahpfdaa
