/-
  No cell of these rows narrows 'for every input' (looked for: loops, veiled, ifaces, maps, wideKeys, modest, calm, conditions, laid).
  DERIVED. THE GIVEN ROWS OF THIS SEAT. 9 by the template 'for every input the law returns true; each argument reads behind the call as it read before'; 0 by the template 'total and deterministic' (their statements: YtogpbbgcdeiplaaTotals.lean).
  GIVEN WITH THE SEED: the statements are not yours to turn. If you find one false, say at which input.
  Laid BY PROGRAM, IN A SANDBOX (cutbox-rows.mjs): the forced cells as the released guide's own fill.sh prints them over the translation cadf9a0978f2e4ed… (all of the seat's roots in one cut). By AI agents, Wed Nov 11 2026. No macro, syntax, notation, axiom, sorry.
-/
import Derived.Test.YtogpbbgcdeiplaaChecked
import GoSem.Claim
import GoSem.ClaimJoined
import GoSem.ClaimMapViews
import Derived.JoinedTies
import Derived.KernelRfl
namespace Go.Proofs.Ytogpbbgcdeiplaa
/- THE CELL 'sum', in the pinned program and in every row, IS THE sha256 OF THE DUMP (.gsa) THAT YtogpbbgcdeiplaaProg.lean LOADS. Nothing in Lean hashes anything: it is a label: what it is worth is what the hold of that sum in a sandbox is worth. -/
noncomputable def Try.pinned : Pinned := { name := "ytogpbbgcdeiplaa", sum := "cadf9a0978f2e4ed1242d500cd84d0a3a9eb038b321eddc610c561f5a88db667", checked := Try.checked }
namespace Rows
def none {H : Type} : Left H := { results := [], args := [] }

/-- 'proctorlaw21.BridgeKeeps': WHATEVER THE INPUT: true; the input reads as it did. -/
def bridgeKeepsSpec : ChangeSpec := { name := "bridgeKeeps", fn := fun _ => fun
  | [d1, d2] => { results := [.lit (.bool true)], args := [d1, d2] }
  | _ => none }
def bridgeKeepsRow : OpenClaim := { program := "ytogpbbgcdeiplaa", sum := "cadf9a0978f2e4ed1242d500cd84d0a3a9eb038b321eddc610c561f5a88db667", func := "proctor/proctorlaw21.BridgeKeeps", spec := "bridgeKeeps", unfollowed := true, recurses := true, apart := false }
def BridgeKeepsSaid : Prop := bridgeKeepsRow.holds Try.pinned (OpenSpec.ofChange bridgeKeepsSpec)

/-- ITS FALSE NEIGHBOUR: 'it returns false'. Refute it at one input. -/
def bridgeKeepsWrong : ChangeSpec := { name := "bridgeKeeps", fn := fun _ => fun
  | [d1, d2] => { results := [.lit (.bool false)], args := [d1, d2] }
  | _ => none }
def BridgeKeepsWrongFalsely : Prop := bridgeKeepsRow.holds Try.pinned (OpenSpec.ofChange bridgeKeepsWrong)

/-- 'proctorlaw21.BridgeOnce': WHATEVER THE INPUT: true; the input reads as it did. -/
def bridgeOnceSpec : ChangeSpec := { name := "bridgeOnce", fn := fun _ => fun
  | [d1, d2, d3] => { results := [.lit (.bool true)], args := [d1, d2, d3] }
  | _ => none }
def bridgeOnceRow : OpenClaim := { program := "ytogpbbgcdeiplaa", sum := "cadf9a0978f2e4ed1242d500cd84d0a3a9eb038b321eddc610c561f5a88db667", func := "proctor/proctorlaw21.BridgeOnce", spec := "bridgeOnce", unfollowed := true, recurses := true, apart := false }
def BridgeOnceSaid : Prop := bridgeOnceRow.holds Try.pinned (OpenSpec.ofChange bridgeOnceSpec)

/-- ITS FALSE NEIGHBOUR: 'it returns false'. Refute it at one input. -/
def bridgeOnceWrong : ChangeSpec := { name := "bridgeOnce", fn := fun _ => fun
  | [d1, d2, d3] => { results := [.lit (.bool false)], args := [d1, d2, d3] }
  | _ => none }
def BridgeOnceWrongFalsely : Prop := bridgeOnceRow.holds Try.pinned (OpenSpec.ofChange bridgeOnceWrong)

/-- 'proctorlaw06.StateKnown': WHATEVER THE INPUT: true; the input reads as it did. -/
def stateKnownSpec : ChangeSpec := { name := "stateKnown", fn := fun _ => fun
  | [d] => { results := [.lit (.bool true)], args := [d] }
  | _ => none }
def stateKnownRow : OpenClaim := { program := "ytogpbbgcdeiplaa", sum := "cadf9a0978f2e4ed1242d500cd84d0a3a9eb038b321eddc610c561f5a88db667", func := "proctor/proctorlaw06.StateKnown", spec := "stateKnown", unfollowed := true, recurses := true, apart := false }
def StateKnownSaid : Prop := stateKnownRow.holds Try.pinned (OpenSpec.ofChange stateKnownSpec)

/-- ITS FALSE NEIGHBOUR: 'it returns false'. Refute it at one input. -/
def stateKnownWrong : ChangeSpec := { name := "stateKnown", fn := fun _ => fun
  | [d] => { results := [.lit (.bool false)], args := [d] }
  | _ => none }
def StateKnownWrongFalsely : Prop := stateKnownRow.holds Try.pinned (OpenSpec.ofChange stateKnownWrong)

/-- 'proctorlaw06.StateBinds': WHATEVER THE INPUT: true; the input reads as it did. -/
def stateBindsSpec : ChangeSpec := { name := "stateBinds", fn := fun _ => fun
  | [d1, d2, d3] => { results := [.lit (.bool true)], args := [d1, d2, d3] }
  | _ => none }
def stateBindsRow : OpenClaim := { program := "ytogpbbgcdeiplaa", sum := "cadf9a0978f2e4ed1242d500cd84d0a3a9eb038b321eddc610c561f5a88db667", func := "proctor/proctorlaw06.StateBinds", spec := "stateBinds", unfollowed := true, recurses := true, apart := false }
def StateBindsSaid : Prop := stateBindsRow.holds Try.pinned (OpenSpec.ofChange stateBindsSpec)

/-- ITS FALSE NEIGHBOUR: 'it returns false'. Refute it at one input. -/
def stateBindsWrong : ChangeSpec := { name := "stateBinds", fn := fun _ => fun
  | [d1, d2, d3] => { results := [.lit (.bool false)], args := [d1, d2, d3] }
  | _ => none }
def StateBindsWrongFalsely : Prop := stateBindsRow.holds Try.pinned (OpenSpec.ofChange stateBindsWrong)

/-- 'proctorlaw06.StateFresh': WHATEVER THE INPUT: true; the input reads as it did. -/
def stateFreshSpec : ChangeSpec := { name := "stateFresh", fn := fun _ => fun
  | [d1, d2] => { results := [.lit (.bool true)], args := [d1, d2] }
  | _ => none }
def stateFreshRow : OpenClaim := { program := "ytogpbbgcdeiplaa", sum := "cadf9a0978f2e4ed1242d500cd84d0a3a9eb038b321eddc610c561f5a88db667", func := "proctor/proctorlaw06.StateFresh", spec := "stateFresh", unfollowed := true, recurses := true, apart := false }
def StateFreshSaid : Prop := stateFreshRow.holds Try.pinned (OpenSpec.ofChange stateFreshSpec)

/-- ITS FALSE NEIGHBOUR: 'it returns false'. Refute it at one input. -/
def stateFreshWrong : ChangeSpec := { name := "stateFresh", fn := fun _ => fun
  | [d1, d2] => { results := [.lit (.bool false)], args := [d1, d2] }
  | _ => none }
def StateFreshWrongFalsely : Prop := stateFreshRow.holds Try.pinned (OpenSpec.ofChange stateFreshWrong)

/-- 'proctorlaw06.StateChecks': WHATEVER THE INPUT: true; the input reads as it did. -/
def stateChecksSpec : ChangeSpec := { name := "stateChecks", fn := fun _ => fun
  | [d1, d2, d3] => { results := [.lit (.bool true)], args := [d1, d2, d3] }
  | _ => none }
def stateChecksRow : OpenClaim := { program := "ytogpbbgcdeiplaa", sum := "cadf9a0978f2e4ed1242d500cd84d0a3a9eb038b321eddc610c561f5a88db667", func := "proctor/proctorlaw06.StateChecks", spec := "stateChecks", unfollowed := true, recurses := true, apart := false }
def StateChecksSaid : Prop := stateChecksRow.holds Try.pinned (OpenSpec.ofChange stateChecksSpec)

/-- ITS FALSE NEIGHBOUR: 'it returns false'. Refute it at one input. -/
def stateChecksWrong : ChangeSpec := { name := "stateChecks", fn := fun _ => fun
  | [d1, d2, d3] => { results := [.lit (.bool false)], args := [d1, d2, d3] }
  | _ => none }
def StateChecksWrongFalsely : Prop := stateChecksRow.holds Try.pinned (OpenSpec.ofChange stateChecksWrong)

/-- 'proctorlaw06.StateProves': WHATEVER THE INPUT: true; the input reads as it did. -/
def stateProvesSpec : ChangeSpec := { name := "stateProves", fn := fun _ => fun
  | [d1, d2] => { results := [.lit (.bool true)], args := [d1, d2] }
  | _ => none }
def stateProvesRow : OpenClaim := { program := "ytogpbbgcdeiplaa", sum := "cadf9a0978f2e4ed1242d500cd84d0a3a9eb038b321eddc610c561f5a88db667", func := "proctor/proctorlaw06.StateProves", spec := "stateProves", unfollowed := true, recurses := true, apart := false }
def StateProvesSaid : Prop := stateProvesRow.holds Try.pinned (OpenSpec.ofChange stateProvesSpec)

/-- ITS FALSE NEIGHBOUR: 'it returns false'. Refute it at one input. -/
def stateProvesWrong : ChangeSpec := { name := "stateProves", fn := fun _ => fun
  | [d1, d2] => { results := [.lit (.bool false)], args := [d1, d2] }
  | _ => none }
def StateProvesWrongFalsely : Prop := stateProvesRow.holds Try.pinned (OpenSpec.ofChange stateProvesWrong)

/-- 'proctorlaw06.StateRoots': WHATEVER THE INPUT: true; the input reads as it did. -/
def stateRootsSpec : ChangeSpec := { name := "stateRoots", fn := fun _ => fun
  | [d1, d2, d3] => { results := [.lit (.bool true)], args := [d1, d2, d3] }
  | _ => none }
def stateRootsRow : OpenClaim := { program := "ytogpbbgcdeiplaa", sum := "cadf9a0978f2e4ed1242d500cd84d0a3a9eb038b321eddc610c561f5a88db667", func := "proctor/proctorlaw06.StateRoots", spec := "stateRoots", unfollowed := true, recurses := true, apart := false }
def StateRootsSaid : Prop := stateRootsRow.holds Try.pinned (OpenSpec.ofChange stateRootsSpec)

/-- ITS FALSE NEIGHBOUR: 'it returns false'. Refute it at one input. -/
def stateRootsWrong : ChangeSpec := { name := "stateRoots", fn := fun _ => fun
  | [d1, d2, d3] => { results := [.lit (.bool false)], args := [d1, d2, d3] }
  | _ => none }
def StateRootsWrongFalsely : Prop := stateRootsRow.holds Try.pinned (OpenSpec.ofChange stateRootsWrong)

/-- 'proctorlaw21.BridgeTurns': WHATEVER THE INPUT: true; the input reads as it did. -/
def bridgeTurnsSpec : ChangeSpec := { name := "bridgeTurns", fn := fun _ => fun
  | [d1, d2, d3] => { results := [.lit (.bool true)], args := [d1, d2, d3] }
  | _ => none }
def bridgeTurnsRow : OpenClaim := { program := "ytogpbbgcdeiplaa", sum := "cadf9a0978f2e4ed1242d500cd84d0a3a9eb038b321eddc610c561f5a88db667", func := "proctor/proctorlaw21.BridgeTurns", spec := "bridgeTurns", unfollowed := true, recurses := true, apart := false }
def BridgeTurnsSaid : Prop := bridgeTurnsRow.holds Try.pinned (OpenSpec.ofChange bridgeTurnsSpec)

/-- ITS FALSE NEIGHBOUR: 'it returns false'. Refute it at one input. -/
def bridgeTurnsWrong : ChangeSpec := { name := "bridgeTurns", fn := fun _ => fun
  | [d1, d2, d3] => { results := [.lit (.bool false)], args := [d1, d2, d3] }
  | _ => none }
def BridgeTurnsWrongFalsely : Prop := bridgeTurnsRow.holds Try.pinned (OpenSpec.ofChange bridgeTurnsWrong)

/- THE SECOND FORM. 'bulk': how many values and letters a reading holds, each counted each time it is reached (what is shared counts as often as it is met; a slice's spare places count too). A statement '..UptoSaid' is the law's where the arguments, and the package variables that the reading takes, are together of bulk at most 1048576: NARROWER than '..Said'. Prove '..Said' where nothing that the law and all that it calls make is longer than what came in: it says more and counts as full. Else prove '..UptoSaid'. A law counts once. -/
mutual
def uptoBulk {H : Type} : DataW H → Nat
  | .lit (.string bytes) => bytes.length + 1
  | .lit _ => 1
  | .nil => 1
  | .ptr d => uptoBulk d + 1
  | .slice elems spare => uptoBulkAll elems + uptoBulkAll spare + 1
  | .agg parts => uptoBulkAll parts + 1
  | .iface _ d => uptoBulk d + 1
  | .map entries => uptoBulkEntries entries + 1
  | .held _ => 1
def uptoBulkAll {H : Type} : List (DataW H) → Nat
  | [] => 0
  | d :: r => uptoBulk d + uptoBulkAll r
def uptoBulkEntries {H : Type} : List (Lit × DataW H) → Nat
  | [] => 0
  | x :: r => uptoBulkEntry x + uptoBulkEntries r
def uptoBulkEntry {H : Type} : Lit × DataW H → Nat
  | (.string bytes, d) => bytes.length + uptoBulk d + 1
  | (_, d) => uptoBulk d + 1
 end
def uptoSmall : (H : Type) → List (DataW H) → Bool := fun _ ds => decide (uptoBulkAll ds ≤ 1048576)
def OpenSpec.upto (s : _root_.Go.ChangeSpec) : _root_.Go.OpenSpec := { _root_.Go.OpenSpec.ofChange s with cond := some uptoSmall }

/-- 'proctorlaw21.BridgeKeeps', WHERE WHAT IT READS IS OF BULK AT MOST 1048576: true; the input reads as it did. -/
def bridgeKeepsUptoRow : OpenClaim := { program := "ytogpbbgcdeiplaa", sum := "cadf9a0978f2e4ed1242d500cd84d0a3a9eb038b321eddc610c561f5a88db667", func := "proctor/proctorlaw21.BridgeKeeps", spec := "bridgeKeeps", unfollowed := true, recurses := true, apart := false, narrowed := true }
def BridgeKeepsUptoSaid : Prop := bridgeKeepsUptoRow.holds Try.pinned (OpenSpec.upto bridgeKeepsSpec)

/-- 'proctorlaw21.BridgeOnce', WHERE WHAT IT READS IS OF BULK AT MOST 1048576: true; the input reads as it did. -/
def bridgeOnceUptoRow : OpenClaim := { program := "ytogpbbgcdeiplaa", sum := "cadf9a0978f2e4ed1242d500cd84d0a3a9eb038b321eddc610c561f5a88db667", func := "proctor/proctorlaw21.BridgeOnce", spec := "bridgeOnce", unfollowed := true, recurses := true, apart := false, narrowed := true }
def BridgeOnceUptoSaid : Prop := bridgeOnceUptoRow.holds Try.pinned (OpenSpec.upto bridgeOnceSpec)

/-- 'proctorlaw06.StateKnown', WHERE WHAT IT READS IS OF BULK AT MOST 1048576: true; the input reads as it did. -/
def stateKnownUptoRow : OpenClaim := { program := "ytogpbbgcdeiplaa", sum := "cadf9a0978f2e4ed1242d500cd84d0a3a9eb038b321eddc610c561f5a88db667", func := "proctor/proctorlaw06.StateKnown", spec := "stateKnown", unfollowed := true, recurses := true, apart := false, narrowed := true }
def StateKnownUptoSaid : Prop := stateKnownUptoRow.holds Try.pinned (OpenSpec.upto stateKnownSpec)

/-- 'proctorlaw06.StateBinds', WHERE WHAT IT READS IS OF BULK AT MOST 1048576: true; the input reads as it did. -/
def stateBindsUptoRow : OpenClaim := { program := "ytogpbbgcdeiplaa", sum := "cadf9a0978f2e4ed1242d500cd84d0a3a9eb038b321eddc610c561f5a88db667", func := "proctor/proctorlaw06.StateBinds", spec := "stateBinds", unfollowed := true, recurses := true, apart := false, narrowed := true }
def StateBindsUptoSaid : Prop := stateBindsUptoRow.holds Try.pinned (OpenSpec.upto stateBindsSpec)

/-- 'proctorlaw06.StateFresh', WHERE WHAT IT READS IS OF BULK AT MOST 1048576: true; the input reads as it did. -/
def stateFreshUptoRow : OpenClaim := { program := "ytogpbbgcdeiplaa", sum := "cadf9a0978f2e4ed1242d500cd84d0a3a9eb038b321eddc610c561f5a88db667", func := "proctor/proctorlaw06.StateFresh", spec := "stateFresh", unfollowed := true, recurses := true, apart := false, narrowed := true }
def StateFreshUptoSaid : Prop := stateFreshUptoRow.holds Try.pinned (OpenSpec.upto stateFreshSpec)

/-- 'proctorlaw06.StateChecks', WHERE WHAT IT READS IS OF BULK AT MOST 1048576: true; the input reads as it did. -/
def stateChecksUptoRow : OpenClaim := { program := "ytogpbbgcdeiplaa", sum := "cadf9a0978f2e4ed1242d500cd84d0a3a9eb038b321eddc610c561f5a88db667", func := "proctor/proctorlaw06.StateChecks", spec := "stateChecks", unfollowed := true, recurses := true, apart := false, narrowed := true }
def StateChecksUptoSaid : Prop := stateChecksUptoRow.holds Try.pinned (OpenSpec.upto stateChecksSpec)

/-- 'proctorlaw06.StateProves', WHERE WHAT IT READS IS OF BULK AT MOST 1048576: true; the input reads as it did. -/
def stateProvesUptoRow : OpenClaim := { program := "ytogpbbgcdeiplaa", sum := "cadf9a0978f2e4ed1242d500cd84d0a3a9eb038b321eddc610c561f5a88db667", func := "proctor/proctorlaw06.StateProves", spec := "stateProves", unfollowed := true, recurses := true, apart := false, narrowed := true }
def StateProvesUptoSaid : Prop := stateProvesUptoRow.holds Try.pinned (OpenSpec.upto stateProvesSpec)

/-- 'proctorlaw06.StateRoots', WHERE WHAT IT READS IS OF BULK AT MOST 1048576: true; the input reads as it did. -/
def stateRootsUptoRow : OpenClaim := { program := "ytogpbbgcdeiplaa", sum := "cadf9a0978f2e4ed1242d500cd84d0a3a9eb038b321eddc610c561f5a88db667", func := "proctor/proctorlaw06.StateRoots", spec := "stateRoots", unfollowed := true, recurses := true, apart := false, narrowed := true }
def StateRootsUptoSaid : Prop := stateRootsUptoRow.holds Try.pinned (OpenSpec.upto stateRootsSpec)

/-- 'proctorlaw21.BridgeTurns', WHERE WHAT IT READS IS OF BULK AT MOST 1048576: true; the input reads as it did. -/
def bridgeTurnsUptoRow : OpenClaim := { program := "ytogpbbgcdeiplaa", sum := "cadf9a0978f2e4ed1242d500cd84d0a3a9eb038b321eddc610c561f5a88db667", func := "proctor/proctorlaw21.BridgeTurns", spec := "bridgeTurns", unfollowed := true, recurses := true, apart := false, narrowed := true }
def BridgeTurnsUptoSaid : Prop := bridgeTurnsUptoRow.holds Try.pinned (OpenSpec.upto bridgeTurnsSpec)

end Rows
end Go.Proofs.Ytogpbbgcdeiplaa
