/-
  No cell of these rows narrows 'for every input' (looked for: loops, veiled, ifaces, maps, wideKeys, modest, calm, conditions, laid).
  DERIVED. THE GIVEN ROWS OF THIS SEAT. 9 by the template 'for every input the law returns true; each argument reads behind the call as it read before'; 0 by the template 'total and deterministic' (their statements: YtnkancamlnepkaaTotals.lean).
  GIVEN WITH THE SEED: the statements are not yours to turn. If you find one false, say at which input.
  Laid BY PROGRAM, IN A SANDBOX (cutbox-rows.mjs): the forced cells as the released guide's own fill.sh prints them over the translation 4edaf082ba9c3784… (all of the seat's roots in one cut). By AI agents, Wed Nov 11 2026. No macro, syntax, notation, axiom, sorry.
-/
import Derived.Test.YtnkancamlnepkaaChecked
import GoSem.Claim
import GoSem.ClaimJoined
import GoSem.ClaimMapViews
import Derived.JoinedTies
import Derived.KernelRfl
namespace Go.Proofs.Ytnkancamlnepkaa
/- THE CELL 'sum', in the pinned program and in every row, IS THE sha256 OF THE DUMP (.gsa) THAT YtnkancamlnepkaaProg.lean LOADS. Nothing in Lean hashes anything: it is a label: what it is worth is what the hold of that sum in a sandbox is worth. -/
noncomputable def Try.pinned : Pinned := { name := "ytnkancamlnepkaa", sum := "4edaf082ba9c3784e21737d798b4a80076ad523de2deef1ef8d82a68c8b759c2", checked := Try.checked }
namespace Rows
def none {H : Type} : Left H := { results := [], args := [] }

/-- 'proctorlaw21.BridgeDeposits': WHATEVER THE INPUT: true; the input reads as it did. -/
def bridgeDepositsSpec : ChangeSpec := { name := "bridgeDeposits", fn := fun _ => fun
  | [d1, d2] => { results := [.lit (.bool true)], args := [d1, d2] }
  | _ => none }
def bridgeDepositsRow : OpenClaim := { program := "ytnkancamlnepkaa", sum := "4edaf082ba9c3784e21737d798b4a80076ad523de2deef1ef8d82a68c8b759c2", func := "proctor/proctorlaw21.BridgeDeposits", spec := "bridgeDeposits", unfollowed := true, recurses := true, plainKeys := false, apart := false }
def BridgeDepositsSaid : Prop := bridgeDepositsRow.holds Try.pinned (OpenSpec.ofChange bridgeDepositsSpec)

/-- ITS FALSE NEIGHBOUR: 'it returns false'. Refute it at one input. -/
def bridgeDepositsWrong : ChangeSpec := { name := "bridgeDeposits", fn := fun _ => fun
  | [d1, d2] => { results := [.lit (.bool false)], args := [d1, d2] }
  | _ => none }
def BridgeDepositsWrongFalsely : Prop := bridgeDepositsRow.holds Try.pinned (OpenSpec.ofChange bridgeDepositsWrong)

/-- 'proctorlaw05.CollideFinds': WHATEVER THE INPUT: true; the input reads as it did. -/
def collideFindsSpec : ChangeSpec := { name := "collideFinds", fn := fun _ => fun
  | [d] => { results := [.lit (.bool true)], args := [d] }
  | _ => none }
def collideFindsRow : OpenClaim := { program := "ytnkancamlnepkaa", sum := "4edaf082ba9c3784e21737d798b4a80076ad523de2deef1ef8d82a68c8b759c2", func := "proctor/proctorlaw05.CollideFinds", spec := "collideFinds", plainKeys := false, apart := false }
def CollideFindsSaid : Prop := collideFindsRow.holds Try.pinned (OpenSpec.ofChange collideFindsSpec)

/-- ITS FALSE NEIGHBOUR: 'it returns false'. Refute it at one input. -/
def collideFindsWrong : ChangeSpec := { name := "collideFinds", fn := fun _ => fun
  | [d] => { results := [.lit (.bool false)], args := [d] }
  | _ => none }
def CollideFindsWrongFalsely : Prop := collideFindsRow.holds Try.pinned (OpenSpec.ofChange collideFindsWrong)

/-- 'proctorlaw05.CollideLogs': WHATEVER THE INPUT: true; the input reads as it did. -/
def collideLogsSpec : ChangeSpec := { name := "collideLogs", fn := fun _ => fun
  | [d] => { results := [.lit (.bool true)], args := [d] }
  | _ => none }
def collideLogsRow : OpenClaim := { program := "ytnkancamlnepkaa", sum := "4edaf082ba9c3784e21737d798b4a80076ad523de2deef1ef8d82a68c8b759c2", func := "proctor/proctorlaw05.CollideLogs", spec := "collideLogs", plainKeys := false, apart := false }
def CollideLogsSaid : Prop := collideLogsRow.holds Try.pinned (OpenSpec.ofChange collideLogsSpec)

/-- ITS FALSE NEIGHBOUR: 'it returns false'. Refute it at one input. -/
def collideLogsWrong : ChangeSpec := { name := "collideLogs", fn := fun _ => fun
  | [d] => { results := [.lit (.bool false)], args := [d] }
  | _ => none }
def CollideLogsWrongFalsely : Prop := collideLogsRow.holds Try.pinned (OpenSpec.ofChange collideLogsWrong)

/-- 'proctorlaw05.CollideBinds': WHATEVER THE INPUT: true; the input reads as it did. -/
def collideBindsSpec : ChangeSpec := { name := "collideBinds", fn := fun _ => fun
  | [d1, d2] => { results := [.lit (.bool true)], args := [d1, d2] }
  | _ => none }
def collideBindsRow : OpenClaim := { program := "ytnkancamlnepkaa", sum := "4edaf082ba9c3784e21737d798b4a80076ad523de2deef1ef8d82a68c8b759c2", func := "proctor/proctorlaw05.CollideBinds", spec := "collideBinds", unfollowed := true, recurses := true, plainKeys := false, apart := false }
def CollideBindsSaid : Prop := collideBindsRow.holds Try.pinned (OpenSpec.ofChange collideBindsSpec)

/-- ITS FALSE NEIGHBOUR: 'it returns false'. Refute it at one input. -/
def collideBindsWrong : ChangeSpec := { name := "collideBinds", fn := fun _ => fun
  | [d1, d2] => { results := [.lit (.bool false)], args := [d1, d2] }
  | _ => none }
def CollideBindsWrongFalsely : Prop := collideBindsRow.holds Try.pinned (OpenSpec.ofChange collideBindsWrong)

/-- 'proctorlaw05.CollideOnly': WHATEVER THE INPUT: true; the input reads as it did. -/
def collideOnlySpec : ChangeSpec := { name := "collideOnly", fn := fun _ => fun
  | [d1, d2] => { results := [.lit (.bool true)], args := [d1, d2] }
  | _ => none }
def collideOnlyRow : OpenClaim := { program := "ytnkancamlnepkaa", sum := "4edaf082ba9c3784e21737d798b4a80076ad523de2deef1ef8d82a68c8b759c2", func := "proctor/proctorlaw05.CollideOnly", spec := "collideOnly", unfollowed := true, recurses := true, plainKeys := false, apart := false }
def CollideOnlySaid : Prop := collideOnlyRow.holds Try.pinned (OpenSpec.ofChange collideOnlySpec)

/-- ITS FALSE NEIGHBOUR: 'it returns false'. Refute it at one input. -/
def collideOnlyWrong : ChangeSpec := { name := "collideOnly", fn := fun _ => fun
  | [d1, d2] => { results := [.lit (.bool false)], args := [d1, d2] }
  | _ => none }
def CollideOnlyWrongFalsely : Prop := collideOnlyRow.holds Try.pinned (OpenSpec.ofChange collideOnlyWrong)

/-- 'proctorlaw04.MerkleFresh': WHATEVER THE INPUT: true; the input reads as it did. -/
def merkleFreshSpec : ChangeSpec := { name := "merkleFresh", fn := fun _ => fun
  | [d1, d2, d3] => { results := [.lit (.bool true)], args := [d1, d2, d3] }
  | _ => none }
def merkleFreshRow : OpenClaim := { program := "ytnkancamlnepkaa", sum := "4edaf082ba9c3784e21737d798b4a80076ad523de2deef1ef8d82a68c8b759c2", func := "proctor/proctorlaw04.MerkleFresh", spec := "merkleFresh", unfollowed := true, recurses := true, plainKeys := false, apart := false }
def MerkleFreshSaid : Prop := merkleFreshRow.holds Try.pinned (OpenSpec.ofChange merkleFreshSpec)

/-- ITS FALSE NEIGHBOUR: 'it returns false'. Refute it at one input. -/
def merkleFreshWrong : ChangeSpec := { name := "merkleFresh", fn := fun _ => fun
  | [d1, d2, d3] => { results := [.lit (.bool false)], args := [d1, d2, d3] }
  | _ => none }
def MerkleFreshWrongFalsely : Prop := merkleFreshRow.holds Try.pinned (OpenSpec.ofChange merkleFreshWrong)

/-- 'proctorlaw04.MerkleRoots': WHATEVER THE INPUT: true; the input reads as it did. -/
def merkleRootsSpec : ChangeSpec := { name := "merkleRoots", fn := fun _ => fun
  | [d1, d2, d3] => { results := [.lit (.bool true)], args := [d1, d2, d3] }
  | _ => none }
def merkleRootsRow : OpenClaim := { program := "ytnkancamlnepkaa", sum := "4edaf082ba9c3784e21737d798b4a80076ad523de2deef1ef8d82a68c8b759c2", func := "proctor/proctorlaw04.MerkleRoots", spec := "merkleRoots", unfollowed := true, recurses := true, plainKeys := false, apart := false }
def MerkleRootsSaid : Prop := merkleRootsRow.holds Try.pinned (OpenSpec.ofChange merkleRootsSpec)

/-- ITS FALSE NEIGHBOUR: 'it returns false'. Refute it at one input. -/
def merkleRootsWrong : ChangeSpec := { name := "merkleRoots", fn := fun _ => fun
  | [d1, d2, d3] => { results := [.lit (.bool false)], args := [d1, d2, d3] }
  | _ => none }
def MerkleRootsWrongFalsely : Prop := merkleRootsRow.holds Try.pinned (OpenSpec.ofChange merkleRootsWrong)

/-- 'proctorlaw04.MerkleFolds': WHATEVER THE INPUT: true; the input reads as it did. -/
def merkleFoldsSpec : ChangeSpec := { name := "merkleFolds", fn := fun _ => fun
  | [d1, d2, d3] => { results := [.lit (.bool true)], args := [d1, d2, d3] }
  | _ => none }
def merkleFoldsRow : OpenClaim := { program := "ytnkancamlnepkaa", sum := "4edaf082ba9c3784e21737d798b4a80076ad523de2deef1ef8d82a68c8b759c2", func := "proctor/proctorlaw04.MerkleFolds", spec := "merkleFolds", unfollowed := true, recurses := true, plainKeys := false, apart := false }
def MerkleFoldsSaid : Prop := merkleFoldsRow.holds Try.pinned (OpenSpec.ofChange merkleFoldsSpec)

/-- ITS FALSE NEIGHBOUR: 'it returns false'. Refute it at one input. -/
def merkleFoldsWrong : ChangeSpec := { name := "merkleFolds", fn := fun _ => fun
  | [d1, d2, d3] => { results := [.lit (.bool false)], args := [d1, d2, d3] }
  | _ => none }
def MerkleFoldsWrongFalsely : Prop := merkleFoldsRow.holds Try.pinned (OpenSpec.ofChange merkleFoldsWrong)

/-- 'proctorlaw04.MerkleProves': WHATEVER THE INPUT: true; the input reads as it did. -/
def merkleProvesSpec : ChangeSpec := { name := "merkleProves", fn := fun _ => fun
  | [d1, d2, d3] => { results := [.lit (.bool true)], args := [d1, d2, d3] }
  | _ => none }
def merkleProvesRow : OpenClaim := { program := "ytnkancamlnepkaa", sum := "4edaf082ba9c3784e21737d798b4a80076ad523de2deef1ef8d82a68c8b759c2", func := "proctor/proctorlaw04.MerkleProves", spec := "merkleProves", unfollowed := true, recurses := true, plainKeys := false, apart := false }
def MerkleProvesSaid : Prop := merkleProvesRow.holds Try.pinned (OpenSpec.ofChange merkleProvesSpec)

/-- ITS FALSE NEIGHBOUR: 'it returns false'. Refute it at one input. -/
def merkleProvesWrong : ChangeSpec := { name := "merkleProves", fn := fun _ => fun
  | [d1, d2, d3] => { results := [.lit (.bool false)], args := [d1, d2, d3] }
  | _ => none }
def MerkleProvesWrongFalsely : Prop := merkleProvesRow.holds Try.pinned (OpenSpec.ofChange merkleProvesWrong)

/- THE SECOND FORM. 'bulk': how many values and letters a reading holds, each counted each time it is reached (what is shared counts as often as it is met; a slice's spare places count too). A statement '..UptoSaid' is the law's where the arguments, and the package variables that the reading takes, are together of bulk at most 1048576: NARROWER than '..Said'. Prove '..Said' where nothing that the law and all that it calls make is longer than what came in: it says more and counts as full. Else prove '..UptoSaid'. A law counts once. -/
mutual
def uptoBulk {H : Type} : DataW H → Nat
  | .lit (.string bytes) => bytes.length + 1
  | .lit _ => 1
  | .nil => 1
  | .ptr d => uptoBulk d + 1
  | .slice elems spare => uptoBulkAll elems + uptoBulkAll spare + 1
  | .agg parts => uptoBulkAll parts + 1
  | .iface _ d => uptoBulk d + 1
  | .map entries => uptoBulkEntries entries + 1
  | .held _ => 1
def uptoBulkAll {H : Type} : List (DataW H) → Nat
  | [] => 0
  | d :: r => uptoBulk d + uptoBulkAll r
def uptoBulkEntries {H : Type} : List (Lit × DataW H) → Nat
  | [] => 0
  | x :: r => uptoBulkEntry x + uptoBulkEntries r
def uptoBulkEntry {H : Type} : Lit × DataW H → Nat
  | (.string bytes, d) => bytes.length + uptoBulk d + 1
  | (_, d) => uptoBulk d + 1
 end
def uptoSmall : (H : Type) → List (DataW H) → Bool := fun _ ds => decide (uptoBulkAll ds ≤ 1048576)
def OpenSpec.upto (s : _root_.Go.ChangeSpec) : _root_.Go.OpenSpec := { _root_.Go.OpenSpec.ofChange s with cond := some uptoSmall }

/-- 'proctorlaw21.BridgeDeposits', WHERE WHAT IT READS IS OF BULK AT MOST 1048576: true; the input reads as it did. -/
def bridgeDepositsUptoRow : OpenClaim := { program := "ytnkancamlnepkaa", sum := "4edaf082ba9c3784e21737d798b4a80076ad523de2deef1ef8d82a68c8b759c2", func := "proctor/proctorlaw21.BridgeDeposits", spec := "bridgeDeposits", unfollowed := true, recurses := true, plainKeys := false, apart := false, narrowed := true }
def BridgeDepositsUptoSaid : Prop := bridgeDepositsUptoRow.holds Try.pinned (OpenSpec.upto bridgeDepositsSpec)

/-- 'proctorlaw05.CollideFinds', WHERE WHAT IT READS IS OF BULK AT MOST 1048576: true; the input reads as it did. -/
def collideFindsUptoRow : OpenClaim := { program := "ytnkancamlnepkaa", sum := "4edaf082ba9c3784e21737d798b4a80076ad523de2deef1ef8d82a68c8b759c2", func := "proctor/proctorlaw05.CollideFinds", spec := "collideFinds", plainKeys := false, apart := false, narrowed := true }
def CollideFindsUptoSaid : Prop := collideFindsUptoRow.holds Try.pinned (OpenSpec.upto collideFindsSpec)

/-- 'proctorlaw05.CollideLogs', WHERE WHAT IT READS IS OF BULK AT MOST 1048576: true; the input reads as it did. -/
def collideLogsUptoRow : OpenClaim := { program := "ytnkancamlnepkaa", sum := "4edaf082ba9c3784e21737d798b4a80076ad523de2deef1ef8d82a68c8b759c2", func := "proctor/proctorlaw05.CollideLogs", spec := "collideLogs", plainKeys := false, apart := false, narrowed := true }
def CollideLogsUptoSaid : Prop := collideLogsUptoRow.holds Try.pinned (OpenSpec.upto collideLogsSpec)

/-- 'proctorlaw05.CollideBinds', WHERE WHAT IT READS IS OF BULK AT MOST 1048576: true; the input reads as it did. -/
def collideBindsUptoRow : OpenClaim := { program := "ytnkancamlnepkaa", sum := "4edaf082ba9c3784e21737d798b4a80076ad523de2deef1ef8d82a68c8b759c2", func := "proctor/proctorlaw05.CollideBinds", spec := "collideBinds", unfollowed := true, recurses := true, plainKeys := false, apart := false, narrowed := true }
def CollideBindsUptoSaid : Prop := collideBindsUptoRow.holds Try.pinned (OpenSpec.upto collideBindsSpec)

/-- 'proctorlaw05.CollideOnly', WHERE WHAT IT READS IS OF BULK AT MOST 1048576: true; the input reads as it did. -/
def collideOnlyUptoRow : OpenClaim := { program := "ytnkancamlnepkaa", sum := "4edaf082ba9c3784e21737d798b4a80076ad523de2deef1ef8d82a68c8b759c2", func := "proctor/proctorlaw05.CollideOnly", spec := "collideOnly", unfollowed := true, recurses := true, plainKeys := false, apart := false, narrowed := true }
def CollideOnlyUptoSaid : Prop := collideOnlyUptoRow.holds Try.pinned (OpenSpec.upto collideOnlySpec)

/-- 'proctorlaw04.MerkleFresh', WHERE WHAT IT READS IS OF BULK AT MOST 1048576: true; the input reads as it did. -/
def merkleFreshUptoRow : OpenClaim := { program := "ytnkancamlnepkaa", sum := "4edaf082ba9c3784e21737d798b4a80076ad523de2deef1ef8d82a68c8b759c2", func := "proctor/proctorlaw04.MerkleFresh", spec := "merkleFresh", unfollowed := true, recurses := true, plainKeys := false, apart := false, narrowed := true }
def MerkleFreshUptoSaid : Prop := merkleFreshUptoRow.holds Try.pinned (OpenSpec.upto merkleFreshSpec)

/-- 'proctorlaw04.MerkleRoots', WHERE WHAT IT READS IS OF BULK AT MOST 1048576: true; the input reads as it did. -/
def merkleRootsUptoRow : OpenClaim := { program := "ytnkancamlnepkaa", sum := "4edaf082ba9c3784e21737d798b4a80076ad523de2deef1ef8d82a68c8b759c2", func := "proctor/proctorlaw04.MerkleRoots", spec := "merkleRoots", unfollowed := true, recurses := true, plainKeys := false, apart := false, narrowed := true }
def MerkleRootsUptoSaid : Prop := merkleRootsUptoRow.holds Try.pinned (OpenSpec.upto merkleRootsSpec)

/-- 'proctorlaw04.MerkleFolds', WHERE WHAT IT READS IS OF BULK AT MOST 1048576: true; the input reads as it did. -/
def merkleFoldsUptoRow : OpenClaim := { program := "ytnkancamlnepkaa", sum := "4edaf082ba9c3784e21737d798b4a80076ad523de2deef1ef8d82a68c8b759c2", func := "proctor/proctorlaw04.MerkleFolds", spec := "merkleFolds", unfollowed := true, recurses := true, plainKeys := false, apart := false, narrowed := true }
def MerkleFoldsUptoSaid : Prop := merkleFoldsUptoRow.holds Try.pinned (OpenSpec.upto merkleFoldsSpec)

/-- 'proctorlaw04.MerkleProves', WHERE WHAT IT READS IS OF BULK AT MOST 1048576: true; the input reads as it did. -/
def merkleProvesUptoRow : OpenClaim := { program := "ytnkancamlnepkaa", sum := "4edaf082ba9c3784e21737d798b4a80076ad523de2deef1ef8d82a68c8b759c2", func := "proctor/proctorlaw04.MerkleProves", spec := "merkleProves", unfollowed := true, recurses := true, plainKeys := false, apart := false, narrowed := true }
def MerkleProvesUptoSaid : Prop := merkleProvesUptoRow.holds Try.pinned (OpenSpec.upto merkleProvesSpec)

end Rows
end Go.Proofs.Ytnkancamlnepkaa
