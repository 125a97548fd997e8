/-
  No cell of these rows narrows 'for every input' (looked for: loops, veiled, ifaces, maps, wideKeys, modest, calm, conditions, laid).
  DERIVED. THE GIVEN ROWS OF THIS SEAT. 10 by the template 'for every input the law returns true; each argument reads behind the call as it read before'; 0 by the template 'total and deterministic' (their statements: YtfeecdcanjkohaaTotals.lean).
  GIVEN WITH THE SEED: the statements are not yours to turn. If you find one false, say at which input.
  Laid BY PROGRAM, IN A SANDBOX (cutbox-rows.mjs): the forced cells as the released guide's own fill.sh prints them over the translation 96cfdecce6adbee6… (all of the seat's roots in one cut). By AI agents, Wed Nov 11 2026. No macro, syntax, notation, axiom, sorry.
-/
import Derived.Test.YtfeecdcanjkohaaChecked
import GoSem.Claim
import GoSem.ClaimJoined
import GoSem.ClaimMapViews
import Derived.JoinedTies
import Derived.KernelRfl
namespace Go.Proofs.Ytfeecdcanjkohaa
/- THE CELL 'sum', in the pinned program and in every row, IS THE sha256 OF THE DUMP (.gsa) THAT YtfeecdcanjkohaaProg.lean LOADS. Nothing in Lean hashes anything: it is a label: what it is worth is what the hold of that sum in a sandbox is worth. -/
noncomputable def Try.pinned : Pinned := { name := "ytfeecdcanjkohaa", sum := "96cfdecce6adbee6a04a74121d5306b4c75a24cb8ea39e621476dc2cfd5f9031", checked := Try.checked }
namespace Rows
def none {H : Type} : Left H := { results := [], args := [] }

/-- 'proctorlaw19.LedgerPays': WHATEVER THE INPUT: true; the input reads as it did. -/
def ledgerPaysSpec : ChangeSpec := { name := "ledgerPays", fn := fun _ => fun
  | [d1, d2] => { results := [.lit (.bool true)], args := [d1, d2] }
  | _ => none }
def ledgerPaysRow : OpenClaim := { program := "ytfeecdcanjkohaa", sum := "96cfdecce6adbee6a04a74121d5306b4c75a24cb8ea39e621476dc2cfd5f9031", func := "proctor/proctorlaw19.LedgerPays", spec := "ledgerPays", unfollowed := true, recurses := true, apart := false }
def LedgerPaysSaid : Prop := ledgerPaysRow.holds Try.pinned (OpenSpec.ofChange ledgerPaysSpec)

/-- ITS FALSE NEIGHBOUR: 'it returns false'. Refute it at one input. -/
def ledgerPaysWrong : ChangeSpec := { name := "ledgerPays", fn := fun _ => fun
  | [d1, d2] => { results := [.lit (.bool false)], args := [d1, d2] }
  | _ => none }
def LedgerPaysWrongFalsely : Prop := ledgerPaysRow.holds Try.pinned (OpenSpec.ofChange ledgerPaysWrong)

/-- 'proctorlaw19.LedgerKeeps': WHATEVER THE INPUT: true; the input reads as it did. -/
def ledgerKeepsSpec : ChangeSpec := { name := "ledgerKeeps", fn := fun _ => fun
  | [d1, d2, d3] => { results := [.lit (.bool true)], args := [d1, d2, d3] }
  | _ => none }
def ledgerKeepsRow : OpenClaim := { program := "ytfeecdcanjkohaa", sum := "96cfdecce6adbee6a04a74121d5306b4c75a24cb8ea39e621476dc2cfd5f9031", func := "proctor/proctorlaw19.LedgerKeeps", spec := "ledgerKeeps", unfollowed := true, recurses := true, apart := false }
def LedgerKeepsSaid : Prop := ledgerKeepsRow.holds Try.pinned (OpenSpec.ofChange ledgerKeepsSpec)

/-- ITS FALSE NEIGHBOUR: 'it returns false'. Refute it at one input. -/
def ledgerKeepsWrong : ChangeSpec := { name := "ledgerKeeps", fn := fun _ => fun
  | [d1, d2, d3] => { results := [.lit (.bool false)], args := [d1, d2, d3] }
  | _ => none }
def LedgerKeepsWrongFalsely : Prop := ledgerKeepsRow.holds Try.pinned (OpenSpec.ofChange ledgerKeepsWrong)

/-- 'proctorlaw07.MsgWrites': WHATEVER THE INPUT: true; the input reads as it did. -/
def msgWritesSpec : ChangeSpec := { name := "msgWrites", fn := fun _ => fun
  | [d] => { results := [.lit (.bool true)], args := [d] }
  | _ => none }
def msgWritesRow : OpenClaim := { program := "ytfeecdcanjkohaa", sum := "96cfdecce6adbee6a04a74121d5306b4c75a24cb8ea39e621476dc2cfd5f9031", func := "proctor/proctorlaw07.MsgWrites", spec := "msgWrites", apart := false }
def MsgWritesSaid : Prop := msgWritesRow.holds Try.pinned (OpenSpec.ofChange msgWritesSpec)

/-- ITS FALSE NEIGHBOUR: 'it returns false'. Refute it at one input. -/
def msgWritesWrong : ChangeSpec := { name := "msgWrites", fn := fun _ => fun
  | [d] => { results := [.lit (.bool false)], args := [d] }
  | _ => none }
def MsgWritesWrongFalsely : Prop := msgWritesRow.holds Try.pinned (OpenSpec.ofChange msgWritesWrong)

/-- 'proctorlaw07.MsgReads': WHATEVER THE INPUT: true; the input reads as it did. -/
def msgReadsSpec : ChangeSpec := { name := "msgReads", fn := fun _ => fun
  | [d] => { results := [.lit (.bool true)], args := [d] }
  | _ => none }
def msgReadsRow : OpenClaim := { program := "ytfeecdcanjkohaa", sum := "96cfdecce6adbee6a04a74121d5306b4c75a24cb8ea39e621476dc2cfd5f9031", func := "proctor/proctorlaw07.MsgReads", spec := "msgReads", apart := false }
def MsgReadsSaid : Prop := msgReadsRow.holds Try.pinned (OpenSpec.ofChange msgReadsSpec)

/-- ITS FALSE NEIGHBOUR: 'it returns false'. Refute it at one input. -/
def msgReadsWrong : ChangeSpec := { name := "msgReads", fn := fun _ => fun
  | [d] => { results := [.lit (.bool false)], args := [d] }
  | _ => none }
def MsgReadsWrongFalsely : Prop := msgReadsRow.holds Try.pinned (OpenSpec.ofChange msgReadsWrong)

/-- 'proctorlaw07.MsgBack': WHATEVER THE INPUT: true; the input reads as it did. -/
def msgBackSpec : ChangeSpec := { name := "msgBack", fn := fun _ => fun
  | [d1, d2] => { results := [.lit (.bool true)], args := [d1, d2] }
  | _ => none }
def msgBackRow : OpenClaim := { program := "ytfeecdcanjkohaa", sum := "96cfdecce6adbee6a04a74121d5306b4c75a24cb8ea39e621476dc2cfd5f9031", func := "proctor/proctorlaw07.MsgBack", spec := "msgBack", apart := false }
def MsgBackSaid : Prop := msgBackRow.holds Try.pinned (OpenSpec.ofChange msgBackSpec)

/-- ITS FALSE NEIGHBOUR: 'it returns false'. Refute it at one input. -/
def msgBackWrong : ChangeSpec := { name := "msgBack", fn := fun _ => fun
  | [d1, d2] => { results := [.lit (.bool false)], args := [d1, d2] }
  | _ => none }
def MsgBackWrongFalsely : Prop := msgBackRow.holds Try.pinned (OpenSpec.ofChange msgBackWrong)

/-- 'proctorlaw01.ShaSums': WHATEVER THE INPUT: true; the input reads as it did. -/
def shaSumsSpec : ChangeSpec := { name := "shaSums", fn := fun _ => fun
  | [d1, d2, d3] => { results := [.lit (.bool true)], args := [d1, d2, d3] }
  | _ => none }
def shaSumsRow : OpenClaim := { program := "ytfeecdcanjkohaa", sum := "96cfdecce6adbee6a04a74121d5306b4c75a24cb8ea39e621476dc2cfd5f9031", func := "proctor/proctorlaw01.ShaSums", spec := "shaSums", apart := false }
def ShaSumsSaid : Prop := shaSumsRow.holds Try.pinned (OpenSpec.ofChange shaSumsSpec)

/-- ITS FALSE NEIGHBOUR: 'it returns false'. Refute it at one input. -/
def shaSumsWrong : ChangeSpec := { name := "shaSums", fn := fun _ => fun
  | [d1, d2, d3] => { results := [.lit (.bool false)], args := [d1, d2, d3] }
  | _ => none }
def ShaSumsWrongFalsely : Prop := shaSumsRow.holds Try.pinned (OpenSpec.ofChange shaSumsWrong)

/-- 'proctorlaw01.ShaKept': WHATEVER THE INPUT: true; the input reads as it did. -/
def shaKeptSpec : ChangeSpec := { name := "shaKept", fn := fun _ => fun
  | [d] => { results := [.lit (.bool true)], args := [d] }
  | _ => none }
def shaKeptRow : OpenClaim := { program := "ytfeecdcanjkohaa", sum := "96cfdecce6adbee6a04a74121d5306b4c75a24cb8ea39e621476dc2cfd5f9031", func := "proctor/proctorlaw01.ShaKept", spec := "shaKept", apart := false }
def ShaKeptSaid : Prop := shaKeptRow.holds Try.pinned (OpenSpec.ofChange shaKeptSpec)

/-- ITS FALSE NEIGHBOUR: 'it returns false'. Refute it at one input. -/
def shaKeptWrong : ChangeSpec := { name := "shaKept", fn := fun _ => fun
  | [d] => { results := [.lit (.bool false)], args := [d] }
  | _ => none }
def ShaKeptWrongFalsely : Prop := shaKeptRow.holds Try.pinned (OpenSpec.ofChange shaKeptWrong)

/-- 'proctorlaw01.ShaTagged': WHATEVER THE INPUT: true; the input reads as it did. -/
def shaTaggedSpec : ChangeSpec := { name := "shaTagged", fn := fun _ => fun
  | [d1, d2, d3] => { results := [.lit (.bool true)], args := [d1, d2, d3] }
  | _ => none }
def shaTaggedRow : OpenClaim := { program := "ytfeecdcanjkohaa", sum := "96cfdecce6adbee6a04a74121d5306b4c75a24cb8ea39e621476dc2cfd5f9031", func := "proctor/proctorlaw01.ShaTagged", spec := "shaTagged", apart := false }
def ShaTaggedSaid : Prop := shaTaggedRow.holds Try.pinned (OpenSpec.ofChange shaTaggedSpec)

/-- ITS FALSE NEIGHBOUR: 'it returns false'. Refute it at one input. -/
def shaTaggedWrong : ChangeSpec := { name := "shaTagged", fn := fun _ => fun
  | [d1, d2, d3] => { results := [.lit (.bool false)], args := [d1, d2, d3] }
  | _ => none }
def ShaTaggedWrongFalsely : Prop := shaTaggedRow.holds Try.pinned (OpenSpec.ofChange shaTaggedWrong)

/-- 'proctorlaw01.ShaTexts': WHATEVER THE INPUT: true; the input reads as it did. -/
def shaTextsSpec : ChangeSpec := { name := "shaTexts", fn := fun _ => fun
  | [d1, d2, d3] => { results := [.lit (.bool true)], args := [d1, d2, d3] }
  | _ => none }
def shaTextsRow : OpenClaim := { program := "ytfeecdcanjkohaa", sum := "96cfdecce6adbee6a04a74121d5306b4c75a24cb8ea39e621476dc2cfd5f9031", func := "proctor/proctorlaw01.ShaTexts", spec := "shaTexts", apart := false }
def ShaTextsSaid : Prop := shaTextsRow.holds Try.pinned (OpenSpec.ofChange shaTextsSpec)

/-- ITS FALSE NEIGHBOUR: 'it returns false'. Refute it at one input. -/
def shaTextsWrong : ChangeSpec := { name := "shaTexts", fn := fun _ => fun
  | [d1, d2, d3] => { results := [.lit (.bool false)], args := [d1, d2, d3] }
  | _ => none }
def ShaTextsWrongFalsely : Prop := shaTextsRow.holds Try.pinned (OpenSpec.ofChange shaTextsWrong)

/-- 'proctorlaw01.ShaBack': WHATEVER THE INPUT: true; the input reads as it did. -/
def shaBackSpec : ChangeSpec := { name := "shaBack", fn := fun _ => fun
  | [d1, d2] => { results := [.lit (.bool true)], args := [d1, d2] }
  | _ => none }
def shaBackRow : OpenClaim := { program := "ytfeecdcanjkohaa", sum := "96cfdecce6adbee6a04a74121d5306b4c75a24cb8ea39e621476dc2cfd5f9031", func := "proctor/proctorlaw01.ShaBack", spec := "shaBack", apart := false }
def ShaBackSaid : Prop := shaBackRow.holds Try.pinned (OpenSpec.ofChange shaBackSpec)

/-- ITS FALSE NEIGHBOUR: 'it returns false'. Refute it at one input. -/
def shaBackWrong : ChangeSpec := { name := "shaBack", fn := fun _ => fun
  | [d1, d2] => { results := [.lit (.bool false)], args := [d1, d2] }
  | _ => none }
def ShaBackWrongFalsely : Prop := shaBackRow.holds Try.pinned (OpenSpec.ofChange shaBackWrong)

/- THE SECOND FORM. 'bulk': how many values and letters a reading holds, each counted each time it is reached (what is shared counts as often as it is met; a slice's spare places count too). A statement '..UptoSaid' is the law's where the arguments, and the package variables that the reading takes, are together of bulk at most 1048576: NARROWER than '..Said'. Prove '..Said' where nothing that the law and all that it calls make is longer than what came in: it says more and counts as full. Else prove '..UptoSaid'. A law counts once. -/
mutual
def uptoBulk {H : Type} : DataW H → Nat
  | .lit (.string bytes) => bytes.length + 1
  | .lit _ => 1
  | .nil => 1
  | .ptr d => uptoBulk d + 1
  | .slice elems spare => uptoBulkAll elems + uptoBulkAll spare + 1
  | .agg parts => uptoBulkAll parts + 1
  | .iface _ d => uptoBulk d + 1
  | .map entries => uptoBulkEntries entries + 1
  | .held _ => 1
def uptoBulkAll {H : Type} : List (DataW H) → Nat
  | [] => 0
  | d :: r => uptoBulk d + uptoBulkAll r
def uptoBulkEntries {H : Type} : List (Lit × DataW H) → Nat
  | [] => 0
  | x :: r => uptoBulkEntry x + uptoBulkEntries r
def uptoBulkEntry {H : Type} : Lit × DataW H → Nat
  | (.string bytes, d) => bytes.length + uptoBulk d + 1
  | (_, d) => uptoBulk d + 1
 end
def uptoSmall : (H : Type) → List (DataW H) → Bool := fun _ ds => decide (uptoBulkAll ds ≤ 1048576)
def OpenSpec.upto (s : _root_.Go.ChangeSpec) : _root_.Go.OpenSpec := { _root_.Go.OpenSpec.ofChange s with cond := some uptoSmall }

/-- 'proctorlaw19.LedgerPays', WHERE WHAT IT READS IS OF BULK AT MOST 1048576: true; the input reads as it did. -/
def ledgerPaysUptoRow : OpenClaim := { program := "ytfeecdcanjkohaa", sum := "96cfdecce6adbee6a04a74121d5306b4c75a24cb8ea39e621476dc2cfd5f9031", func := "proctor/proctorlaw19.LedgerPays", spec := "ledgerPays", unfollowed := true, recurses := true, apart := false, narrowed := true }
def LedgerPaysUptoSaid : Prop := ledgerPaysUptoRow.holds Try.pinned (OpenSpec.upto ledgerPaysSpec)

/-- 'proctorlaw19.LedgerKeeps', WHERE WHAT IT READS IS OF BULK AT MOST 1048576: true; the input reads as it did. -/
def ledgerKeepsUptoRow : OpenClaim := { program := "ytfeecdcanjkohaa", sum := "96cfdecce6adbee6a04a74121d5306b4c75a24cb8ea39e621476dc2cfd5f9031", func := "proctor/proctorlaw19.LedgerKeeps", spec := "ledgerKeeps", unfollowed := true, recurses := true, apart := false, narrowed := true }
def LedgerKeepsUptoSaid : Prop := ledgerKeepsUptoRow.holds Try.pinned (OpenSpec.upto ledgerKeepsSpec)

/-- 'proctorlaw07.MsgWrites', WHERE WHAT IT READS IS OF BULK AT MOST 1048576: true; the input reads as it did. -/
def msgWritesUptoRow : OpenClaim := { program := "ytfeecdcanjkohaa", sum := "96cfdecce6adbee6a04a74121d5306b4c75a24cb8ea39e621476dc2cfd5f9031", func := "proctor/proctorlaw07.MsgWrites", spec := "msgWrites", apart := false, narrowed := true }
def MsgWritesUptoSaid : Prop := msgWritesUptoRow.holds Try.pinned (OpenSpec.upto msgWritesSpec)

/-- 'proctorlaw07.MsgReads', WHERE WHAT IT READS IS OF BULK AT MOST 1048576: true; the input reads as it did. -/
def msgReadsUptoRow : OpenClaim := { program := "ytfeecdcanjkohaa", sum := "96cfdecce6adbee6a04a74121d5306b4c75a24cb8ea39e621476dc2cfd5f9031", func := "proctor/proctorlaw07.MsgReads", spec := "msgReads", apart := false, narrowed := true }
def MsgReadsUptoSaid : Prop := msgReadsUptoRow.holds Try.pinned (OpenSpec.upto msgReadsSpec)

/-- 'proctorlaw07.MsgBack', WHERE WHAT IT READS IS OF BULK AT MOST 1048576: true; the input reads as it did. -/
def msgBackUptoRow : OpenClaim := { program := "ytfeecdcanjkohaa", sum := "96cfdecce6adbee6a04a74121d5306b4c75a24cb8ea39e621476dc2cfd5f9031", func := "proctor/proctorlaw07.MsgBack", spec := "msgBack", apart := false, narrowed := true }
def MsgBackUptoSaid : Prop := msgBackUptoRow.holds Try.pinned (OpenSpec.upto msgBackSpec)

/-- 'proctorlaw01.ShaSums', WHERE WHAT IT READS IS OF BULK AT MOST 1048576: true; the input reads as it did. -/
def shaSumsUptoRow : OpenClaim := { program := "ytfeecdcanjkohaa", sum := "96cfdecce6adbee6a04a74121d5306b4c75a24cb8ea39e621476dc2cfd5f9031", func := "proctor/proctorlaw01.ShaSums", spec := "shaSums", apart := false, narrowed := true }
def ShaSumsUptoSaid : Prop := shaSumsUptoRow.holds Try.pinned (OpenSpec.upto shaSumsSpec)

/-- 'proctorlaw01.ShaKept', WHERE WHAT IT READS IS OF BULK AT MOST 1048576: true; the input reads as it did. -/
def shaKeptUptoRow : OpenClaim := { program := "ytfeecdcanjkohaa", sum := "96cfdecce6adbee6a04a74121d5306b4c75a24cb8ea39e621476dc2cfd5f9031", func := "proctor/proctorlaw01.ShaKept", spec := "shaKept", apart := false, narrowed := true }
def ShaKeptUptoSaid : Prop := shaKeptUptoRow.holds Try.pinned (OpenSpec.upto shaKeptSpec)

/-- 'proctorlaw01.ShaTagged', WHERE WHAT IT READS IS OF BULK AT MOST 1048576: true; the input reads as it did. -/
def shaTaggedUptoRow : OpenClaim := { program := "ytfeecdcanjkohaa", sum := "96cfdecce6adbee6a04a74121d5306b4c75a24cb8ea39e621476dc2cfd5f9031", func := "proctor/proctorlaw01.ShaTagged", spec := "shaTagged", apart := false, narrowed := true }
def ShaTaggedUptoSaid : Prop := shaTaggedUptoRow.holds Try.pinned (OpenSpec.upto shaTaggedSpec)

/-- 'proctorlaw01.ShaTexts', WHERE WHAT IT READS IS OF BULK AT MOST 1048576: true; the input reads as it did. -/
def shaTextsUptoRow : OpenClaim := { program := "ytfeecdcanjkohaa", sum := "96cfdecce6adbee6a04a74121d5306b4c75a24cb8ea39e621476dc2cfd5f9031", func := "proctor/proctorlaw01.ShaTexts", spec := "shaTexts", apart := false, narrowed := true }
def ShaTextsUptoSaid : Prop := shaTextsUptoRow.holds Try.pinned (OpenSpec.upto shaTextsSpec)

/-- 'proctorlaw01.ShaBack', WHERE WHAT IT READS IS OF BULK AT MOST 1048576: true; the input reads as it did. -/
def shaBackUptoRow : OpenClaim := { program := "ytfeecdcanjkohaa", sum := "96cfdecce6adbee6a04a74121d5306b4c75a24cb8ea39e621476dc2cfd5f9031", func := "proctor/proctorlaw01.ShaBack", spec := "shaBack", apart := false, narrowed := true }
def ShaBackUptoSaid : Prop := shaBackUptoRow.holds Try.pinned (OpenSpec.upto shaBackSpec)

end Rows
end Go.Proofs.Ytfeecdcanjkohaa
