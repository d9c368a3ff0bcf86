/-
  No cell of these rows narrows 'for every input' (looked for: loops, veiled, ifaces, maps, wideKeys, modest, calm, conditions, laid).
  DERIVED. THE GIVEN ROWS OF THIS SEAT. 16 by the template 'for every input the law returns true; each argument reads behind the call as it read before'; 0 by the template 'total and deterministic' (their statements: YtoghoddofokekaaTotals.lean).
  GIVEN WITH THE SEED: the statements are not yours to turn. If you find one false, say at which input.
  Laid BY PROGRAM, IN A SANDBOX (cutbox-rows.mjs): the forced cells as the released guide's own fill.sh prints them over the translation 63088b4bd45fc133… (all of the seat's roots in one cut). By AI agents, Wed Nov 11 2026. No macro, syntax, notation, axiom, sorry.
-/
import Derived.Test.YtoghoddofokekaaChecked
import GoSem.Claim
import GoSem.ClaimJoined
import GoSem.ClaimMapViews
import Derived.JoinedTies
import Derived.KernelRfl
namespace Go.Proofs.Ytoghoddofokekaa
/- THE CELL 'sum', in the pinned program and in every row, IS THE sha256 OF THE DUMP (.gsa) THAT YtoghoddofokekaaProg.lean LOADS. Nothing in Lean hashes anything: it is a label: what it is worth is what the hold of that sum in a sandbox is worth. -/
noncomputable def Try.pinned : Pinned := { name := "ytoghoddofokekaa", sum := "63088b4bd45fc13308ce4525da7810407185688d6242b73d2c3ad9b6add68fcc", checked := Try.checked }
namespace Rows
def none {H : Type} : Left H := { results := [], args := [] }

/-- 'bursarlaw5.CmdNames': WHATEVER THE INPUT: true; the input reads as it did. -/
def cmdNamesSpec : ChangeSpec := { name := "cmdNames", fn := fun _ => fun
  | [d] => { results := [.lit (.bool true)], args := [d] }
  | _ => none }
def cmdNamesRow : OpenClaim := { program := "ytoghoddofokekaa", sum := "63088b4bd45fc13308ce4525da7810407185688d6242b73d2c3ad9b6add68fcc", func := "bursar/bursarlaw5.CmdNames", spec := "cmdNames", apart := false }
def CmdNamesSaid : Prop := cmdNamesRow.holds Try.pinned (OpenSpec.ofChange cmdNamesSpec)

/-- ITS FALSE NEIGHBOUR: 'it returns false'. Refute it at one input. -/
def cmdNamesWrong : ChangeSpec := { name := "cmdNames", fn := fun _ => fun
  | [d] => { results := [.lit (.bool false)], args := [d] }
  | _ => none }
def CmdNamesWrongFalsely : Prop := cmdNamesRow.holds Try.pinned (OpenSpec.ofChange cmdNamesWrong)

/-- 'bursarlaw6.RpcRight': WHATEVER THE INPUT: true; the input reads as it did. -/
def rpcRightSpec : ChangeSpec := { name := "rpcRight", fn := fun _ => fun
  | [d] => { results := [.lit (.bool true)], args := [d] }
  | _ => none }
def rpcRightRow : OpenClaim := { program := "ytoghoddofokekaa", sum := "63088b4bd45fc13308ce4525da7810407185688d6242b73d2c3ad9b6add68fcc", func := "bursar/bursarlaw6.RpcRight", spec := "rpcRight", apart := false }
def RpcRightSaid : Prop := rpcRightRow.holds Try.pinned (OpenSpec.ofChange rpcRightSpec)

/-- ITS FALSE NEIGHBOUR: 'it returns false'. Refute it at one input. -/
def rpcRightWrong : ChangeSpec := { name := "rpcRight", fn := fun _ => fun
  | [d] => { results := [.lit (.bool false)], args := [d] }
  | _ => none }
def RpcRightWrongFalsely : Prop := rpcRightRow.holds Try.pinned (OpenSpec.ofChange rpcRightWrong)

/-- 'bursarlaw6.RpcEncodes': WHATEVER THE INPUT: true; the input reads as it did. -/
def rpcEncodesSpec : ChangeSpec := { name := "rpcEncodes", fn := fun _ => fun
  | [d] => { results := [.lit (.bool true)], args := [d] }
  | _ => none }
def rpcEncodesRow : OpenClaim := { program := "ytoghoddofokekaa", sum := "63088b4bd45fc13308ce4525da7810407185688d6242b73d2c3ad9b6add68fcc", func := "bursar/bursarlaw6.RpcEncodes", spec := "rpcEncodes", apart := false }
def RpcEncodesSaid : Prop := rpcEncodesRow.holds Try.pinned (OpenSpec.ofChange rpcEncodesSpec)

/-- ITS FALSE NEIGHBOUR: 'it returns false'. Refute it at one input. -/
def rpcEncodesWrong : ChangeSpec := { name := "rpcEncodes", fn := fun _ => fun
  | [d] => { results := [.lit (.bool false)], args := [d] }
  | _ => none }
def RpcEncodesWrongFalsely : Prop := rpcEncodesRow.holds Try.pinned (OpenSpec.ofChange rpcEncodesWrong)

/-- 'bursarlaw5.CmdReplies': WHATEVER THE INPUT: true; the input reads as it did. -/
def cmdRepliesSpec : ChangeSpec := { name := "cmdReplies", fn := fun _ => fun
  | [d1, d2, d3] => { results := [.lit (.bool true)], args := [d1, d2, d3] }
  | _ => none }
def cmdRepliesRow : OpenClaim := { program := "ytoghoddofokekaa", sum := "63088b4bd45fc13308ce4525da7810407185688d6242b73d2c3ad9b6add68fcc", func := "bursar/bursarlaw5.CmdReplies", spec := "cmdReplies", apart := false }
def CmdRepliesSaid : Prop := cmdRepliesRow.holds Try.pinned (OpenSpec.ofChange cmdRepliesSpec)

/-- ITS FALSE NEIGHBOUR: 'it returns false'. Refute it at one input. -/
def cmdRepliesWrong : ChangeSpec := { name := "cmdReplies", fn := fun _ => fun
  | [d1, d2, d3] => { results := [.lit (.bool false)], args := [d1, d2, d3] }
  | _ => none }
def CmdRepliesWrongFalsely : Prop := cmdRepliesRow.holds Try.pinned (OpenSpec.ofChange cmdRepliesWrong)

/-- 'bursarlaw5.CmdDecodes': WHATEVER THE INPUT: true; the input reads as it did. -/
def cmdDecodesSpec : ChangeSpec := { name := "cmdDecodes", fn := fun _ => fun
  | [d] => { results := [.lit (.bool true)], args := [d] }
  | _ => none }
def cmdDecodesRow : OpenClaim := { program := "ytoghoddofokekaa", sum := "63088b4bd45fc13308ce4525da7810407185688d6242b73d2c3ad9b6add68fcc", func := "bursar/bursarlaw5.CmdDecodes", spec := "cmdDecodes", apart := false }
def CmdDecodesSaid : Prop := cmdDecodesRow.holds Try.pinned (OpenSpec.ofChange cmdDecodesSpec)

/-- ITS FALSE NEIGHBOUR: 'it returns false'. Refute it at one input. -/
def cmdDecodesWrong : ChangeSpec := { name := "cmdDecodes", fn := fun _ => fun
  | [d] => { results := [.lit (.bool false)], args := [d] }
  | _ => none }
def CmdDecodesWrongFalsely : Prop := cmdDecodesRow.holds Try.pinned (OpenSpec.ofChange cmdDecodesWrong)

/-- 'bursarlaw5.CmdOnly': WHATEVER THE INPUT: true; the input reads as it did. -/
def cmdOnlySpec : ChangeSpec := { name := "cmdOnly", fn := fun _ => fun
  | [d1, d2] => { results := [.lit (.bool true)], args := [d1, d2] }
  | _ => none }
def cmdOnlyRow : OpenClaim := { program := "ytoghoddofokekaa", sum := "63088b4bd45fc13308ce4525da7810407185688d6242b73d2c3ad9b6add68fcc", func := "bursar/bursarlaw5.CmdOnly", spec := "cmdOnly", apart := false }
def CmdOnlySaid : Prop := cmdOnlyRow.holds Try.pinned (OpenSpec.ofChange cmdOnlySpec)

/-- ITS FALSE NEIGHBOUR: 'it returns false'. Refute it at one input. -/
def cmdOnlyWrong : ChangeSpec := { name := "cmdOnly", fn := fun _ => fun
  | [d1, d2] => { results := [.lit (.bool false)], args := [d1, d2] }
  | _ => none }
def CmdOnlyWrongFalsely : Prop := cmdOnlyRow.holds Try.pinned (OpenSpec.ofChange cmdOnlyWrong)

/-- 'bursarlaw5.CmdKnown': WHATEVER THE INPUT: true; the input reads as it did. -/
def cmdKnownSpec : ChangeSpec := { name := "cmdKnown", fn := fun _ => fun
  | [] => { results := [.lit (.bool true)], args := [] }
  | _ => none }
def cmdKnownRow : OpenClaim := { program := "ytoghoddofokekaa", sum := "63088b4bd45fc13308ce4525da7810407185688d6242b73d2c3ad9b6add68fcc", func := "bursar/bursarlaw5.CmdKnown", spec := "cmdKnown", apart := false }
def CmdKnownSaid : Prop := cmdKnownRow.holds Try.pinned (OpenSpec.ofChange cmdKnownSpec)

/-- ITS FALSE NEIGHBOUR: 'it returns false'. Refute it at one input. -/
def cmdKnownWrong : ChangeSpec := { name := "cmdKnown", fn := fun _ => fun
  | [] => { results := [.lit (.bool false)], args := [] }
  | _ => none }
def CmdKnownWrongFalsely : Prop := cmdKnownRow.holds Try.pinned (OpenSpec.ofChange cmdKnownWrong)

/-- 'bursarlaw6.RpcEntries': WHATEVER THE INPUT: true; the input reads as it did. -/
def rpcEntriesSpec : ChangeSpec := { name := "rpcEntries", fn := fun _ => fun
  | [d1, d2] => { results := [.lit (.bool true)], args := [d1, d2] }
  | _ => none }
def rpcEntriesRow : OpenClaim := { program := "ytoghoddofokekaa", sum := "63088b4bd45fc13308ce4525da7810407185688d6242b73d2c3ad9b6add68fcc", func := "bursar/bursarlaw6.RpcEntries", spec := "rpcEntries", apart := false }
def RpcEntriesSaid : Prop := rpcEntriesRow.holds Try.pinned (OpenSpec.ofChange rpcEntriesSpec)

/-- ITS FALSE NEIGHBOUR: 'it returns false'. Refute it at one input. -/
def rpcEntriesWrong : ChangeSpec := { name := "rpcEntries", fn := fun _ => fun
  | [d1, d2] => { results := [.lit (.bool false)], args := [d1, d2] }
  | _ => none }
def RpcEntriesWrongFalsely : Prop := rpcEntriesRow.holds Try.pinned (OpenSpec.ofChange rpcEntriesWrong)

/-- 'bursarlaw6.RpcReads': WHATEVER THE INPUT: true; the input reads as it did. -/
def rpcReadsSpec : ChangeSpec := { name := "rpcReads", fn := fun _ => fun
  | [d1, d2, d3, d4, d5] => { results := [.lit (.bool true)], args := [d1, d2, d3, d4, d5] }
  | _ => none }
def rpcReadsRow : OpenClaim := { program := "ytoghoddofokekaa", sum := "63088b4bd45fc13308ce4525da7810407185688d6242b73d2c3ad9b6add68fcc", func := "bursar/bursarlaw6.RpcReads", spec := "rpcReads", apart := false }
def RpcReadsSaid : Prop := rpcReadsRow.holds Try.pinned (OpenSpec.ofChange rpcReadsSpec)

/-- ITS FALSE NEIGHBOUR: 'it returns false'. Refute it at one input. -/
def rpcReadsWrong : ChangeSpec := { name := "rpcReads", fn := fun _ => fun
  | [d1, d2, d3, d4, d5] => { results := [.lit (.bool false)], args := [d1, d2, d3, d4, d5] }
  | _ => none }
def RpcReadsWrongFalsely : Prop := rpcReadsRow.holds Try.pinned (OpenSpec.ofChange rpcReadsWrong)

/-- 'bursarlaw6.RpcKnown': WHATEVER THE INPUT: true; the input reads as it did. -/
def rpcKnownSpec : ChangeSpec := { name := "rpcKnown", fn := fun _ => fun
  | [] => { results := [.lit (.bool true)], args := [] }
  | _ => none }
def rpcKnownRow : OpenClaim := { program := "ytoghoddofokekaa", sum := "63088b4bd45fc13308ce4525da7810407185688d6242b73d2c3ad9b6add68fcc", func := "bursar/bursarlaw6.RpcKnown", spec := "rpcKnown", apart := false }
def RpcKnownSaid : Prop := rpcKnownRow.holds Try.pinned (OpenSpec.ofChange rpcKnownSpec)

/-- ITS FALSE NEIGHBOUR: 'it returns false'. Refute it at one input. -/
def rpcKnownWrong : ChangeSpec := { name := "rpcKnown", fn := fun _ => fun
  | [] => { results := [.lit (.bool false)], args := [] }
  | _ => none }
def RpcKnownWrongFalsely : Prop := rpcKnownRow.holds Try.pinned (OpenSpec.ofChange rpcKnownWrong)

/-- 'bursarlaw6.RpcDecodes': WHATEVER THE INPUT: true; the input reads as it did. -/
def rpcDecodesSpec : ChangeSpec := { name := "rpcDecodes", fn := fun _ => fun
  | [d1, d2] => { results := [.lit (.bool true)], args := [d1, d2] }
  | _ => none }
def rpcDecodesRow : OpenClaim := { program := "ytoghoddofokekaa", sum := "63088b4bd45fc13308ce4525da7810407185688d6242b73d2c3ad9b6add68fcc", func := "bursar/bursarlaw6.RpcDecodes", spec := "rpcDecodes", apart := false }
def RpcDecodesSaid : Prop := rpcDecodesRow.holds Try.pinned (OpenSpec.ofChange rpcDecodesSpec)

/-- ITS FALSE NEIGHBOUR: 'it returns false'. Refute it at one input. -/
def rpcDecodesWrong : ChangeSpec := { name := "rpcDecodes", fn := fun _ => fun
  | [d1, d2] => { results := [.lit (.bool false)], args := [d1, d2] }
  | _ => none }
def RpcDecodesWrongFalsely : Prop := rpcDecodesRow.holds Try.pinned (OpenSpec.ofChange rpcDecodesWrong)

/-- 'bursarlaw6.RpcSpoilt': WHATEVER THE INPUT: true; the input reads as it did. -/
def rpcSpoiltSpec : ChangeSpec := { name := "rpcSpoilt", fn := fun _ => fun
  | [d1, d2, d3, d4] => { results := [.lit (.bool true)], args := [d1, d2, d3, d4] }
  | _ => none }
def rpcSpoiltRow : OpenClaim := { program := "ytoghoddofokekaa", sum := "63088b4bd45fc13308ce4525da7810407185688d6242b73d2c3ad9b6add68fcc", func := "bursar/bursarlaw6.RpcSpoilt", spec := "rpcSpoilt", apart := false }
def RpcSpoiltSaid : Prop := rpcSpoiltRow.holds Try.pinned (OpenSpec.ofChange rpcSpoiltSpec)

/-- ITS FALSE NEIGHBOUR: 'it returns false'. Refute it at one input. -/
def rpcSpoiltWrong : ChangeSpec := { name := "rpcSpoilt", fn := fun _ => fun
  | [d1, d2, d3, d4] => { results := [.lit (.bool false)], args := [d1, d2, d3, d4] }
  | _ => none }
def RpcSpoiltWrongFalsely : Prop := rpcSpoiltRow.holds Try.pinned (OpenSpec.ofChange rpcSpoiltWrong)

/-- 'bursarlaw6.RpcBack': WHATEVER THE INPUT: true; the input reads as it did. -/
def rpcBackSpec : ChangeSpec := { name := "rpcBack", fn := fun _ => fun
  | [d] => { results := [.lit (.bool true)], args := [d] }
  | _ => none }
def rpcBackRow : OpenClaim := { program := "ytoghoddofokekaa", sum := "63088b4bd45fc13308ce4525da7810407185688d6242b73d2c3ad9b6add68fcc", func := "bursar/bursarlaw6.RpcBack", spec := "rpcBack", apart := false }
def RpcBackSaid : Prop := rpcBackRow.holds Try.pinned (OpenSpec.ofChange rpcBackSpec)

/-- ITS FALSE NEIGHBOUR: 'it returns false'. Refute it at one input. -/
def rpcBackWrong : ChangeSpec := { name := "rpcBack", fn := fun _ => fun
  | [d] => { results := [.lit (.bool false)], args := [d] }
  | _ => none }
def RpcBackWrongFalsely : Prop := rpcBackRow.holds Try.pinned (OpenSpec.ofChange rpcBackWrong)

/-- 'bursarlaw6.RpcOnly': WHATEVER THE INPUT: true; the input reads as it did. -/
def rpcOnlySpec : ChangeSpec := { name := "rpcOnly", fn := fun _ => fun
  | [d1, d2] => { results := [.lit (.bool true)], args := [d1, d2] }
  | _ => none }
def rpcOnlyRow : OpenClaim := { program := "ytoghoddofokekaa", sum := "63088b4bd45fc13308ce4525da7810407185688d6242b73d2c3ad9b6add68fcc", func := "bursar/bursarlaw6.RpcOnly", spec := "rpcOnly", apart := false }
def RpcOnlySaid : Prop := rpcOnlyRow.holds Try.pinned (OpenSpec.ofChange rpcOnlySpec)

/-- ITS FALSE NEIGHBOUR: 'it returns false'. Refute it at one input. -/
def rpcOnlyWrong : ChangeSpec := { name := "rpcOnly", fn := fun _ => fun
  | [d1, d2] => { results := [.lit (.bool false)], args := [d1, d2] }
  | _ => none }
def RpcOnlyWrongFalsely : Prop := rpcOnlyRow.holds Try.pinned (OpenSpec.ofChange rpcOnlyWrong)

/-- 'bursarlaw6.RpcTurned': WHATEVER THE INPUT: true; the input reads as it did. -/
def rpcTurnedSpec : ChangeSpec := { name := "rpcTurned", fn := fun _ => fun
  | [d1, d2, d3] => { results := [.lit (.bool true)], args := [d1, d2, d3] }
  | _ => none }
def rpcTurnedRow : OpenClaim := { program := "ytoghoddofokekaa", sum := "63088b4bd45fc13308ce4525da7810407185688d6242b73d2c3ad9b6add68fcc", func := "bursar/bursarlaw6.RpcTurned", spec := "rpcTurned", apart := false }
def RpcTurnedSaid : Prop := rpcTurnedRow.holds Try.pinned (OpenSpec.ofChange rpcTurnedSpec)

/-- ITS FALSE NEIGHBOUR: 'it returns false'. Refute it at one input. -/
def rpcTurnedWrong : ChangeSpec := { name := "rpcTurned", fn := fun _ => fun
  | [d1, d2, d3] => { results := [.lit (.bool false)], args := [d1, d2, d3] }
  | _ => none }
def RpcTurnedWrongFalsely : Prop := rpcTurnedRow.holds Try.pinned (OpenSpec.ofChange rpcTurnedWrong)

/-- 'bursarlaw6.RpcOwn': WHATEVER THE INPUT: true; the input reads as it did. -/
def rpcOwnSpec : ChangeSpec := { name := "rpcOwn", fn := fun _ => fun
  | [d] => { results := [.lit (.bool true)], args := [d] }
  | _ => none }
def rpcOwnRow : OpenClaim := { program := "ytoghoddofokekaa", sum := "63088b4bd45fc13308ce4525da7810407185688d6242b73d2c3ad9b6add68fcc", func := "bursar/bursarlaw6.RpcOwn", spec := "rpcOwn", apart := false }
def RpcOwnSaid : Prop := rpcOwnRow.holds Try.pinned (OpenSpec.ofChange rpcOwnSpec)

/-- ITS FALSE NEIGHBOUR: 'it returns false'. Refute it at one input. -/
def rpcOwnWrong : ChangeSpec := { name := "rpcOwn", fn := fun _ => fun
  | [d] => { results := [.lit (.bool false)], args := [d] }
  | _ => none }
def RpcOwnWrongFalsely : Prop := rpcOwnRow.holds Try.pinned (OpenSpec.ofChange rpcOwnWrong)

/- THE SECOND FORM. 'bulk': how many values and letters a reading holds, each counted each time it is reached (what is shared counts as often as it is met; a slice's spare places count too). A statement '..UptoSaid' is the law's where the arguments, and the package variables that the reading takes, are together of bulk at most 1048576: NARROWER than '..Said'. Prove '..Said' where nothing that the law and all that it calls make is longer than what came in: it says more and counts as full. Else prove '..UptoSaid'. A law counts once. -/
mutual
def uptoBulk {H : Type} : DataW H → Nat
  | .lit (.string bytes) => bytes.length + 1
  | .lit _ => 1
  | .nil => 1
  | .ptr d => uptoBulk d + 1
  | .slice elems spare => uptoBulkAll elems + uptoBulkAll spare + 1
  | .agg parts => uptoBulkAll parts + 1
  | .iface _ d => uptoBulk d + 1
  | .map entries => uptoBulkEntries entries + 1
  | .held _ => 1
def uptoBulkAll {H : Type} : List (DataW H) → Nat
  | [] => 0
  | d :: r => uptoBulk d + uptoBulkAll r
def uptoBulkEntries {H : Type} : List (Lit × DataW H) → Nat
  | [] => 0
  | x :: r => uptoBulkEntry x + uptoBulkEntries r
def uptoBulkEntry {H : Type} : Lit × DataW H → Nat
  | (.string bytes, d) => bytes.length + uptoBulk d + 1
  | (_, d) => uptoBulk d + 1
 end
def uptoSmall : (H : Type) → List (DataW H) → Bool := fun _ ds => decide (uptoBulkAll ds ≤ 1048576)
def OpenSpec.upto (s : _root_.Go.ChangeSpec) : _root_.Go.OpenSpec := { _root_.Go.OpenSpec.ofChange s with cond := some uptoSmall }

/-- 'bursarlaw5.CmdNames', WHERE WHAT IT READS IS OF BULK AT MOST 1048576: true; the input reads as it did. -/
def cmdNamesUptoRow : OpenClaim := { program := "ytoghoddofokekaa", sum := "63088b4bd45fc13308ce4525da7810407185688d6242b73d2c3ad9b6add68fcc", func := "bursar/bursarlaw5.CmdNames", spec := "cmdNames", apart := false, narrowed := true }
def CmdNamesUptoSaid : Prop := cmdNamesUptoRow.holds Try.pinned (OpenSpec.upto cmdNamesSpec)

/-- 'bursarlaw6.RpcRight', WHERE WHAT IT READS IS OF BULK AT MOST 1048576: true; the input reads as it did. -/
def rpcRightUptoRow : OpenClaim := { program := "ytoghoddofokekaa", sum := "63088b4bd45fc13308ce4525da7810407185688d6242b73d2c3ad9b6add68fcc", func := "bursar/bursarlaw6.RpcRight", spec := "rpcRight", apart := false, narrowed := true }
def RpcRightUptoSaid : Prop := rpcRightUptoRow.holds Try.pinned (OpenSpec.upto rpcRightSpec)

/-- 'bursarlaw6.RpcEncodes', WHERE WHAT IT READS IS OF BULK AT MOST 1048576: true; the input reads as it did. -/
def rpcEncodesUptoRow : OpenClaim := { program := "ytoghoddofokekaa", sum := "63088b4bd45fc13308ce4525da7810407185688d6242b73d2c3ad9b6add68fcc", func := "bursar/bursarlaw6.RpcEncodes", spec := "rpcEncodes", apart := false, narrowed := true }
def RpcEncodesUptoSaid : Prop := rpcEncodesUptoRow.holds Try.pinned (OpenSpec.upto rpcEncodesSpec)

/-- 'bursarlaw5.CmdReplies', WHERE WHAT IT READS IS OF BULK AT MOST 1048576: true; the input reads as it did. -/
def cmdRepliesUptoRow : OpenClaim := { program := "ytoghoddofokekaa", sum := "63088b4bd45fc13308ce4525da7810407185688d6242b73d2c3ad9b6add68fcc", func := "bursar/bursarlaw5.CmdReplies", spec := "cmdReplies", apart := false, narrowed := true }
def CmdRepliesUptoSaid : Prop := cmdRepliesUptoRow.holds Try.pinned (OpenSpec.upto cmdRepliesSpec)

/-- 'bursarlaw5.CmdDecodes', WHERE WHAT IT READS IS OF BULK AT MOST 1048576: true; the input reads as it did. -/
def cmdDecodesUptoRow : OpenClaim := { program := "ytoghoddofokekaa", sum := "63088b4bd45fc13308ce4525da7810407185688d6242b73d2c3ad9b6add68fcc", func := "bursar/bursarlaw5.CmdDecodes", spec := "cmdDecodes", apart := false, narrowed := true }
def CmdDecodesUptoSaid : Prop := cmdDecodesUptoRow.holds Try.pinned (OpenSpec.upto cmdDecodesSpec)

/-- 'bursarlaw5.CmdOnly', WHERE WHAT IT READS IS OF BULK AT MOST 1048576: true; the input reads as it did. -/
def cmdOnlyUptoRow : OpenClaim := { program := "ytoghoddofokekaa", sum := "63088b4bd45fc13308ce4525da7810407185688d6242b73d2c3ad9b6add68fcc", func := "bursar/bursarlaw5.CmdOnly", spec := "cmdOnly", apart := false, narrowed := true }
def CmdOnlyUptoSaid : Prop := cmdOnlyUptoRow.holds Try.pinned (OpenSpec.upto cmdOnlySpec)

/-- 'bursarlaw5.CmdKnown', WHERE WHAT IT READS IS OF BULK AT MOST 1048576: true; the input reads as it did. -/
def cmdKnownUptoRow : OpenClaim := { program := "ytoghoddofokekaa", sum := "63088b4bd45fc13308ce4525da7810407185688d6242b73d2c3ad9b6add68fcc", func := "bursar/bursarlaw5.CmdKnown", spec := "cmdKnown", apart := false, narrowed := true }
def CmdKnownUptoSaid : Prop := cmdKnownUptoRow.holds Try.pinned (OpenSpec.upto cmdKnownSpec)

/-- 'bursarlaw6.RpcEntries', WHERE WHAT IT READS IS OF BULK AT MOST 1048576: true; the input reads as it did. -/
def rpcEntriesUptoRow : OpenClaim := { program := "ytoghoddofokekaa", sum := "63088b4bd45fc13308ce4525da7810407185688d6242b73d2c3ad9b6add68fcc", func := "bursar/bursarlaw6.RpcEntries", spec := "rpcEntries", apart := false, narrowed := true }
def RpcEntriesUptoSaid : Prop := rpcEntriesUptoRow.holds Try.pinned (OpenSpec.upto rpcEntriesSpec)

/-- 'bursarlaw6.RpcReads', WHERE WHAT IT READS IS OF BULK AT MOST 1048576: true; the input reads as it did. -/
def rpcReadsUptoRow : OpenClaim := { program := "ytoghoddofokekaa", sum := "63088b4bd45fc13308ce4525da7810407185688d6242b73d2c3ad9b6add68fcc", func := "bursar/bursarlaw6.RpcReads", spec := "rpcReads", apart := false, narrowed := true }
def RpcReadsUptoSaid : Prop := rpcReadsUptoRow.holds Try.pinned (OpenSpec.upto rpcReadsSpec)

/-- 'bursarlaw6.RpcKnown', WHERE WHAT IT READS IS OF BULK AT MOST 1048576: true; the input reads as it did. -/
def rpcKnownUptoRow : OpenClaim := { program := "ytoghoddofokekaa", sum := "63088b4bd45fc13308ce4525da7810407185688d6242b73d2c3ad9b6add68fcc", func := "bursar/bursarlaw6.RpcKnown", spec := "rpcKnown", apart := false, narrowed := true }
def RpcKnownUptoSaid : Prop := rpcKnownUptoRow.holds Try.pinned (OpenSpec.upto rpcKnownSpec)

/-- 'bursarlaw6.RpcDecodes', WHERE WHAT IT READS IS OF BULK AT MOST 1048576: true; the input reads as it did. -/
def rpcDecodesUptoRow : OpenClaim := { program := "ytoghoddofokekaa", sum := "63088b4bd45fc13308ce4525da7810407185688d6242b73d2c3ad9b6add68fcc", func := "bursar/bursarlaw6.RpcDecodes", spec := "rpcDecodes", apart := false, narrowed := true }
def RpcDecodesUptoSaid : Prop := rpcDecodesUptoRow.holds Try.pinned (OpenSpec.upto rpcDecodesSpec)

/-- 'bursarlaw6.RpcSpoilt', WHERE WHAT IT READS IS OF BULK AT MOST 1048576: true; the input reads as it did. -/
def rpcSpoiltUptoRow : OpenClaim := { program := "ytoghoddofokekaa", sum := "63088b4bd45fc13308ce4525da7810407185688d6242b73d2c3ad9b6add68fcc", func := "bursar/bursarlaw6.RpcSpoilt", spec := "rpcSpoilt", apart := false, narrowed := true }
def RpcSpoiltUptoSaid : Prop := rpcSpoiltUptoRow.holds Try.pinned (OpenSpec.upto rpcSpoiltSpec)

/-- 'bursarlaw6.RpcBack', WHERE WHAT IT READS IS OF BULK AT MOST 1048576: true; the input reads as it did. -/
def rpcBackUptoRow : OpenClaim := { program := "ytoghoddofokekaa", sum := "63088b4bd45fc13308ce4525da7810407185688d6242b73d2c3ad9b6add68fcc", func := "bursar/bursarlaw6.RpcBack", spec := "rpcBack", apart := false, narrowed := true }
def RpcBackUptoSaid : Prop := rpcBackUptoRow.holds Try.pinned (OpenSpec.upto rpcBackSpec)

/-- 'bursarlaw6.RpcOnly', WHERE WHAT IT READS IS OF BULK AT MOST 1048576: true; the input reads as it did. -/
def rpcOnlyUptoRow : OpenClaim := { program := "ytoghoddofokekaa", sum := "63088b4bd45fc13308ce4525da7810407185688d6242b73d2c3ad9b6add68fcc", func := "bursar/bursarlaw6.RpcOnly", spec := "rpcOnly", apart := false, narrowed := true }
def RpcOnlyUptoSaid : Prop := rpcOnlyUptoRow.holds Try.pinned (OpenSpec.upto rpcOnlySpec)

/-- 'bursarlaw6.RpcTurned', WHERE WHAT IT READS IS OF BULK AT MOST 1048576: true; the input reads as it did. -/
def rpcTurnedUptoRow : OpenClaim := { program := "ytoghoddofokekaa", sum := "63088b4bd45fc13308ce4525da7810407185688d6242b73d2c3ad9b6add68fcc", func := "bursar/bursarlaw6.RpcTurned", spec := "rpcTurned", apart := false, narrowed := true }
def RpcTurnedUptoSaid : Prop := rpcTurnedUptoRow.holds Try.pinned (OpenSpec.upto rpcTurnedSpec)

/-- 'bursarlaw6.RpcOwn', WHERE WHAT IT READS IS OF BULK AT MOST 1048576: true; the input reads as it did. -/
def rpcOwnUptoRow : OpenClaim := { program := "ytoghoddofokekaa", sum := "63088b4bd45fc13308ce4525da7810407185688d6242b73d2c3ad9b6add68fcc", func := "bursar/bursarlaw6.RpcOwn", spec := "rpcOwn", apart := false, narrowed := true }
def RpcOwnUptoSaid : Prop := rpcOwnUptoRow.holds Try.pinned (OpenSpec.upto rpcOwnSpec)

end Rows
end Go.Proofs.Ytoghoddofokekaa
