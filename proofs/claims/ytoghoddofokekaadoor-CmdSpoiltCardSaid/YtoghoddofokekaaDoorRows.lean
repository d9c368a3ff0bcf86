/-
  NARROWER THAN 'FOR EVERY INPUT', by the rows' own cells (each row's printed sentence says how): CmdRight: laid · CmdEncodes: laid · CmdSpoilt: laid · CmdBack: laid.
  DERIVED. THE GIVEN ROWS OF THIS SEAT. 4 by the template 'for every input the law returns true; each argument reads behind the call as it read before'; 0 by the template 'total and deterministic' (their statements: YtoghoddofokekaaDoorTotals.lean).
  GIVEN WITH THE SEED: the statements are not yours to turn. If you find one false, say at which input.
  Laid BY PROGRAM, IN A SANDBOX (cutbox-rows.mjs): the forced cells as the released guide's own fill.sh prints them over the translation 76f26d30503cbb94… (all of the seat's roots in one cut). By AI agents, Wed Nov 11 2026. No macro, syntax, notation, axiom, sorry.
-/
import Derived.Test.YtoghoddofokekaaDoorChecked
import GoSem.Claim
import GoSem.ClaimJoined
import GoSem.ClaimMapViews
import Derived.JoinedTies
import Derived.KernelRfl
namespace Go.Proofs.YtoghoddofokekaaDoor
/- THE CELL 'sum', in the pinned program and in every row, IS THE sha256 OF THE DUMP (.gsa) THAT YtoghoddofokekaaDoorProg.lean LOADS. Nothing in Lean hashes anything: it is a label: what it is worth is what the hold of that sum in a sandbox is worth. -/
noncomputable def Tryd.pinned : Pinned := { name := "ytoghoddofokekaadoor", sum := "76f26d30503cbb94cd33f39e65e94981ddbff331ff33ee29458ddd41605f4328", checked := Tryd.checked }
namespace Rows
def none {H : Type} : Left H := { results := [], args := [] }

/- WHAT THE LISTED PACKAGE-LEVEL VARIABLES READ AS WHEN THE CALL BEGINS. Each datum BY PROGRAM (the guide's laid-datum.mjs) off the statement by which the dump's own 'gosem.cut.vars' lays the variable. In a bare row this is a premise. The card (YtoghoddofokekaaDoorCards.lean) ties it to the program's text. -/
def laid_bursar_bursarhand_coins {H : Type} : DataW H := .agg [.lit (.string [69, 85, 82]), .lit (.string [74, 80, 89]), .lit (.string [85, 83, 68])]

/-- 'bursarlaw5.CmdRight': WHATEVER THE INPUT: true; the input reads as it did. -/
def cmdRightSpec : ChangeSpec := { name := "cmdRight", fn := fun _ => fun
  | [d1, d2] => { results := [.lit (.bool true)], args := [d1, d2] }
  | _ => none }
def cmdRightRow : OpenClaim := { program := "ytoghoddofokekaadoor", sum := "76f26d30503cbb94cd33f39e65e94981ddbff331ff33ee29458ddd41605f4328", func := "bursar/bursarlaw5.CmdRight", spec := "cmdRight", named := ["bursar/bursarhand.coins"], apart := false, laid := [("bursar/bursarhand.coins", laid_bursar_bursarhand_coins)] }
def CmdRightSaid : Prop := cmdRightRow.holds Tryd.pinned (OpenSpec.ofChange cmdRightSpec)

/-- ITS FALSE NEIGHBOUR: 'it returns false'. Refute it at one input. -/
def cmdRightWrong : ChangeSpec := { name := "cmdRight", fn := fun _ => fun
  | [d1, d2] => { results := [.lit (.bool false)], args := [d1, d2] }
  | _ => none }
def CmdRightWrongFalsely : Prop := cmdRightRow.holds Tryd.pinned (OpenSpec.ofChange cmdRightWrong)

/-- 'bursarlaw5.CmdEncodes': WHATEVER THE INPUT: true; the input reads as it did. -/
def cmdEncodesSpec : ChangeSpec := { name := "cmdEncodes", fn := fun _ => fun
  | [d1, d2] => { results := [.lit (.bool true)], args := [d1, d2] }
  | _ => none }
def cmdEncodesRow : OpenClaim := { program := "ytoghoddofokekaadoor", sum := "76f26d30503cbb94cd33f39e65e94981ddbff331ff33ee29458ddd41605f4328", func := "bursar/bursarlaw5.CmdEncodes", spec := "cmdEncodes", named := ["bursar/bursarhand.coins"], apart := false, laid := [("bursar/bursarhand.coins", laid_bursar_bursarhand_coins)] }
def CmdEncodesSaid : Prop := cmdEncodesRow.holds Tryd.pinned (OpenSpec.ofChange cmdEncodesSpec)

/-- ITS FALSE NEIGHBOUR: 'it returns false'. Refute it at one input. -/
def cmdEncodesWrong : ChangeSpec := { name := "cmdEncodes", fn := fun _ => fun
  | [d1, d2] => { results := [.lit (.bool false)], args := [d1, d2] }
  | _ => none }
def CmdEncodesWrongFalsely : Prop := cmdEncodesRow.holds Tryd.pinned (OpenSpec.ofChange cmdEncodesWrong)

/-- 'bursarlaw5.CmdSpoilt': WHATEVER THE INPUT: true; the input reads as it did. -/
def cmdSpoiltSpec : ChangeSpec := { name := "cmdSpoilt", fn := fun _ => fun
  | [d1, d2, d3, d4] => { results := [.lit (.bool true)], args := [d1, d2, d3, d4] }
  | _ => none }
def cmdSpoiltRow : OpenClaim := { program := "ytoghoddofokekaadoor", sum := "76f26d30503cbb94cd33f39e65e94981ddbff331ff33ee29458ddd41605f4328", func := "bursar/bursarlaw5.CmdSpoilt", spec := "cmdSpoilt", named := ["bursar/bursarhand.coins"], apart := false, laid := [("bursar/bursarhand.coins", laid_bursar_bursarhand_coins)] }
def CmdSpoiltSaid : Prop := cmdSpoiltRow.holds Tryd.pinned (OpenSpec.ofChange cmdSpoiltSpec)

/-- ITS FALSE NEIGHBOUR: 'it returns false'. Refute it at one input. -/
def cmdSpoiltWrong : ChangeSpec := { name := "cmdSpoilt", fn := fun _ => fun
  | [d1, d2, d3, d4] => { results := [.lit (.bool false)], args := [d1, d2, d3, d4] }
  | _ => none }
def CmdSpoiltWrongFalsely : Prop := cmdSpoiltRow.holds Tryd.pinned (OpenSpec.ofChange cmdSpoiltWrong)

/-- 'bursarlaw5.CmdBack': WHATEVER THE INPUT: true; the input reads as it did. -/
def cmdBackSpec : ChangeSpec := { name := "cmdBack", fn := fun _ => fun
  | [d1, d2] => { results := [.lit (.bool true)], args := [d1, d2] }
  | _ => none }
def cmdBackRow : OpenClaim := { program := "ytoghoddofokekaadoor", sum := "76f26d30503cbb94cd33f39e65e94981ddbff331ff33ee29458ddd41605f4328", func := "bursar/bursarlaw5.CmdBack", spec := "cmdBack", named := ["bursar/bursarhand.coins"], apart := false, laid := [("bursar/bursarhand.coins", laid_bursar_bursarhand_coins)] }
def CmdBackSaid : Prop := cmdBackRow.holds Tryd.pinned (OpenSpec.ofChange cmdBackSpec)

/-- ITS FALSE NEIGHBOUR: 'it returns false'. Refute it at one input. -/
def cmdBackWrong : ChangeSpec := { name := "cmdBack", fn := fun _ => fun
  | [d1, d2] => { results := [.lit (.bool false)], args := [d1, d2] }
  | _ => none }
def CmdBackWrongFalsely : Prop := cmdBackRow.holds Tryd.pinned (OpenSpec.ofChange cmdBackWrong)

/- THE SECOND FORM. 'bulk': how many values and letters a reading holds, each counted each time it is reached (what is shared counts as often as it is met; a slice's spare places count too). A statement '..UptoSaid' is the law's where the arguments, and the package variables that the reading takes, are together of bulk at most 1048576: NARROWER than '..Said'. Prove '..Said' where nothing that the law and all that it calls make is longer than what came in: it says more and counts as full. Else prove '..UptoSaid'. A law counts once. -/
mutual
def uptoBulk {H : Type} : DataW H → Nat
  | .lit (.string bytes) => bytes.length + 1
  | .lit _ => 1
  | .nil => 1
  | .ptr d => uptoBulk d + 1
  | .slice elems spare => uptoBulkAll elems + uptoBulkAll spare + 1
  | .agg parts => uptoBulkAll parts + 1
  | .iface _ d => uptoBulk d + 1
  | .map entries => uptoBulkEntries entries + 1
  | .held _ => 1
def uptoBulkAll {H : Type} : List (DataW H) → Nat
  | [] => 0
  | d :: r => uptoBulk d + uptoBulkAll r
def uptoBulkEntries {H : Type} : List (Lit × DataW H) → Nat
  | [] => 0
  | x :: r => uptoBulkEntry x + uptoBulkEntries r
def uptoBulkEntry {H : Type} : Lit × DataW H → Nat
  | (.string bytes, d) => bytes.length + uptoBulk d + 1
  | (_, d) => uptoBulk d + 1
 end
def uptoSmall : (H : Type) → List (DataW H) → Bool := fun _ ds => decide (uptoBulkAll ds ≤ 1048576)
def OpenSpec.upto (s : _root_.Go.ChangeSpec) : _root_.Go.OpenSpec := { _root_.Go.OpenSpec.ofChange s with cond := some uptoSmall }

/-- 'bursarlaw5.CmdRight', WHERE WHAT IT READS IS OF BULK AT MOST 1048576: true; the input reads as it did. -/
def cmdRightUptoRow : OpenClaim := { program := "ytoghoddofokekaadoor", sum := "76f26d30503cbb94cd33f39e65e94981ddbff331ff33ee29458ddd41605f4328", func := "bursar/bursarlaw5.CmdRight", spec := "cmdRight", named := ["bursar/bursarhand.coins"], apart := false, laid := [("bursar/bursarhand.coins", laid_bursar_bursarhand_coins)], narrowed := true }
def CmdRightUptoSaid : Prop := cmdRightUptoRow.holds Tryd.pinned (OpenSpec.upto cmdRightSpec)

/-- 'bursarlaw5.CmdEncodes', WHERE WHAT IT READS IS OF BULK AT MOST 1048576: true; the input reads as it did. -/
def cmdEncodesUptoRow : OpenClaim := { program := "ytoghoddofokekaadoor", sum := "76f26d30503cbb94cd33f39e65e94981ddbff331ff33ee29458ddd41605f4328", func := "bursar/bursarlaw5.CmdEncodes", spec := "cmdEncodes", named := ["bursar/bursarhand.coins"], apart := false, laid := [("bursar/bursarhand.coins", laid_bursar_bursarhand_coins)], narrowed := true }
def CmdEncodesUptoSaid : Prop := cmdEncodesUptoRow.holds Tryd.pinned (OpenSpec.upto cmdEncodesSpec)

/-- 'bursarlaw5.CmdSpoilt', WHERE WHAT IT READS IS OF BULK AT MOST 1048576: true; the input reads as it did. -/
def cmdSpoiltUptoRow : OpenClaim := { program := "ytoghoddofokekaadoor", sum := "76f26d30503cbb94cd33f39e65e94981ddbff331ff33ee29458ddd41605f4328", func := "bursar/bursarlaw5.CmdSpoilt", spec := "cmdSpoilt", named := ["bursar/bursarhand.coins"], apart := false, laid := [("bursar/bursarhand.coins", laid_bursar_bursarhand_coins)], narrowed := true }
def CmdSpoiltUptoSaid : Prop := cmdSpoiltUptoRow.holds Tryd.pinned (OpenSpec.upto cmdSpoiltSpec)

/-- 'bursarlaw5.CmdBack', WHERE WHAT IT READS IS OF BULK AT MOST 1048576: true; the input reads as it did. -/
def cmdBackUptoRow : OpenClaim := { program := "ytoghoddofokekaadoor", sum := "76f26d30503cbb94cd33f39e65e94981ddbff331ff33ee29458ddd41605f4328", func := "bursar/bursarlaw5.CmdBack", spec := "cmdBack", named := ["bursar/bursarhand.coins"], apart := false, laid := [("bursar/bursarhand.coins", laid_bursar_bursarhand_coins)], narrowed := true }
def CmdBackUptoSaid : Prop := cmdBackUptoRow.holds Tryd.pinned (OpenSpec.upto cmdBackSpec)

end Rows
end Go.Proofs.YtoghoddofokekaaDoor
