/-
  DERIVED. GIVEN WITH THE SEED: THE CARDS: each row of YtoghoddofokekaaDoorRows.lean that lists a variable, with what it lists TIED to the program's text (the seventh form; the later family's looks); each row that meets fmt, with fmt's text TOLD by the authors' own Lean function (tested against real Go, not proved from fmt's source: count such statements apart). THE CARD IS WHAT COUNTS. Prove the row's statement (the work); the ties are given (YtoghoddofokekaaDoorTie.lean); close each card by the builder's one call (the guide's Derived/Test/ToyasCard.lean, 'card_holds'). Laid BY PROGRAM, IN A SANDBOX (cutbox-door.mjs). By AI agents, Wed Nov 11 2026. No macro, syntax, notation, axiom, sorry.
-/
import Derived.Test.YtoghoddofokekaaDoorRows
import GoSem.ClaimSeven
namespace Go.Proofs.YtoghoddofokekaaDoor
namespace Rows

/-- THE TIED CARD OF 'bursarlaw5.CmdRight'. -/
def cmdRightCard : Claim7 := { stood := { row := cmdRightRow, standIns := [], harness := (true, "aa5ba140051948d435988e917922c05d0975744578d563254d246aec689d5ae7"), looks := false }, kinds := [], alts := [], laidByText := true, laidKinds := [.data], laidTests := true, laidLooks := .later }
def CmdRightCardSaid : Prop := Claim7.holds Tryd.pinned (.plain (OpenSpec.ofChange cmdRightSpec)) cmdRightCard

/-- THE TIED CARD OF 'bursarlaw5.CmdEncodes'. -/
def cmdEncodesCard : Claim7 := { stood := { row := cmdEncodesRow, standIns := [], harness := (true, "aa5ba140051948d435988e917922c05d0975744578d563254d246aec689d5ae7"), looks := false }, kinds := [], alts := [], laidByText := true, laidKinds := [.data], laidTests := true, laidLooks := .later }
def CmdEncodesCardSaid : Prop := Claim7.holds Tryd.pinned (.plain (OpenSpec.ofChange cmdEncodesSpec)) cmdEncodesCard

/-- THE TIED CARD OF 'bursarlaw5.CmdSpoilt'. -/
def cmdSpoiltCard : Claim7 := { stood := { row := cmdSpoiltRow, standIns := [], harness := (true, "aa5ba140051948d435988e917922c05d0975744578d563254d246aec689d5ae7"), looks := false }, kinds := [], alts := [], laidByText := true, laidKinds := [.data], laidTests := true, laidLooks := .later }
def CmdSpoiltCardSaid : Prop := Claim7.holds Tryd.pinned (.plain (OpenSpec.ofChange cmdSpoiltSpec)) cmdSpoiltCard

/-- THE TIED CARD OF 'bursarlaw5.CmdBack'. -/
def cmdBackCard : Claim7 := { stood := { row := cmdBackRow, standIns := [], harness := (true, "aa5ba140051948d435988e917922c05d0975744578d563254d246aec689d5ae7"), looks := false }, kinds := [], alts := [], laidByText := true, laidKinds := [.data], laidTests := true, laidLooks := .later }
def CmdBackCardSaid : Prop := Claim7.holds Tryd.pinned (.plain (OpenSpec.ofChange cmdBackSpec)) cmdBackCard

/-- THE SECOND FORM's CARD OF 'bursarlaw5.CmdRight'. -/
def cmdRightUptoCard : Claim7 := { stood := { row := cmdRightUptoRow, standIns := [], harness := (true, "aa5ba140051948d435988e917922c05d0975744578d563254d246aec689d5ae7"), looks := false }, kinds := [], alts := [], laidByText := true, laidKinds := [.data], laidTests := true, laidLooks := .later }
def CmdRightUptoCardSaid : Prop := Claim7.holds Tryd.pinned (.plain (OpenSpec.upto cmdRightSpec)) cmdRightUptoCard

/-- THE SECOND FORM's CARD OF 'bursarlaw5.CmdEncodes'. -/
def cmdEncodesUptoCard : Claim7 := { stood := { row := cmdEncodesUptoRow, standIns := [], harness := (true, "aa5ba140051948d435988e917922c05d0975744578d563254d246aec689d5ae7"), looks := false }, kinds := [], alts := [], laidByText := true, laidKinds := [.data], laidTests := true, laidLooks := .later }
def CmdEncodesUptoCardSaid : Prop := Claim7.holds Tryd.pinned (.plain (OpenSpec.upto cmdEncodesSpec)) cmdEncodesUptoCard

/-- THE SECOND FORM's CARD OF 'bursarlaw5.CmdSpoilt'. -/
def cmdSpoiltUptoCard : Claim7 := { stood := { row := cmdSpoiltUptoRow, standIns := [], harness := (true, "aa5ba140051948d435988e917922c05d0975744578d563254d246aec689d5ae7"), looks := false }, kinds := [], alts := [], laidByText := true, laidKinds := [.data], laidTests := true, laidLooks := .later }
def CmdSpoiltUptoCardSaid : Prop := Claim7.holds Tryd.pinned (.plain (OpenSpec.upto cmdSpoiltSpec)) cmdSpoiltUptoCard

/-- THE SECOND FORM's CARD OF 'bursarlaw5.CmdBack'. -/
def cmdBackUptoCard : Claim7 := { stood := { row := cmdBackUptoRow, standIns := [], harness := (true, "aa5ba140051948d435988e917922c05d0975744578d563254d246aec689d5ae7"), looks := false }, kinds := [], alts := [], laidByText := true, laidKinds := [.data], laidTests := true, laidLooks := .later }
def CmdBackUptoCardSaid : Prop := Claim7.holds Tryd.pinned (.plain (OpenSpec.upto cmdBackSpec)) cmdBackUptoCard
end Rows
end Go.Proofs.YtoghoddofokekaaDoor
