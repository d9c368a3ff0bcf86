/-
  No cell of these rows narrows 'for every input' (looked for: loops, veiled, ifaces, maps, wideKeys, modest, calm, conditions, laid).
  DERIVED. THE GIVEN ROWS OF THIS SEAT. 13 by the template 'for every input the law returns true; each argument reads behind the call as it read before'; 0 by the template 'total and deterministic' (their statements: YtdodhmidhcpnnaaTotals.lean).
  GIVEN WITH THE SEED: the statements are not yours to turn. If you find one false, say at which input.
  Laid BY PROGRAM, IN A SANDBOX (cutbox-rows.mjs): the forced cells as the released guide's own fill.sh prints them over the translation 50daf5d65ad66269… (all of the seat's roots in one cut). By AI agents, Wed Nov 11 2026. No macro, syntax, notation, axiom, sorry.
-/
import Derived.Test.YtdodhmidhcpnnaaChecked
import GoSem.Claim
import GoSem.ClaimJoined
import GoSem.ClaimMapViews
import Derived.JoinedTies
import Derived.KernelRfl
namespace Go.Proofs.Ytdodhmidhcpnnaa
/- THE CELL 'sum', in the pinned program and in every row, IS THE sha256 OF THE DUMP (.gsa) THAT YtdodhmidhcpnnaaProg.lean LOADS. Nothing in Lean hashes anything: it is a label: what it is worth is what the hold of that sum in a sandbox is worth. -/
noncomputable def Try.pinned : Pinned := { name := "ytdodhmidhcpnnaa", sum := "50daf5d65ad662694edd011d6417d9a115397e663520ed474b45122111417fdd", checked := Try.checked }
namespace Rows
def none {H : Type} : Left H := { results := [], args := [] }

/-- 'bursarlaw3.DecMuls': WHATEVER THE INPUT: true; the input reads as it did. -/
def decMulsSpec : ChangeSpec := { name := "decMuls", fn := fun _ => fun
  | [d1, d2, d3, d4] => { results := [.lit (.bool true)], args := [d1, d2, d3, d4] }
  | _ => none }
def decMulsRow : OpenClaim := { program := "ytdodhmidhcpnnaa", sum := "50daf5d65ad662694edd011d6417d9a115397e663520ed474b45122111417fdd", func := "bursar/bursarlaw3.DecMuls", spec := "decMuls", inPlace := ["math/bits.Sub64", "math/bits.Add64"], unfollowed := true, recurses := true, named := ["math/bits.divideError", "math/bits.overflowError"], apart := false }
def DecMulsSaid : Prop := decMulsRow.holds Try.pinned (OpenSpec.ofChange decMulsSpec)

/-- ITS FALSE NEIGHBOUR: 'it returns false'. Refute it at one input. -/
def decMulsWrong : ChangeSpec := { name := "decMuls", fn := fun _ => fun
  | [d1, d2, d3, d4] => { results := [.lit (.bool false)], args := [d1, d2, d3, d4] }
  | _ => none }
def DecMulsWrongFalsely : Prop := decMulsRow.holds Try.pinned (OpenSpec.ofChange decMulsWrong)

/-- 'bursarlaw3.DecRescales': WHATEVER THE INPUT: true; the input reads as it did. -/
def decRescalesSpec : ChangeSpec := { name := "decRescales", fn := fun _ => fun
  | [d1, d2, d3] => { results := [.lit (.bool true)], args := [d1, d2, d3] }
  | _ => none }
def decRescalesRow : OpenClaim := { program := "ytdodhmidhcpnnaa", sum := "50daf5d65ad662694edd011d6417d9a115397e663520ed474b45122111417fdd", func := "bursar/bursarlaw3.DecRescales", spec := "decRescales", inPlace := ["math/bits.Sub64", "math/bits.Add64"], unfollowed := true, recurses := true, named := ["math/bits.divideError", "math/bits.overflowError"], apart := false }
def DecRescalesSaid : Prop := decRescalesRow.holds Try.pinned (OpenSpec.ofChange decRescalesSpec)

/-- ITS FALSE NEIGHBOUR: 'it returns false'. Refute it at one input. -/
def decRescalesWrong : ChangeSpec := { name := "decRescales", fn := fun _ => fun
  | [d1, d2, d3] => { results := [.lit (.bool false)], args := [d1, d2, d3] }
  | _ => none }
def DecRescalesWrongFalsely : Prop := decRescalesRow.holds Try.pinned (OpenSpec.ofChange decRescalesWrong)

/-- 'bursarlaw3.DecAdds': WHATEVER THE INPUT: true; the input reads as it did. -/
def decAddsSpec : ChangeSpec := { name := "decAdds", fn := fun _ => fun
  | [d1, d2, d3] => { results := [.lit (.bool true)], args := [d1, d2, d3] }
  | _ => none }
def decAddsRow : OpenClaim := { program := "ytdodhmidhcpnnaa", sum := "50daf5d65ad662694edd011d6417d9a115397e663520ed474b45122111417fdd", func := "bursar/bursarlaw3.DecAdds", spec := "decAdds", inPlace := ["math/bits.Sub64", "math/bits.Add64"], unfollowed := true, recurses := true, named := ["math/bits.divideError", "math/bits.overflowError"], apart := false }
def DecAddsSaid : Prop := decAddsRow.holds Try.pinned (OpenSpec.ofChange decAddsSpec)

/-- ITS FALSE NEIGHBOUR: 'it returns false'. Refute it at one input. -/
def decAddsWrong : ChangeSpec := { name := "decAdds", fn := fun _ => fun
  | [d1, d2, d3] => { results := [.lit (.bool false)], args := [d1, d2, d3] }
  | _ => none }
def DecAddsWrongFalsely : Prop := decAddsRow.holds Try.pinned (OpenSpec.ofChange decAddsWrong)

/-- 'bursarlaw18.RateKnown': WHATEVER THE INPUT: true; the input reads as it did. -/
def rateKnownSpec : ChangeSpec := { name := "rateKnown", fn := fun _ => fun
  | [] => { results := [.lit (.bool true)], args := [] }
  | _ => none }
def rateKnownRow : OpenClaim := { program := "ytdodhmidhcpnnaa", sum := "50daf5d65ad662694edd011d6417d9a115397e663520ed474b45122111417fdd", func := "bursar/bursarlaw18.RateKnown", spec := "rateKnown", inPlace := ["math/bits.Sub64", "math/bits.Add64"], unfollowed := true, recurses := true, named := ["math/bits.divideError", "math/bits.overflowError"], apart := false }
def RateKnownSaid : Prop := rateKnownRow.holds Try.pinned (OpenSpec.ofChange rateKnownSpec)

/-- ITS FALSE NEIGHBOUR: 'it returns false'. Refute it at one input. -/
def rateKnownWrong : ChangeSpec := { name := "rateKnown", fn := fun _ => fun
  | [] => { results := [.lit (.bool false)], args := [] }
  | _ => none }
def RateKnownWrongFalsely : Prop := rateKnownRow.holds Try.pinned (OpenSpec.ofChange rateKnownWrong)

/-- 'bursarlaw18.RateCross': WHATEVER THE INPUT: true; the input reads as it did. -/
def rateCrossSpec : ChangeSpec := { name := "rateCross", fn := fun _ => fun
  | [d1, d2, d3, d4] => { results := [.lit (.bool true)], args := [d1, d2, d3, d4] }
  | _ => none }
def rateCrossRow : OpenClaim := { program := "ytdodhmidhcpnnaa", sum := "50daf5d65ad662694edd011d6417d9a115397e663520ed474b45122111417fdd", func := "bursar/bursarlaw18.RateCross", spec := "rateCross", inPlace := ["math/bits.Sub64", "math/bits.Add64"], unfollowed := true, recurses := true, named := ["math/bits.divideError", "math/bits.overflowError"], apart := false }
def RateCrossSaid : Prop := rateCrossRow.holds Try.pinned (OpenSpec.ofChange rateCrossSpec)

/-- ITS FALSE NEIGHBOUR: 'it returns false'. Refute it at one input. -/
def rateCrossWrong : ChangeSpec := { name := "rateCross", fn := fun _ => fun
  | [d1, d2, d3, d4] => { results := [.lit (.bool false)], args := [d1, d2, d3, d4] }
  | _ => none }
def RateCrossWrongFalsely : Prop := rateCrossRow.holds Try.pinned (OpenSpec.ofChange rateCrossWrong)

/-- 'bursarlaw3.DecHalf': WHATEVER THE INPUT: true; the input reads as it did. -/
def decHalfSpec : ChangeSpec := { name := "decHalf", fn := fun _ => fun
  | [d1, d2] => { results := [.lit (.bool true)], args := [d1, d2] }
  | _ => none }
def decHalfRow : OpenClaim := { program := "ytdodhmidhcpnnaa", sum := "50daf5d65ad662694edd011d6417d9a115397e663520ed474b45122111417fdd", func := "bursar/bursarlaw3.DecHalf", spec := "decHalf", inPlace := ["math/bits.Sub64", "math/bits.Add64"], unfollowed := true, recurses := true, named := ["math/bits.divideError", "math/bits.overflowError"], apart := false }
def DecHalfSaid : Prop := decHalfRow.holds Try.pinned (OpenSpec.ofChange decHalfSpec)

/-- ITS FALSE NEIGHBOUR: 'it returns false'. Refute it at one input. -/
def decHalfWrong : ChangeSpec := { name := "decHalf", fn := fun _ => fun
  | [d1, d2] => { results := [.lit (.bool false)], args := [d1, d2] }
  | _ => none }
def DecHalfWrongFalsely : Prop := decHalfRow.holds Try.pinned (OpenSpec.ofChange decHalfWrong)

/-- 'bursarlaw18.RateHalf': WHATEVER THE INPUT: true; the input reads as it did. -/
def rateHalfSpec : ChangeSpec := { name := "rateHalf", fn := fun _ => fun
  | [d1, d2, d3, d4, d5] => { results := [.lit (.bool true)], args := [d1, d2, d3, d4, d5] }
  | _ => none }
def rateHalfRow : OpenClaim := { program := "ytdodhmidhcpnnaa", sum := "50daf5d65ad662694edd011d6417d9a115397e663520ed474b45122111417fdd", func := "bursar/bursarlaw18.RateHalf", spec := "rateHalf", inPlace := ["math/bits.Sub64", "math/bits.Add64"], unfollowed := true, recurses := true, named := ["math/bits.divideError", "math/bits.overflowError"], apart := false }
def RateHalfSaid : Prop := rateHalfRow.holds Try.pinned (OpenSpec.ofChange rateHalfSpec)

/-- ITS FALSE NEIGHBOUR: 'it returns false'. Refute it at one input. -/
def rateHalfWrong : ChangeSpec := { name := "rateHalf", fn := fun _ => fun
  | [d1, d2, d3, d4, d5] => { results := [.lit (.bool false)], args := [d1, d2, d3, d4, d5] }
  | _ => none }
def RateHalfWrongFalsely : Prop := rateHalfRow.holds Try.pinned (OpenSpec.ofChange rateHalfWrong)

/-- 'bursarlaw3.DecCmps': WHATEVER THE INPUT: true; the input reads as it did. -/
def decCmpsSpec : ChangeSpec := { name := "decCmps", fn := fun _ => fun
  | [d1, d2, d3] => { results := [.lit (.bool true)], args := [d1, d2, d3] }
  | _ => none }
def decCmpsRow : OpenClaim := { program := "ytdodhmidhcpnnaa", sum := "50daf5d65ad662694edd011d6417d9a115397e663520ed474b45122111417fdd", func := "bursar/bursarlaw3.DecCmps", spec := "decCmps", inPlace := ["math/bits.Sub64", "math/bits.Add64"], unfollowed := true, recurses := true, named := ["math/bits.divideError", "math/bits.overflowError"], apart := false }
def DecCmpsSaid : Prop := decCmpsRow.holds Try.pinned (OpenSpec.ofChange decCmpsSpec)

/-- ITS FALSE NEIGHBOUR: 'it returns false'. Refute it at one input. -/
def decCmpsWrong : ChangeSpec := { name := "decCmps", fn := fun _ => fun
  | [d1, d2, d3] => { results := [.lit (.bool false)], args := [d1, d2, d3] }
  | _ => none }
def DecCmpsWrongFalsely : Prop := decCmpsRow.holds Try.pinned (OpenSpec.ofChange decCmpsWrong)

/-- 'bursarlaw3.DecOrder': WHATEVER THE INPUT: true; the input reads as it did. -/
def decOrderSpec : ChangeSpec := { name := "decOrder", fn := fun _ => fun
  | [d1, d2, d3, d4] => { results := [.lit (.bool true)], args := [d1, d2, d3, d4] }
  | _ => none }
def decOrderRow : OpenClaim := { program := "ytdodhmidhcpnnaa", sum := "50daf5d65ad662694edd011d6417d9a115397e663520ed474b45122111417fdd", func := "bursar/bursarlaw3.DecOrder", spec := "decOrder", inPlace := ["math/bits.Sub64", "math/bits.Add64"], unfollowed := true, recurses := true, named := ["math/bits.divideError", "math/bits.overflowError"], apart := false }
def DecOrderSaid : Prop := decOrderRow.holds Try.pinned (OpenSpec.ofChange decOrderSpec)

/-- ITS FALSE NEIGHBOUR: 'it returns false'. Refute it at one input. -/
def decOrderWrong : ChangeSpec := { name := "decOrder", fn := fun _ => fun
  | [d1, d2, d3, d4] => { results := [.lit (.bool false)], args := [d1, d2, d3, d4] }
  | _ => none }
def DecOrderWrongFalsely : Prop := decOrderRow.holds Try.pinned (OpenSpec.ofChange decOrderWrong)

/-- 'bursarlaw3.DecUndo': WHATEVER THE INPUT: true; the input reads as it did. -/
def decUndoSpec : ChangeSpec := { name := "decUndo", fn := fun _ => fun
  | [d1, d2, d3] => { results := [.lit (.bool true)], args := [d1, d2, d3] }
  | _ => none }
def decUndoRow : OpenClaim := { program := "ytdodhmidhcpnnaa", sum := "50daf5d65ad662694edd011d6417d9a115397e663520ed474b45122111417fdd", func := "bursar/bursarlaw3.DecUndo", spec := "decUndo", inPlace := ["math/bits.Sub64", "math/bits.Add64"], unfollowed := true, recurses := true, named := ["math/bits.divideError", "math/bits.overflowError"], apart := false }
def DecUndoSaid : Prop := decUndoRow.holds Try.pinned (OpenSpec.ofChange decUndoSpec)

/-- ITS FALSE NEIGHBOUR: 'it returns false'. Refute it at one input. -/
def decUndoWrong : ChangeSpec := { name := "decUndo", fn := fun _ => fun
  | [d1, d2, d3] => { results := [.lit (.bool false)], args := [d1, d2, d3] }
  | _ => none }
def DecUndoWrongFalsely : Prop := decUndoRow.holds Try.pinned (OpenSpec.ofChange decUndoWrong)

/-- 'bursarlaw3.DecTexts': WHATEVER THE INPUT: true; the input reads as it did. -/
def decTextsSpec : ChangeSpec := { name := "decTexts", fn := fun _ => fun
  | [d1, d2] => { results := [.lit (.bool true)], args := [d1, d2] }
  | _ => none }
def decTextsRow : OpenClaim := { program := "ytdodhmidhcpnnaa", sum := "50daf5d65ad662694edd011d6417d9a115397e663520ed474b45122111417fdd", func := "bursar/bursarlaw3.DecTexts", spec := "decTexts", inPlace := ["math/bits.Sub64", "math/bits.Add64"], unfollowed := true, recurses := true, named := ["math/bits.divideError", "math/bits.overflowError"], apart := false }
def DecTextsSaid : Prop := decTextsRow.holds Try.pinned (OpenSpec.ofChange decTextsSpec)

/-- ITS FALSE NEIGHBOUR: 'it returns false'. Refute it at one input. -/
def decTextsWrong : ChangeSpec := { name := "decTexts", fn := fun _ => fun
  | [d1, d2] => { results := [.lit (.bool false)], args := [d1, d2] }
  | _ => none }
def DecTextsWrongFalsely : Prop := decTextsRow.holds Try.pinned (OpenSpec.ofChange decTextsWrong)

/-- 'bursarlaw3.DecParses': WHATEVER THE INPUT: true; the input reads as it did. -/
def decParsesSpec : ChangeSpec := { name := "decParses", fn := fun _ => fun
  | [d1, d2, d3, d4] => { results := [.lit (.bool true)], args := [d1, d2, d3, d4] }
  | _ => none }
def decParsesRow : OpenClaim := { program := "ytdodhmidhcpnnaa", sum := "50daf5d65ad662694edd011d6417d9a115397e663520ed474b45122111417fdd", func := "bursar/bursarlaw3.DecParses", spec := "decParses", inPlace := ["math/bits.Add64", "math/bits.Sub64"], unfollowed := true, recurses := true, named := ["math/bits.divideError", "math/bits.overflowError"], apart := false }
def DecParsesSaid : Prop := decParsesRow.holds Try.pinned (OpenSpec.ofChange decParsesSpec)

/-- ITS FALSE NEIGHBOUR: 'it returns false'. Refute it at one input. -/
def decParsesWrong : ChangeSpec := { name := "decParses", fn := fun _ => fun
  | [d1, d2, d3, d4] => { results := [.lit (.bool false)], args := [d1, d2, d3, d4] }
  | _ => none }
def DecParsesWrongFalsely : Prop := decParsesRow.holds Try.pinned (OpenSpec.ofChange decParsesWrong)

/-- 'bursarlaw3.DecKnown': WHATEVER THE INPUT: true; the input reads as it did. -/
def decKnownSpec : ChangeSpec := { name := "decKnown", fn := fun _ => fun
  | [] => { results := [.lit (.bool true)], args := [] }
  | _ => none }
def decKnownRow : OpenClaim := { program := "ytdodhmidhcpnnaa", sum := "50daf5d65ad662694edd011d6417d9a115397e663520ed474b45122111417fdd", func := "bursar/bursarlaw3.DecKnown", spec := "decKnown", inPlace := ["math/bits.Sub64", "math/bits.Add64"], unfollowed := true, recurses := true, named := ["math/bits.divideError", "math/bits.overflowError"], apart := false }
def DecKnownSaid : Prop := decKnownRow.holds Try.pinned (OpenSpec.ofChange decKnownSpec)

/-- ITS FALSE NEIGHBOUR: 'it returns false'. Refute it at one input. -/
def decKnownWrong : ChangeSpec := { name := "decKnown", fn := fun _ => fun
  | [] => { results := [.lit (.bool false)], args := [] }
  | _ => none }
def DecKnownWrongFalsely : Prop := decKnownRow.holds Try.pinned (OpenSpec.ofChange decKnownWrong)

/- THE SECOND FORM. 'bulk': how many values and letters a reading holds, each counted each time it is reached (what is shared counts as often as it is met; a slice's spare places count too). A statement '..UptoSaid' is the law's where the arguments, and the package variables that the reading takes, are together of bulk at most 1048576: NARROWER than '..Said'. Prove '..Said' where nothing that the law and all that it calls make is longer than what came in: it says more and counts as full. Else prove '..UptoSaid'. A law counts once. -/
mutual
def uptoBulk {H : Type} : DataW H → Nat
  | .lit (.string bytes) => bytes.length + 1
  | .lit _ => 1
  | .nil => 1
  | .ptr d => uptoBulk d + 1
  | .slice elems spare => uptoBulkAll elems + uptoBulkAll spare + 1
  | .agg parts => uptoBulkAll parts + 1
  | .iface _ d => uptoBulk d + 1
  | .map entries => uptoBulkEntries entries + 1
  | .held _ => 1
def uptoBulkAll {H : Type} : List (DataW H) → Nat
  | [] => 0
  | d :: r => uptoBulk d + uptoBulkAll r
def uptoBulkEntries {H : Type} : List (Lit × DataW H) → Nat
  | [] => 0
  | x :: r => uptoBulkEntry x + uptoBulkEntries r
def uptoBulkEntry {H : Type} : Lit × DataW H → Nat
  | (.string bytes, d) => bytes.length + uptoBulk d + 1
  | (_, d) => uptoBulk d + 1
 end
def uptoSmall : (H : Type) → List (DataW H) → Bool := fun _ ds => decide (uptoBulkAll ds ≤ 1048576)
def OpenSpec.upto (s : _root_.Go.ChangeSpec) : _root_.Go.OpenSpec := { _root_.Go.OpenSpec.ofChange s with cond := some uptoSmall }

/-- 'bursarlaw3.DecMuls', WHERE WHAT IT READS IS OF BULK AT MOST 1048576: true; the input reads as it did. -/
def decMulsUptoRow : OpenClaim := { program := "ytdodhmidhcpnnaa", sum := "50daf5d65ad662694edd011d6417d9a115397e663520ed474b45122111417fdd", func := "bursar/bursarlaw3.DecMuls", spec := "decMuls", inPlace := ["math/bits.Sub64", "math/bits.Add64"], unfollowed := true, recurses := true, named := ["math/bits.divideError", "math/bits.overflowError"], apart := false, narrowed := true }
def DecMulsUptoSaid : Prop := decMulsUptoRow.holds Try.pinned (OpenSpec.upto decMulsSpec)

/-- 'bursarlaw3.DecRescales', WHERE WHAT IT READS IS OF BULK AT MOST 1048576: true; the input reads as it did. -/
def decRescalesUptoRow : OpenClaim := { program := "ytdodhmidhcpnnaa", sum := "50daf5d65ad662694edd011d6417d9a115397e663520ed474b45122111417fdd", func := "bursar/bursarlaw3.DecRescales", spec := "decRescales", inPlace := ["math/bits.Sub64", "math/bits.Add64"], unfollowed := true, recurses := true, named := ["math/bits.divideError", "math/bits.overflowError"], apart := false, narrowed := true }
def DecRescalesUptoSaid : Prop := decRescalesUptoRow.holds Try.pinned (OpenSpec.upto decRescalesSpec)

/-- 'bursarlaw3.DecAdds', WHERE WHAT IT READS IS OF BULK AT MOST 1048576: true; the input reads as it did. -/
def decAddsUptoRow : OpenClaim := { program := "ytdodhmidhcpnnaa", sum := "50daf5d65ad662694edd011d6417d9a115397e663520ed474b45122111417fdd", func := "bursar/bursarlaw3.DecAdds", spec := "decAdds", inPlace := ["math/bits.Sub64", "math/bits.Add64"], unfollowed := true, recurses := true, named := ["math/bits.divideError", "math/bits.overflowError"], apart := false, narrowed := true }
def DecAddsUptoSaid : Prop := decAddsUptoRow.holds Try.pinned (OpenSpec.upto decAddsSpec)

/-- 'bursarlaw18.RateKnown', WHERE WHAT IT READS IS OF BULK AT MOST 1048576: true; the input reads as it did. -/
def rateKnownUptoRow : OpenClaim := { program := "ytdodhmidhcpnnaa", sum := "50daf5d65ad662694edd011d6417d9a115397e663520ed474b45122111417fdd", func := "bursar/bursarlaw18.RateKnown", spec := "rateKnown", inPlace := ["math/bits.Sub64", "math/bits.Add64"], unfollowed := true, recurses := true, named := ["math/bits.divideError", "math/bits.overflowError"], apart := false, narrowed := true }
def RateKnownUptoSaid : Prop := rateKnownUptoRow.holds Try.pinned (OpenSpec.upto rateKnownSpec)

/-- 'bursarlaw18.RateCross', WHERE WHAT IT READS IS OF BULK AT MOST 1048576: true; the input reads as it did. -/
def rateCrossUptoRow : OpenClaim := { program := "ytdodhmidhcpnnaa", sum := "50daf5d65ad662694edd011d6417d9a115397e663520ed474b45122111417fdd", func := "bursar/bursarlaw18.RateCross", spec := "rateCross", inPlace := ["math/bits.Sub64", "math/bits.Add64"], unfollowed := true, recurses := true, named := ["math/bits.divideError", "math/bits.overflowError"], apart := false, narrowed := true }
def RateCrossUptoSaid : Prop := rateCrossUptoRow.holds Try.pinned (OpenSpec.upto rateCrossSpec)

/-- 'bursarlaw3.DecHalf', WHERE WHAT IT READS IS OF BULK AT MOST 1048576: true; the input reads as it did. -/
def decHalfUptoRow : OpenClaim := { program := "ytdodhmidhcpnnaa", sum := "50daf5d65ad662694edd011d6417d9a115397e663520ed474b45122111417fdd", func := "bursar/bursarlaw3.DecHalf", spec := "decHalf", inPlace := ["math/bits.Sub64", "math/bits.Add64"], unfollowed := true, recurses := true, named := ["math/bits.divideError", "math/bits.overflowError"], apart := false, narrowed := true }
def DecHalfUptoSaid : Prop := decHalfUptoRow.holds Try.pinned (OpenSpec.upto decHalfSpec)

/-- 'bursarlaw18.RateHalf', WHERE WHAT IT READS IS OF BULK AT MOST 1048576: true; the input reads as it did. -/
def rateHalfUptoRow : OpenClaim := { program := "ytdodhmidhcpnnaa", sum := "50daf5d65ad662694edd011d6417d9a115397e663520ed474b45122111417fdd", func := "bursar/bursarlaw18.RateHalf", spec := "rateHalf", inPlace := ["math/bits.Sub64", "math/bits.Add64"], unfollowed := true, recurses := true, named := ["math/bits.divideError", "math/bits.overflowError"], apart := false, narrowed := true }
def RateHalfUptoSaid : Prop := rateHalfUptoRow.holds Try.pinned (OpenSpec.upto rateHalfSpec)

/-- 'bursarlaw3.DecCmps', WHERE WHAT IT READS IS OF BULK AT MOST 1048576: true; the input reads as it did. -/
def decCmpsUptoRow : OpenClaim := { program := "ytdodhmidhcpnnaa", sum := "50daf5d65ad662694edd011d6417d9a115397e663520ed474b45122111417fdd", func := "bursar/bursarlaw3.DecCmps", spec := "decCmps", inPlace := ["math/bits.Sub64", "math/bits.Add64"], unfollowed := true, recurses := true, named := ["math/bits.divideError", "math/bits.overflowError"], apart := false, narrowed := true }
def DecCmpsUptoSaid : Prop := decCmpsUptoRow.holds Try.pinned (OpenSpec.upto decCmpsSpec)

/-- 'bursarlaw3.DecOrder', WHERE WHAT IT READS IS OF BULK AT MOST 1048576: true; the input reads as it did. -/
def decOrderUptoRow : OpenClaim := { program := "ytdodhmidhcpnnaa", sum := "50daf5d65ad662694edd011d6417d9a115397e663520ed474b45122111417fdd", func := "bursar/bursarlaw3.DecOrder", spec := "decOrder", inPlace := ["math/bits.Sub64", "math/bits.Add64"], unfollowed := true, recurses := true, named := ["math/bits.divideError", "math/bits.overflowError"], apart := false, narrowed := true }
def DecOrderUptoSaid : Prop := decOrderUptoRow.holds Try.pinned (OpenSpec.upto decOrderSpec)

/-- 'bursarlaw3.DecUndo', WHERE WHAT IT READS IS OF BULK AT MOST 1048576: true; the input reads as it did. -/
def decUndoUptoRow : OpenClaim := { program := "ytdodhmidhcpnnaa", sum := "50daf5d65ad662694edd011d6417d9a115397e663520ed474b45122111417fdd", func := "bursar/bursarlaw3.DecUndo", spec := "decUndo", inPlace := ["math/bits.Sub64", "math/bits.Add64"], unfollowed := true, recurses := true, named := ["math/bits.divideError", "math/bits.overflowError"], apart := false, narrowed := true }
def DecUndoUptoSaid : Prop := decUndoUptoRow.holds Try.pinned (OpenSpec.upto decUndoSpec)

/-- 'bursarlaw3.DecTexts', WHERE WHAT IT READS IS OF BULK AT MOST 1048576: true; the input reads as it did. -/
def decTextsUptoRow : OpenClaim := { program := "ytdodhmidhcpnnaa", sum := "50daf5d65ad662694edd011d6417d9a115397e663520ed474b45122111417fdd", func := "bursar/bursarlaw3.DecTexts", spec := "decTexts", inPlace := ["math/bits.Sub64", "math/bits.Add64"], unfollowed := true, recurses := true, named := ["math/bits.divideError", "math/bits.overflowError"], apart := false, narrowed := true }
def DecTextsUptoSaid : Prop := decTextsUptoRow.holds Try.pinned (OpenSpec.upto decTextsSpec)

/-- 'bursarlaw3.DecParses', WHERE WHAT IT READS IS OF BULK AT MOST 1048576: true; the input reads as it did. -/
def decParsesUptoRow : OpenClaim := { program := "ytdodhmidhcpnnaa", sum := "50daf5d65ad662694edd011d6417d9a115397e663520ed474b45122111417fdd", func := "bursar/bursarlaw3.DecParses", spec := "decParses", inPlace := ["math/bits.Add64", "math/bits.Sub64"], unfollowed := true, recurses := true, named := ["math/bits.divideError", "math/bits.overflowError"], apart := false, narrowed := true }
def DecParsesUptoSaid : Prop := decParsesUptoRow.holds Try.pinned (OpenSpec.upto decParsesSpec)

/-- 'bursarlaw3.DecKnown', WHERE WHAT IT READS IS OF BULK AT MOST 1048576: true; the input reads as it did. -/
def decKnownUptoRow : OpenClaim := { program := "ytdodhmidhcpnnaa", sum := "50daf5d65ad662694edd011d6417d9a115397e663520ed474b45122111417fdd", func := "bursar/bursarlaw3.DecKnown", spec := "decKnown", inPlace := ["math/bits.Sub64", "math/bits.Add64"], unfollowed := true, recurses := true, named := ["math/bits.divideError", "math/bits.overflowError"], apart := false, narrowed := true }
def DecKnownUptoSaid : Prop := decKnownUptoRow.holds Try.pinned (OpenSpec.upto decKnownSpec)

end Rows
end Go.Proofs.Ytdodhmidhcpnnaa
