/- The closed law CmdKnown: the kernel runs its code in the abstract machine. -/
import Derived.Test.YtoghoddofokekaaFK
import Derived.Test.YtoghoddofokekaaXG
namespace Go.Proofs.Ytoghoddofokekaa.lawCmdKnown
open Go.Abs
set_option maxRecDepth 100000 in
theorem run : saysTrue (callA F noOrc 300 9 [] []) = true := by kernel_rfl
theorem core (W : World) : Calls Try.prog 9 #[] W fun e W' => e = .returned (.bool true) ∧ RowKit.Below W.heap.size W W' := closed_law funsOk noOrc_ok mixed run W
end Go.Proofs.Ytoghoddofokekaa.lawCmdKnown
