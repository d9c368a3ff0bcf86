/- The closed law WideKnown: the kernel runs its code in the abstract machine. -/
import Derived.Test.YtohnpealiilikaaFK
import Derived.Test.YtohnpealiilikaaXG
namespace Go.Proofs.Ytohnpealiilikaa.lawWideKnown
open Go.Abs
set_option maxRecDepth 100000 in
theorem run : saysTrue (callA F noOrc 300 13 [] []) = true := by kernel_rfl
theorem core (W : World) : Calls Try.prog 13 #[] W fun e W' => e = .returned (.bool true) ∧ RowKit.Below W.heap.size W W' := closed_law funsOk noOrc_ok mixed run W
end Go.Proofs.Ytohnpealiilikaa.lawWideKnown
