/- The closed law PackKnown: the kernel runs its code in the abstract machine. -/
import Derived.Test.YtokdnndocipilaaFK
import Derived.Test.YtokdnndocipilaaXG
namespace Go.Proofs.Ytokdnndocipilaa.lawPackKnown
open Go.Abs
set_option maxRecDepth 100000 in
theorem run : saysTrue (callA F noOrc 60 11 [] []) = true := by kernel_rfl
theorem core (W : World) : Calls Try.prog 11 #[] W fun e W' => e = .returned (.bool true) ∧ RowKit.Below W.heap.size W W' := closed_law funsOk noOrc_ok mixed run W
end Go.Proofs.Ytokdnndocipilaa.lawPackKnown
