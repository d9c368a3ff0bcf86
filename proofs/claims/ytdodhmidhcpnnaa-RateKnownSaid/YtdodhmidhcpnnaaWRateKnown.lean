/- The closed law RateKnown: the kernel runs its code in the abstract machine. -/
import Derived.Test.YtdodhmidhcpnnaaFK
import Derived.Test.YtdodhmidhcpnnaaXG
namespace Go.Proofs.Ytdodhmidhcpnnaa.lawRateKnown
open Go.Abs
set_option maxRecDepth 100000 in
theorem run : saysTrue (callA F noOrc 300 6 [] []) = true := by kernel_rfl
theorem core (W : World) : Calls Try.prog 6 #[] W fun e W' => e = .returned (.bool true) ∧ RowKit.Below W.heap.size W W' := closed_law funsOk noOrc_ok mixed run W
end Go.Proofs.Ytdodhmidhcpnnaa.lawRateKnown
