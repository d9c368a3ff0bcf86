/- The examples of the chapters, run once by the kernel: an oracle for 'known'. -/
import Derived.Test.YtohnpealiilikaaFK
import Derived.Test.YtohnpealiilikaaXJ
set_option maxRecDepth 100000
namespace Go.Proofs.Ytohnpealiilikaa
open Go.Abs
theorem known16 : saysTrue (callA F noOrc 300 16 [] []) = true := by kernel_rfl
def O : Orc := orcTab [(16, [.sc (.bool true)])]
theorem orcOk : OrcOk Try.prog O := orcOk_of funsOk mixed fun p hp => by
  have : p = (16, [.sc (.bool true)]) := by simpa using hp
  subst this
  obtain ⟨h', hh⟩ := saysTrue_spec known16
  exact ⟨rfl, 300, h', hh⟩
noncomputable abbrev call : CallA := callE F O
theorem spec16 (h : Heap) : call 16 [] h = some ([.sc (.bool true)], h) := callE_orc rfl
end Go.Proofs.Ytohnpealiilikaa
