/- The examples of the chapters, run once by the kernel: an oracle for 'known'. -/
import Derived.Test.YtdodhmidhcpnnaaFK
import Derived.Test.YtdodhmidhcpnnaaXJ
set_option maxRecDepth 100000
namespace Go.Proofs.Ytdodhmidhcpnnaa
open Go.Abs
theorem known20 : saysTrue (callA F noOrc 300 20 [] []) = true := by kernel_rfl
theorem known33 : saysTrue (callA F noOrc 300 33 [] []) = true := by kernel_rfl
def O : Orc := orcTab [(20, [.sc (.bool true)]), (33, [.sc (.bool true)])]
theorem orcOk : OrcOk Try.prog O := orcOk_of funsOk mixed fun p hp => by
  have : p = (20, [.sc (.bool true)]) ∨ p = (33, [.sc (.bool true)]) := by simpa using hp
  rcases this with rfl | rfl
  · obtain ⟨h', hh⟩ := saysTrue_spec known20
    exact ⟨rfl, 300, h', hh⟩
  · obtain ⟨h', hh⟩ := saysTrue_spec known33
    exact ⟨rfl, 300, h', hh⟩
noncomputable abbrev call : CallA := callE F O
theorem spec20 (h : Heap) : call 20 [] h = some ([.sc (.bool true)], h) := callE_orc rfl
theorem spec33 (h : Heap) : call 33 [] h = some ([.sc (.bool true)], h) := callE_orc rfl
end Go.Proofs.Ytdodhmidhcpnnaa
