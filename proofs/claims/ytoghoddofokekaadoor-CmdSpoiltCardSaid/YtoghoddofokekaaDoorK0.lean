/- The examples of the chapters, run once by the kernel: an oracle for 'known'. -/
import Derived.Test.YtoghoddofokekaaDoorFK
import Derived.Test.YtoghoddofokekaaDoorXJ
set_option maxRecDepth 100000
namespace Go.Proofs.YtoghoddofokekaaDoor
open Go.Abs
theorem known8 : saysTrue (callA F noOrc 300 8 [] []) = true := by kernel_rfl
def O : Orc := orcTab [(8, [.sc (.bool true)])]
theorem orcOk : OrcOk Tryd.prog O := orcOk_of funsOk mixed fun p hp => by
  have : p = (8, [.sc (.bool true)]) := by simpa using hp
  rcases this with rfl
  obtain ⟨h', hh⟩ := saysTrue_spec known8
  exact ⟨rfl, 300, h', hh⟩
noncomputable abbrev call : CallA := callE F O
theorem spec8 (h : Heap) : call 8 [] h = some ([.sc (.bool true)], h) := callE_orc rfl
end Go.Proofs.YtoghoddofokekaaDoor
