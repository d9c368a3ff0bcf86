/- The examples of the chapters, run once by the kernel: an oracle for 'known'. -/
import Derived.Test.YtoghoddofokekaaFK
import Derived.Test.YtoghoddofokekaaXJ
set_option maxRecDepth 100000
namespace Go.Proofs.Ytoghoddofokekaa
open Go.Abs
theorem known19 : saysTrue (callA F noOrc 300 19 [] []) = true := by kernel_rfl
theorem known23 : saysTrue (callA F noOrc 300 23 [] []) = true := by kernel_rfl
def O : Orc := orcTab [(19, [.sc (.bool true)]), (23, [.sc (.bool true)])]
theorem orcOk : OrcOk Try.prog O := orcOk_of funsOk mixed fun p hp => by
  have : p = (19, [.sc (.bool true)]) ∨ p = (23, [.sc (.bool true)]) := by simpa using hp
  rcases this with rfl | rfl
  · obtain ⟨h', hh⟩ := saysTrue_spec known19
    exact ⟨rfl, 300, h', hh⟩
  · obtain ⟨h', hh⟩ := saysTrue_spec known23
    exact ⟨rfl, 300, h', hh⟩
noncomputable abbrev call : CallA := callE F O
theorem spec19 (h : Heap) : call 19 [] h = some ([.sc (.bool true)], h) := callE_orc rfl
theorem spec23 (h : Heap) : call 23 [] h = some ([.sc (.bool true)], h) := callE_orc rfl
end Go.Proofs.Ytoghoddofokekaa
