/- Chapter 2, the document's: sums, differences, comparisons. -/
import Derived.Test.YtdodhmidhcpnnaaN3
set_option linter.unusedVariables false
set_option linter.unusedSimpArgs false
set_option maxRecDepth 100000
namespace Go.Proofs.Ytdodhmidhcpnnaa
open Go.Abs

theorem InW.big {n : Int} (h : InW n) : InB n := by
  unfold InW at h
  unfold InB
  have : (4294967296 : Nat) ^ 15 = 3121748550315992231381597229793166305748598142664971150859156959625371738819765620120306103063491971159826931121406622895447975679288285306290176 := by decide
  rw [this]
  omega
theorem InW.big2 {a b : Int} (h : InW a) (h' : InW b) : InB (a + b) ∧ InB (a - b) := by
  unfold InW at h h'
  unfold InB
  have : (4294967296 : Nat) ^ 15 = 3121748550315992231381597229793166305748598142664971150859156959625371738819765620120306103063491971159826931121406622895447975679288285306290176 := by decide
  rw [this]
  omega

end Go.Proofs.Ytdodhmidhcpnnaa
