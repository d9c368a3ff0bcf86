/- Chapter 2, the document's: quotients and rests. -/
import Derived.Test.YtdodhmidhcpnnaaNG
import Derived.Test.YtdodhmidhcpnnaaNI
set_option linter.unusedVariables false
set_option linter.unusedSimpArgs false
set_option maxRecDepth 100000
namespace Go.Proofs.Ytdodhmidhcpnnaa
open Go.Abs

theorem sg_neg (c : Bool) (N : Nat) : (c && !decide (N = 0)) = decide (sg c N < 0) := by
  unfold sg
  cases c
  · simp
  · by_cases h : N = 0
    · subst h; simp
    · have : -(N : Int) < 0 := by omega
      rw [decide_eq_false h]
      simp only [if_true, Bool.not_false, Bool.and_self]
      rw [decide_eq_true this]
theorem sg_abs (c : Bool) (N : Nat) : N = (sg c N).natAbs := by
  unfold sg
  cases c <;> simp
theorem InB.sg {c : Bool} {N : Nat} (h : N < 4294967296 ^ 15) : InB (sg c N) := by
  unfold InB
  rw [← sg_abs]
  exact h

end Go.Proofs.Ytdodhmidhcpnnaa
