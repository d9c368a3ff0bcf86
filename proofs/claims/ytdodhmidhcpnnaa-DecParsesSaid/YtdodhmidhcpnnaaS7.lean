/- Pick: any number as one of 0 to m - 1. -/
import Derived.Test.YtdodhmidhcpnnaaK0
import Derived.Test.YtdodhmidhcpnnaaXJ
set_option linter.unusedVariables false
set_option linter.unusedSimpArgs false
set_option maxRecDepth 100000
namespace Go.Proofs.Ytdodhmidhcpnnaa
open Go.Abs

theorem spec16 (h : Heap) {n m : Int} (hm : 0 < m) (hm2 : m < 9223372036854775808) (h1 : -9223372036854775808 ≤ n) (h2 : n < 9223372036854775808) :
    call 16 [[.sc (.int .i64 n)], [.sc (.int .i64 m)]] h = some ([.sc (.int .i64 (n % m))], h) := by
  have hz : ¬ m = 0 := by omega
  have := callM (F := F) (O := O) (f := 16) (args := [[.sc (.int .i64 n)], [.sc (.int .i64 m)]]) (h := h) (x := .ret) (e := [(4, [.sc (.int .i64 (n % m))])]) (h' := h) rfl (by rfl : F 16 = some M.a16) (fun R RO RD RT E => by
    have h3 := Int.emod_nonneg n hz
    have h4 := Int.emod_lt_of_pos n hm
    have e1 : n.tmod m = if n < 0 ∧ ¬ n % m = 0 then n % m - m else n % m := by
      rw [Int.tmod_eq_emod]
      have : (m ∣ n) ↔ n % m = 0 := Int.dvd_iff_emod_eq_zero
      simp only [this]
      have hn : (m.natAbs : Int) = m := Int.natAbs_of_nonneg (by omega)
      split <;> split <;> omega
    by_cases hn : n < 0 ∧ ¬ n % m = 0
    · rw [if_pos hn] at e1
      have c1 : n.tmod m < 0 := by omega
      have w1 : IntKind.i64.wrap (n.tmod m + m) = n % m := by rw [wi64 (by omega) (by omega)]; omega
      simp [M.a16, E.eqs, hz, c1, w1]
    · rw [if_neg hn] at e1
      have c1 : ¬ n % m < 0 := by omega
      simp [M.a16, E.eqs, hz, e1, c1]) (.inr rfl) rfl
  exact this.trans (by rw [trim_self])
end Go.Proofs.Ytdodhmidhcpnnaa
