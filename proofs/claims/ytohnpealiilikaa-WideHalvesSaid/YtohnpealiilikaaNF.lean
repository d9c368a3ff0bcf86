/- Chapter 2, the document's Pow. -/
import Derived.Test.YtohnpealiilikaaND
import Derived.Test.YtohnpealiilikaaNE
set_option linter.unusedVariables false
set_option linter.unusedSimpArgs false
set_option maxRecDepth 100000
namespace Go.Proofs.Ytohnpealiilikaa
open Go.Abs

theorem spec24 (h : Heap) (k : Int) : call 24 [[.sc (.int .i64 k)]] h = some ([W (powC k), .sc (.int .i64 (powE k))], h) := by
  unfold powC powE
  refine callX rfl (by rfl : F 24 = some M.a24) (fun R RO RD RT E => ?_)
  by_cases c : 0 ≤ k ∧ k ≤ 38
  · obtain ⟨n, rfl⟩ := Int.eq_ofNat_of_zero_le c.1
    have hn : n ≤ 38 := by omega
    rw [if_pos c, if_pos c]
    have c1 : ¬ (n : Int) < 0 := by omega
    have c2 : ¬ (38 : Int) < n := by omega
    have t : (n : Int).toNat = n := by omega
    rw [t]
    have hin := ten_in hn
    have s1 := fun h => spec55 h (n := n) (by omega)
    have s2 := fun h => spec47 h hin.big
    have h3 : ((10 ^ n : Nat) : Int) = (10 : Int) ^ n := by simp
    have mk := big_mk (n := (10 : Int) ^ n) (b := false) (N := 10 ^ n) (by rw [← h3]; exact (decide_eq_false (Int.not_lt.2 (Int.natCast_nonneg _))).symm) (by rw [← h3]; simp)
    have o1 : okC ((10 : Int) ^ n) = 10 ^ n := by unfold okC; rw [if_pos hin]
    have o2 : okE ((10 : Int) ^ n) = 0 := by unfold okE; rw [if_pos hin]
    clear hin h3
    generalize (10 : Int) ^ n = r at *
    generalize (10 : Nat) ^ n = p at *
    simp [M.a24, E.eqs, c1, c2, s1, mk, s2, o1, o2, freshB, loadA, storeA, trim_pure, pureT, pureV, pureS]
  · rw [if_neg c, if_neg c]
    by_cases c1 : k < 0
    · simp [M.a24, E.eqs, c1, wC_zero, freshB, loadA, storeA, trim_pure, pureT, pureV, pureS]
    · have c2 : 38 < k := by omega
      simp [M.a24, E.eqs, c1, c2, wC_zero, freshB, loadA, storeA, trim_pure, pureT, pureV, pureS]
end Go.Proofs.Ytohnpealiilikaa
