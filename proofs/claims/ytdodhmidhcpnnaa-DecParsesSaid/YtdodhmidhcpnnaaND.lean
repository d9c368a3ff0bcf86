/- Chapter 2: a power of ten. -/
import Derived.Test.YtdodhmidhcpnnaaNB
import Derived.Test.YtdodhmidhcpnnaaN6
set_option linter.unusedVariables false
set_option linter.unusedSimpArgs false
set_option maxRecDepth 100000
namespace Go.Proofs.Ytdodhmidhcpnnaa
open Go.Abs

theorem W_ten : AV.agg [.int .i64 0, .int .u64 10] = W 10 := rfl
theorem wC_one : [SV.int .i64 0, .int .u64 1] = wC 1 := rfl
theorem inW_ten : InW 10 := by unfold InW; omega

theorem pow_loop {h : Heap} {Z : Blk} : ∀ (k : Nat) (n r : Int) (e : Env), k ≤ 38 → r = n * 10 ^ k → 0 < n → InW r → e.get 0 = [.sc (.int .i64 k)] → e.get 2 = [.sc (.ptr h.length 0 2)] → e.get 4 = [.sc (.ptr (h.length + 1) 0 2)] →
    loopE F O (.loop [0, 2, 4] M.b38_0) e (h ++ [Z, ⟨.var, wC n⟩]) = some (.exit 0, [(0, [.sc (.int .i64 0)]), (2, [.sc (.ptr h.length 0 2)]), (4, [.sc (.ptr (h.length + 1) 0 2)]), (14, [.sc (.bool false)])], h ++ [Z, ⟨.var, wC r⟩])
  | 0, n, r, e, hk, hn, h0, hr, e0, e2, e4 => by
    have : r = n := by rw [hn, Int.pow_zero, Int.mul_one]
    subst this
    exact exitM fun R RO RD RT E => by simp [M.b38_0, E.eqs, e0, e2, e4]
  | k + 1, n, r, e, hk, hn, h0, hr, e0, e2, e4 => by
    have h1 : r = n * 10 * 10 ^ k := by rw [hn, Int.pow_succ, Int.mul_assoc, Int.mul_comm 10]
    have hp : (0 : Int) < 10 ^ k := Int.pow_pos (by omega)
    have h2 : n * 10 ≤ r := by
      have := Int.mul_le_mul_of_nonneg_left (show (1 : Int) ≤ 10 ^ k by omega) (show 0 ≤ n * 10 by omega)
      rw [h1]
      omega
    have h3 : n ≤ n * 10 := by omega
    have hin : InW n := by unfold InW at hr ⊢; omega
    have hin2 : InW (n * 10) := by unfold InW at hr ⊢; omega
    have o1 : okC (n * 10) = n * 10 := by unfold okC; rw [if_pos hin2]
    have s1 := fun h => spec39 h hin inW_ten
    have w2 : IntKind.i64.wrap (k : Int) = (k : Int) := wi64 (by omega) (by omega)
    have c1 : (0 : Int) < (k : Int) + 1 := by omega
    have ih := pow_loop (h := h) (Z := Z) k (n * 10) r [(0, [.sc (.int .i64 k)]), (2, [.sc (.ptr h.length 0 2)]), (4, [.sc (.ptr (h.length + 1) 0 2)])] (by omega) h1 (by omega) hr rfl rfl rfl
    refine stepM (fun R RO RD RT E => ?_) ih
    clear ih hn h1 h2 h3 hr hin hin2 hp
    generalize n * 10 = p at *
    simp [M.b38_0, E.eqs, e0, e2, e4, c1, w2, W_ten, s1, o1, freshB, loadA, storeA]

theorem ten_in {k : Nat} (hk : k ≤ 38) : InW (10 ^ k) := by
  have h1 : (10 : Nat) ^ k ≤ 10 ^ 38 := Nat.pow_le_pow_right (by decide) hk
  have h2 : (10 : Nat) ^ 38 = 100000000000000000000000000000000000000 := by decide
  rw [h2] at h1
  have h3 : ((10 ^ k : Nat) : Int) = (10 : Int) ^ k := by simp
  have h4 : ∀ p : Nat, p ≤ 100000000000000000000000000000000000000 → InW (p : Int) := fun p hp => by unfold InW; omega
  rw [← h3]
  exact h4 _ h1

/-- what a power of ten is, or not -/
def powC (k : Int) : Int := if 0 ≤ k ∧ k ≤ 38 then 10 ^ k.toNat else 0
def powE (k : Int) : Int := if 0 ≤ k ∧ k ≤ 38 then 0 else 1

theorem spec38 (h : Heap) (k : Int) : call 38 [[.sc (.int .i64 k)]] h = some ([W (powC k), .sc (.int .i64 (powE k))], h) := by
  unfold powC powE
  refine callX rfl (by rfl : F 38 = some M.a38) (fun R RO RD RT E => ?_)
  by_cases c : 0 ≤ k ∧ k ≤ 38
  · obtain ⟨n, rfl⟩ := Int.eq_ofNat_of_zero_le c.1
    have hn : n ≤ 38 := by omega
    rw [if_pos c, if_pos c]
    have lo := loop_run (pow_loop (h := h) (Z := ⟨.var, [.int .i64 0, .int .u64 0]⟩) n 1 (10 ^ n) [(0, [.sc (.int .i64 n)]), (2, [.sc (.ptr h.length 0 2)]), (4, [.sc (.ptr (h.length + 1) 0 2)])] hn (by rw [Int.one_mul]) (by omega) (ten_in hn) rfl rfl rfl)
    have lo := E.run lo
    have c1 : ¬ (n : Int) < 0 := by omega
    have c2 : ¬ (38 : Int) < n := by omega
    have t : (n : Int).toNat = n := by omega
    rw [t]
    generalize (10 : Int) ^ n = r at *
    simp [M.a38, E.eqs, c1, c2, wC_one, lo, freshB, loadA, storeA, trim_pure, pureT, pureV, pureS]
  · rw [if_neg c, if_neg c]
    by_cases c1 : k < 0
    · simp [M.a38, E.eqs, c1, wC_zero, freshB, loadA, storeA, trim_pure, pureT, pureV, pureS]
    · have c2 : 38 < k := by omega
      simp [M.a38, E.eqs, c1, c2, wC_zero, freshB, loadA, storeA, trim_pure, pureT, pureV, pureS]
end Go.Proofs.Ytdodhmidhcpnnaa
