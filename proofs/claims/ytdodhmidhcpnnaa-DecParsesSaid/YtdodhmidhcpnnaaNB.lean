/- Chapter 2: a power of ten as a number of 64 bits. -/
import Derived.Test.YtdodhmidhcpnnaaNA
set_option linter.unusedVariables false
set_option linter.unusedSimpArgs false
set_option maxRecDepth 100000
namespace Go.Proofs.Ytdodhmidhcpnnaa
open Go.Abs

theorem ten_loop {h : Heap} : ∀ (k n r : Nat) (e : Env), k ≤ 18 → r = n * 10 ^ k → r < 18446744073709551616 → e.get 0 = [.sc (.int .i64 k)] → e.get 3 = [.sc (.int .u64 n)] →
    loopE F O (.loop [0, 3] M.b79_0) e h = some (.exit 0, [(0, [.sc (.int .i64 0)]), (3, [.sc (.int .u64 r)]), (5, [.sc (.bool false)])], h)
  | 0, n, r, e, hk, hn, hr, e0, e3 => by
    have : r = n := by rw [hn, Nat.pow_zero, Nat.mul_one]
    subst this
    exact exitM fun R RO RD RT E => by simp [M.b79_0, E.eqs, e0, e3]
  | k + 1, n, r, e, hk, hn, hr, e0, e3 => by
    have h1 : r = n * 10 * 10 ^ k := by rw [hn, Nat.pow_succ, Nat.mul_assoc, Nat.mul_comm 10]
    have h2 : n * 10 ≤ r := by rw [h1]; exact Nat.le_mul_of_pos_right _ (Nat.pow_pos (by decide))
    obtain ⟨p, hp⟩ : ∃ p, p = n * 10 := ⟨_, rfl⟩
    rw [← hp] at h1 h2
    have w1 : IntKind.u64.wrap ((n : Int) * 10) = (p : Int) := by rw [wu64 (by omega) (by omega)]; omega
    have w2 : IntKind.i64.wrap ((k : Int) + 1 - 1) = (k : Int) := by rw [wi64 (by omega) (by omega)]; omega
    have c1 : (0 : Int) < (k : Int) + 1 := by omega
    have ih := ten_loop (h := h) k p r [(0, [.sc (.int .i64 k)]), (3, [.sc (.int .u64 p)])] (by omega) h1 hr rfl rfl
    refine stepM (fun R RO RD RT E => ?_) ih
    clear ih hn h1
    simp at w2
    simp [M.b79_0, E.eqs, e0, e3, c1, w1, w2]

theorem ten_lt {k : Nat} (hk : k ≤ 18) : 10 ^ k < 18446744073709551616 := Nat.lt_of_le_of_lt (Nat.pow_le_pow_right (by decide) hk) (by decide)

theorem spec79 (h : Heap) {k : Nat} (hk : k ≤ 18) : call 79 [[.sc (.int .i64 k)]] h = some ([.sc (.int .u64 (10 ^ k : Nat))], h) := by
  obtain ⟨r, hr⟩ : ∃ r, r = 10 ^ k := ⟨_, rfl⟩
  have hl := ten_lt hk
  rw [← hr] at hl ⊢
  have lo := loop_run (ten_loop (h := h) k 1 r [(0, [.sc (.int .i64 k)]), (3, [.sc (.int .u64 1)])] hk (by rw [hr, Nat.one_mul]) hl rfl rfl)
  refine callX rfl (by rfl : F 79 = some M.a79) (fun R RO RD RT E => ?_)
  have lo := E.run lo
  simp [M.a79, E.eqs, lo]
end Go.Proofs.Ytdodhmidhcpnnaa
