/- Chapter 2, the document's: a power of ten. -/
import Derived.Test.YtdodhmidhcpnnaaN7
set_option linter.unusedVariables false
set_option linter.unusedSimpArgs false
set_option maxRecDepth 100000
namespace Go.Proofs.Ytdodhmidhcpnnaa
open Go.Abs

theorem one_digC : [SV.int .u64 1, .int .u64 0, .int .u64 0, .int .u64 0, .int .u64 0, .int .u64 0, .int .u64 0, .int .u64 0, .int .u64 0, .int .u64 0, .int .u64 0, .int .u64 0, .int .u64 0, .int .u64 0, .int .u64 0, .int .u64 0] = digC 1 := rfl
theorem ten_digC : [SV.int .u64 10, .int .u64 0, .int .u64 0, .int .u64 0, .int .u64 0, .int .u64 0, .int .u64 0, .int .u64 0, .int .u64 0, .int .u64 0, .int .u64 0, .int .u64 0, .int .u64 0, .int .u64 0, .int .u64 0, .int .u64 0] = digC 10 := rfl

theorem rten_loop {h : Heap} {Z : Blk} {n : Nat} (hn : n ≤ 60) : ∀ (m i : Nat) (e : Env), i + m = n → e.get 0 = [.sc (.int .i64 n)] → e.get 2 = [.sc (.ptr h.length 0 16)] → e.get 3 = [.sc (.ptr (h.length + 1) 0 16)] → e.get 4 = [.sc (.ptr (h.length + 2) 0 16)] → e.get 5 = [.sc (.int .i64 i)] →
    loopE F O (.loop [0, 2, 3, 4, 5] M.b80_0) e (h ++ [Z, ⟨.var, digC (10 ^ i)⟩, ⟨.var, digC 10⟩]) = some (.exit 0, [(0, [.sc (.int .i64 n)]), (2, [.sc (.ptr h.length 0 16)]), (3, [.sc (.ptr (h.length + 1) 0 16)]), (4, [.sc (.ptr (h.length + 2) 0 16)]), (5, [.sc (.int .i64 n)]), (10, [.sc (.bool false)])], h ++ [Z, ⟨.var, digC (10 ^ n)⟩, ⟨.var, digC 10⟩])
  | 0, i, e, hi, e0, e2, e3, e4, e5 => by
    have : i = n := by omega
    subst this
    exact exitM fun R RO RD RT E => by simp [M.b80_0, E.eqs, e0, e2, e3, e4, e5]
  | m + 1, i, e, hi, e0, e2, e3, e4, e5 => by
    have c1 : (i : Int) < n := by omega
    have w1 : IntKind.i64.wrap ((i : Int) + 1) = (i : Int) + 1 := wi64 (by omega) (by omega)
    have hl : 10 ^ i < 4294967296 ^ 8 := Nat.lt_of_le_of_lt (Nat.pow_le_pow_right (by decide) (by omega : i ≤ 60)) (by decide)
    have s1 := fun h => spec84 h (A := 10 ^ i) (B := 10) hl (by decide)
    rw [← Nat.pow_succ] at s1
    have ih := rten_loop (h := h) (Z := Z) hn m (i + 1) [(0, [.sc (.int .i64 n)]), (2, [.sc (.ptr h.length 0 16)]), (3, [.sc (.ptr (h.length + 1) 0 16)]), (4, [.sc (.ptr (h.length + 2) 0 16)]), (5, [.sc (.int .i64 ((i + 1 : Nat) : Int))])] (by omega) rfl rfl rfl rfl rfl
    refine stepM (fun R RO RD RT E => ?_) ih
    clear ih hl
    rw [Nat.succ_eq_add_one] at s1
    generalize 10 ^ i = p at *
    generalize 10 ^ (i + 1) = q at *
    simp [M.b80_0, E.eqs, e0, e2, e3, e4, e5, c1, w1, s1, freshB, loadA, storeA]

theorem spec80 (h : Heap) {n : Nat} (hn : n ≤ 60) : call 80 [[.sc (.int .i64 n)]] h = some ([.agg (digC (10 ^ n))], h) := by
  have lo := rten_loop (h := h) (Z := ⟨.var, digC 0⟩) hn n 0 [(0, [.sc (.int .i64 n)]), (2, [.sc (.ptr h.length 0 16)]), (3, [.sc (.ptr (h.length + 1) 0 16)]), (4, [.sc (.ptr (h.length + 2) 0 16)]), (5, [.sc (.int .i64 0)])] (by omega) rfl rfl rfl rfl rfl
  rw [Nat.pow_zero] at lo
  have lo := loop_run lo
  refine callX rfl (by rfl : F 80 = some M.a80) (fun R RO RD RT E => ?_)
  have lo := E.run lo
  generalize 10 ^ n = p at *
  simp [M.a80, E.eqs, freshB, loadA, storeA, one_digC, ten_digC, lo, trim_pure, pureT, pureV]
  try simp [zeros_digC, lo, trim_pure, pureT, pureV]
end Go.Proofs.Ytdodhmidhcpnnaa
