/- Chapter 2: a product divided by a number of 64 bits. -/
import Derived.Test.YtdodhmidhcpnnaaNB
set_option linter.unusedVariables false
set_option linter.unusedSimpArgs false
set_option maxRecDepth 100000
namespace Go.Proofs.Ytdodhmidhcpnnaa
open Go.Abs

theorem digit_lt {r a d : Nat} (hr : r < d) (ha : a < 18446744073709551616) : (r * 18446744073709551616 + a) / d < 18446744073709551616 ∧ (r * 18446744073709551616 + a) % d < d ∧ (r * 18446744073709551616 + a) / d * d + (r * 18446744073709551616 + a) % d = r * 18446744073709551616 + a := by
  refine ⟨quot_lt hr ha, Nat.mod_lt _ (by omega), ?_⟩
  rw [Nat.mul_comm]
  exact Nat.div_add_mod _ _

theorem over_arith {V a0 a1 a2 a3 d q0 q1 q2 q3 r0 r1 r2 r3 : Nat} (hV : V = a0 + 18446744073709551616 * (a1 + 18446744073709551616 * (a2 + 18446744073709551616 * a3)))
    (h3 : q3 * d + r3 = 0 * 18446744073709551616 + a3) (h2 : q2 * d + r2 = r3 * 18446744073709551616 + a2) (h1 : q1 * d + r1 = r2 * 18446744073709551616 + a1) (h0 : q0 * d + r0 = r1 * 18446744073709551616 + a0) (hr : r0 < d) :
    V / d = q0 + 18446744073709551616 * (q1 + 18446744073709551616 * (q2 + 18446744073709551616 * q3)) ∧ V % d = r0 := by
  have hd : 0 < d := by omega
  have e : V = r0 + d * (q0 + 18446744073709551616 * (q1 + 18446744073709551616 * (q2 + 18446744073709551616 * q3))) := by grind
  rw [e, Nat.add_mul_div_left _ _ hd, Nat.add_mul_mod_self_left, Nat.div_eq_of_lt hr, Nat.mod_eq_of_lt hr, Nat.zero_add]
  exact ⟨rfl, rfl⟩

theorem spec78 (h : Heap) {V d : Nat} (hV : V < 115792089237316195423570985008687907853269984665640564039457584007913129639936) (hd : 0 < d) (hd64 : d < 18446744073709551616) :
    call 78 [[.agg (l4 V)], [.sc (.int .u64 d)]] h = some ([.agg (l4 (V / d)), .sc (.int .u64 (V % d : Nat))], h) := by
  obtain ⟨a0, a1, a2, a3, h0, h1, h2, h3, hv⟩ := l4_ex hV
  rw [l4_of h0 h1 h2 h3 hv]
  obtain ⟨z3, y3, x3⟩ := digit_lt (r := 0) hd h3
  have s3 := fun h => spec91 h (hi := 0) hd hd64 h3
  generalize (0 * 18446744073709551616 + a3) / d = q3 at *
  generalize (0 * 18446744073709551616 + a3) % d = r3 at *
  obtain ⟨z2, y2, x2⟩ := digit_lt y3 h2
  have s2 := fun h => spec91 h y3 hd64 h2
  generalize (r3 * 18446744073709551616 + a2) / d = q2 at *
  generalize (r3 * 18446744073709551616 + a2) % d = r2 at *
  obtain ⟨z1, y1, x1⟩ := digit_lt y2 h1
  have s1 := fun h => spec91 h y2 hd64 h1
  generalize (r2 * 18446744073709551616 + a1) / d = q1 at *
  generalize (r2 * 18446744073709551616 + a1) % d = r1 at *
  obtain ⟨z0, y0, x0⟩ := digit_lt y1 h0
  have s0 := fun h => spec91 h y1 hd64 h0
  generalize (r1 * 18446744073709551616 + a0) / d = q0 at *
  generalize (r1 * 18446744073709551616 + a0) % d = r0 at *
  obtain ⟨e1, e2⟩ := over_arith hv x3 x2 x1 x0 y0
  rw [l4_of z0 z1 z2 z3 e1, e2]
  clear hv x3 x2 x1 x0 e1 e2 hV
  have v3 : IntKind.i64.wrap 2 = 2 := wi64 (by omega) (by omega)
  have v2 : IntKind.i64.wrap 1 = 1 := wi64 (by omega) (by omega)
  have v1 : IntKind.i64.wrap 0 = 0 := wi64 (by omega) (by omega)
  have v0 : IntKind.i64.wrap (-1) = -1 := wi64 (by omega) (by omega)
  have z : ((0 : Nat) : Int) = 0 := rfl
  rw [z] at s3
  have lo : ∃ e', loopE F O (.loop [1, 2, 4, 6, 7] M.b78_0) [(1, [.sc (.int .u64 d)]), (2, [.sc (.ptr h.length 0 4)]), (4, [.sc (.ptr (h.length + 1) 0 4)]), (6, [.sc (.int .u64 0)]), (7, [.sc (.int .i64 3)])] (h ++ [⟨.var, [.int .u64 a0, .int .u64 a1, .int .u64 a2, .int .u64 a3]⟩, ⟨.var, [.int .u64 0, .int .u64 0, .int .u64 0, .int .u64 0]⟩]) =
      some (.exit 0, e', h ++ [⟨.var, [.int .u64 q0, .int .u64 q1, .int .u64 q2, .int .u64 q3]⟩, ⟨.var, [.int .u64 0, .int .u64 0, .int .u64 0, .int .u64 0]⟩]) ∧ e'.get 2 = [.sc (.ptr h.length 0 4)] ∧ e'.get 4 = [.sc (.ptr (h.length + 1) 0 4)] ∧ e'.get 6 = [.sc (.int .u64 r0)] := by
    refine ⟨[(1, [.sc (.int .u64 d)]), (2, [.sc (.ptr h.length 0 4)]), (4, [.sc (.ptr (h.length + 1) 0 4)]), (6, [.sc (.int .u64 r0)]), (7, [.sc (.int .i64 (-1))]), (9, [.sc (.bool false)])], ?_, rfl, rfl, rfl⟩
    refine stepM (e1 := [(1, [.sc (.int .u64 d)]), (2, [.sc (.ptr h.length 0 4)]), (4, [.sc (.ptr (h.length + 1) 0 4)]), (6, [.sc (.int .u64 r3)]), (7, [.sc (.int .i64 2)])]) (h1 := h ++ [⟨.var, [.int .u64 a0, .int .u64 a1, .int .u64 a2, .int .u64 q3]⟩, ⟨.var, [.int .u64 0, .int .u64 0, .int .u64 0, .int .u64 0]⟩]) (fun R RO RD RT E => by simp [M.b78_0, E.eqs, freshB, loadA, storeA, s3, v3]) ?_
    refine stepM (e1 := [(1, [.sc (.int .u64 d)]), (2, [.sc (.ptr h.length 0 4)]), (4, [.sc (.ptr (h.length + 1) 0 4)]), (6, [.sc (.int .u64 r2)]), (7, [.sc (.int .i64 1)])]) (h1 := h ++ [⟨.var, [.int .u64 a0, .int .u64 a1, .int .u64 q2, .int .u64 q3]⟩, ⟨.var, [.int .u64 0, .int .u64 0, .int .u64 0, .int .u64 0]⟩]) (fun R RO RD RT E => by simp [M.b78_0, E.eqs, freshB, loadA, storeA, s2, v2]) ?_
    refine stepM (e1 := [(1, [.sc (.int .u64 d)]), (2, [.sc (.ptr h.length 0 4)]), (4, [.sc (.ptr (h.length + 1) 0 4)]), (6, [.sc (.int .u64 r1)]), (7, [.sc (.int .i64 0)])]) (h1 := h ++ [⟨.var, [.int .u64 a0, .int .u64 q1, .int .u64 q2, .int .u64 q3]⟩, ⟨.var, [.int .u64 0, .int .u64 0, .int .u64 0, .int .u64 0]⟩]) (fun R RO RD RT E => by simp [M.b78_0, E.eqs, freshB, loadA, storeA, s1, v1]) ?_
    refine stepM (e1 := [(1, [.sc (.int .u64 d)]), (2, [.sc (.ptr h.length 0 4)]), (4, [.sc (.ptr (h.length + 1) 0 4)]), (6, [.sc (.int .u64 r0)]), (7, [.sc (.int .i64 (-1))])]) (h1 := h ++ [⟨.var, [.int .u64 q0, .int .u64 q1, .int .u64 q2, .int .u64 q3]⟩, ⟨.var, [.int .u64 0, .int .u64 0, .int .u64 0, .int .u64 0]⟩]) (fun R RO RD RT E => by simp [M.b78_0, E.eqs, freshB, loadA, storeA, s0, v0]) ?_
    exact exitM fun R RO RD RT E => by simp [M.b78_0, E.eqs]
  obtain ⟨e', lo, g2, g4, g6⟩ := lo
  have lo := loop_run lo
  refine callX rfl (by rfl : F 78 = some M.a78) (fun R RO RD RT E => ?_)
  have lo := E.run lo
  simp [M.a78, E.eqs, freshB, loadA, storeA, lo, g2, g4, g6, trim_pure, pureT, pureV, pureS]
end Go.Proofs.Ytdodhmidhcpnnaa
