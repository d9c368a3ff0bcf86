/- Chapter 2: products of the program. -/
import Derived.Test.YtdodhmidhcpnnaaN1
import Derived.Lib.Mul64
set_option linter.unusedVariables false
set_option linter.unusedSimpArgs false
set_option maxRecDepth 100000
namespace Go.Proofs.Ytdodhmidhcpnnaa
open Go.Abs

theorem and32 {x : Nat} (h : x < 18446744073709551616) : bitop .and .u64 (x : Int) 4294967295 = ((x % 4294967296 : Nat) : Int) := by
  have := and_u64 (a := x) (b := 4294967295) h (by omega)
  rw [show (4294967295 : Nat) = 2 ^ 32 - 1 from rfl, Nat.and_two_pow_sub_one_eq_mod] at this
  exact this
theorem fdiv32 (c : Nat) : (c : Int).fdiv 4294967296 = ((c / 4294967296 : Nat) : Int) := by rw [Int.fdiv_eq_ediv_of_nonneg _ (by omega)]; omega
theorem wn64 {n : Nat} (h : n < 18446744073709551616) : IntKind.u64.wrap (n : Int) = n := wu64 (by omega) (by omega)

theorem spec88 (h : Heap) {x y : Nat} (hx : x < 18446744073709551616) (hy : y < 18446744073709551616) : call 88 [[.sc (.int .u64 x)], [.sc (.int .u64 y)]] h = some ([.sc (.int .u64 ((x * y / 18446744073709551616 : Nat) : Int)), .sc (.int .u64 ((x * y % 18446744073709551616 : Nat) : Int))], h) := by
  obtain ⟨m1, m2, m3, m4⟩ := Go.Lib.mul64_hi x y hx hy
  have w0 : IntKind.u64.wrap ((x : Int) * y) = ((x * y % 18446744073709551616 : Nat) : Int) := by rw [wu64']; simp
  generalize x * y % 18446744073709551616 = lo at *
  have hH : x * y / 18446744073709551616 < 18446744073709551616 := by
    rw [Nat.div_lt_iff_lt_mul (by omega)]
    exact Nat.mul_lt_mul_of_lt_of_lt hx hy
  generalize x * y / 18446744073709551616 = hi at *
  have a1 := and32 hx
  have a2 := and32 hy
  have f1 := fdiv32 x
  have f2 := fdiv32 y
  have q0 := Go.Lib.half_mul_le (a := x / 4294967296) (b := y / 4294967296) (by omega) (by omega)
  have q1 := Go.Lib.half_mul_le (a := x / 4294967296) (b := y % 4294967296) (by omega) (by omega)
  have q2 := Go.Lib.half_mul_le (a := x % 4294967296) (b := y / 4294967296) (by omega) (by omega)
  generalize x % 4294967296 = x0 at *
  generalize x / 4294967296 = x1 at *
  generalize y % 4294967296 = y0 at *
  generalize y / 4294967296 = y1 at *
  have w1 : IntKind.u64.wrap ((x0 : Int) * y0) = ((x0 * y0 : Nat) : Int) := by rw [← Int.natCast_mul]; exact wn64 (by omega)
  have w2 : IntKind.u64.wrap ((x1 : Int) * y0) = ((x1 * y0 : Nat) : Int) := by rw [← Int.natCast_mul]; exact wn64 (by omega)
  have w3 : IntKind.u64.wrap ((x0 : Int) * y1) = ((x0 * y1 : Nat) : Int) := by rw [← Int.natCast_mul]; exact wn64 (by omega)
  have w4 : IntKind.u64.wrap ((x1 : Int) * y1) = ((x1 * y1 : Nat) : Int) := by rw [← Int.natCast_mul]; exact wn64 (by omega)
  generalize x0 * y0 = p00 at *
  generalize x1 * y0 = p10 at *
  generalize x0 * y1 = p01 at *
  generalize x1 * y1 = p11 at *
  have f3 := fdiv32 p00
  generalize p00 / 4294967296 = r0 at *
  have w5 : IntKind.u64.wrap ((p10 : Int) + r0) = ((p10 + r0 : Nat) : Int) := by rw [← Int.natCast_add]; exact wn64 (by omega)
  generalize p10 + r0 = t at *
  have a3 := and32 m2
  have f4 := fdiv32 t
  generalize t % 4294967296 = t0 at *
  generalize t / 4294967296 = t1 at *
  have w6 : IntKind.u64.wrap ((t0 : Int) + p01) = ((t0 + p01 : Nat) : Int) := by rw [← Int.natCast_add]; exact wn64 (by omega)
  generalize t0 + p01 = s at *
  have f5 := fdiv32 s
  generalize s / 4294967296 = s1 at *
  have w7 : IntKind.u64.wrap ((p11 : Int) + t1) = (p11 : Int) + t1 := wu64 (by omega) (by omega)
  have w8 : IntKind.u64.wrap ((p11 : Int) + t1 + s1) = (hi : Int) := by rw [wu64 (by omega) (by omega)]; omega
  refine callX rfl (by rfl : F 88 = some M.a88) (fun R RO RD RT E => ?_)
  simp [M.a88, E.eqs, shAmt, IntKind.bits, a1, a2, a3, f1, f2, f3, f4, f5, w0, w1, w2, w3, w4, w5, w6, w7, w8]

/-- four digits to the base 2^64 -/
def l4 (V : Nat) : List SV := [.int .u64 ((V % 18446744073709551616 : Nat) : Int), .int .u64 ((V / 18446744073709551616 % 18446744073709551616 : Nat) : Int),
  .int .u64 ((V / 18446744073709551616 / 18446744073709551616 % 18446744073709551616 : Nat) : Int), .int .u64 ((V / 18446744073709551616 / 18446744073709551616 / 18446744073709551616 % 18446744073709551616 : Nat) : Int)]
theorem dmod {a r : Nat} (h : a < 18446744073709551616) : (a + 18446744073709551616 * r) % 18446744073709551616 = a ∧ (a + 18446744073709551616 * r) / 18446744073709551616 = r := by omega
theorem l4_of {V a0 a1 a2 a3 : Nat} (h0 : a0 < 18446744073709551616) (h1 : a1 < 18446744073709551616) (h2 : a2 < 18446744073709551616) (h3 : a3 < 18446744073709551616)
    (hV : V = a0 + 18446744073709551616 * (a1 + 18446744073709551616 * (a2 + 18446744073709551616 * a3))) : l4 V = [.int .u64 (a0 : Int), .int .u64 (a1 : Int), .int .u64 (a2 : Int), .int .u64 (a3 : Int)] := by
  subst hV
  unfold l4
  rw [(dmod h0).1, (dmod h0).2, (dmod h1).1, (dmod h1).2, (dmod h2).1, (dmod h2).2, Nat.mod_eq_of_lt h3]
theorem l4_ex {V : Nat} (hV : V < 115792089237316195423570985008687907853269984665640564039457584007913129639936) : ∃ a0 a1 a2 a3 : Nat, a0 < 18446744073709551616 ∧ a1 < 18446744073709551616 ∧ a2 < 18446744073709551616 ∧ a3 < 18446744073709551616 ∧
    V = a0 + 18446744073709551616 * (a1 + 18446744073709551616 * (a2 + 18446744073709551616 * a3)) := by
  refine ⟨V % 18446744073709551616, V / 18446744073709551616 % 18446744073709551616, V / 18446744073709551616 / 18446744073709551616 % 18446744073709551616, V / 18446744073709551616 / 18446744073709551616 / 18446744073709551616, by omega, by omega, by omega, by omega, by omega⟩

theorem cLoN {a b d : Nat} : ((cLo false a b d : Nat)) = (a + b + d) % 18446744073709551616 := cLo_add a b d
theorem cHiN {a b d : Nat} : ((cHi false a b d : Nat)) = (a + b + d) / 18446744073709551616 := cHi_add a b d
/-- a sum with what is carried -/
theorem carryE (a b d : Nat) : a + b + d = cLo false a b d + 18446744073709551616 * cHi false a b d := by
  rw [cLo_add, cHi_add]
  omega
theorem carryL (a b d : Nat) : cLo false a b d < 18446744073709551616 := by rw [cLo_add]; omega
theorem carryH {a b d : Nat} (ha : a < 18446744073709551616) (hb : b < 18446744073709551616) (hd : d ≤ 1) : cHi false a b d ≤ 1 := by rw [cHi_add]; omega

theorem add1 {V T a0 a1 a2 a3 lo hi b1 c1 b2 c2 : Nat} (hV : V = a0 + 18446744073709551616 * (a1 + 18446744073709551616 * (a2 + 18446744073709551616 * a3))) (h1 : a1 + lo + 0 = b1 + 18446744073709551616 * c1) (h2 : a2 + hi + c1 = b2 + 18446744073709551616 * c2)
    (hT : T = V + (hi * 18446744073709551616 + lo) * 18446744073709551616) : T = a0 + 18446744073709551616 * (b1 + 18446744073709551616 * (b2 + 18446744073709551616 * (a3 + c2))) := by omega
theorem add2 {V T a0 a1 a2 a3 lo hi b2 c2 b3 c3 : Nat} (hV : V = a0 + 18446744073709551616 * (a1 + 18446744073709551616 * (a2 + 18446744073709551616 * a3))) (h1 : a2 + lo + 0 = b2 + 18446744073709551616 * c2) (h2 : a3 + hi + c2 = b3 + 18446744073709551616 * c3)
    (hT : T = V + (hi * 18446744073709551616 + lo) * 340282366920938463463374607431768211456) : T = a0 + 18446744073709551616 * (a1 + 18446744073709551616 * (b2 + 18446744073709551616 * (b3 + 18446744073709551616 * c3))) := by omega
theorem top_lt {T a0 b1 b2 b3 : Nat} (hT : T = a0 + 18446744073709551616 * (b1 + 18446744073709551616 * (b2 + 18446744073709551616 * b3))) (h : T < 115792089237316195423570985008687907853269984665640564039457584007913129639936) : b3 < 18446744073709551616 := by omega
theorem carry0 {b3 c3 : Nat} (h : b3 + 18446744073709551616 * c3 < 18446744073709551616) : c3 = 0 := by omega

theorem closure1 {h : Heap} {i V x y : Nat} (hi : h[i]? = some ⟨.var, l4 V⟩) (hx : x < 18446744073709551616) (hy : y < 18446744073709551616) (hV : V < 115792089237316195423570985008687907853269984665640564039457584007913129639936)
    (hT : V + x * y * 18446744073709551616 < 115792089237316195423570985008687907853269984665640564039457584007913129639936) :
    call 89 [[.sc (.int .u64 x)], [.sc (.int .u64 y)], [.sc (.int .i64 1)], [.sc (.ptr i 0 4)]] h = some ([], h.set i ⟨.var, l4 (V + x * y * 18446744073709551616)⟩) := by
  have m := spec88 h hx hy
  have hxy : x * y = x * y / 18446744073709551616 * 18446744073709551616 + x * y % 18446744073709551616 := by omega
  have hlo : x * y % 18446744073709551616 < 18446744073709551616 := Nat.mod_lt _ (by omega)
  have hhi : x * y / 18446744073709551616 < 18446744073709551616 := by
    rw [Nat.div_lt_iff_lt_mul (by omega)]
    exact Nat.mul_lt_mul_of_lt_of_lt hx hy
  generalize hP : x * y = P at *
  generalize P % 18446744073709551616 = lo at *
  generalize P / 18446744073709551616 = u at *
  obtain ⟨a0, a1, a2, a3, v0, v1, v2, v3, hV'⟩ := l4_ex hV
  have e1 := carryE a1 lo 0
  have c1 := carryH v1 hlo (by omega : 0 ≤ 1)
  have e2 := carryE a2 u (cHi false a1 lo 0)
  have c2 := carryH v2 hhi c1
  have k1 := carryL a1 lo 0
  have k2 := carryL a2 u (cHi false a1 lo 0)
  rw [l4_of v0 v1 v2 v3 hV'] at hi
  generalize hb1 : cLo false a1 lo 0 = b1 at *
  generalize hc1 : cHi false a1 lo 0 = d1 at *
  generalize hb2 : cLo false a2 u d1 = b2 at *
  generalize hc2 : cHi false a2 u d1 = d2 at *
  have hE := add1 hV' e1 e2 (T := V + P * 18446744073709551616) (by rw [← hxy])
  have t3 := top_lt hE hT
  have w3 : IntKind.u64.wrap ((a3 : Int) + d2) = ((a3 + d2 : Nat) : Int) := by rw [← Int.natCast_add]; exact wn64 t3
  rw [l4_of v0 k1 k2 t3 hE]
  generalize a3 + d2 = b3 at *
  have w1 : IntKind.i64.wrap 2 = 2 := by rw [wi64']; omega
  have w2 : IntKind.i64.wrap 3 = 3 := by rw [wi64']; omega
  have gs : ∀ B : Blk, (h.set i B)[i]? = some B := fun B => get_set_same hi
  have tl : ∀ B : Blk, trim h (h.set i B) [] = h.set i B := fun B => trim_len (by simp) _
  refine callX rfl (by rfl : F 89 = some M.a89) (fun R RO RD RT E => ?_)
  simp [M.a89, E.eqs, m, freshB, loadA, storeA, hi, gs, hb1, hc1, hb2, hc2, c1, c2, w1, w2, w3, tl]

theorem closure2 {h : Heap} {i V x y : Nat} (hi : h[i]? = some ⟨.var, l4 V⟩) (hx : x < 18446744073709551616) (hy : y < 18446744073709551616) (hV : V < 115792089237316195423570985008687907853269984665640564039457584007913129639936)
    (hT : V + x * y * 340282366920938463463374607431768211456 < 115792089237316195423570985008687907853269984665640564039457584007913129639936) :
    call 89 [[.sc (.int .u64 x)], [.sc (.int .u64 y)], [.sc (.int .i64 2)], [.sc (.ptr i 0 4)]] h = some ([], h.set i ⟨.var, l4 (V + x * y * 340282366920938463463374607431768211456)⟩) := by
  have m := spec88 h hx hy
  have hxy : x * y = x * y / 18446744073709551616 * 18446744073709551616 + x * y % 18446744073709551616 := by omega
  have hlo : x * y % 18446744073709551616 < 18446744073709551616 := Nat.mod_lt _ (by omega)
  have hhi : x * y / 18446744073709551616 < 18446744073709551616 := by
    rw [Nat.div_lt_iff_lt_mul (by omega)]
    exact Nat.mul_lt_mul_of_lt_of_lt hx hy
  generalize hP : x * y = P at *
  generalize P % 18446744073709551616 = lo at *
  generalize P / 18446744073709551616 = u at *
  obtain ⟨a0, a1, a2, a3, v0, v1, v2, v3, hV'⟩ := l4_ex hV
  have e1 := carryE a2 lo 0
  have c1 := carryH v2 hlo (by omega : 0 ≤ 1)
  have e2 := carryE a3 u (cHi false a2 lo 0)
  have c2 := carryH v3 hhi c1
  have k1 := carryL a2 lo 0
  have k2 := carryL a3 u (cHi false a2 lo 0)
  rw [l4_of v0 v1 v2 v3 hV'] at hi
  generalize hb1 : cLo false a2 lo 0 = b2 at *
  generalize hc1 : cHi false a2 lo 0 = d2 at *
  generalize hb2 : cLo false a3 u d2 = b3 at *
  generalize hc2 : cHi false a3 u d2 = d3 at *
  have hE := add2 hV' e1 e2 (T := V + P * 340282366920938463463374607431768211456) (by rw [← hxy])
  have t3 := top_lt hE hT
  have hd3 := carry0 t3
  subst hd3
  rw [Nat.mul_zero, Nat.add_zero] at hE t3
  rw [l4_of v0 v1 k1 t3 hE]
  have w1 : IntKind.i64.wrap 3 = 3 := by rw [wi64']; omega
  have w2 : IntKind.i64.wrap 4 = 4 := by rw [wi64']; omega
  have gs : ∀ B : Blk, (h.set i B)[i]? = some B := fun B => get_set_same hi
  have tl : ∀ B : Blk, trim h (h.set i B) [] = h.set i B := fun B => trim_len (by simp) _
  refine callX rfl (by rfl : F 89 = some M.a89) (fun R RO RD RT E => ?_)
  simp [M.a89, E.eqs, m, freshB, loadA, storeA, hi, gs, hb1, hc1, hb2, hc2, c1, w1, w2, tl]
end Go.Proofs.Ytdodhmidhcpnnaa
