/- Chapter 1: sums of bytes, seals. -/
import Derived.Test.YtokdnndocipilaaS3
import Derived.Test.YtokdnndocipilaaXJ
set_option linter.unusedVariables false
set_option linter.unusedSimpArgs false
set_option maxRecDepth 100000
namespace Go.Proofs.Ytokdnndocipilaa
open Go.Abs

def bitStep (c : Nat) : Nat := if c % 2 = 1 then (c / 2) ^^^ 2197175160 else c / 2
def iter : Nat → Nat → Nat
  | 0, c => c
  | n + 1, c => iter n (bitStep c)
def crc : List UInt8 → Nat → Nat
  | [], c => c
  | x :: l, c => crc l (iter 8 (c ^^^ x.toNat))
def sumB (l : List UInt8) : Nat := 4294967295 ^^^ crc l 4294967295

theorem bitStep_lt {c : Nat} (h : c < 4294967296) : bitStep c < 4294967296 := by
  unfold bitStep
  split
  · exact Nat.xor_lt_two_pow (n := 32) (by omega) (by omega)
  · omega
theorem iter_lt : ∀ (n : Nat) {c : Nat}, c < 4294967296 → iter n c < 4294967296
  | 0, c, h => h
  | n + 1, c, h => iter_lt n (bitStep_lt h)
theorem xor_byte_lt {c : Nat} (h : c < 4294967296) (x : UInt8) : c ^^^ x.toNat < 4294967296 := Nat.xor_lt_two_pow (n := 32) h (by have := x.toNat_lt; omega)
theorem crc_lt : ∀ (l : List UInt8) {c : Nat}, c < 4294967296 → crc l c < 4294967296
  | [], c, h => h
  | x :: l, c, h => crc_lt l (iter_lt 8 (xor_byte_lt h x))
theorem sumB_lt (l : List UInt8) : sumB l < 4294967296 := Nat.xor_lt_two_pow (n := 32) (by omega) (crc_lt l (by omega))

theorem and_one {c : Nat} (h : c < 4294967296) : bitop .and .u32 (c : Int) 1 = ((c % 2 : Nat) : Int) := by
  have := and_u32 (a := c) (b := 1) h (by omega)
  rw [Nat.and_one_is_mod] at this
  exact this
theorem fdiv_two (c : Nat) : (c : Int).fdiv 2 = ((c / 2 : Nat) : Int) := by rw [Int.fdiv_eq_ediv_of_nonneg _ (by omega)]; omega
theorem tdiv_two (c : Nat) : (c : Int).tdiv 2 = ((c / 2 : Nat) : Int) := by rw [Int.tdiv_eq_ediv_of_nonneg (by omega)]; omega

theorem sum_in {v8 v9 v10 : TV} {h : Heap} : ∀ (k i c : Nat) (e : Env), i + k = 8 → c < 4294967296 → e.get 3 = [.sc (.int .u32 c)] → e.get 6 = [.sc (.int .i64 i)] → e.get 8 = v8 → e.get 9 = v9 → e.get 10 = v10 →
    loopE F O (.loop [3, 6, 8, 9, 10] M.b26_1) e h = some (.exit 2, [(3, [.sc (.int .u32 (iter k c))]), (6, [.sc (.int .i64 8)]), (8, v8), (9, v9), (10, v10), (19, [.sc (.bool false)])], h)
  | 0, i, c, e, hi, hc, e3, e6, e8, e9, e10 => by
    have : i = 8 := by omega
    subst this
    exact loop_exit (by simp [M.b26_1, e3, e6, e8, e9, e10, iter])
  | k + 1, i, c, e, hi, hc, e3, e6, e8, e9, e10 => by
    have ih := sum_in (v8 := v8) (v9 := v9) (v10 := v10) (h := h) k (i + 1) (bitStep c) [(3, [.sc (.int .u32 (bitStep c))]), (6, [.sc (.int .i64 ((i + 1 : Nat) : Int))]), (8, v8), (9, v9), (10, v10)] (by omega) (bitStep_lt hc) rfl rfl rfl rfl rfl
    refine loop_step ?_ ih
    have h1 : (i : Int) < 8 := by omega
    have w1 : IntKind.i64.wrap ((i : Int) + 1) = i + 1 := wi64 (by omega) (by omega)
    have a1 := and_one hc
    by_cases ho : c % 2 = 1
    · have x1 := xor_u32 (a := c / 2) (b := 2197175160) (by omega) (by omega)
      rw [ho] at a1
      simp at x1
      simp [M.b26_1, e3, e6, e8, e9, e10, h1, a1, shAmt, IntKind.bits, fdiv_two, w1, x1, bitStep, ho]
    · have hz : c % 2 = 0 := by omega
      rw [hz] at a1
      simp [M.b26_1, e3, e6, e8, e9, e10, h1, a1, shAmt, IntKind.bits, fdiv_two, w1, bitStep, hz]

theorem sum_out {y : SV} {l : List UInt8} {h : Heap} (hy : Row h y 1 l.length (Go.Abs.bytes l)) (hl : l.length ≤ 140737488353280) : ∀ (t : List UInt8) (i c : Nat) (e : Env), l.drop i = t → i ≤ l.length → c < 4294967296 → e.get 3 = [.sc (.int .u32 c)] → e.get 8 = [.sc y] → e.get 9 = [.sc (.int .i64 l.length)] → e.get 10 = [.sc (.int .i64 i)] →
    loopE F O (.loop [3, 8, 9, 10] M.b26_0) e h = some (.exit 0, [(3, [.sc (.int .u32 (crc t c))]), (8, [.sc y]), (9, [.sc (.int .i64 l.length)]), (10, [.sc (.int .i64 l.length)]), (11, [.sc (.bool false)])], h)
  | [], i, c, e, ht, hi, hc, e3, e8, e9, e10 => by
    have : i = l.length := by have := congrArg List.length ht; simp at this; omega
    subst this
    exact loop_exit (by simp [M.b26_0, e3, e8, e9, e10, crc])
  | x :: t, i, c, e, ht, hi, hc, e3, e8, e9, e10 => by
    have hlt : i < l.length := by have := congrArg List.length ht; simp at this; omega
    have hx : l[i]? = some x := by have := congrArg (fun z => z[0]?) ht; simpa using this
    have ht' : l.drop (i + 1) = t := by rw [← List.drop_drop, ht]; rfl
    have ih := sum_out hy hl t (i + 1) (iter 8 (c ^^^ x.toNat)) [(3, [.sc (.int .u32 (iter 8 (c ^^^ x.toNat)))]), (8, [.sc y]), (9, [.sc (.int .i64 l.length)]), (10, [.sc (.int .i64 ((i + 1 : Nat) : Int))])] ht' hlt (iter_lt 8 (xor_byte_lt hc x)) rfl rfl rfl rfl
    refine loop_step ?_ ih
    have h1 : (i : Int) < l.length := by omega
    have w1 : IntKind.i64.wrap ((i : Int) + 1) = i + 1 := wi64 (by omega) (by omega)
    have g1 := ixsA_row hy hlt
    have g2 := loadA_row hy hlt (ag := false) (k := 1) (by omega) (v := .int .u8 x.toNat) (by rw [Nat.mul_one, bytes_get, hx]; rfl) (by omega)
    have b1 := x.toNat_lt
    have w2 : IntKind.u32.wrap (x.toNat : Int) = x.toNat := by rw [wu32']; omega
    have x1 := xor_u32 (a := c) (b := x.toNat) hc (by omega)
    have inn := loop_run (sum_in (v8 := [.sc y]) (v9 := [.sc (.int .i64 l.length)]) (v10 := [.sc (.int .i64 i)]) (h := h) 8 0 (c ^^^ x.toNat) [(3, [.sc (.int .u32 ((c ^^^ x.toNat : Nat) : Int))]), (6, [.sc (.int .i64 0)]), (8, [.sc y]), (9, [.sc (.int .i64 l.length)]), (10, [.sc (.int .i64 i)])] rfl (xor_byte_lt hc x) rfl rfl rfl rfl rfl)
    simp [M.b26_0, e3, e8, e9, e10, h1, g1, g2, w1, w2, x1, inn]

theorem spec26 {h : Heap} {y : SV} {l : List UInt8} (hy : Row h y 1 l.length (Go.Abs.bytes l)) (hl : l.length ≤ 140737488353280) : call 26 [[.sc y]] h = some ([.sc (.int .u32 (sumB l))], h) := by
  have lo := loop_run (sum_out hy hl l 0 4294967295 [(3, [.sc (.int .u32 4294967295)]), (8, [.sc y]), (9, [.sc (.int .i64 l.length)]), (10, [.sc (.int .i64 0)])] rfl (by omega) (by omega) rfl rfl rfl rfl)
  have ln := lenA_row hy
  have x1 := xor_u32 (a := 4294967295) (b := crc l 4294967295) (by omega) (crc_lt l (by omega))
  have := callE_of (F := F) (O := O) (f := 26) (args := [[.sc y]]) (h := h) (x := .ret) (e := [(2, [.sc (.int .u32 (sumB l))])]) (h' := h) rfl (by rfl : F 26 = some M.a26) (by
    simp at x1
    simp [M.a26, ln, lo, IntKind.signed, IntKind.max, IntKind.bits, x1, sumB]) (.inr rfl) rfl
  exact this.trans (by rw [trim_self])

theorem rsum_in {v0 v4 : TV} {h : Heap} : ∀ (k i c : Nat) (e : Env), i + k = 8 → c < 4294967296 → e.get 3 = [.sc (.int .u32 c)] → e.get 5 = [.sc (.int .i64 i)] → e.get 0 = v0 → e.get 4 = v4 →
    loopE F O (.loop [0, 3, 4, 5] M.b27_1) e h = some (.exit 2, [(0, v0), (3, [.sc (.int .u32 (iter k c))]), (4, v4), (5, [.sc (.int .i64 8)]), (21, [.sc (.bool false)])], h)
  | 0, i, c, e, hi, hc, e3, e6, e8, e9 => by
    have : i = 8 := by omega
    subst this
    exact loop_exit (by simp [M.b27_1, e3, e6, e8, e9, iter])
  | k + 1, i, c, e, hi, hc, e3, e6, e8, e9 => by
    have ih := rsum_in (v0 := v0) (v4 := v4) (h := h) k (i + 1) (bitStep c) [(0, v0), (3, [.sc (.int .u32 (bitStep c))]), (4, v4), (5, [.sc (.int .i64 ((i + 1 : Nat) : Int))])] (by omega) (bitStep_lt hc) rfl rfl rfl rfl
    refine loop_step ?_ ih
    have h1 : (i : Int) < 8 := by omega
    have w1 : IntKind.i64.wrap ((i : Int) + 1) = i + 1 := wi64 (by omega) (by omega)
    have w2 : IntKind.u32.wrap ((c : Int) / 2) = ((c / 2 : Nat) : Int) := by rw [wu32']; omega
    have a1 := and_one hc
    by_cases ho : c % 2 = 1
    · have x1 := xor_u32 (a := c / 2) (b := 2197175160) (by omega) (by omega)
      rw [ho] at a1
      simp at x1
      simp [M.b27_1, e3, e6, e8, e9, h1, a1, tdiv_two, w1, w2, x1, bitStep, ho]
    · have hz : c % 2 = 0 := by omega
      rw [hz] at a1
      simp [M.b27_1, e3, e6, e8, e9, h1, a1, tdiv_two, w1, w2, bitStep, hz]

theorem rsum_out {y : SV} {l : List UInt8} {h : Heap} (hy : Row h y 1 l.length (Go.Abs.bytes l)) (hl : l.length ≤ 140737488353280) : ∀ (t : List UInt8) (i c : Nat) (e : Env), l.drop i = t → i ≤ l.length → c < 4294967296 → e.get 0 = [.sc y] → e.get 3 = [.sc (.int .u32 c)] → e.get 4 = [.sc (.int .i64 i)] →
    loopE F O (.loop [0, 3, 4] M.b27_0) e h = some (.exit 0, [(0, [.sc y]), (3, [.sc (.int .u32 (crc t c))]), (4, [.sc (.int .i64 l.length)]), (10, [.sc (.bool false)])], h)
  | [], i, c, e, ht, hi, hc, e0, e3, e4 => by
    have : i = l.length := by have := congrArg List.length ht; simp at this; omega
    subst this
    have ln := lenA_row hy
    exact loop_exit (by simp [M.b27_0, e0, e3, e4, crc, ln])
  | x :: t, i, c, e, ht, hi, hc, e0, e3, e4 => by
    have hlt : i < l.length := by have := congrArg List.length ht; simp at this; omega
    have hx : l[i]? = some x := by have := congrArg (fun z => z[0]?) ht; simpa using this
    have ht' : l.drop (i + 1) = t := by rw [← List.drop_drop, ht]; rfl
    have ih := rsum_out hy hl t (i + 1) (iter 8 (c ^^^ x.toNat)) [(0, [.sc y]), (3, [.sc (.int .u32 (iter 8 (c ^^^ x.toNat)))]), (4, [.sc (.int .i64 ((i + 1 : Nat) : Int))])] ht' hlt (iter_lt 8 (xor_byte_lt hc x)) rfl rfl rfl
    refine loop_step ?_ ih
    have ln := lenA_row hy
    have h1 : (i : Int) < l.length := by omega
    have w1 : IntKind.i64.wrap ((i : Int) + 1) = i + 1 := wi64 (by omega) (by omega)
    have g1 := ixsA_row hy hlt
    have g2 := loadA_row hy hlt (ag := false) (k := 1) (by omega) (v := .int .u8 x.toNat) (by rw [Nat.mul_one, bytes_get, hx]; rfl) (by omega)
    have b1 := x.toNat_lt
    have w2 : IntKind.u32.wrap (x.toNat : Int) = x.toNat := by rw [wu32']; omega
    have x1 := xor_u32 (a := c) (b := x.toNat) hc (by omega)
    have inn := loop_run (rsum_in (v0 := [.sc y]) (v4 := [.sc (.int .i64 i)]) (h := h) 8 0 (c ^^^ x.toNat) [(0, [.sc y]), (3, [.sc (.int .u32 ((c ^^^ x.toNat : Nat) : Int))]), (4, [.sc (.int .i64 i)]), (5, [.sc (.int .i64 0)])] rfl (xor_byte_lt hc x) rfl rfl rfl rfl)
    simp [M.b27_0, e0, e3, e4, ln, h1, g1, g2, w1, w2, x1, inn]

theorem spec27 {h : Heap} {y : SV} {l : List UInt8} (hy : Row h y 1 l.length (Go.Abs.bytes l)) (hl : l.length ≤ 140737488353280) : call 27 [[.sc y]] h = some ([.sc (.int .u32 (sumB l))], h) := by
  have lo := loop_run (rsum_out hy hl l 0 4294967295 [(0, [.sc y]), (3, [.sc (.int .u32 4294967295)]), (4, [.sc (.int .i64 0)])] rfl (by omega) (by omega) rfl rfl rfl)
  have x1 := xor_u32 (a := crc l 4294967295) (b := 4294967295) (crc_lt l (by omega)) (by omega)
  rw [Nat.xor_comm] at x1
  have := callE_of (F := F) (O := O) (f := 27) (args := [[.sc y]]) (h := h) (x := .ret) (e := [(2, [.sc (.int .u32 (sumB l))])]) (h' := h) rfl (by rfl : F 27 = some M.a27) (by
    simp at x1
    simp [M.a27, lo, x1, sumB]) (.inr rfl) rfl
  exact this.trans (by rw [trim_self])
end Go.Proofs.Ytokdnndocipilaa
