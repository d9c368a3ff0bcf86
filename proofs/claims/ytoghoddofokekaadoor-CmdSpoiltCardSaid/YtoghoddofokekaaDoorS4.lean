/- Chapter 1: sums of bytes, seals. -/
import Derived.Test.YtoghoddofokekaaDoorS3
import Derived.Test.YtoghoddofokekaaDoorXJ
set_option linter.unusedVariables false
set_option linter.unusedSimpArgs false
set_option maxRecDepth 100000
namespace Go.Proofs.YtoghoddofokekaaDoor
open Go.Abs

def bitStep (c : Nat) : Nat := if c % 2 = 1 then (c / 2) ^^^ 2197175160 else c / 2
def iter : Nat → Nat → Nat
  | 0, c => c
  | n + 1, c => iter n (bitStep c)
def crc : List UInt8 → Nat → Nat
  | [], c => c
  | x :: l, c => crc l (iter 8 (c ^^^ x.toNat))
def sumB (l : List UInt8) : Nat := 4294967295 ^^^ crc l 4294967295

theorem bitStep_lt {c : Nat} (h : c < 4294967296) : bitStep c < 4294967296 := by
  unfold bitStep
  split
  · exact Nat.xor_lt_two_pow (n := 32) (by omega) (by omega)
  · omega
theorem iter_lt : ∀ (n : Nat) {c : Nat}, c < 4294967296 → iter n c < 4294967296
  | 0, c, h => h
  | n + 1, c, h => iter_lt n (bitStep_lt h)
theorem xor_byte_lt {c : Nat} (h : c < 4294967296) (x : UInt8) : c ^^^ x.toNat < 4294967296 := Nat.xor_lt_two_pow (n := 32) h (by have := x.toNat_lt; omega)
theorem crc_lt : ∀ (l : List UInt8) {c : Nat}, c < 4294967296 → crc l c < 4294967296
  | [], c, h => h
  | x :: l, c, h => crc_lt l (iter_lt 8 (xor_byte_lt h x))
theorem sumB_lt (l : List UInt8) : sumB l < 4294967296 := Nat.xor_lt_two_pow (n := 32) (by omega) (crc_lt l (by omega))

theorem and_one {c : Nat} (h : c < 4294967296) : bitop .and .u32 (c : Int) 1 = ((c % 2 : Nat) : Int) := by
  have := and_u32 (a := c) (b := 1) h (by omega)
  rw [Nat.and_one_is_mod] at this
  exact this
theorem fdiv_two (c : Nat) : (c : Int).fdiv 2 = ((c / 2 : Nat) : Int) := by rw [Int.fdiv_eq_ediv_of_nonneg _ (by omega)]; omega
theorem tdiv_two (c : Nat) : (c : Int).tdiv 2 = ((c / 2 : Nat) : Int) := by rw [Int.tdiv_eq_ediv_of_nonneg (by omega)]; omega

end Go.Proofs.YtoghoddofokekaaDoor
