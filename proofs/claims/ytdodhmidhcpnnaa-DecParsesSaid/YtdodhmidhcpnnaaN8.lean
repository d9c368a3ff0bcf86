/- bits.Len64, bits.LeadingZeros64. -/
import Derived.Test.YtdodhmidhcpnnaaN5
set_option linter.unusedVariables false
set_option linter.unusedSimpArgs false
set_option maxRecDepth 100000
namespace Go.Proofs.Ytdodhmidhcpnnaa
open Go.Abs

/-- the lengths of the numbers of eight bits -/
def len8 : List UInt8 := [0, 1, 2, 2, 3, 3, 3, 3, 4, 4, 4, 4, 4, 4, 4, 4, 5, 5, 5, 5, 5, 5, 5, 5, 5, 5, 5, 5, 5, 5, 5, 5, 6, 6, 6, 6, 6, 6, 6, 6, 6, 6, 6, 6, 6, 6, 6, 6, 6, 6, 6, 6, 6, 6, 6, 6, 6, 6, 6, 6, 6, 6, 6, 6, 7, 7, 7, 7, 7, 7, 7, 7, 7, 7, 7, 7, 7, 7, 7, 7, 7, 7, 7, 7, 7, 7, 7, 7, 7, 7, 7, 7, 7, 7, 7, 7, 7, 7, 7, 7, 7, 7, 7, 7, 7, 7, 7, 7, 7, 7, 7, 7, 7, 7, 7, 7, 7, 7, 7, 7, 7, 7, 7, 7, 7, 7, 7, 7, 8, 8, 8, 8, 8, 8, 8, 8, 8, 8, 8, 8, 8, 8, 8, 8, 8, 8, 8, 8, 8, 8, 8, 8, 8, 8, 8, 8, 8, 8, 8, 8, 8, 8, 8, 8, 8, 8, 8, 8, 8, 8, 8, 8, 8, 8, 8, 8, 8, 8, 8, 8, 8, 8, 8, 8, 8, 8, 8, 8, 8, 8, 8, 8, 8, 8, 8, 8, 8, 8, 8, 8, 8, 8, 8, 8, 8, 8, 8, 8, 8, 8, 8, 8, 8, 8, 8, 8, 8, 8, 8, 8, 8, 8, 8, 8, 8, 8, 8, 8, 8, 8, 8, 8, 8, 8, 8, 8, 8, 8, 8, 8, 8, 8, 8, 8, 8, 8, 8, 8, 8, 8, 8, 8, 8, 8, 8, 8]
theorem len8_get : ∀ k : Fin 256, len8[k.val]? = some (len8.getD k.val 0) ∧ (len8.getD k.val 0).toNat ≤ 8 ∧ (k.val = 0 ∨ 1 ≤ (len8.getD k.val 0).toNat ∧ 2 ^ ((len8.getD k.val 0).toNat - 1) ≤ k.val ∧ k.val < 2 ^ (len8.getD k.val 0).toNat) := by decide +kernel
theorem len8_of {k : Nat} (h : k < 256) (h0 : 0 < k) : ∃ t : UInt8, len8[k]? = some t ∧ t.toNat ≤ 8 ∧ 1 ≤ t.toNat ∧ 2 ^ (t.toNat - 1) ≤ k ∧ k < 2 ^ t.toNat := by
  obtain ⟨h1, h2, h3⟩ := len8_get ⟨k, h⟩
  rcases h3 with h3 | ⟨h3, h4, h5⟩
  · exact absurd h3 (by simp; omega)
  · exact ⟨_, h1, h2, h3, h4, h5⟩

def lenF : AFun := ⟨.seq (.reg false [⟨some 2, .mov (.k [.sc (.int .i64 0)]), none, none⟩] [0, 2]) (.seq (.seq (.reg false [⟨some 3, .mov (.s 0), none, none⟩, ⟨some 4, .bin .geq (.s 3) (.k [.sc (.int .u64 4294967296)]), none, none⟩] [0, 2, 4]) (.cond (.s 4) (.seq (.reg false [⟨some 5, .mov (.s 0), none, none⟩, ⟨some 6, .bin .shr (.s 5) (.k [.sc (.int .u64 32)]), none, none⟩, ⟨some 0, .mov (.s 6), none, none⟩] [0]) (.reg false [⟨some 2, .mov (.k [.sc (.int .i64 32)]), none, none⟩] [0, 2])) (.skip))) (.seq (.seq (.reg false [⟨some 7, .mov (.s 0), none, none⟩, ⟨some 8, .bin .geq (.s 7) (.k [.sc (.int .u64 65536)]), none, none⟩] [0, 2, 8]) (.cond (.s 8) (.seq (.reg false [⟨some 9, .mov (.s 0), none, none⟩, ⟨some 10, .bin .shr (.s 9) (.k [.sc (.int .u64 16)]), none, none⟩, ⟨some 0, .mov (.s 10), none, none⟩] [0, 2]) (.reg false [⟨some 11, .mov (.s 2), none, none⟩, ⟨some 12, .bin .add (.s 11) (.k [.sc (.int .i64 16)]), none, none⟩, ⟨some 2, .mov (.s 12), none, none⟩] [0, 2])) (.skip))) (.seq (.seq (.reg false [⟨some 13, .mov (.s 0), none, none⟩, ⟨some 14, .bin .geq (.s 13) (.k [.sc (.int .u64 256)]), none, none⟩] [0, 2, 14]) (.cond (.s 14) (.seq (.reg false [⟨some 15, .mov (.s 0), none, none⟩, ⟨some 16, .bin .shr (.s 15) (.k [.sc (.int .u64 8)]), none, none⟩, ⟨some 0, .mov (.s 16), none, none⟩] [0, 2]) (.reg false [⟨some 17, .mov (.s 2), none, none⟩, ⟨some 18, .bin .add (.s 17) (.k [.sc (.int .i64 8)]), none, none⟩, ⟨some 2, .mov (.s 18), none, none⟩] [0, 2])) (.skip))) (.seq (.reg false [⟨some 19, .mov (.s 2), none, none⟩, ⟨some 20, .mov (.s 0), none, none⟩, ⟨some 21, .conv .u8 (.s 20), none, none⟩, ⟨some 22, .ixstr (.k [.sc (.str len8)]) (.s 21), none, none⟩, ⟨some 23, .conv .i64 (.s 22), none, none⟩, ⟨some 24, .bin .add (.s 19) (.s 23), none, none⟩, ⟨some 2, .mov (.s 24), none, none⟩] [2]) (.ret))))), [.tmp 2]⟩

theorem lenF_eq : F 93 = some lenF := by rfl
attribute [irreducible] len8

theorem fdivP (c k : Nat) : (c : Int).fdiv ((2 : Int) ^ k) = ((c / 2 ^ k : Nat) : Int) := by
  rw [Int.fdiv_eq_ediv_of_nonneg _ (Int.pow_nonneg (by omega))]
  simp

theorem f16 (c : Nat) : (c : Int).fdiv 65536 = ((c / 65536 : Nat) : Int) := fdivP c 16
theorem f8 (c : Nat) : (c : Int).fdiv 256 = ((c / 256 : Nat) : Int) := fdivP c 8
theorem w8 {c : Nat} (h : c < 256) : IntKind.u8.wrap (c : Int) = c := by rw [wu8']; omega
theorem wi {n : Nat} (h : n < 9223372036854775808) : IntKind.i64.wrap (n : Int) = n := wi64 (by omega) (by omega)

theorem div_pos_of {x d : Nat} (hd : 0 < d) (h : d ≤ x) : 0 < x / d := Nat.div_pos h hd

/-- a number of which the digit above the n lowest bits is t long -/
theorem len_join {x n t : Nat} (h1 : 2 ^ (t - 1) ≤ x / 2 ^ n) (h2 : x / 2 ^ n < 2 ^ t) (ht : 1 ≤ t) : 2 ^ (n + t - 1) ≤ x ∧ x < 2 ^ (n + t) := by
  have hp : 0 < 2 ^ n := Nat.pow_pos (by decide)
  constructor
  · have e : n + t - 1 = n + (t - 1) := by omega
    rw [e, Nat.pow_add]
    calc 2 ^ n * 2 ^ (t - 1) ≤ 2 ^ n * (x / 2 ^ n) := Nat.mul_le_mul_left _ h1
      _ ≤ x := Nat.mul_div_le x _
  · rw [Nat.pow_add, Nat.mul_comm]
    exact (Nat.div_lt_iff_lt_mul hp).1 h2

theorem spec93 (h : Heap) {x : Nat} (hx : x < 18446744073709551616) (h0 : 0 < x) : ∃ n : Nat, call 93 [[.sc (.int .u64 x)]] h = some ([.sc (.int .i64 n)], h) ∧ 1 ≤ n ∧ n ≤ 64 ∧ 2 ^ (n - 1) ≤ x ∧ x < 2 ^ n := by
  have f32 := fdiv32
  have f16 := f16
  have f8 := f8
  -- the three cuts
  obtain ⟨n1, x1, hc1, hx1, hp1, hd1⟩ : ∃ n1 x1 : Nat, ((4294967296 ≤ x ∧ n1 = 32 ∧ x1 = x / 4294967296) ∨ (x < 4294967296 ∧ n1 = 0 ∧ x1 = x)) ∧ x1 < 4294967296 ∧ 0 < x1 ∧ x1 = x / 2 ^ n1 := by
    by_cases c : 4294967296 ≤ x
    · exact ⟨32, x / 4294967296, .inl ⟨c, rfl, rfl⟩, by omega, by omega, rfl⟩
    · exact ⟨0, x, .inr ⟨by omega, rfl, rfl⟩, by omega, h0, by simp⟩
  obtain ⟨n2, x2, hc2, hx2, hp2, hd2⟩ : ∃ n2 x2 : Nat, ((65536 ≤ x1 ∧ n2 = n1 + 16 ∧ x2 = x1 / 65536) ∨ (x1 < 65536 ∧ n2 = n1 ∧ x2 = x1)) ∧ x2 < 65536 ∧ 0 < x2 ∧ x2 = x / 2 ^ n2 := by
    by_cases c : 65536 ≤ x1
    · exact ⟨n1 + 16, x1 / 65536, .inl ⟨c, rfl, rfl⟩, by omega, by omega, by rw [hd1, Nat.div_div_eq_div_mul, Nat.pow_add]⟩
    · exact ⟨n1, x1, .inr ⟨by omega, rfl, rfl⟩, by omega, hp1, hd1⟩
  obtain ⟨n3, x3, hc3, hx3, hp3, hd3⟩ : ∃ n3 x3 : Nat, ((256 ≤ x2 ∧ n3 = n2 + 8 ∧ x3 = x2 / 256) ∨ (x2 < 256 ∧ n3 = n2 ∧ x3 = x2)) ∧ x3 < 256 ∧ 0 < x3 ∧ x3 = x / 2 ^ n3 := by
    by_cases c : 256 ≤ x2
    · exact ⟨n2 + 8, x2 / 256, .inl ⟨c, rfl, rfl⟩, by omega, by omega, by rw [hd2, Nat.div_div_eq_div_mul, Nat.pow_add]⟩
    · exact ⟨n2, x2, .inr ⟨by omega, rfl, rfl⟩, by omega, hp2, hd2⟩
  have hn3 : n3 ≤ 56 := by
    rcases hc1 with ⟨_, rfl, _⟩ | ⟨_, rfl, _⟩ <;> rcases hc2 with ⟨_, rfl, _⟩ | ⟨_, rfl, _⟩ <;> rcases hc3 with ⟨_, rfl, _⟩ | ⟨_, rfl, _⟩ <;> omega
  obtain ⟨t, ht, t8, t1, tl, tu⟩ := len8_of hx3 hp3
  rw [hd3] at tl tu
  obtain ⟨j1, j2⟩ := len_join tl tu t1
  refine ⟨n3 + t.toNat, ?_, by omega, by omega, j1, j2⟩
  have wt := w8 hx3
  have wt2 := wi (n := t.toNat) (by omega)
  have wt3 : ∀ m : Int, 0 ≤ m → m ≤ 56 → IntKind.i64.wrap (m + t.toNat) = m + t.toNat := fun m h1 h2 => wi64 (by omega) (by omega)
  have k56 := wt3 56 (by omega) (by omega)
  have k48 := wt3 48 (by omega) (by omega)
  have k40 := wt3 40 (by omega) (by omega)
  have k32 := wt3 32 (by omega) (by omega)
  have k24 := wt3 24 (by omega) (by omega)
  have k16 := wt3 16 (by omega) (by omega)
  have k8 := wt3 8 (by omega) (by omega)
  have v56 : IntKind.i64.wrap 56 = 56 := wi64 (by omega) (by omega)
  have v48 : IntKind.i64.wrap 48 = 48 := wi64 (by omega) (by omega)
  have v40 : IntKind.i64.wrap 40 = 40 := wi64 (by omega) (by omega)
  have v24 : IntKind.i64.wrap 24 = 24 := wi64 (by omega) (by omega)
  have v16 : IntKind.i64.wrap 16 = 16 := wi64 (by omega) (by omega)
  have v8 : IntKind.i64.wrap 8 = 8 := wi64 (by omega) (by omega)
  clear tl tu j1 j2 hd1 hd2 hd3 wt3
  refine callX rfl lenF_eq (fun R RO RD RT E => ?_)
  have g1 : (4294967296 ≤ x ∧ n1 = 32 ∧ (4294967296 : Int) ≤ x ∧ (x : Int).fdiv 4294967296 = x1) ∨ (n1 = 0 ∧ x1 = x ∧ ¬ (4294967296 : Int) ≤ x) := by
    rcases hc1 with ⟨c, h1, h2⟩ | ⟨c, h1, h2⟩
    · exact .inl ⟨c, h1, by omega, by rw [h2]; exact fdiv32 x⟩
    · exact .inr ⟨h1, h2, by omega⟩
  have g2 : (n2 = n1 + 16 ∧ (65536 : Int) ≤ x1 ∧ (x1 : Int).fdiv 65536 = x2) ∨ (n2 = n1 ∧ x2 = x1 ∧ ¬ (65536 : Int) ≤ x1) := by
    rcases hc2 with ⟨c, h1, h2⟩ | ⟨c, h1, h2⟩
    · exact .inl ⟨h1, by omega, by rw [h2]; exact f16 x1⟩
    · exact .inr ⟨h1, h2, by omega⟩
  have g3 : (n3 = n2 + 8 ∧ (256 : Int) ≤ x2 ∧ (x2 : Int).fdiv 256 = x3) ∨ (n3 = n2 ∧ x3 = x2 ∧ ¬ (256 : Int) ≤ x2) := by
    rcases hc3 with ⟨c, h1, h2⟩ | ⟨c, h1, h2⟩
    · exact .inl ⟨h1, by omega, by rw [h2]; exact f8 x2⟩
    · exact .inr ⟨h1, h2, by omega⟩
  clear hc1 hc2 hc3 f32 f16 f8
  rcases g1 with ⟨_, rfl, p1, p2⟩ | ⟨rfl, rfl, p1⟩ <;> rcases g2 with ⟨rfl, p3, p4⟩ | ⟨rfl, rfl, p3⟩ <;> rcases g3 with ⟨rfl, p5, p6⟩ | ⟨rfl, rfl, p5⟩ <;>
    simp [lenF, E.eqs, shAmt, IntKind.bits, p1, p3, p5, *]

theorem lz_range {n x : Nat} (h1 : 1 ≤ n) (h2 : n ≤ 64) (h3 : 2 ^ (n - 1) ≤ x) (h4 : x < 2 ^ n) : 2 ^ 63 ≤ x * 2 ^ (64 - n) ∧ x * 2 ^ (64 - n) < 2 ^ 64 := by
  have hp : 0 < 2 ^ (64 - n) := Nat.pow_pos (by decide)
  have e1 : 2 ^ 63 = 2 ^ (n - 1) * 2 ^ (64 - n) := by rw [← Nat.pow_add]; congr 1; omega
  have e2 : 2 ^ 64 = 2 ^ n * 2 ^ (64 - n) := by rw [← Nat.pow_add]; congr 1; omega
  rw [e1, e2]
  exact ⟨Nat.mul_le_mul_right _ h3, Nat.mul_lt_mul_of_pos_right h4 hp⟩

theorem spec92 (h : Heap) {x : Nat} (hx : x < 18446744073709551616) (h0 : 0 < x) : ∃ k : Nat, call 92 [[.sc (.int .u64 x)]] h = some ([.sc (.int .i64 k)], h) ∧ k ≤ 63 ∧ 2 ^ 63 ≤ x * 2 ^ k ∧ x * 2 ^ k < 2 ^ 64 := by
  obtain ⟨n, e1, h1, h2, h3, h4⟩ := spec93 h hx h0
  obtain ⟨h5, h6⟩ := lz_range h1 h2 h3 h4
  have w : IntKind.i64.wrap (64 - (n : Int)) = ((64 - n : Nat) : Int) := by rw [wi64 (by omega) (by omega)]; omega
  refine ⟨64 - n, ?_, by omega, h5, h6⟩
  generalize 64 - n = k at *
  refine callX rfl (by rfl : F 92 = some M.a92) (fun R RO RD RT E => ?_)
  simp [M.a92, E.eqs, e1, w]
end Go.Proofs.Ytdodhmidhcpnnaa
