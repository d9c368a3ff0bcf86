/- Several chapters in one text. -/
import Derived.Test.YtdodhmidhcpnnaaN7
import Derived.Test.YtdodhmidhcpnnaaNA
import Derived.Test.YtdodhmidhcpnnaaN6
import Derived.Test.YtdodhmidhcpnnaaNC
import Derived.Test.YtdodhmidhcpnnaaND
import Derived.Test.YtdodhmidhcpnnaaNE
section
set_option linter.unusedVariables false
set_option linter.unusedSimpArgs false
set_option maxRecDepth 100000
namespace Go.Proofs.Ytdodhmidhcpnnaa
open Go.Abs

/-- one bit of a quotient -/
theorem bit_step {X b t : Nat} (hb : 0 < b) (ht : t ≤ 1) : (b ≤ X % b + X % b + t → (2 * X + t) / b = 2 * (X / b) + 1 ∧ (2 * X + t) % b = X % b + X % b + t - b) ∧ (¬ b ≤ X % b + X % b + t → (2 * X + t) / b = 2 * (X / b) ∧ (2 * X + t) % b = X % b + X % b + t) := by
  have h1 := Nat.div_add_mod X b
  have h2 := Nat.mod_lt X hb
  generalize X / b = q at *
  generalize X % b = r at *
  constructor
  · intro h
    have e : 2 * X + t = (r + r + t - b) + b * (2 * q + 1) := by
      rw [Nat.mul_add, Nat.mul_one, Nat.mul_left_comm]
      omega
    rw [e, Nat.add_mul_div_left _ _ hb, Nat.add_mul_mod_self_left, Nat.div_eq_of_lt (by omega), Nat.mod_eq_of_lt (by omega)]
    omega
  · intro h
    have e : 2 * X + t = (r + r + t) + b * (2 * q) := by
      rw [Nat.mul_left_comm]
      omega
    rw [e, Nat.add_mul_div_left _ _ hb, Nat.add_mul_mod_self_left, Nat.div_eq_of_lt (by omega), Nat.mod_eq_of_lt (by omega)]
    omega

theorem bit_of (a i : Nat) : a / 2 ^ i = 2 * (a / 2 ^ (i + 1)) + a / 2 ^ i % 2 := by
  rw [Nat.pow_succ, ← Nat.div_div_eq_div_mul]
  omega

theorem base_pow (j : Nat) : (4294967296 : Nat) ^ j = 2 ^ (32 * j) := by
  rw [Nat.pow_mul]
theorem base_le {j K : Nat} (h : 32 * j ≤ K) : (4294967296 : Nat) ^ j ≤ 2 ^ K := by
  rw [base_pow]
  exact Nat.pow_le_pow_right (by decide) h
/-- a bit of a digit is a bit of the number -/
theorem bit_at (a n : Nat) : a / 4294967296 ^ (n / 32) % 4294967296 / 2 ^ (n % 32) % 2 = a / 2 ^ n % 2 := by
  have hs : n % 32 < 32 := Nat.mod_lt _ (by decide)
  have hn : n = 32 * (n / 32) + n % 32 := (Nat.div_add_mod n 32).symm
  rw [base_pow]
  generalize n / 32 = j at *
  generalize n % 32 = s at *
  subst hn
  rw [Nat.pow_add, ← Nat.div_div_eq_div_mul]
  generalize a / 2 ^ (32 * j) = X
  have e : 4294967296 = 2 ^ s * (2 * 2 ^ (31 - s)) := by
    have : 2 * 2 ^ (31 - s) = 2 ^ (32 - s) := by rw [Nat.mul_comm, ← Nat.pow_succ]; congr 1; omega
    rw [this, ← Nat.pow_add]
    have : s + (32 - s) = 32 := by omega
    rw [this]
  rw [e, Nat.mod_mul_right_div_self, Nat.mod_mul_right_mod]

/-- a bit is put where a quotient has none yet -/
theorem bit_room (m n : Nat) : m * 2 ^ (n + 1) / 4294967296 ^ (n / 32) % 4294967296 + 2 ^ (n % 32) < 4294967296 ∧ 4294967296 ^ (n / 32) * 2 ^ (n % 32) = 2 ^ n := by
  have hs : n % 32 < 32 := Nat.mod_lt _ (by decide)
  have hn : n = 32 * (n / 32) + n % 32 := (Nat.div_add_mod n 32).symm
  rw [base_pow]
  generalize n / 32 = j at *
  generalize n % 32 = s at *
  subst hn
  constructor
  · have e1 : m * 2 ^ (32 * j + s + 1) = m * 2 ^ (s + 1) * 2 ^ (32 * j) := by rw [Nat.mul_assoc, ← Nat.pow_add]; congr 2; omega
    have e2 : (4294967296 : Nat) = 2 ^ (31 - s) * 2 ^ (s + 1) := by
      rw [← Nat.pow_add]
      have : 31 - s + (s + 1) = 32 := by omega
      rw [this]
    rw [e1, Nat.mul_div_cancel _ (Nat.pow_pos (by decide))]
    have e3 : m * 2 ^ (s + 1) % 4294967296 = m % 2 ^ (31 - s) * 2 ^ (s + 1) := by
      conv => lhs; rw [e2]
      rw [Nat.mul_mod_mul_right]
    have h1 : m % 2 ^ (31 - s) + 1 ≤ 2 ^ (31 - s) := Nat.mod_lt _ (Nat.pow_pos (by decide))
    have h2 : (m % 2 ^ (31 - s) + 1) * 2 ^ (s + 1) ≤ 4294967296 := by
      conv => rhs; rw [e2]
      exact Nat.mul_le_mul_right _ h1
    rw [e3]
    rw [Nat.add_mul, Nat.one_mul, Nat.pow_succ 2 s] at h2
    rw [Nat.pow_succ 2 s]
    have := Nat.pow_pos (n := s) (show 0 < 2 by decide)
    omega
  · rw [← Nat.pow_add]

theorem digit0_put {R t : Nat} (hR : R % 2 = 0) (ht : t ≤ 1) : (digC R).set 0 (.int .u64 ((R % 4294967296 + t : Nat) : Int)) = digC (R + t) :=
  digC_put (by decide) (by omega) (by rw [Nat.pow_zero, Nat.div_one, Nat.one_mul, Nat.one_mul]; omega)

theorem rem2 (x : Nat) : (x : Int).tmod 2 = ((x % 2 : Nat) : Int) := by rw [Int.tmod_eq_emod_of_nonneg (by omega)]; omega
theorem quo32 (x : Nat) : (x : Int).tdiv 32 = ((x / 32 : Nat) : Int) := by rw [Int.tdiv_eq_ediv_of_nonneg (by omega)]; omega
theorem rem32 (x : Nat) : (x : Int).tmod 32 = ((x % 32 : Nat) : Int) := by rw [Int.tmod_eq_emod_of_nonneg (by omega)]; omega

theorem rdiv_loop {h : Heap} {a b : Nat} (hb : 0 < b) (hbl : b < 4294967296 ^ 15) : ∀ (n : Nat) (e : Env), n ≤ 512 →
    e.get 2 = [.sc (.ptr h.length 0 16)] → e.get 3 = [.sc (.ptr (h.length + 1) 0 16)] → e.get 4 = [.sc (.ptr (h.length + 2) 0 16)] → e.get 5 = [.sc (.ptr (h.length + 3) 0 16)] → e.get 6 = [.sc (.int .i64 ((n : Int) - 1))] →
    loopE F O (.loop [2, 3, 4, 5, 6] M.b81_0) e (h ++ [⟨.var, digC a⟩, ⟨.var, digC b⟩, ⟨.var, digC (a / 2 ^ n / b * 2 ^ n)⟩, ⟨.var, digC (a / 2 ^ n % b)⟩]) =
      some (.exit 0, [(2, [.sc (.ptr h.length 0 16)]), (3, [.sc (.ptr (h.length + 1) 0 16)]), (4, [.sc (.ptr (h.length + 2) 0 16)]), (5, [.sc (.ptr (h.length + 3) 0 16)]), (6, [.sc (.int .i64 (-1))]), (8, [.sc (.bool false)])],
        h ++ [⟨.var, digC a⟩, ⟨.var, digC b⟩, ⟨.var, digC (a / b)⟩, ⟨.var, digC (a % b)⟩])
  | 0, e, hn, e2, e3, e4, e5, e6 => by
    rw [Nat.pow_zero, Nat.div_one, Nat.mul_one]
    exact exitM fun R RO RD RT E => by simp [M.b81_0, E.eqs, e2, e3, e4, e5, e6]
  | n + 1, e, hn, e2, e3, e4, e5, e6 => by
    have ih := rdiv_loop (h := h) (a := a) hb hbl n [(2, [.sc (.ptr h.length 0 16)]), (3, [.sc (.ptr (h.length + 1) 0 16)]), (4, [.sc (.ptr (h.length + 2) 0 16)]), (5, [.sc (.ptr (h.length + 3) 0 16)]), (6, [.sc (.int .i64 ((n : Int) - 1))])] (by omega) rfl rfl rfl rfl rfl
    have e6' : e.get 6 = [.sc (.int .i64 (n : Int))] := by rw [e6]; congr 3; omega
    have hn32 : n / 32 < 16 := by omega
    have hj : n / 32 + 1 ≤ 16 := hn32
    obtain ⟨t, ht⟩ : ∃ t, t = a / 2 ^ n % 2 := ⟨_, rfl⟩
    have ht1 : t ≤ 1 := by omega
    have bo := bit_of a n
    rw [← ht] at bo
    have ga := digC_get (N := a) hn32
    have ba := bit_at a n
    rw [← ht] at ba
    obtain ⟨br, br2⟩ := bit_room (a / 2 ^ (n + 1) / b) n
    obtain ⟨p, hp⟩ : ∃ p, p = 2 ^ (n % 32) := ⟨_, rfl⟩
    rw [← hp] at br br2
    obtain ⟨bs1, bs2⟩ := bit_step (X := a / 2 ^ (n + 1)) (b := b) (t := t) hb ht1
    rw [← bo] at bs1 bs2
    have rl : a / 2 ^ (n + 1) % b < b := Nat.mod_lt _ hb
    obtain ⟨x, hx⟩ : ∃ x, x = a / 4294967296 ^ (n / 32) % 4294967296 := ⟨_, rfl⟩
    rw [← hx] at ga ba
    have pc : (2 : Int) ^ (n % 32) = (p : Int) := by rw [hp]; simp
    have sh : (x : Int).fdiv (2 ^ (n % 32)) = ((x / p : Nat) : Int) := by
      rw [pc, Int.fdiv_eq_ediv_of_nonneg _ (by omega), Int.natCast_ediv]
    have rm := rem2 (x / p)
    rw [← hp] at ba
    rw [ba] at rm
    have q32 := quo32 n
    have r32 := rem32 n
    have pn : a / 2 ^ (n + 1) / b * 2 ^ (n + 1) = 2 * (a / 2 ^ (n + 1) / b) * 2 ^ n := by rw [Nat.pow_succ, Nat.mul_comm (2 ^ n) 2, ← Nat.mul_assoc, Nat.mul_comm _ 2]
    have sk : shAmt .u64 ((n % 32 : Nat) : Int) = n % 32 := by simp only [shAmt, IntKind.bits]; omega
    have s32 : n % 32 < 32 := Nat.mod_lt _ (by decide)
    obtain ⟨r, hr⟩ : ∃ r, r = a / 2 ^ (n + 1) % b := ⟨_, rfl⟩
    obtain ⟨q, hq⟩ : ∃ q, q = a / 2 ^ (n + 1) / b * 2 ^ (n + 1) := ⟨_, rfl⟩
    rw [← hr] at bs1 bs2 rl
    have gq := digC_get (N := q) hn32
    rw [← hq] at br
    obtain ⟨d, hd⟩ : ∃ d, d = q / 4294967296 ^ (n / 32) % 4294967296 := ⟨_, rfl⟩
    rw [← hd] at gq br
    have s1 := fun h => spec83 h r r
    have g0 := digC_get (N := r + r) (i := 0) (by decide)
    rw [Nat.pow_zero, Nat.div_one] at g0
    have dp := digit0_put (R := r + r) (t := t) (by omega) ht1
    obtain ⟨z, hz⟩ : ∃ z, z = (r + r) % 4294967296 := ⟨_, rfl⟩
    rw [← hz] at g0 dp
    have g0' : ∀ hh, (digC (r + r))[0]'hh = .int .u64 (z : Int) := fun hh => get_of g0 hh
    have w1 : IntKind.u64.wrap ((z : Int) + t) = ((z + t : Nat) : Int) := by rw [wu64 (by omega) (by omega)]; omega
    have w2 : IntKind.u64.wrap (n : Int) = n := wu64n (by omega)
    have w3 : IntKind.i64.wrap ((n / 32 : Nat) : Int) = ((n / 32 : Nat) : Int) := wi64 (by omega) (by omega)
    have w4 : IntKind.i64.wrap ((n : Int) - 1) = (n : Int) - 1 := wi64 (by omega) (by omega)
    have w5 : IntKind.u64.wrap ((2 : Int) ^ (n % 32)) = (p : Int) := by rw [pc]; exact wu64n (by omega)
    have w6 : IntKind.u64.wrap ((d : Int) + p) = ((d + p : Nat) : Int) := by rw [wu64 (by omega) (by omega)]; omega
    have w7 : IntKind.u64.wrap ((n % 32 : Nat) : Int) = ((n % 32 : Nat) : Int) := wu64n (by omega)
    have w8 := wu64n (n := t) (by omega)
    have c0 : (0 : Int) ≤ (n : Int) := by omega
    have bl := blt_of hn32
    have big : (4294967296 : Nat) ^ 16 = 4294967296 ^ 15 * 4294967296 := Nat.pow_succ 4294967296 15
    have rtl : r + r + t < 4294967296 ^ 16 := by rw [big]; omega
    have s2 := fun h => spec82 h (a := r + r + t) (b := b) rtl (by rw [big]; omega)
    have nn : ¬ ((n % 32 : Nat) : Int) < 0 := by omega
    by_cases hc : b ≤ r + r + t
    · obtain ⟨f1, f2⟩ := bs1 hc
      have f3 : q + 2 ^ n = a / 2 ^ n / b * 2 ^ n := by rw [f1, hq, pn, Nat.add_mul, Nat.one_mul]
      have qp : (digC q).set (n / 32) (.int .u64 ((d + p : Nat) : Int)) = digC (q + 2 ^ n) := digC_put hn32 br (by rw [Nat.mul_add, ← hd, br2]; omega)
      rw [f3] at qp
      have s3 := fun h => spec85 h (a := r + r + t) (b := b) rtl hc
      rw [← f2] at s3
      have ci : (0 : Int) ≤ (if r + r + t = b then 0 else if r + r + t < b then -1 else 1) := by split <;> (try split) <;> omega
      rw [← hr, ← hq]
      refine stepM (fun R RO RD RT E => ?_) ih
      clear ih f3 br br2 bs1 bs2 f1 f2 pn hq hr hd hz bo ba ht hx rtl big hbl hb hc rl pc hp
      generalize a / 2 ^ n / b * 2 ^ n = q' at *
      generalize a / 2 ^ n % b = r' at *
      generalize n / 32 = j at *
      generalize x / p = xp at *
      generalize z + t = zt at *
      generalize d + p = dd at *
      generalize n % 32 = s at *
      generalize (if r + r + t = b then (0 : Int) else if r + r + t < b then -1 else 1) = cc at *
      simp [M.b81_0, E.eqs, e2, e3, e4, e5, e6', c0, freshB, loadA, storeA, s1, g0, g0', w1, w2, w3, w4, w5, w6, w7, w8, q32, r32, rm, sh, sk, nn, bl, hj, ga, dp, s2, ci, s3, gq, qp]
    · obtain ⟨f1, f2⟩ := bs2 hc
      have f3 : q = a / 2 ^ n / b * 2 ^ n := by rw [f1, hq, pn]
      have ci : ¬ (0 : Int) ≤ (if r + r + t = b then 0 else if r + r + t < b then -1 else 1) := by
        rw [if_neg (by omega), if_pos (by omega)]; omega
      rw [← f3, f2] at ih
      rw [← hr, ← hq]
      refine stepM (fun R RO RD RT E => ?_) ih
      clear ih f3 br br2 bs1 bs2 f1 f2 pn hq hr hd hz bo ba ht hx rtl big hbl hb hc rl pc hp
      generalize n / 32 = j at *
      generalize x / p = xp at *
      generalize z + t = zt at *
      generalize d + p = dd at *
      generalize n % 32 = s at *
      generalize (if r + r + t = b then (0 : Int) else if r + r + t < b then -1 else 1) = cc at *
      simp [M.b81_0, E.eqs, e2, e3, e4, e5, e6', c0, freshB, loadA, storeA, s1, g0, g0', w1, w2, w3, w4, w5, w6, w7, w8, q32, r32, rm, sh, sk, nn, bl, hj, ga, dp, s2, ci]

theorem spec81 (h : Heap) {a b : Nat} (hb : 0 < b) (hbl : b < 4294967296 ^ 15) (ha : a < 4294967296 ^ 16) : call 81 [[.agg (digC a)], [.agg (digC b)]] h = some ([.agg (digC (a / b)), .agg (digC (a % b))], h) := by
  obtain ⟨K, hK⟩ : ∃ K : Nat, K = 512 := ⟨_, rfl⟩
  have lo := rdiv_loop (h := h) (a := a) hb hbl K [(2, [.sc (.ptr h.length 0 16)]), (3, [.sc (.ptr (h.length + 1) 0 16)]), (4, [.sc (.ptr (h.length + 2) 0 16)]), (5, [.sc (.ptr (h.length + 3) 0 16)]), (6, [.sc (.int .i64 ((K : Int) - 1))])] (by omega) rfl rfl rfl rfl rfl
  have k1 : (K : Int) - 1 = 511 := by omega
  have k2 : 32 * 16 ≤ K := by omega
  have e1 : a / 2 ^ K = 0 := Nat.div_eq_of_lt (Nat.lt_of_lt_of_le ha (base_le k2))
  rw [e1, Nat.zero_div, Nat.zero_mul, Nat.zero_mod, k1] at lo
  have lo := loop_run lo
  refine callX rfl (by rfl : F 81 = some M.a81) (fun R RO RD RT E => ?_)
  have lo := E.run lo
  generalize a / b = q at *
  generalize a % b = r at *
  simp [M.a81, E.eqs, zeros_digC, lo, freshB, loadA, storeA, trim_pure, pureT, pureV]
end Go.Proofs.Ytdodhmidhcpnnaa
end

section
set_option linter.unusedVariables false
set_option linter.unusedSimpArgs false
set_option maxRecDepth 100000
namespace Go.Proofs.Ytdodhmidhcpnnaa
open Go.Abs

/-- one round of a division by shifted divisors -/
theorem shift_round {A B m r k : Nat} (hA : A = m * 2 ^ (k + 1) * B + r) (hr : r < B * 2 ^ (k + 1)) :
    (B * 2 ^ k ≤ r → (2 ^ k ||| m * 2 ^ (k + 1)) = (2 * m + 1) * 2 ^ k ∧ A = (2 * m + 1) * 2 ^ k * B + (r - B * 2 ^ k) ∧ r - B * 2 ^ k < B * 2 ^ k) ∧
    (¬ B * 2 ^ k ≤ r → A = 2 * m * 2 ^ k * B + r ∧ m * 2 ^ (k + 1) = 2 * m * 2 ^ k) := by
  have hp : m * 2 ^ (k + 1) = 2 * m * 2 ^ k := by rw [Nat.pow_succ, Nat.mul_comm (2 ^ k) 2, ← Nat.mul_assoc, Nat.mul_comm m 2]
  have hB : B * 2 ^ (k + 1) = B * 2 ^ k + B * 2 ^ k := by rw [Nat.pow_succ, ← Nat.mul_assoc]; omega
  have hsum : (2 * m + 1) * 2 ^ k = 2 * m * 2 ^ k + 2 ^ k := by rw [Nat.add_mul, Nat.one_mul]
  refine ⟨fun h => ⟨?_, ?_, by omega⟩, fun h => ⟨by rw [← hp]; exact hA, hp⟩⟩
  · rw [or_add (Nat.pow_lt_pow_right (by decide) (Nat.lt_succ_self k)), hp, hsum, Nat.add_comm]
  · rw [hsum, Nat.add_mul, Nat.mul_comm (2 ^ k) B, ← hp]
    omega

theorem two_cmp {r rh rl sh sl S : Nat} (hr : r = rh * 18446744073709551616 + rl) (hS : sh * 18446744073709551616 + sl = S) (h1 : rl < 18446744073709551616) (h2 : sl < 18446744073709551616) : S ≤ r ↔ (sh < rh ∨ ¬ sh < rh ∧ rh = sh ∧ sl ≤ rl) := by omega

theorem two_sub {r rh rl sh sl S : Nat} (hr : r = rh * 18446744073709551616 + rl) (hS : sh * 18446744073709551616 + sl = S) (h1 : rl < 18446744073709551616) (h2 : sl < 18446744073709551616) (h3 : rh < 18446744073709551616) (h4 : sh < 18446744073709551616) (hle : S ≤ r) :
    cHi true rl sl 0 ≤ 1 ∧ r - S = cLo true rh sh (cHi true rl sl 0) * 18446744073709551616 + cLo true rl sl 0 ∧ cLo true rl sl 0 < 18446744073709551616 ∧ cLo true rh sh (cHi true rl sl 0) < 18446744073709551616 := by
  have k2 := cHi_sub rl sl 0
  have k1 := cLo_sub rl sl 0
  have k3 := cLo_sub rh sh (cHi true rl sl 0)
  split at k2 <;> rw [k2] at k3 <;> rw [k2] <;> omega

theorem w64p {k : Nat} (hk : k ≤ 63) : IntKind.u64.wrap ((2 : Int) ^ k) = (((2 : Nat) ^ k : Nat) : Int) := by
  have h1 : (2 : Nat) ^ k ≤ 2 ^ 63 := Nat.pow_le_pow_right (by decide) hk
  have h2 : (2 : Nat) ^ 63 = 9223372036854775808 := by decide
  rw [← wn64 (n := 2 ^ k) (by omega)]
  simp
theorem shr_two {l k : Nat} (hk : k ≤ 63) : ((l : Int).fdiv 2).fdiv (2 ^ (63 - k)) = ((l / 2 ^ (64 - k) : Nat) : Int) := by
  have h1 : (l : Int).fdiv 2 = ((l / 2 : Nat) : Int) := fdivP l 1
  rw [h1, fdivP, Nat.div_div_eq_div_mul]
  congr 2
  rw [Nat.mul_comm, ← Nat.pow_succ]
  congr 1
  omega

theorem wdiv_loop {hh : Heap} {A B bh bl K : Nat} {t2 t3 t4 t5 t11 : TV} (hB : B = bh * 18446744073709551616 + bl) (hbl : bl < 18446744073709551616) (hA : A < 340282366920938463463374607431768211456) (hb0 : 0 < bh) (hK : K ≤ 63) (hlz : bh * 2 ^ K < 18446744073709551616) : ∀ (n m r : Nat) (e : Env), n ≤ K + 1 → A = m * 2 ^ n * B + r → r < B * 2 ^ n →
    e.get 2 = t2 → e.get 3 = t3 → e.get 4 = t4 → e.get 5 = t5 → e.get 9 = [.sc (.int .u64 bh)] → e.get 10 = [.sc (.int .u64 bl)] → e.get 11 = t11 → e.get 12 = [.sc (.int .u64 (m * 2 ^ n : Nat))] → e.get 13 = [.sc (.int .u64 (r / 18446744073709551616 : Nat))] → e.get 14 = [.sc (.int .u64 (r % 18446744073709551616 : Nat))] → e.get 15 = [.sc (.int .i64 ((n : Int) - 1))] →
    ∃ e', loopE F O (.loop [2, 3, 4, 5, 9, 10, 11, 12, 13, 14, 15] M.b90_0) e hh = some (.exit 0, e', hh) ∧ e'.get 2 = t2 ∧ e'.get 3 = t3 ∧ e'.get 4 = t4 ∧ e'.get 5 = t5 ∧ e'.get 11 = t11 ∧ e'.get 12 = [.sc (.int .u64 (A / B : Nat))] ∧ e'.get 13 = [.sc (.int .u64 (A % B / 18446744073709551616 : Nat))] ∧ e'.get 14 = [.sc (.int .u64 (A % B % 18446744073709551616 : Nat))]
  | 0, m, r, e, hn, hm, hr, e2, e3, e4, e5, e9, e10, e11, e12, e13, e14, e15 => by
    rw [Nat.pow_zero, Nat.mul_one] at hm hr
    have q1 : A / B = m := by rw [hm, Nat.add_comm, Nat.add_mul_div_right _ _ (by omega), Nat.div_eq_of_lt hr, Nat.zero_add]
    have q2 : A % B = r := by rw [hm, Nat.add_comm, Nat.add_mul_mod_self_right, Nat.mod_eq_of_lt hr]
    rw [Nat.pow_zero, Nat.mul_one] at e12
    rw [q1, q2]
    refine ⟨[(2, t2), (3, t3), (4, t4), (5, t5), (9, [.sc (.int .u64 bh)]), (10, [.sc (.int .u64 bl)]), (11, t11), (12, [.sc (.int .u64 m)]), (13, [.sc (.int .u64 (r / 18446744073709551616 : Nat))]), (14, [.sc (.int .u64 (r % 18446744073709551616 : Nat))]), (15, [.sc (.int .i64 (-1))]), (53, [.sc (.bool false)])], exitM fun R RO RD RT E => ?_, rfl, rfl, rfl, rfl, rfl, rfl, rfl, rfl⟩
    have e15' : e.get 15 = [.sc (.int .i64 (-1))] := by rw [e15]; rfl
    clear hm hr q1 q2 hlz hA hB e15
    generalize r / 18446744073709551616 = x1 at *
    generalize r % 18446744073709551616 = x2 at *
    simp [M.b90_0, E.eqs, e2, e3, e4, e5, e9, e10, e11, e12, e13, e14, e15']
  | n + 1, m, r, e, hn, hm, hr, e2, e3, e4, e5, e9, e10, e11, e12, e13, e14, e15 => by
    have e15' : e.get 15 = [.sc (.int .i64 (n : Int))] := by rw [e15]; congr 3; omega
    have hn63 : n ≤ 63 := by omega
    obtain ⟨sr1, sr2⟩ := shift_round hm hr
    have ns := norm_split (hi := bh) (lo := bl) hn63
    rw [← hB] at ns
    have hp : 0 < 2 ^ n := Nat.pow_pos (by decide)
    have x1l : bh * 2 ^ n < 18446744073709551616 := Nat.lt_of_le_of_lt (Nat.mul_le_mul_left _ (Nat.pow_le_pow_right (by decide) (by omega : n ≤ K))) hlz
    obtain ⟨_, hC⟩ := high_lt (hi := 0) (y := 1) (by decide) hbl hn63
    have p2 : IntKind.u64.wrap ((bh : Int) * 2 ^ n) = ((bh * 2 ^ n : Nat) : Int) := by
      have : ((bh * 2 ^ n : Nat) : Int) = (bh : Int) * 2 ^ n := by simp
      rw [← this]
      exact wn64 x1l
    have p3 := shr_two (l := bl) hn63
    have hCl : bl / 2 ^ (64 - n) < 18446744073709551616 := Nat.lt_of_le_of_lt (Nat.div_le_self _ _) hbl
    obtain ⟨sh, hsh⟩ : ∃ sh, sh = bh * 2 ^ n + bl / 2 ^ (64 - n) := ⟨_, rfl⟩
    obtain ⟨sl, hsl⟩ : ∃ sl, sl = bl * 2 ^ n % 18446744073709551616 := ⟨_, rfl⟩
    have p4 : bitop .or .u64 ((bh * 2 ^ n : Nat) : Int) ((bl / 2 ^ (64 - n) : Nat) : Int) = (sh : Int) := by
      rw [or_u64 x1l hCl, Nat.or_comm, or_add hC, hsh, Nat.add_comm]
    have shl : sh < 18446744073709551616 := by
      have h1 : (bh * 2 ^ n ||| bl / 2 ^ (64 - n)) < 2 ^ 64 := Nat.or_lt_two_pow x1l hCl
      rw [Nat.or_comm, or_add hC, Nat.add_comm, ← hsh] at h1
      exact h1
    have sll : sl < 18446744073709551616 := by rw [hsl]; exact Nat.mod_lt _ (by decide)
    have p5 : IntKind.u64.wrap ((bl : Int) * 2 ^ n) = (sl : Int) := by
      have : ((bl * 2 ^ n : Nat) : Int) = (bl : Int) * 2 ^ n := by simp
      rw [← this, wu64', hsl]
      omega
    rw [← hsh, ← hsl] at ns
    obtain ⟨rh, hrh⟩ : ∃ rh, rh = r / 18446744073709551616 := ⟨_, rfl⟩
    obtain ⟨rl, hrl⟩ : ∃ rl, rl = r % 18446744073709551616 := ⟨_, rfl⟩
    have hrs : r = rh * 18446744073709551616 + rl := by rw [hrh, hrl]; omega
    have hrA : r ≤ A := by rw [hm]; exact Nat.le_add_left _ _
    have rhl : rh < 18446744073709551616 := by omega
    have rll : rl < 18446744073709551616 := by omega
    rw [← hrh] at e13
    rw [← hrl] at e14
    have tc := two_cmp hrs ns rll sll
    have sk1 : shAmt .u64 1 = 1 := by simp [shAmt, IntKind.bits]
    have sk2 : shAmt .u64 (n : Int) = n := by simp only [shAmt, IntKind.bits]; omega
    have w1 : IntKind.i64.wrap (63 - (n : Int)) = ((63 - n : Nat) : Int) := by rw [wi64 (by omega) (by omega)]; omega
    have w2 : IntKind.i64.wrap ((n : Int) - 1) = (n : Int) - 1 := wi64 (by omega) (by omega)
    have sk3 : shAmt .u64 ((63 - n : Nat) : Int) = 63 - n := by simp only [shAmt, IntKind.bits]; omega
    have n1 : ¬ (n : Int) < 0 := by omega
    have n2 : ¬ ((63 - n : Nat) : Int) < 0 := by omega
    have c0 : (0 : Int) ≤ (n : Int) := by omega
    have w3 := w64p hn63
    have hqB : m * 2 ^ (n + 1) < 18446744073709551616 := by
      have h1 : m * 2 ^ (n + 1) * B ≤ A := by rw [hm]; exact Nat.le_add_right _ _
      have h2 : m * 2 ^ (n + 1) * 18446744073709551616 ≤ m * 2 ^ (n + 1) * B := Nat.mul_le_mul_left _ (by omega)
      generalize m * 2 ^ (n + 1) = Q at *
      omega
    have hpl : 2 ^ n < 18446744073709551616 := by
      have h1 : (2 : Nat) ^ n ≤ 2 ^ 63 := Nat.pow_le_pow_right (by decide) hn63
      have h2 : (2 : Nat) ^ 63 = 9223372036854775808 := by decide
      omega
    have p6 := or_u64 hqB hpl
    rw [Nat.or_comm] at p6
    by_cases hc : B * 2 ^ n ≤ r
    · obtain ⟨s1, s2, s3⟩ := sr1 hc
      rw [s1] at p6
      obtain ⟨b1, b2, b3, b4⟩ := two_sub hrs ns rll sll rhl shl hc
      obtain ⟨e', ih, f⟩ := wdiv_loop (hh := hh) (t2 := t2) (t3 := t3) (t4 := t4) (t5 := t5) (t11 := t11) hB hbl hA hb0 hK hlz n (2 * m + 1) (r - B * 2 ^ n) [(2, t2), (3, t3), (4, t4), (5, t5), (9, [.sc (.int .u64 bh)]), (10, [.sc (.int .u64 bl)]), (11, t11), (12, [.sc (.int .u64 ((2 * m + 1) * 2 ^ n : Nat))]), (13, [.sc (.int .u64 ((r - B * 2 ^ n) / 18446744073709551616 : Nat))]), (14, [.sc (.int .u64 ((r - B * 2 ^ n) % 18446744073709551616 : Nat))]), (15, [.sc (.int .i64 ((n : Int) - 1))])] (by omega) s2 s3 rfl rfl rfl rfl rfl rfl rfl rfl rfl rfl rfl
      refine ⟨e', stepM (fun R RO RD RT E => ?_) ih, f⟩
      have g1 : (r - B * 2 ^ n) / 18446744073709551616 = cLo true rh sh (cHi true rl sl 0) := by rw [b2]; omega
      have g2 : (r - B * 2 ^ n) % 18446744073709551616 = cLo true rl sl 0 := by rw [b2]; omega
      rw [g1, g2]
      have tc2 := tc.1 hc
      clear tc
      clear sr1 sr2 s1 s2 s3 hm hr hrs hrA hrh hrl hqB hpl b2 ns hsh hsl x1l hC hCl hlz hA ih f g1 g2 hB
      generalize bh * 2 ^ n = X1 at *
      generalize bl / 2 ^ (64 - n) = X2 at *
      generalize 63 - n = n' at *
      generalize m * 2 ^ (n + 1) = q0 at *
      generalize (2 * m + 1) * 2 ^ n = q1 at *
      generalize hcl : cLo true rl sl 0 = cl at *
      generalize hch : cHi true rl sl 0 = ch at *
      generalize (2 : Nat) ^ n = pn at *
      have p6 := p6
      rcases tc2 with c1 | ⟨c1, c2, c3⟩
      · simp [M.b90_0, E.eqs, e2, e3, e4, e5, e9, e10, e11, e12, e13, e14, e15', c0, n1, n2, sk1, sk2, sk3, w1, w2, w3, p2, p3, p4, p5, p6, c1, hcl, hch, b1]
      · simp [M.b90_0, E.eqs, e2, e3, e4, e5, e9, e10, e11, e12, e13, e14, e15', c0, n1, n2, sk1, sk2, sk3, w1, w2, w3, p2, p3, p4, p5, p6, c1, c2, c3, hcl, hch, b1]
        try simp_all
    · obtain ⟨s1, s2⟩ := sr2 hc
      obtain ⟨e', ih, f⟩ := wdiv_loop (hh := hh) (t2 := t2) (t3 := t3) (t4 := t4) (t5 := t5) (t11 := t11) hB hbl hA hb0 hK hlz n (2 * m) r [(2, t2), (3, t3), (4, t4), (5, t5), (9, [.sc (.int .u64 bh)]), (10, [.sc (.int .u64 bl)]), (11, t11), (12, [.sc (.int .u64 (2 * m * 2 ^ n : Nat))]), (13, [.sc (.int .u64 (r / 18446744073709551616 : Nat))]), (14, [.sc (.int .u64 (r % 18446744073709551616 : Nat))]), (15, [.sc (.int .i64 ((n : Int) - 1))])] (by omega) s1 (by omega) rfl rfl rfl rfl rfl rfl rfl rfl rfl rfl rfl
      refine ⟨e', stepM (fun R RO RD RT E => ?_) ih, f⟩
      rw [← hrh, ← hrl, ← s2]
      have c1 : ¬ sh < rh := fun h => hc (tc.2 (.inl h))
      have tc2 : ¬ (rh = sh ∧ sl ≤ rl) := fun ⟨h1, h2⟩ => hc (tc.2 (.inr ⟨c1, h1, h2⟩))
      clear tc sr1 sr2 s1 s2 hm hr hrs hrA hrh hrl hqB hpl ns hsh hsl x1l hC hCl hlz hA ih f p6 hB
      generalize bh * 2 ^ n = X1 at *
      generalize bl / 2 ^ (64 - n) = X2 at *
      generalize 63 - n = n' at *
      generalize m * 2 ^ (n + 1) = q0 at *
      by_cases c2 : rh = sh
      · have c3 : ¬ sl ≤ rl := fun h => tc2 ⟨c2, h⟩
        subst c2
        simp [M.b90_0, E.eqs, e2, e3, e4, e5, e9, e10, e11, e12, e13, e14, e15', c0, n1, n2, sk1, sk2, sk3, w1, w2, w3, p2, p3, p4, p5, c3]
      · simp [M.b90_0, E.eqs, e2, e3, e4, e5, e9, e10, e11, e12, e13, e14, e15', c0, n1, n2, sk1, sk2, sk3, w1, w2, w3, p2, p3, p4, p5, c1, c2]
end Go.Proofs.Ytdodhmidhcpnnaa
end

section
set_option linter.unusedVariables false
set_option linter.unusedSimpArgs false
set_option maxRecDepth 100000
namespace Go.Proofs.Ytdodhmidhcpnnaa
open Go.Abs

theorem sg_tdiv (a b : Int) : sg (decide (a < 0) != decide (b < 0)) (a.natAbs / b.natAbs) = a.tdiv b := by
  unfold sg
  have key : ∀ m n : Nat, ((m / n : Nat) : Int) = (m : Int).tdiv n := fun m n => rfl
  obtain ⟨m, hm⟩ : ∃ m, m = a.natAbs := ⟨_, rfl⟩
  obtain ⟨n, hn⟩ : ∃ n, n = b.natAbs := ⟨_, rfl⟩
  rw [← hm, ← hn, key]
  by_cases h1 : a < 0 <;> by_cases h2 : b < 0 <;> simp only [h1, h2, decide_true, decide_false]
  · have e1 : a = -(m : Int) := by omega
    have e2 : b = -(n : Int) := by omega
    rw [e1, e2, Int.neg_tdiv, Int.tdiv_neg]; simp
  · have e1 : a = -(m : Int) := by omega
    have e2 : b = (n : Int) := by omega
    rw [e1, e2, Int.neg_tdiv]; simp
  · have e1 : a = (m : Int) := by omega
    have e2 : b = -(n : Int) := by omega
    rw [e1, e2, Int.tdiv_neg]; simp
  · have e1 : a = (m : Int) := by omega
    have e2 : b = (n : Int) := by omega
    rw [e1, e2]; simp
theorem sg_tmod (a b : Int) : sg (decide (a < 0)) (a.natAbs % b.natAbs) = a.tmod b := by
  unfold sg
  have key : ∀ m n : Nat, ((m % n : Nat) : Int) = (m : Int).tmod n := fun m n => rfl
  obtain ⟨m, hm⟩ : ∃ m, m = a.natAbs := ⟨_, rfl⟩
  obtain ⟨n, hn⟩ : ∃ n, n = b.natAbs := ⟨_, rfl⟩
  rw [← hm, ← hn, key]
  have e2 : b = (n : Int) ∨ b = -(n : Int) := by omega
  have e3 : a.tmod b = a.tmod n := by rcases e2 with e | e <;> rw [e]; exact Int.tmod_neg _ _
  rw [e3]
  by_cases h1 : a < 0 <;> simp only [h1, decide_true, decide_false]
  · have e1 : a = -(m : Int) := by omega
    rw [e1, Int.neg_tmod]; simp
  · have e1 : a = (m : Int) := by omega
    rw [e1]; simp

/-- a quotient, its rest, and what is wrong -/
def dvQ (a b : Int) : Int := if b = 0 then 0 else okC (a.tdiv b)
def dvR (a b : Int) : Int := if b = 0 then 0 else if InW (a.tdiv b) then a.tmod b else 0
def dvE (a b : Int) : Int := if b = 0 then 22 else okE (a.tdiv b)

theorem tmod_in {a b : Int} (ha : InW a) : InW (a.tmod b) := by
  rw [← sg_tmod]
  have := Nat.mod_le a.natAbs b.natAbs
  unfold sg InW at *
  split
  · rename_i h
    simp at h
    omega
  · rename_i h
    simp at h
    omega

theorem div_pos_form (h : Heap) {a b : Int} {qh ql rh rl : Nat} (hq : a.natAbs / b.natAbs = qh * 18446744073709551616 + ql) (hr : a.natAbs % b.natAbs = rh * 18446744073709551616 + rl) (h1 : qh < 18446744073709551616) (h2 : ql < 18446744073709551616) (h3 : rh < 18446744073709551616) (h4 : rl < 18446744073709551616) :
    call 86 [[.sc (.bool (decide (a < 0) != decide (b < 0)))], [.sc (.int .u64 qh)], [.sc (.int .u64 ql)]] h = some (okW (a.tdiv b), h) ∧
    call 86 [[.sc (.bool (decide (a < 0)))], [.sc (.int .u64 rh)], [.sc (.int .u64 rl)]] h = some (okW (a.tmod b), h) := by
  have s1 := spec86 h (decide (a < 0) != decide (b < 0)) h1 h2
  have s2 := spec86 h (decide (a < 0)) h3 h4
  rw [← hq] at s1
  rw [← hr] at s2
  exact ⟨s1.trans (by rw [← sg_tdiv]; rfl), s2.trans (by rw [← sg_tmod]; rfl)⟩

set_option maxHeartbeats 2000000 in
theorem spec90 (h : Heap) {a b : Int} (ha : InW a) (hb : InW b) : call 90 [[W a], [W b]] h = some ([W (dvQ a b), W (dvR a b), .sc (.int .i64 (dvE a b))], h) := by
  have ek := wC_eqK_of hb inW_zero
  unfold dvQ dvR dvE
  by_cases hz : b = 0
  · rw [if_pos hz, if_pos hz, if_pos hz]
    rw [decide_eq_true hz] at ek
    refine callX rfl (by rfl : F 90 = some M.a90) (fun R RO RD RT E => ?_)
    simp [M.a90, E.eqs, wC_zero, ek, freshB, loadA, storeA, trim_pure, pureT, pureV, pureS]
  · rw [if_neg hz, if_neg hz, if_neg hz]
    rw [decide_eq_false hz] at ek
    have s1 := fun h => spec87 h ha
    have s2 := fun h => spec87 h hb
    have hA : a.natAbs < 340282366920938463463374607431768211456 := by unfold InW at ha; omega
    have hB : b.natAbs < 340282366920938463463374607431768211456 := by unfold InW at hb; omega
    have hB0 : 0 < b.natAbs := by omega
    have o1 : okC (a.tmod b) = a.tmod b := by unfold okC; rw [if_pos (tmod_in ha)]
    have o2 : ∀ q : Int, okE q = 0 ∧ InW q ∨ okE q = 20 ∧ ¬ InW q := fun q => by
      unfold okE
      by_cases c : InW q
      · exact .inl ⟨if_pos c, c⟩
      · exact .inr ⟨if_neg c, c⟩
    obtain ⟨ahi, alo, e1, e2, e3, e4, e5⟩ := W_of ha
    obtain ⟨bhi, blo, f1, f2, f3, f4, f5⟩ := W_of hb
    have e1' := AV.agg.inj e1
    have f1' := AV.agg.inj f1
    have d1 : decide (a < 0) = decide (ahi < 0) := by simp only [decide_eq_decide]; omega
    have d2 : decide (b < 0) = decide (bhi < 0) := by simp only [decide_eq_decide]; omega
    rw [f1'] at ek
    -- the digits of both sizes
    obtain ⟨ah, hah⟩ : ∃ ah, ah = a.natAbs / 18446744073709551616 := ⟨_, rfl⟩
    obtain ⟨al, hal⟩ : ∃ al, al = a.natAbs % 18446744073709551616 := ⟨_, rfl⟩
    obtain ⟨bh, hbh⟩ : ∃ bh, bh = b.natAbs / 18446744073709551616 := ⟨_, rfl⟩
    obtain ⟨bl, hbl⟩ : ∃ bl, bl = b.natAbs % 18446744073709551616 := ⟨_, rfl⟩
    have hAs : a.natAbs = ah * 18446744073709551616 + al := by omega
    have hBs : b.natAbs = bh * 18446744073709551616 + bl := by omega
    have ahl : ah < 18446744073709551616 := by omega
    have all : al < 18446744073709551616 := by omega
    have bhl : bh < 18446744073709551616 := by omega
    have bll : bl < 18446744073709551616 := by omega
    rw [← hah, ← hal] at s1
    rw [← hbh, ← hbl] at s2
    by_cases h0 : bh = 0
    · have hbl0 : 0 < bl := by omega
      have hBe : b.natAbs = bl := by omega
      have hrl : ah % bl < bl := Nat.mod_lt _ hbl0
      have s3 := fun h => spec91 h hrl bll all
      obtain ⟨k1, k2⟩ := knuth_total (X := ah) (B := 18446744073709551616) (w := al) hbl0
      rw [← hAs, ← hBe] at k1 k2
      have sg := fun h => div_pos_form h (a := a) (b := b) (qh := ah / bl) (ql := (ah % bl * 18446744073709551616 + al) / bl) (rh := 0) (rl := (ah % bl * 18446744073709551616 + al) % bl) (by rw [k1, hBe]) (by rw [k2, hBe]; omega) (Nat.lt_of_le_of_lt (Nat.div_le_self _ _) ahl) (quot_lt hrl all) (by omega) (Nat.lt_trans (Nat.mod_lt _ hbl0) bll)
      have sg1 := fun h => (sg h).1
      have sg2 := fun h => (sg h).2
      rw [d1, d2] at sg1
      have z0 : ((0 : Nat) : Int) = 0 := rfl
      rw [d1, z0] at sg2
      have wq := quo_guess (v1 := bl) ahl
      have wq' := quo_guess' (v1 := bl) ahl
      have wr : (ah : Int).tmod bl = ((ah % bl : Nat) : Int) := rfl
      have nz : ¬ (bl : Int) = 0 := by omega
      have nz' : ¬ bl = 0 := by omega
      subst h0
      rw [e1] at s1 ⊢
      rw [f1] at s2 ⊢
      clear e1 f1 e1' f1' hAs hBs hah hal hbh hbl k1 k2 sg d1 d2 e2 f2 hBe hB0 hA hB e4 e5 f4 f5 all bll ahl hrl
      generalize ah / bl = x1 at *
      generalize (ah % bl * 18446744073709551616 + al) / bl = x2 at *
      generalize (ah % bl * 18446744073709551616 + al) % bl = x3 at *
      generalize ah % bl = x4 at *
      refine callX rfl (by rfl : F 90 = some M.a90) (fun R RO RD RT E => ?_)
      rcases o2 (a.tdiv b) with ⟨o3, o4⟩ | ⟨o3, o4⟩
      · rw [if_pos o4]
        unfold okW at sg1
        rw [o3] at sg1
        rw [o3]
        generalize a.tdiv b = q at *
        generalize a.tmod b = r at *
        simp [M.a90, E.eqs, wC_zero, ek, s1, s2, s3, wq, wq', wr, nz, nz', sg1, sg2, o1, fldA, freshB, loadA, storeA, trim_pure, pureT, pureV, pureS]
      · rw [if_neg o4]
        have o5 : okC (a.tdiv b) = 0 := by unfold okC; rw [if_neg o4]
        unfold okW at sg1
        rw [o3, o5] at sg1
        rw [o3, o5]
        generalize a.tdiv b = q at *
        generalize a.tmod b = r at *
        simp [M.a90, E.eqs, wC_zero, ek, s1, s2, s3, wq, wq', wr, nz, nz', sg1, sg2, o1, fldA, freshB, loadA, storeA, trim_pure, pureT, pureV, pureS]
    · have h0' : 0 < bh := by omega
      obtain ⟨k, lz, hk, k1, k2⟩ := spec92 (h ++ [⟨.var, [.int .i64 ahi, .int .u64 (alo : Int)]⟩, ⟨.var, [.int .i64 bhi, .int .u64 (blo : Int)]⟩, ⟨.var, wC 0⟩, ⟨.var, wC 0⟩]) bhl h0'
      have k64 : (2 : Nat) ^ 64 = 18446744073709551616 := by decide
      have k63 : (2 : Nat) ^ 63 = 9223372036854775808 := by decide
      rw [k64] at k2
      rw [k63] at k1
      have hlt : a.natAbs < b.natAbs * 2 ^ (k + 1) := by
        have h1 : bh * 18446744073709551616 * 2 ^ (k + 1) ≤ b.natAbs * 2 ^ (k + 1) := Nat.mul_le_mul_right _ (by omega)
        have h2 : bh * 18446744073709551616 * 2 ^ (k + 1) = bh * 2 ^ k * 36893488147419103232 := by
          rw [Nat.pow_succ]; generalize 2 ^ k = p; rw [Nat.mul_right_comm, ← Nat.mul_assoc, Nat.mul_assoc]
        rw [h2] at h1
        generalize bh * 2 ^ k = X at *
        generalize b.natAbs * 2 ^ (k + 1) = Y at *
        omega
      obtain ⟨e', lo, g2, g3, g4, g5, g11, g12, g13, g14⟩ := wdiv_loop (hh := h ++ [⟨.var, [.int .i64 ahi, .int .u64 (alo : Int)]⟩, ⟨.var, [.int .i64 bhi, .int .u64 (blo : Int)]⟩, ⟨.var, wC 0⟩, ⟨.var, wC 0⟩])
        (t2 := [.sc (.ptr h.length 0 2)]) (t3 := [.sc (.ptr (h.length + 1) 0 2)]) (t4 := [.sc (.ptr (h.length + 2) 0 2)]) (t5 := [.sc (.ptr (h.length + 3) 0 2)]) (t11 := [.sc (.int .u64 0)]) hBs bll hA h0' hk k2 (k + 1) 0 a.natAbs
        [(2, [.sc (.ptr h.length 0 2)]), (3, [.sc (.ptr (h.length + 1) 0 2)]), (4, [.sc (.ptr (h.length + 2) 0 2)]), (5, [.sc (.ptr (h.length + 3) 0 2)]), (9, [.sc (.int .u64 bh)]), (10, [.sc (.int .u64 bl)]), (11, [.sc (.int .u64 0)]), (12, [.sc (.int .u64 0)]), (13, [.sc (.int .u64 ah)]), (14, [.sc (.int .u64 al)]), (15, [.sc (.int .i64 k)])]
        (by omega) (by simp) hlt rfl rfl rfl rfl rfl rfl rfl (by simp) (by rw [← hah]; rfl) (by rw [← hal]; rfl) (by simp)
      have lo := loop_run lo
      have hql : a.natAbs / b.natAbs < 18446744073709551616 := by
        rw [Nat.div_lt_iff_lt_mul hB0]
        omega
      have hrl := Nat.mod_lt a.natAbs hB0
      have sg := fun h => div_pos_form h (a := a) (b := b) (qh := 0) (ql := a.natAbs / b.natAbs) (rh := a.natAbs % b.natAbs / 18446744073709551616) (rl := a.natAbs % b.natAbs % 18446744073709551616) (by omega) (by omega) (by omega) hql (by omega) (by omega)
      have sg1 := fun h => (sg h).1
      have sg2 := fun h => (sg h).2
      rw [d1, d2] at sg1
      rw [d1] at sg2
      have nz : ¬ (bh : Int) = 0 := by omega
      rw [e1] at s1 ⊢
      rw [f1] at s2 ⊢
      clear e1 f1 e1' f1' hAs hBs hah hal hbh hbl sg d1 d2 e2 f2 hB0 hA hB e4 e5 f4 f5 all bll ahl hrl hql hlt k1 k2 hk
      generalize a.natAbs / b.natAbs = x1 at *
      generalize a.natAbs % b.natAbs / 18446744073709551616 = x2 at *
      generalize a.natAbs % b.natAbs % 18446744073709551616 = x3 at *
      refine callX rfl (by rfl : F 90 = some M.a90) (fun R RO RD RT E => ?_)
      have lo := E.run lo
      have z : ((0 : Nat) : Int) = 0 := rfl
      rw [z] at sg1
      rcases o2 (a.tdiv b) with ⟨o3, o4⟩ | ⟨o3, o4⟩
      · rw [if_pos o4]
        unfold okW at sg1
        rw [o3] at sg1
        rw [o3]
        generalize a.tdiv b = q at *
        generalize a.tmod b = r at *
        simp [M.a90, E.eqs, wC_zero, ek, s1, s2, lz, lo, g2, g3, g4, g5, g11, g12, g13, g14, h0, nz, sg1, sg2, o1, fldA, freshB, loadA, storeA, trim_pure, pureT, pureV, pureS]
      · rw [if_neg o4]
        have o5 : okC (a.tdiv b) = 0 := by unfold okC; rw [if_neg o4]
        unfold okW at sg1
        rw [o3, o5] at sg1
        rw [o3, o5]
        generalize a.tdiv b = q at *
        generalize a.tmod b = r at *
        simp [M.a90, E.eqs, wC_zero, ek, s1, s2, lz, lo, g2, g3, g4, g5, g11, g12, g13, g14, h0, nz, sg1, sg2, o1, fldA, freshB, loadA, storeA, trim_pure, pureT, pureV, pureS]
end Go.Proofs.Ytdodhmidhcpnnaa
end

section
set_option linter.unusedVariables false
set_option linter.unusedSimpArgs false
set_option maxRecDepth 100000
namespace Go.Proofs.Ytdodhmidhcpnnaa
open Go.Abs

theorem sg_neg (c : Bool) (N : Nat) : (c && !decide (N = 0)) = decide (sg c N < 0) := by
  unfold sg
  cases c
  · simp
  · by_cases h : N = 0
    · subst h; simp
    · have : -(N : Int) < 0 := by omega
      rw [decide_eq_false h]
      simp only [if_true, Bool.not_false, Bool.and_self]
      rw [decide_eq_true this]
theorem sg_abs (c : Bool) (N : Nat) : N = (sg c N).natAbs := by
  unfold sg
  cases c <;> simp
theorem InB.sg {c : Bool} {N : Nat} (h : N < 4294967296 ^ 15) : InB (sg c N) := by
  unfold InB
  rw [← sg_abs]
  exact h

end Go.Proofs.Ytdodhmidhcpnnaa
end

section
set_option linter.unusedVariables false
set_option linter.unusedSimpArgs false
set_option maxRecDepth 100000
namespace Go.Proofs.Ytdodhmidhcpnnaa
open Go.Abs

/-- half-even -/
def rqUp (N D : Nat) : Prop := D < N % D + N % D ∨ N % D + N % D = D ∧ N / D % 2 = 1
instance (N D : Nat) : Decidable (rqUp N D) := inferInstanceAs (Decidable (_ ∨ _))
def rq (N D : Nat) : Nat := N / D + if rqUp N D then 1 else 0
/-- a number by a power of ten, half-even -/
def rnd (n : Int) (k : Nat) : Int := sg (decide (n < 0)) (rq n.natAbs (10 ^ k))
theorem rq_le {N D : Nat} : rq N D ≤ N + 1 := by
  unfold rq
  have := Nat.div_le_self N D
  split <;> omega
theorem rq_zero {D : Nat} (hD : 0 < D) : rq 0 D = 0 := by
  have h : ¬ rqUp 0 D := by
    unfold rqUp
    rw [Nat.zero_mod, Nat.zero_div]
    omega
  unfold rq
  rw [if_neg h, Nat.zero_div]
theorem rq_one (N : Nat) : rq N 1 = N := by
  have h : ¬ rqUp N 1 := by
    unfold rqUp
    rw [Nat.mod_one, Nat.div_one]
    omega
  unfold rq
  rw [if_neg h, Nat.div_one, Nat.add_zero]
theorem rnd_zero (n : Int) : rnd n 0 = n := by
  unfold rnd sg
  rw [Nat.pow_zero, rq_one]
  by_cases h : n < 0 <;> simp [h] <;> omega
theorem rnd_mul (a b : Int) (k : Nat) : sg (decide (a < 0) != decide (b < 0)) (rq (a.natAbs * b.natAbs) (10 ^ k)) = rnd (a * b) k := by
  unfold rnd
  rw [Int.natAbs_mul, ← natAbs_sgn]
  by_cases h : a.natAbs * b.natAbs = 0
  · rw [h, rq_zero (Nat.pow_pos (by decide))]
    unfold sg
    split <;> split <;> rfl
  · rw [decide_eq_false h]
    simp

theorem two_divs {N a b : Nat} : N / a / b = N / (a * b) ∧ N % (a * b) = N / a % b * a + N % a := by
  refine ⟨Nat.div_div_eq_div_mul _ _ _, ?_⟩
  rw [Nat.mod_mul, Nat.mul_comm, Nat.add_comm]

/-- the second half of a rounding in two steps -/
theorem up_two {a h m rest : Nat} (ha : 0 < a) (hr : rest < a) (odd : Prop) :
    (h < m ∨ m = h ∧ (0 < rest ∨ odd)) ↔ ((h + h) * a < (m * a + rest) + (m * a + rest) ∨ (m * a + rest) + (m * a + rest) = (h + h) * a ∧ odd) := by
  have e : (h + h) * a = h * a + h * a := Nat.add_mul _ _ _
  rw [e]
  rcases Nat.lt_trichotomy h m with c | c | c
  · have : (h + 1) * a ≤ m * a := Nat.mul_le_mul_right _ c
    rw [Nat.add_mul, Nat.one_mul] at this
    constructor
    · intro _; left; omega
    · intro _; left; exact c
  · subst c
    constructor
    · rintro (c | ⟨_, c | c⟩)
      · omega
      · left; omega
      · by_cases h0 : rest = 0
        · right; exact ⟨by omega, c⟩
        · left; omega
    · rintro (c | ⟨c, d⟩)
      · right; exact ⟨rfl, .inl (by omega)⟩
      · right; exact ⟨rfl, .inr d⟩
  · have : (m + 1) * a ≤ h * a := Nat.mul_le_mul_right _ c
    rw [Nat.add_mul, Nat.one_mul] at this
    constructor
    · rintro (c | ⟨c, d⟩) <;> omega
    · rintro (c | ⟨c, d⟩) <;> omega

theorem half_of {k : Nat} (hk : 0 < k) : 10 ^ k / 2 + 10 ^ k / 2 = 10 ^ k := by
  obtain ⟨j, rfl⟩ : ∃ j, k = j + 1 := ⟨k - 1, by omega⟩
  rw [Nat.pow_succ]
  omega

theorem quo2 {x : Nat} (hx : x < 18446744073709551616) : IntKind.u64.wrap ((x : Int).tdiv 2) = ((x / 2 : Nat) : Int) := by
  rw [Int.tdiv_eq_ediv_of_nonneg (by omega), wu64']; omega
theorem quo2' {x : Nat} (hx : x < 18446744073709551616) : IntKind.u64.wrap ((x : Int) / 2) = ((x / 2 : Nat) : Int) := by
  rw [wu64']; omega
theorem l4_low (V : Nat) : (l4 V)[0]? = some (.int .u64 ((V % 18446744073709551616 : Nat) : Int)) := rfl
theorem l4_low' (V : Nat) (h : 0 < (l4 V).length) : (l4 V)[0] = .int .u64 ((V % 18446744073709551616 : Nat) : Int) := rfl
theorem and1 {x : Nat} : bitop .and .u64 ((x : Int) % 18446744073709551616) 1 = (x : Int) % 2 := by
  have h1 := and_u64 (a := x % 18446744073709551616) (b := 1) (Nat.mod_lt _ (by decide)) (by decide)
  rw [Nat.and_one_is_mod] at h1
  have h2 : x % 18446744073709551616 % 2 = x % 2 := by omega
  rw [h2] at h1
  have e1 : ((x % 18446744073709551616 : Nat) : Int) = (x : Int) % 18446744073709551616 := by omega
  have e2 : ((x % 2 : Nat) : Int) = (x : Int) % 2 := by omega
  rw [e1, e2] at h1
  exact h1

theorem up_loop {h : Heap} {X Y Z : Blk} {P : Nat} {t3 t4 t6 : TV} (hP : P + 1 < 115792089237316195423570985008687907853269984665640564039457584007913129639936) (e : Env)
    (e3 : e.get 3 = t3) (e4 : e.get 4 = t4) (e6 : e.get 6 = t6) (e9 : e.get 9 = [.sc (.ptr (h.length + 3) 0 4)]) (e12 : e.get 12 = [.sc (.bool true)]) (e14 : e.get 14 = [.sc (.int .i64 0)]) :
    ∃ e', loopE F O (.loop [3, 4, 6, 9, 12, 14] M.b54_0) e (h ++ [X, Y, Z, ⟨.var, l4 P⟩]) = some (.exit 1, e', h ++ [X, Y, Z, ⟨.var, l4 (P + 1)⟩]) ∧ e'.get 3 = t3 ∧ e'.get 4 = t4 ∧ e'.get 6 = t6 ∧ e'.get 9 = [.sc (.ptr (h.length + 3) 0 4)] := by
  obtain ⟨a0, a1, a2, a3, h0, h1, h2, h3, hv⟩ := l4_ex (V := P) (by omega)
  rw [l4_of h0 h1 h2 h3 hv]
  have w0 : IntKind.i64.wrap (0 + 1 : Int) = 1 := by rw [wi64 (by omega) (by omega)]; rfl
  have w1 : IntKind.i64.wrap (1 + 1 : Int) = 2 := by rw [wi64 (by omega) (by omega)]; rfl
  have w2 : IntKind.i64.wrap (2 + 1 : Int) = 3 := by rw [wi64 (by omega) (by omega)]; rfl
  have w3 : IntKind.i64.wrap (3 + 1 : Int) = 4 := by rw [wi64 (by omega) (by omega)]; rfl
  have v0 : IntKind.i64.wrap (1 : Int) = 1 := wi64 (by omega) (by omega)
  have v1 : IntKind.i64.wrap (2 : Int) = 2 := wi64 (by omega) (by omega)
  have v2 : IntKind.i64.wrap (3 : Int) = 3 := wi64 (by omega) (by omega)
  have v3 : IntKind.i64.wrap (4 : Int) = 4 := wi64 (by omega) (by omega)
  have wz : IntKind.u64.wrap (18446744073709551615 + 1 : Int) = 0 := by rw [wu64']; rfl
  have wz' : IntKind.u64.wrap (18446744073709551616 : Int) = 0 := by rw [wu64']; rfl
  have up : ∀ x : Nat, ¬ x = 18446744073709551615 → x < 18446744073709551616 → IntKind.u64.wrap ((x : Int) + 1) = ((x + 1 : Nat) : Int) ∧ ¬ ((x : Int) + 1 = 0) ∧ ¬ (((x + 1 : Nat) : Int) = 0) := fun x c hx => ⟨by rw [wu64 (by omega) (by omega)]; omega, by omega, by omega⟩
  by_cases c0 : a0 = 18446744073709551615
  · subst c0
    by_cases c1 : a1 = 18446744073709551615
    · subst c1
      by_cases c2 : a2 = 18446744073709551615
      · subst c2
        have c3 : ¬ a3 = 18446744073709551615 := by omega
        obtain ⟨u1, u2, u3⟩ := up a3 c3 h3
        rw [l4_of (V := P + 1) (a0 := 0) (a1 := 0) (a2 := 0) (a3 := a3 + 1) (by omega) (by omega) (by omega) (by omega) (by omega)]
        clear hv hP up
        refine ⟨[(3, t3), (4, t4), (6, t6), (9, [.sc (.ptr (h.length + 3) 0 4)]), (14, [.sc (.int .i64 4)]), (94, [.sc (.bool false)])], ?_, rfl, rfl, rfl, rfl⟩
        refine stepM (e1 := [(3, t3), (4, t4), (6, t6), (9, [.sc (.ptr (h.length + 3) 0 4)]), (12, [.sc (.bool true)]), (14, [.sc (.int .i64 1)])]) (h1 := h ++ [X, Y, Z, ⟨.var, [.int .u64 0, .int .u64 ((18446744073709551615 : Nat) : Int), .int .u64 ((18446744073709551615 : Nat) : Int), .int .u64 a3]⟩]) (fun R RO RD RT E => by simp [M.b54_0, E.eqs, e3, e4, e6, e9, e12, e14, freshB, loadA, storeA, w0, v0, wz, wz']) ?_
        refine stepM (e1 := [(3, t3), (4, t4), (6, t6), (9, [.sc (.ptr (h.length + 3) 0 4)]), (12, [.sc (.bool true)]), (14, [.sc (.int .i64 2)])]) (h1 := h ++ [X, Y, Z, ⟨.var, [.int .u64 0, .int .u64 0, .int .u64 ((18446744073709551615 : Nat) : Int), .int .u64 a3]⟩]) (fun R RO RD RT E => by simp [M.b54_0, E.eqs, freshB, loadA, storeA, w1, v1, wz, wz']) ?_
        refine stepM (e1 := [(3, t3), (4, t4), (6, t6), (9, [.sc (.ptr (h.length + 3) 0 4)]), (12, [.sc (.bool true)]), (14, [.sc (.int .i64 3)])]) (h1 := h ++ [X, Y, Z, ⟨.var, [.int .u64 0, .int .u64 0, .int .u64 0, .int .u64 a3]⟩]) (fun R RO RD RT E => by simp [M.b54_0, E.eqs, freshB, loadA, storeA, w2, v2, wz, wz']) ?_
        refine stepM (e1 := [(3, t3), (4, t4), (6, t6), (9, [.sc (.ptr (h.length + 3) 0 4)]), (12, [.sc (.bool false)]), (14, [.sc (.int .i64 4)])]) (h1 := h ++ [X, Y, Z, ⟨.var, [.int .u64 0, .int .u64 0, .int .u64 0, .int .u64 ((a3 + 1 : Nat) : Int)]⟩]) (fun R RO RD RT E => by simp [M.b54_0, E.eqs, freshB, loadA, storeA, w3, v3, u1, u2, u3]) ?_
        exact exitM fun R RO RD RT E => by simp [M.b54_0, E.eqs]
      · obtain ⟨u1, u2, u3⟩ := up a2 c2 h2
        rw [l4_of (V := P + 1) (a0 := 0) (a1 := 0) (a2 := a2 + 1) (a3 := a3) (by omega) (by omega) (by omega) (by omega) (by omega)]
        clear hv hP up
        refine ⟨[(3, t3), (4, t4), (6, t6), (9, [.sc (.ptr (h.length + 3) 0 4)]), (14, [.sc (.int .i64 3)]), (94, [.sc (.bool false)])], ?_, rfl, rfl, rfl, rfl⟩
        refine stepM (e1 := [(3, t3), (4, t4), (6, t6), (9, [.sc (.ptr (h.length + 3) 0 4)]), (12, [.sc (.bool true)]), (14, [.sc (.int .i64 1)])]) (h1 := h ++ [X, Y, Z, ⟨.var, [.int .u64 0, .int .u64 ((18446744073709551615 : Nat) : Int), .int .u64 a2, .int .u64 a3]⟩]) (fun R RO RD RT E => by simp [M.b54_0, E.eqs, e3, e4, e6, e9, e12, e14, freshB, loadA, storeA, w0, v0, wz, wz']) ?_
        refine stepM (e1 := [(3, t3), (4, t4), (6, t6), (9, [.sc (.ptr (h.length + 3) 0 4)]), (12, [.sc (.bool true)]), (14, [.sc (.int .i64 2)])]) (h1 := h ++ [X, Y, Z, ⟨.var, [.int .u64 0, .int .u64 0, .int .u64 a2, .int .u64 a3]⟩]) (fun R RO RD RT E => by simp [M.b54_0, E.eqs, freshB, loadA, storeA, w1, v1, wz, wz']) ?_
        refine stepM (e1 := [(3, t3), (4, t4), (6, t6), (9, [.sc (.ptr (h.length + 3) 0 4)]), (12, [.sc (.bool false)]), (14, [.sc (.int .i64 3)])]) (h1 := h ++ [X, Y, Z, ⟨.var, [.int .u64 0, .int .u64 0, .int .u64 ((a2 + 1 : Nat) : Int), .int .u64 a3]⟩]) (fun R RO RD RT E => by simp [M.b54_0, E.eqs, freshB, loadA, storeA, w2, v2, u1, u2, u3]) ?_
        exact exitM fun R RO RD RT E => by simp [M.b54_0, E.eqs]
    · obtain ⟨u1, u2, u3⟩ := up a1 c1 h1
      rw [l4_of (V := P + 1) (a0 := 0) (a1 := a1 + 1) (a2 := a2) (a3 := a3) (by omega) (by omega) (by omega) (by omega) (by omega)]
      clear hv hP up
      refine ⟨[(3, t3), (4, t4), (6, t6), (9, [.sc (.ptr (h.length + 3) 0 4)]), (14, [.sc (.int .i64 2)]), (94, [.sc (.bool false)])], ?_, rfl, rfl, rfl, rfl⟩
      refine stepM (e1 := [(3, t3), (4, t4), (6, t6), (9, [.sc (.ptr (h.length + 3) 0 4)]), (12, [.sc (.bool true)]), (14, [.sc (.int .i64 1)])]) (h1 := h ++ [X, Y, Z, ⟨.var, [.int .u64 0, .int .u64 a1, .int .u64 a2, .int .u64 a3]⟩]) (fun R RO RD RT E => by simp [M.b54_0, E.eqs, e3, e4, e6, e9, e12, e14, freshB, loadA, storeA, w0, v0, wz, wz']) ?_
      refine stepM (e1 := [(3, t3), (4, t4), (6, t6), (9, [.sc (.ptr (h.length + 3) 0 4)]), (12, [.sc (.bool false)]), (14, [.sc (.int .i64 2)])]) (h1 := h ++ [X, Y, Z, ⟨.var, [.int .u64 0, .int .u64 ((a1 + 1 : Nat) : Int), .int .u64 a2, .int .u64 a3]⟩]) (fun R RO RD RT E => by simp [M.b54_0, E.eqs, freshB, loadA, storeA, w1, v1, u1, u2, u3]) ?_
      exact exitM fun R RO RD RT E => by simp [M.b54_0, E.eqs]
  · obtain ⟨u1, u2, u3⟩ := up a0 c0 h0
    rw [l4_of (V := P + 1) (a0 := a0 + 1) (a1 := a1) (a2 := a2) (a3 := a3) (by omega) (by omega) (by omega) (by omega) (by omega)]
    clear hv hP up
    refine ⟨[(3, t3), (4, t4), (6, t6), (9, [.sc (.ptr (h.length + 3) 0 4)]), (14, [.sc (.int .i64 1)]), (94, [.sc (.bool false)])], ?_, rfl, rfl, rfl, rfl⟩
    refine stepM (e1 := [(3, t3), (4, t4), (6, t6), (9, [.sc (.ptr (h.length + 3) 0 4)]), (12, [.sc (.bool false)]), (14, [.sc (.int .i64 1)])]) (h1 := h ++ [X, Y, Z, ⟨.var, [.int .u64 ((a0 + 1 : Nat) : Int), .int .u64 a1, .int .u64 a2, .int .u64 a3]⟩]) (fun R RO RD RT E => by simp [M.b54_0, E.eqs, e3, e4, e6, e9, e12, e14, freshB, loadA, storeA, w0, v0, u1, u2, u3]) ?_
    exact exitM fun R RO RD RT E => by simp [M.b54_0, E.eqs]
end Go.Proofs.Ytdodhmidhcpnnaa
end

section
set_option linter.unusedVariables false
set_option linter.unusedSimpArgs false
set_option maxRecDepth 100000
namespace Go.Proofs.Ytdodhmidhcpnnaa
open Go.Abs

theorem up_any {h : Heap} {X Y Z : Blk} {P : Nat} {t3 t4 t6 : TV} (u : Bool) (hP : P + 1 < 115792089237316195423570985008687907853269984665640564039457584007913129639936) (e : Env)
    (e3 : e.get 3 = t3) (e4 : e.get 4 = t4) (e6 : e.get 6 = t6) (e9 : e.get 9 = [.sc (.ptr (h.length + 3) 0 4)]) (e12 : e.get 12 = [.sc (.bool u)]) (e14 : e.get 14 = [.sc (.int .i64 0)]) :
    ∃ e', loopE F O (.loop [3, 4, 6, 9, 12, 14] M.b54_0) e (h ++ [X, Y, Z, ⟨.var, l4 P⟩]) = some (.exit 1, e', h ++ [X, Y, Z, ⟨.var, l4 (P + if u = true then 1 else 0)⟩]) ∧ e'.get 3 = t3 ∧ e'.get 4 = t4 ∧ e'.get 6 = t6 ∧ e'.get 9 = [.sc (.ptr (h.length + 3) 0 4)] := by
  cases u
  · refine ⟨[(3, t3), (4, t4), (6, t6), (9, [.sc (.ptr (h.length + 3) 0 4)]), (14, [.sc (.int .i64 0)]), (94, [.sc (.bool false)])], exitM fun R RO RD RT E => ?_, rfl, rfl, rfl, rfl⟩
    simp [M.b54_0, E.eqs, e3, e4, e6, e9, e12, e14]
  · exact up_loop hP e e3 e4 e6 e9 e12 e14

/-- what a product by a power of ten is, and what is wrong -/
def scC (n k : Int) : Int := if 0 ≤ k ∧ k ≤ 36 then okC (rnd n k.toNat) else 0
def scE (n k : Int) : Int := if 0 ≤ k ∧ k ≤ 36 then okE (rnd n k.toNat) else 1

theorem odd_iff (x : Nat) : (((x % 2 : Nat) : Int) = 1) ↔ x % 2 = 1 := by omega

set_option maxHeartbeats 4000000 in
theorem spec54 (h : Heap) {a b : Int} (ha : InW a) (hb : InW b) (k : Int) : call 54 [[W a], [W b], [.sc (.int .i64 k)]] h = some ([W (scC (a * b) k), .sc (.int .i64 (scE (a * b) k))], h) := by
  unfold scC scE
  by_cases hk : 0 ≤ k ∧ k ≤ 36
  · rw [if_pos hk, if_pos hk]
    obtain ⟨n, rfl⟩ := Int.eq_ofNat_of_zero_le hk.1
    have hn : n ≤ 36 := by omega
    have tn : (n : Int).toNat = n := by omega
    rw [tn]
    have s1 := fun h => spec67 h ha hb
    have hP : a.natAbs * b.natAbs ≤ 170141183460469231731687303715884105728 * 170141183460469231731687303715884105728 := Nat.mul_le_mul (by unfold InW at ha; omega) (by unfold InW at hb; omega)
    have hP : a.natAbs * b.natAbs + 1 < 115792089237316195423570985008687907853269984665640564039457584007913129639936 := Nat.lt_of_le_of_lt (Nat.add_le_add_right hP 1) (by decide)
    have rl := rq_le (N := a.natAbs * b.natAbs) (D := 10 ^ n)
    have s5 := fun h => spec66 h (decide (a < 0) != decide (b < 0)) (P := rq (a.natAbs * b.natAbs) (10 ^ n)) (by omega)
    rw [rnd_mul] at s5
    obtain ⟨ahi, alo, e1, e2, e3, e4, e5⟩ := W_of ha
    obtain ⟨bhi, blo, f1, f2, f3, f4, f5⟩ := W_of hb
    have d1 : decide (a < 0) = decide (ahi < 0) := by simp only [decide_eq_decide]; omega
    have d2 : decide (b < 0) = decide (bhi < 0) := by simp only [decide_eq_decide]; omega
    rw [d1, d2] at s5
    have hrq : rq (a.natAbs * b.natAbs) (10 ^ n) = a.natAbs * b.natAbs / 10 ^ n + if decide (rqUp (a.natAbs * b.natAbs) (10 ^ n)) = true then 1 else 0 := by unfold rq; simp only [decide_eq_true_eq]
    rw [hrq] at s5
    rw [e1] at s1 ⊢
    rw [f1] at s1 ⊢
    generalize rnd (a * b) n = res at *
    clear e1 f1 d1 d2 e2 f2 e4 e5 f4 f5 e3 f3 hrq rl hk tn ha hb
    generalize a.natAbs * b.natAbs = P at *
    obtain ⟨e', lo, g3, g4, g6, g9⟩ := up_any (h := h) (X := ⟨.var, [.int .i64 ahi, .int .u64 (alo : Int)]⟩) (Y := ⟨.var, [.int .i64 bhi, .int .u64 (blo : Int)]⟩) (Z := ⟨.var, wC 0⟩) (P := P / 10 ^ n) (t3 := [.sc (.ptr h.length 0 2)]) (t4 := [.sc (.ptr (h.length + 1) 0 2)]) (t6 := [.sc (.ptr (h.length + 2) 0 2)])
      (decide (rqUp P (10 ^ n))) (by have := Nat.div_le_self P (10 ^ n); omega)
      [(3, [.sc (.ptr h.length 0 2)]), (4, [.sc (.ptr (h.length + 1) 0 2)]), (6, [.sc (.ptr (h.length + 2) 0 2)]), (9, [.sc (.ptr (h.length + 3) 0 4)]), (12, [.sc (.bool (decide (rqUp P (10 ^ n))))]), (14, [.sc (.int .i64 0)])] rfl rfl rfl rfl rfl rfl
    have lo := loop_run lo
    have t0 : ∀ h, call 79 [[.sc (.int .i64 0)]] h = some ([.sc (.int .u64 1)], h) := fun h => spec79 h (k := 0) (by omega)
    have v0 : IntKind.i64.wrap 0 = 0 := wi64 (by omega) (by omega)
    have a1 := and1 (x := P / 10 ^ n)
    have m2 : ((P / 10 ^ n : Nat) : Int) % 2 = 0 ∨ ((P / 10 ^ n : Nat) : Int) % 2 = 1 := by omega
    have c1 : ¬ (n : Int) < 0 := by omega
    have c2 : ¬ (36 : Int) < n := by omega
    have one : (1 : Nat) < 18446744073709551616 := by decide
    refine callX rfl (by rfl : F 54 = some M.a54) (fun R RO RD RT E => ?_)
    have lo := E.run lo
    by_cases h0 : n = 0
    · subst h0
      have hu : ¬ rqUp P (10 ^ 0) := by unfold rqUp; rw [Nat.pow_zero, Nat.mod_one]; omega
      rw [decide_eq_false hu, Nat.pow_zero, Nat.div_one] at lo s5
      have s3 := fun h => spec78 h (V := P) (d := 1) (by omega) (by omega) (by omega)
      rw [Nat.div_one, Nat.mod_one] at s3
      have z : ((1 : Nat) : Int) = 1 := rfl
      rw [z] at s3
      simp at lo s5
      simp [M.a54, E.eqs, wC_zero, s1, t0, v0, s3, lo, g3, g4, g6, g9, s5, fldA, freshB, loadA, storeA, trim_pure, pureT, pureV, pureS]
    · have hn0 : 0 < n := by omega
      have c3 : ¬ (n : Int) = 0 := by omega
      have hh := half_of hn0
      by_cases h18 : n ≤ 18
      · have c4 : ¬ (18 : Int) < n := by omega
        have s2 := fun h => spec79 h (k := n) h18
        have tl := ten_lt h18
        have tp : 0 < 10 ^ n := Nat.pow_pos (by decide)
        have s3 := fun h => spec78 h (V := P) (d := 10 ^ n) (by omega) tp tl
        have s4 := fun h => spec78 h (V := P / 10 ^ n) (d := 1) (by have := Nat.div_le_self P (10 ^ n); omega) (by omega) (by omega)
        rw [Nat.div_one, Nat.mod_one] at s4
        have z : ((1 : Nat) : Int) = 1 := rfl
        rw [z] at s4
        have w1 : IntKind.i64.wrap ((n : Int) - n) = 0 := by rw [Int.sub_self]; exact v0
        have q2 := quo2 tl
        have q2' := quo2' tl
        have hup : rqUp P (10 ^ n) ↔ (10 ^ n / 2 < P % 10 ^ n ∨ ¬ 10 ^ n / 2 < P % 10 ^ n ∧ P % 10 ^ n = 10 ^ n / 2 ∧ P / 10 ^ n % 2 = 1) := by unfold rqUp; omega
        generalize hT : (10 : Nat) ^ n = T at *
        generalize T / 2 = H at *
        generalize P % T = r at *
        generalize P / T = Q at *
        clear hh hP hT tl tp
        by_cases u1 : H < r
        · have hu : rqUp P T := hup.2 (.inl u1)
          rw [decide_eq_true hu] at lo s5
          simp at lo s5
          clear hup hu
          simp [M.a54, E.eqs, wC_zero, c1, c2, c3, c4, h0, s1, s2, t0, v0, w1, s3, s4, q2, q2', u1, lo, g3, g4, g6, g9, s5, fldA, freshB, loadA, storeA, trim_pure, pureT, pureV, pureS]
        · by_cases u2 : r = H
          · rcases m2 with m2 | m2
            · have hu : ¬ rqUp P T := fun x => by have := hup.1 x; omega
              rw [decide_eq_false hu] at lo s5
              simp at lo s5
              clear hup hu
              simp [M.a54, E.eqs, wC_zero, c1, c2, c3, c4, h0, s1, s2, t0, v0, w1, s3, s4, q2, q2', u1, u2, l4_low, l4_low', a1, m2, lo, g3, g4, g6, g9, s5, fldA, freshB, loadA, storeA, trim_pure, pureT, pureV, pureS]
            · have hu : rqUp P T := hup.2 (.inr ⟨u1, u2, by omega⟩)
              rw [decide_eq_true hu] at lo s5
              simp at lo s5
              clear hup hu
              simp [M.a54, E.eqs, wC_zero, c1, c2, c3, c4, h0, s1, s2, t0, v0, w1, s3, s4, q2, q2', u1, u2, l4_low, l4_low', a1, m2, lo, g3, g4, g6, g9, s5, fldA, freshB, loadA, storeA, trim_pure, pureT, pureV, pureS]
          · have hu : ¬ rqUp P T := fun x => by have := hup.1 x; omega
            rw [decide_eq_false hu] at lo s5
            simp at lo s5
            clear hup hu
            simp [M.a54, E.eqs, wC_zero, c1, c2, c3, c4, h0, s1, s2, t0, v0, w1, s3, s4, q2, q2', u1, u2, lo, g3, g4, g6, g9, s5, fldA, freshB, loadA, storeA, trim_pure, pureT, pureV, pureS]
      · obtain ⟨m, rfl⟩ : ∃ m, n = 18 + m := ⟨n - 18, by omega⟩
        have hm : m ≤ 18 := by omega
        have hm0 : 0 < m := by omega
        have c4 : (18 : Int) < ((18 + m : Nat) : Int) := by omega
        have c5 : ¬ ((18 + m : Nat) : Int) = 18 := by omega
        obtain ⟨D1, hD1⟩ : ∃ D1, D1 = 10 ^ 18 := ⟨_, rfl⟩
        have s2 := fun h => spec79 h (k := 18) (by omega)
        have z18 : ((18 : Nat) : Int) = 18 := rfl
        rw [z18] at s2
        have s2m := fun h => spec79 h (k := m) hm
        have tl := ten_lt (k := 18) (by omega)
        have tlm := ten_lt hm
        have tp : 0 < 10 ^ m := Nat.pow_pos (by decide)
        have tp18 : 0 < 10 ^ 18 := Nat.pow_pos (by decide)
        have td := two_divs (N := P) (a := 10 ^ 18) (b := 10 ^ m)
        rw [← Nat.pow_add] at td
        rw [← hD1] at s2 tl tp18 td
        have s3 := fun h => spec78 h (V := P) (d := D1) (by omega) tp18 tl
        have s4 := fun h => spec78 h (V := P / D1) (d := 10 ^ m) (by have := Nat.div_le_self P D1; omega) tp tlm
        rw [td.1] at s4
        have w1 : IntKind.i64.wrap (((18 + m : Nat) : Int) - 18) = (m : Int) := by rw [wi64 (by omega) (by omega)]; omega
        have q2 := quo2 tlm
        have q2' := quo2' tlm
        have hhm := half_of hm0
        have rl : P % D1 < D1 := Nat.mod_lt _ tp18
        have hpw : 10 ^ (18 + m) = (10 ^ m / 2 + 10 ^ m / 2) * D1 := by rw [hhm, hD1, Nat.pow_add, Nat.mul_comm]
        have hup : rqUp P (10 ^ (18 + m)) ↔ (10 ^ m / 2 < P / D1 % 10 ^ m ∨ P / D1 % 10 ^ m = 10 ^ m / 2 ∧ (0 < P % D1 ∨ P / 10 ^ (18 + m) % 2 = 1)) := by
          rw [up_two tp18 rl]
          unfold rqUp
          rw [← td.2, ← hpw]
        clear hpw td hh hhm hP hD1 tl tlm tp tp18 rl
        generalize ((18 + m : Nat) : Int) = nn at *
        generalize (10 : Nat) ^ (18 + m) = T at *
        generalize (10 : Nat) ^ m = U at *
        generalize U / 2 = H at *
        generalize P % D1 = r at *
        generalize P / D1 % U = mo at *
        generalize P / D1 = P1 at *
        generalize P / T = Q at *
        by_cases u1 : H < mo
        · have hu : rqUp P T := hup.2 (.inl u1)
          rw [decide_eq_true hu] at lo s5
          simp at lo s5
          clear hup hu
          simp [M.a54, E.eqs, wC_zero, c1, c2, c3, c4, c5, s1, s2, s2m, w1, s3, s4, q2, q2', u1, lo, g3, g4, g6, g9, s5, fldA, freshB, loadA, storeA, trim_pure, pureT, pureV, pureS]
        · by_cases u2 : mo = H
          · by_cases u3 : 0 < r
            · have hu : rqUp P T := hup.2 (.inr ⟨u2, .inl u3⟩)
              rw [decide_eq_true hu] at lo s5
              simp at lo s5
              clear hup hu
              simp [M.a54, E.eqs, wC_zero, c1, c2, c3, c4, c5, s1, s2, s2m, w1, s3, s4, q2, q2', u1, u2, u3, lo, g3, g4, g6, g9, s5, fldA, freshB, loadA, storeA, trim_pure, pureT, pureV, pureS]
            · have u3' : r = 0 := by omega
              subst u3'
              rcases m2 with m2 | m2
              · have hu : ¬ rqUp P T := fun x => by have := hup.1 x; omega
                rw [decide_eq_false hu] at lo s5
                simp at lo s5
                clear hup hu
                simp [M.a54, E.eqs, wC_zero, c1, c2, c3, c4, c5, s1, s2, s2m, w1, s3, s4, q2, q2', u1, u2, l4_low, l4_low', a1, m2, lo, g3, g4, g6, g9, s5, fldA, freshB, loadA, storeA, trim_pure, pureT, pureV, pureS]
              · have hu : rqUp P T := hup.2 (.inr ⟨u2, .inr (by omega)⟩)
                rw [decide_eq_true hu] at lo s5
                simp at lo s5
                clear hup hu
                simp [M.a54, E.eqs, wC_zero, c1, c2, c3, c4, c5, s1, s2, s2m, w1, s3, s4, q2, q2', u1, u2, l4_low, l4_low', a1, m2, lo, g3, g4, g6, g9, s5, fldA, freshB, loadA, storeA, trim_pure, pureT, pureV, pureS]
          · have hu : ¬ rqUp P T := fun x => by have := hup.1 x; omega
            rw [decide_eq_false hu] at lo s5
            simp at lo s5
            clear hup hu
            simp [M.a54, E.eqs, wC_zero, c1, c2, c3, c4, c5, s1, s2, s2m, w1, s3, s4, q2, q2', u1, u2, lo, g3, g4, g6, g9, s5, fldA, freshB, loadA, storeA, trim_pure, pureT, pureV, pureS]
  · rw [if_neg hk, if_neg hk]
    refine callX rfl (by rfl : F 54 = some M.a54) (fun R RO RD RT E => ?_)
    by_cases c1 : k < 0
    · simp [M.a54, E.eqs, c1, wC_zero, freshB, loadA, storeA, trim_pure, pureT, pureV, pureS]
    · have c2 : 36 < k := by omega
      simp [M.a54, E.eqs, c1, c2, wC_zero, freshB, loadA, storeA, trim_pure, pureT, pureV, pureS]
end Go.Proofs.Ytdodhmidhcpnnaa
end

section
set_option linter.unusedVariables false
set_option linter.unusedSimpArgs false
set_option maxRecDepth 100000
namespace Go.Proofs.Ytdodhmidhcpnnaa
open Go.Abs

theorem ten_small {k : Nat} (hk : k ≤ 60) : 10 ^ k < 4294967296 ^ 7 := Nat.lt_of_le_of_lt (Nat.pow_le_pow_right (by decide) hk) (by decide)
theorem pow_cast (k : Nat) : ((10 ^ k : Nat) : Int) = (10 : Int) ^ k := by simp

/-- a big number by a power of ten, half-even; up, if it is below 0 -/
def rndI (n k : Int) : Int := if 0 < k then rnd n k.toNat else n * 10 ^ (-k).toNat
theorem rndI_pos (n : Int) {k : Nat} (hk : 0 < k) : rndI n k = rnd n k := by unfold rndI; rw [if_pos (by omega)]; congr 1
theorem rndI_neg (n : Int) (k : Nat) : rndI n (-(k : Int)) = n * 10 ^ k := by
  unfold rndI
  rw [if_neg (by omega)]
  have : (-(-(k : Int))).toNat = k := by omega
  rw [this]

theorem round_neg (h : Heap) {n : Int} {k : Nat} (hn : n.natAbs < 4294967296 ^ 8) (hk : k ≤ 60) : call 57 [[.agg (bigC n)], [.sc (.int .i64 (-(k : Int)))]] h = some ([.agg (bigC (n * 10 ^ k))], h) := by
  have s1 := fun h => spec80 h hk
  have hT := ten_small hk
  have e := pow_cast k
  have mk := big_mk (n := (10 : Int) ^ k) (b := false) (N := 10 ^ k) (by rw [← e]; exact (decide_eq_false (Int.not_lt.2 (Int.natCast_nonneg _))).symm) (by rw [← e]; simp)
  have s2 := fun h => spec58 h (a := n) (b := 10 ^ k) hn (by rw [← e]; simpa using hT)
  have w1 : IntKind.i64.wrap (k : Int) = (k : Int) := wi64 (by omega) (by omega)
  have c1 : -(k : Int) ≤ 0 := by omega
  refine callX rfl (by rfl : F 57 = some M.a57) (fun R RO RD RT E => ?_)
  clear hT e
  generalize (10 : Int) ^ k = p at *
  generalize (10 : Nat) ^ k = q at *
  generalize n * p = np at *
  simp [M.a57, E.eqs, c1, w1, s1, mk, s2, fldA, freshB, loadA, storeA, trim_pure, pureT, pureV, pureS]

theorem one_put : (digC 0).set 0 (.int .u64 1) = digC 1 := rfl
theorem digC_low {N : Nat} : (digC N)[0]? = some (.int .u64 ((N % 4294967296 : Nat) : Int)) := by
  have := digC_get (N := N) (i := 0) (by decide)
  rw [Nat.pow_zero, Nat.div_one] at this
  exact this
theorem rem2' (x : Nat) : ((x % 4294967296 : Nat) : Int).tmod 2 = ((x % 2 : Nat) : Int) := by rw [rem2]; congr 1; omega

set_option maxHeartbeats 4000000 in
theorem round_pos (h : Heap) {n : Int} {k : Nat} (hn : InB n) (h0 : 0 < k) (hk : k ≤ 60) : call 57 [[.agg (bigC n)], [.sc (.int .i64 k)]] h = some ([.agg (bigC (rnd n k))], h) := by
  have s1 := fun h => spec80 h hk
  have hT := ten_small hk
  have hT0 : 0 < 10 ^ k := Nat.pow_pos (by decide)
  have b7 : (4294967296 : Nat) ^ 7 < 4294967296 ^ 15 := by decide
  have b16 : (4294967296 : Nat) ^ 16 = 4294967296 ^ 15 * 4294967296 := Nat.pow_succ 4294967296 15
  have b1 : 1 < (4294967296 : Nat) ^ 15 := by decide
  have s3 := fun h => spec81 h (a := n.natAbs) (b := 10 ^ k) hT0 (Nat.lt_trans hT b7) hn.lt
  have rl := Nat.mod_lt n.natAbs hT0
  have s4 := fun h => spec83 h (n.natAbs % 10 ^ k) (n.natAbs % 10 ^ k)
  have s5 := fun h => spec82 h (a := n.natAbs % 10 ^ k + n.natAbs % 10 ^ k) (b := 10 ^ k) (by omega) (by omega)
  have s6 := fun h => spec83 h (n.natAbs / 10 ^ k) 1
  have ql : n.natAbs / 10 ^ k < 4294967296 ^ 15 := Nat.lt_of_le_of_lt (Nat.div_le_self _ _) hn
  have lo := digC_low (N := n.natAbs / 10 ^ k)
  have r2 := rem2' (n.natAbs / 10 ^ k)
  obtain ⟨w, hw⟩ : ∃ w, w = n.natAbs / 10 ^ k % 4294967296 := ⟨_, rfl⟩
  obtain ⟨bq, hbq⟩ : ∃ bq, bq = n.natAbs / 10 ^ k % 2 := ⟨_, rfl⟩
  have m2 : bq = 0 ∨ bq = 1 := by omega
  rw [← hw] at lo r2
  rw [← hbq] at r2
  have lo' : ∀ hh, (digC (n.natAbs / 10 ^ k))[0]'hh = .int .u64 (w : Int) := fun hh => get_of lo hh
  have qu : rq n.natAbs (10 ^ k) = n.natAbs / 10 ^ k + 1 ∧ rqUp n.natAbs (10 ^ k) ∨ rq n.natAbs (10 ^ k) = n.natAbs / 10 ^ k ∧ ¬ rqUp n.natAbs (10 ^ k) := by
    unfold rq
    by_cases c : rqUp n.natAbs (10 ^ k)
    · exact .inl ⟨by rw [if_pos c], c⟩
    · exact .inr ⟨by rw [if_neg c]; rfl, c⟩
  have sz : ∀ q, q < 4294967296 ^ 16 → ∀ h, call 77 [[.agg (digC q)]] h = some ([.sc (.bool (decide (q = 0)))], h) := fun q hq h => spec77 h hq
  have sz1 := sz (n.natAbs / 10 ^ k) (by omega)
  have sz2 := sz (n.natAbs / 10 ^ k + 1) (by omega)
  have mk := big_mk (sg_neg (decide (n < 0)) (rq n.natAbs (10 ^ k))) (sg_abs _ _)
  have mr : sg (decide (n < 0)) (rq n.natAbs (10 ^ k)) = rnd n k := rfl
  rw [mr] at mk
  unfold rqUp at qu
  have c1 : ¬ (k : Int) ≤ 0 := by omega
  have c2 : ¬ k = 0 := by omega
  have cmpv : (10 ^ k < n.natAbs % 10 ^ k + n.natAbs % 10 ^ k ∧ (if n.natAbs % 10 ^ k + n.natAbs % 10 ^ k = 10 ^ k then (0 : Int) else if n.natAbs % 10 ^ k + n.natAbs % 10 ^ k < 10 ^ k then -1 else 1) = 1) ∨
      (n.natAbs % 10 ^ k + n.natAbs % 10 ^ k = 10 ^ k ∧ (if n.natAbs % 10 ^ k + n.natAbs % 10 ^ k = 10 ^ k then (0 : Int) else if n.natAbs % 10 ^ k + n.natAbs % 10 ^ k < 10 ^ k then -1 else 1) = 0) ∨
      (n.natAbs % 10 ^ k + n.natAbs % 10 ^ k < 10 ^ k ∧ (if n.natAbs % 10 ^ k + n.natAbs % 10 ^ k = 10 ^ k then (0 : Int) else if n.natAbs % 10 ^ k + n.natAbs % 10 ^ k < 10 ^ k then -1 else 1) = -1) := by
    generalize n.natAbs % 10 ^ k + n.natAbs % 10 ^ k = x
    generalize 10 ^ k = y
    rcases Nat.lt_trichotomy x y with c | c | c
    · exact .inr (.inr ⟨c, by rw [if_neg (by omega), if_pos c]⟩)
    · exact .inr (.inl ⟨c, by rw [if_pos c]⟩)
    · exact .inl ⟨c, by rw [if_neg (by omega), if_neg (by omega)]⟩
  clear hT hT0 b7 b16 b1 rl ql hn hk sz mr
  refine callX rfl (by rfl : F 57 = some M.a57) (fun R RO RD RT E => ?_)
  generalize (if n.natAbs % 10 ^ k + n.natAbs % 10 ^ k = 10 ^ k then (0 : Int) else if n.natAbs % 10 ^ k + n.natAbs % 10 ^ k < 10 ^ k then -1 else 1) = cv at *
  generalize rnd n k = res at *
  generalize rq n.natAbs (10 ^ k) = rr at *
  generalize n.natAbs / 10 ^ k = q at *
  generalize n.natAbs % 10 ^ k = r at *
  generalize (10 : Nat) ^ k = T at *
  have up : (cv = 1 ∨ cv = 0 ∧ bq = 1) ∧ rr = q + 1 ∨ (cv = -1 ∨ cv = 0 ∧ bq = 0) ∧ rr = q := by omega
  clear cmpv qu hw hbq m2
  by_cases n0 : n < 0
  all_goals
    rcases up with ⟨cc, rfl⟩ | ⟨cc, rfl⟩
    · simp [n0] at mk
      rcases cc with rfl | ⟨rfl, rfl⟩
      · simp [M.a57, E.eqs, c1, c2, s1, s3, s4, s5, s6, one_put, n0, mk, sz2, zeros_big, zeros_digC, fldA, freshB, loadA, storeA, trim_pure, pureT, pureV, pureS]
      · simp [M.a57, E.eqs, c1, c2, s1, s3, s4, s5, s6, one_put, lo, lo', r2, n0, mk, sz2, zeros_big, zeros_digC, fldA, freshB, loadA, storeA, trim_pure, pureT, pureV, pureS]
    · simp [n0] at mk
      rcases cc with rfl | ⟨rfl, rfl⟩
      · simp [M.a57, E.eqs, c1, c2, s1, s3, s4, s5, s6, one_put, n0, mk, sz1, zeros_big, zeros_digC, fldA, freshB, loadA, storeA, trim_pure, pureT, pureV, pureS]
      · simp [M.a57, E.eqs, c1, c2, s1, s3, s4, s5, s6, one_put, lo, lo', r2, n0, mk, sz1, zeros_big, zeros_digC, fldA, freshB, loadA, storeA, trim_pure, pureT, pureV, pureS]

/-- rounding, by any power from -18 (or so) to 60 -/
theorem spec57 (h : Heap) {n k : Int} (hn : n.natAbs < 4294967296 ^ 8) (h1 : -60 ≤ k) (h2 : k ≤ 60) : call 57 [[.agg (bigC n)], [.sc (.int .i64 k)]] h = some ([.agg (bigC (rndI n k))], h) := by
  by_cases hk : 0 < k
  · obtain ⟨m, rfl⟩ := Int.eq_ofNat_of_zero_le (Int.le_of_lt hk)
    rw [rndI_pos n (by omega)]
    exact round_pos h (Nat.lt_trans hn (by decide)) (by omega) (by omega)
  · obtain ⟨m, hm⟩ : ∃ m : Nat, k = -(m : Int) := ⟨k.natAbs, by omega⟩
    subst hm
    rw [rndI_neg]
    exact round_neg h hn (by omega)
theorem rndI_big {n k : Int} (hn : n.natAbs < 4294967296 ^ 8) (h1 : -60 ≤ k) (h2 : k ≤ 60) : InB (rndI n k) := by
  unfold InB
  by_cases hk : 0 < k
  · obtain ⟨m, rfl⟩ := Int.eq_ofNat_of_zero_le (Int.le_of_lt hk)
    rw [rndI_pos n (by omega)]
    unfold rnd
    rw [← sg_abs]
    refine Nat.lt_of_le_of_lt rq_le ?_
    have : (4294967296 : Nat) ^ 8 + 1 < 4294967296 ^ 15 := by decide
    omega
  · obtain ⟨m, hm⟩ : ∃ m : Nat, k = -(m : Int) := ⟨k.natAbs, by omega⟩
    subst hm
    rw [rndI_neg, Int.natAbs_mul]
    have : ((10 : Int) ^ m).natAbs = 10 ^ m := by rw [← pow_cast]; simp
    rw [this]
    exact Nat.lt_of_lt_of_le (Nat.mul_lt_mul'' hn (ten_small (k := m) (by omega))) (by decide)

theorem InW.mul8 {a b : Int} (ha : InW a) (hb : InW b) : (a * b).natAbs < 4294967296 ^ 8 := by
  rw [Int.natAbs_mul]
  exact Nat.lt_of_le_of_lt (Nat.mul_le_mul (by unfold InW at ha; omega : a.natAbs ≤ 170141183460469231731687303715884105728) (by unfold InW at hb; omega : b.natAbs ≤ 170141183460469231731687303715884105728)) (by decide)

theorem rndI_of {n : Int} {k : Nat} : rndI n k = rnd n k := by
  by_cases hk : 0 < k
  · exact rndI_pos n hk
  · have : k = 0 := by omega
    subst this
    rw [rnd_zero]
    have := rndI_neg n 0
    simpa using this

end Go.Proofs.Ytdodhmidhcpnnaa
end

