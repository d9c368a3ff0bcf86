/- Chapter 2, the document's: a quotient, bit by bit. -/
import Derived.Test.YtohnpealiilikaaN7
set_option linter.unusedVariables false
set_option linter.unusedSimpArgs false
set_option maxRecDepth 100000
namespace Go.Proofs.Ytohnpealiilikaa
open Go.Abs

/-- one bit of a quotient -/
theorem bit_step {X b t : Nat} (hb : 0 < b) (ht : t ≤ 1) : (b ≤ X % b + X % b + t → (2 * X + t) / b = 2 * (X / b) + 1 ∧ (2 * X + t) % b = X % b + X % b + t - b) ∧ (¬ b ≤ X % b + X % b + t → (2 * X + t) / b = 2 * (X / b) ∧ (2 * X + t) % b = X % b + X % b + t) := by
  have h1 := Nat.div_add_mod X b
  have h2 := Nat.mod_lt X hb
  generalize X / b = q at *
  generalize X % b = r at *
  constructor
  · intro h
    have e : 2 * X + t = (r + r + t - b) + b * (2 * q + 1) := by
      rw [Nat.mul_add, Nat.mul_one, Nat.mul_left_comm]
      omega
    rw [e, Nat.add_mul_div_left _ _ hb, Nat.add_mul_mod_self_left, Nat.div_eq_of_lt (by omega), Nat.mod_eq_of_lt (by omega)]
    omega
  · intro h
    have e : 2 * X + t = (r + r + t) + b * (2 * q) := by
      rw [Nat.mul_left_comm]
      omega
    rw [e, Nat.add_mul_div_left _ _ hb, Nat.add_mul_mod_self_left, Nat.div_eq_of_lt (by omega), Nat.mod_eq_of_lt (by omega)]
    omega

theorem bit_of (a i : Nat) : a / 2 ^ i = 2 * (a / 2 ^ (i + 1)) + a / 2 ^ i % 2 := by
  rw [Nat.pow_succ, ← Nat.div_div_eq_div_mul]
  omega

theorem base_pow (j : Nat) : (4294967296 : Nat) ^ j = 2 ^ (32 * j) := by
  rw [Nat.pow_mul]
theorem base_le {j K : Nat} (h : 32 * j ≤ K) : (4294967296 : Nat) ^ j ≤ 2 ^ K := by
  rw [base_pow]
  exact Nat.pow_le_pow_right (by decide) h
/-- a bit of a digit is a bit of the number -/
theorem bit_at (a n : Nat) : a / 4294967296 ^ (n / 32) % 4294967296 / 2 ^ (n % 32) % 2 = a / 2 ^ n % 2 := by
  have hs : n % 32 < 32 := Nat.mod_lt _ (by decide)
  have hn : n = 32 * (n / 32) + n % 32 := (Nat.div_add_mod n 32).symm
  rw [base_pow]
  generalize n / 32 = j at *
  generalize n % 32 = s at *
  subst hn
  rw [Nat.pow_add, ← Nat.div_div_eq_div_mul]
  generalize a / 2 ^ (32 * j) = X
  have e : 4294967296 = 2 ^ s * (2 * 2 ^ (31 - s)) := by
    have : 2 * 2 ^ (31 - s) = 2 ^ (32 - s) := by rw [Nat.mul_comm, ← Nat.pow_succ]; congr 1; omega
    rw [this, ← Nat.pow_add]
    have : s + (32 - s) = 32 := by omega
    rw [this]
  rw [e, Nat.mod_mul_right_div_self, Nat.mod_mul_right_mod]

/-- a bit is put where a quotient has none yet -/
theorem bit_room (m n : Nat) : m * 2 ^ (n + 1) / 4294967296 ^ (n / 32) % 4294967296 + 2 ^ (n % 32) < 4294967296 ∧ 4294967296 ^ (n / 32) * 2 ^ (n % 32) = 2 ^ n := by
  have hs : n % 32 < 32 := Nat.mod_lt _ (by decide)
  have hn : n = 32 * (n / 32) + n % 32 := (Nat.div_add_mod n 32).symm
  rw [base_pow]
  generalize n / 32 = j at *
  generalize n % 32 = s at *
  subst hn
  constructor
  · have e1 : m * 2 ^ (32 * j + s + 1) = m * 2 ^ (s + 1) * 2 ^ (32 * j) := by rw [Nat.mul_assoc, ← Nat.pow_add]; congr 2; omega
    have e2 : (4294967296 : Nat) = 2 ^ (31 - s) * 2 ^ (s + 1) := by
      rw [← Nat.pow_add]
      have : 31 - s + (s + 1) = 32 := by omega
      rw [this]
    rw [e1, Nat.mul_div_cancel _ (Nat.pow_pos (by decide))]
    have e3 : m * 2 ^ (s + 1) % 4294967296 = m % 2 ^ (31 - s) * 2 ^ (s + 1) := by
      conv => lhs; rw [e2]
      rw [Nat.mul_mod_mul_right]
    have h1 : m % 2 ^ (31 - s) + 1 ≤ 2 ^ (31 - s) := Nat.mod_lt _ (Nat.pow_pos (by decide))
    have h2 : (m % 2 ^ (31 - s) + 1) * 2 ^ (s + 1) ≤ 4294967296 := by
      conv => rhs; rw [e2]
      exact Nat.mul_le_mul_right _ h1
    rw [e3]
    rw [Nat.add_mul, Nat.one_mul, Nat.pow_succ 2 s] at h2
    rw [Nat.pow_succ 2 s]
    have := Nat.pow_pos (n := s) (show 0 < 2 by decide)
    omega
  · rw [← Nat.pow_add]

theorem digit0_put {R t : Nat} (hR : R % 2 = 0) (ht : t ≤ 1) : (digC R).set 0 (.int .u64 ((R % 4294967296 + t : Nat) : Int)) = digC (R + t) :=
  digC_put (by decide) (by omega) (by rw [Nat.pow_zero, Nat.div_one, Nat.one_mul, Nat.one_mul]; omega)

theorem rem2 (x : Nat) : (x : Int).tmod 2 = ((x % 2 : Nat) : Int) := by rw [Int.tmod_eq_emod_of_nonneg (by omega)]; omega
theorem quo32 (x : Nat) : (x : Int).tdiv 32 = ((x / 32 : Nat) : Int) := by rw [Int.tdiv_eq_ediv_of_nonneg (by omega)]; omega
theorem rem32 (x : Nat) : (x : Int).tmod 32 = ((x % 32 : Nat) : Int) := by rw [Int.tmod_eq_emod_of_nonneg (by omega)]; omega

theorem rdiv_loop {h : Heap} {a b : Nat} (hb : 0 < b) (hbl : b < 4294967296 ^ 15) : ∀ (n : Nat) (e : Env), n ≤ 512 →
    e.get 2 = [.sc (.ptr h.length 0 16)] → e.get 3 = [.sc (.ptr (h.length + 1) 0 16)] → e.get 4 = [.sc (.ptr (h.length + 2) 0 16)] → e.get 5 = [.sc (.ptr (h.length + 3) 0 16)] → e.get 6 = [.sc (.int .i64 ((n : Int) - 1))] →
    loopE F O (.loop [2, 3, 4, 5, 6] M.b46_0) e (h ++ [⟨.var, digC a⟩, ⟨.var, digC b⟩, ⟨.var, digC (a / 2 ^ n / b * 2 ^ n)⟩, ⟨.var, digC (a / 2 ^ n % b)⟩]) =
      some (.exit 0, [(2, [.sc (.ptr h.length 0 16)]), (3, [.sc (.ptr (h.length + 1) 0 16)]), (4, [.sc (.ptr (h.length + 2) 0 16)]), (5, [.sc (.ptr (h.length + 3) 0 16)]), (6, [.sc (.int .i64 (-1))]), (8, [.sc (.bool false)])],
        h ++ [⟨.var, digC a⟩, ⟨.var, digC b⟩, ⟨.var, digC (a / b)⟩, ⟨.var, digC (a % b)⟩])
  | 0, e, hn, e2, e3, e4, e5, e6 => by
    rw [Nat.pow_zero, Nat.div_one, Nat.mul_one]
    exact exitM fun R RO RD RT E => by simp [M.b46_0, E.eqs, e2, e3, e4, e5, e6]
  | n + 1, e, hn, e2, e3, e4, e5, e6 => by
    have ih := rdiv_loop (h := h) (a := a) hb hbl n [(2, [.sc (.ptr h.length 0 16)]), (3, [.sc (.ptr (h.length + 1) 0 16)]), (4, [.sc (.ptr (h.length + 2) 0 16)]), (5, [.sc (.ptr (h.length + 3) 0 16)]), (6, [.sc (.int .i64 ((n : Int) - 1))])] (by omega) rfl rfl rfl rfl rfl
    have e6' : e.get 6 = [.sc (.int .i64 (n : Int))] := by rw [e6]; congr 3; omega
    have hn32 : n / 32 < 16 := by omega
    have hj : n / 32 + 1 ≤ 16 := hn32
    obtain ⟨t, ht⟩ : ∃ t, t = a / 2 ^ n % 2 := ⟨_, rfl⟩
    have ht1 : t ≤ 1 := by omega
    have bo := bit_of a n
    rw [← ht] at bo
    have ga := digC_get (N := a) hn32
    have ba := bit_at a n
    rw [← ht] at ba
    obtain ⟨br, br2⟩ := bit_room (a / 2 ^ (n + 1) / b) n
    obtain ⟨p, hp⟩ : ∃ p, p = 2 ^ (n % 32) := ⟨_, rfl⟩
    rw [← hp] at br br2
    obtain ⟨bs1, bs2⟩ := bit_step (X := a / 2 ^ (n + 1)) (b := b) (t := t) hb ht1
    rw [← bo] at bs1 bs2
    have rl : a / 2 ^ (n + 1) % b < b := Nat.mod_lt _ hb
    obtain ⟨x, hx⟩ : ∃ x, x = a / 4294967296 ^ (n / 32) % 4294967296 := ⟨_, rfl⟩
    rw [← hx] at ga ba
    have pc : (2 : Int) ^ (n % 32) = (p : Int) := by rw [hp]; simp
    have sh : (x : Int).fdiv (2 ^ (n % 32)) = ((x / p : Nat) : Int) := by
      rw [pc, Int.fdiv_eq_ediv_of_nonneg _ (by omega), Int.natCast_ediv]
    have rm := rem2 (x / p)
    rw [← hp] at ba
    rw [ba] at rm
    have q32 := quo32 n
    have r32 := rem32 n
    have pn : a / 2 ^ (n + 1) / b * 2 ^ (n + 1) = 2 * (a / 2 ^ (n + 1) / b) * 2 ^ n := by rw [Nat.pow_succ, Nat.mul_comm (2 ^ n) 2, ← Nat.mul_assoc, Nat.mul_comm _ 2]
    have sk : shAmt .u64 ((n % 32 : Nat) : Int) = n % 32 := by simp only [shAmt, IntKind.bits]; omega
    have s32 : n % 32 < 32 := Nat.mod_lt _ (by decide)
    obtain ⟨r, hr⟩ : ∃ r, r = a / 2 ^ (n + 1) % b := ⟨_, rfl⟩
    obtain ⟨q, hq⟩ : ∃ q, q = a / 2 ^ (n + 1) / b * 2 ^ (n + 1) := ⟨_, rfl⟩
    rw [← hr] at bs1 bs2 rl
    have gq := digC_get (N := q) hn32
    rw [← hq] at br
    obtain ⟨d, hd⟩ : ∃ d, d = q / 4294967296 ^ (n / 32) % 4294967296 := ⟨_, rfl⟩
    rw [← hd] at gq br
    have s1 := fun h => spec63 h r r
    have g0 := digC_get (N := r + r) (i := 0) (by decide)
    rw [Nat.pow_zero, Nat.div_one] at g0
    have dp := digit0_put (R := r + r) (t := t) (by omega) ht1
    obtain ⟨z, hz⟩ : ∃ z, z = (r + r) % 4294967296 := ⟨_, rfl⟩
    rw [← hz] at g0 dp
    have g0' : ∀ hh, (digC (r + r))[0]'hh = .int .u64 (z : Int) := fun hh => get_of g0 hh
    have w1 : IntKind.u64.wrap ((z : Int) + t) = ((z + t : Nat) : Int) := by rw [wu64 (by omega) (by omega)]; omega
    have w2 : IntKind.u64.wrap (n : Int) = n := wu64n (by omega)
    have w3 : IntKind.i64.wrap ((n / 32 : Nat) : Int) = ((n / 32 : Nat) : Int) := wi64 (by omega) (by omega)
    have w4 : IntKind.i64.wrap ((n : Int) - 1) = (n : Int) - 1 := wi64 (by omega) (by omega)
    have w5 : IntKind.u64.wrap ((2 : Int) ^ (n % 32)) = (p : Int) := by rw [pc]; exact wu64n (by omega)
    have w6 : IntKind.u64.wrap ((d : Int) + p) = ((d + p : Nat) : Int) := by rw [wu64 (by omega) (by omega)]; omega
    have w7 : IntKind.u64.wrap ((n % 32 : Nat) : Int) = ((n % 32 : Nat) : Int) := wu64n (by omega)
    have w8 := wu64n (n := t) (by omega)
    have c0 : (0 : Int) ≤ (n : Int) := by omega
    have bl := blt_of hn32
    have big : (4294967296 : Nat) ^ 16 = 4294967296 ^ 15 * 4294967296 := Nat.pow_succ 4294967296 15
    have rtl : r + r + t < 4294967296 ^ 16 := by rw [big]; omega
    have s2 := fun h => spec64 h (a := r + r + t) (b := b) rtl (by rw [big]; omega)
    have nn : ¬ ((n % 32 : Nat) : Int) < 0 := by omega
    by_cases hc : b ≤ r + r + t
    · obtain ⟨f1, f2⟩ := bs1 hc
      have f3 : q + 2 ^ n = a / 2 ^ n / b * 2 ^ n := by rw [f1, hq, pn, Nat.add_mul, Nat.one_mul]
      have qp : (digC q).set (n / 32) (.int .u64 ((d + p : Nat) : Int)) = digC (q + 2 ^ n) := digC_put hn32 br (by rw [Nat.mul_add, ← hd, br2]; omega)
      rw [f3] at qp
      have s3 := fun h => spec65 h (a := r + r + t) (b := b) rtl hc
      rw [← f2] at s3
      have ci : (0 : Int) ≤ (if r + r + t = b then 0 else if r + r + t < b then -1 else 1) := by split <;> (try split) <;> omega
      rw [← hr, ← hq]
      refine stepM (fun R RO RD RT E => ?_) ih
      clear ih f3 br br2 bs1 bs2 f1 f2 pn hq hr hd hz bo ba ht hx rtl big hbl hb hc rl pc hp
      generalize a / 2 ^ n / b * 2 ^ n = q' at *
      generalize a / 2 ^ n % b = r' at *
      generalize n / 32 = j at *
      generalize x / p = xp at *
      generalize z + t = zt at *
      generalize d + p = dd at *
      generalize n % 32 = s at *
      generalize (if r + r + t = b then (0 : Int) else if r + r + t < b then -1 else 1) = cc at *
      simp [M.b46_0, E.eqs, e2, e3, e4, e5, e6', c0, freshB, loadA, storeA, s1, g0, g0', w1, w2, w3, w4, w5, w6, w7, w8, q32, r32, rm, sh, sk, nn, bl, hj, ga, dp, s2, ci, s3, gq, qp]
    · obtain ⟨f1, f2⟩ := bs2 hc
      have f3 : q = a / 2 ^ n / b * 2 ^ n := by rw [f1, hq, pn]
      have ci : ¬ (0 : Int) ≤ (if r + r + t = b then 0 else if r + r + t < b then -1 else 1) := by
        rw [if_neg (by omega), if_pos (by omega)]; omega
      rw [← f3, f2] at ih
      rw [← hr, ← hq]
      refine stepM (fun R RO RD RT E => ?_) ih
      clear ih f3 br br2 bs1 bs2 f1 f2 pn hq hr hd hz bo ba ht hx rtl big hbl hb hc rl pc hp
      generalize n / 32 = j at *
      generalize x / p = xp at *
      generalize z + t = zt at *
      generalize d + p = dd at *
      generalize n % 32 = s at *
      generalize (if r + r + t = b then (0 : Int) else if r + r + t < b then -1 else 1) = cc at *
      simp [M.b46_0, E.eqs, e2, e3, e4, e5, e6', c0, freshB, loadA, storeA, s1, g0, g0', w1, w2, w3, w4, w5, w6, w7, w8, q32, r32, rm, sh, sk, nn, bl, hj, ga, dp, s2, ci]

theorem spec46 (h : Heap) {a b : Nat} (hb : 0 < b) (hbl : b < 4294967296 ^ 15) (ha : a < 4294967296 ^ 16) : call 46 [[.agg (digC a)], [.agg (digC b)]] h = some ([.agg (digC (a / b)), .agg (digC (a % b))], h) := by
  obtain ⟨K, hK⟩ : ∃ K : Nat, K = 512 := ⟨_, rfl⟩
  have lo := rdiv_loop (h := h) (a := a) hb hbl K [(2, [.sc (.ptr h.length 0 16)]), (3, [.sc (.ptr (h.length + 1) 0 16)]), (4, [.sc (.ptr (h.length + 2) 0 16)]), (5, [.sc (.ptr (h.length + 3) 0 16)]), (6, [.sc (.int .i64 ((K : Int) - 1))])] (by omega) rfl rfl rfl rfl rfl
  have k1 : (K : Int) - 1 = 511 := by omega
  have k2 : 32 * 16 ≤ K := by omega
  have e1 : a / 2 ^ K = 0 := Nat.div_eq_of_lt (Nat.lt_of_lt_of_le ha (base_le k2))
  rw [e1, Nat.zero_div, Nat.zero_mul, Nat.zero_mod, k1] at lo
  have lo := loop_run lo
  refine callX rfl (by rfl : F 46 = some M.a46) (fun R RO RD RT E => ?_)
  have lo := E.run lo
  generalize a / b = q at *
  generalize a % b = r at *
  simp [M.a46, E.eqs, zeros_digC, lo, freshB, loadA, storeA, trim_pure, pureT, pureV]
end Go.Proofs.Ytohnpealiilikaa
