/- Chapter 2: a quotient by a number of two digits, bit by bit. -/
import Derived.Test.YtohnpealiilikaaNA
import Derived.Test.YtohnpealiilikaaN6
set_option linter.unusedVariables false
set_option linter.unusedSimpArgs false
set_option maxRecDepth 100000
namespace Go.Proofs.Ytohnpealiilikaa
open Go.Abs

/-- one round of a division by shifted divisors -/
theorem shift_round {A B m r k : Nat} (hA : A = m * 2 ^ (k + 1) * B + r) (hr : r < B * 2 ^ (k + 1)) :
    (B * 2 ^ k ≤ r → (2 ^ k ||| m * 2 ^ (k + 1)) = (2 * m + 1) * 2 ^ k ∧ A = (2 * m + 1) * 2 ^ k * B + (r - B * 2 ^ k) ∧ r - B * 2 ^ k < B * 2 ^ k) ∧
    (¬ B * 2 ^ k ≤ r → A = 2 * m * 2 ^ k * B + r ∧ m * 2 ^ (k + 1) = 2 * m * 2 ^ k) := by
  have hp : m * 2 ^ (k + 1) = 2 * m * 2 ^ k := by rw [Nat.pow_succ, Nat.mul_comm (2 ^ k) 2, ← Nat.mul_assoc, Nat.mul_comm m 2]
  have hB : B * 2 ^ (k + 1) = B * 2 ^ k + B * 2 ^ k := by rw [Nat.pow_succ, ← Nat.mul_assoc]; omega
  have hsum : (2 * m + 1) * 2 ^ k = 2 * m * 2 ^ k + 2 ^ k := by rw [Nat.add_mul, Nat.one_mul]
  refine ⟨fun h => ⟨?_, ?_, by omega⟩, fun h => ⟨by rw [← hp]; exact hA, hp⟩⟩
  · rw [or_add (Nat.pow_lt_pow_right (by decide) (Nat.lt_succ_self k)), hp, hsum, Nat.add_comm]
  · rw [hsum, Nat.add_mul, Nat.mul_comm (2 ^ k) B, ← hp]
    omega

theorem two_cmp {r rh rl sh sl S : Nat} (hr : r = rh * 18446744073709551616 + rl) (hS : sh * 18446744073709551616 + sl = S) (h1 : rl < 18446744073709551616) (h2 : sl < 18446744073709551616) : S ≤ r ↔ (sh < rh ∨ ¬ sh < rh ∧ rh = sh ∧ sl ≤ rl) := by omega

theorem two_sub {r rh rl sh sl S : Nat} (hr : r = rh * 18446744073709551616 + rl) (hS : sh * 18446744073709551616 + sl = S) (h1 : rl < 18446744073709551616) (h2 : sl < 18446744073709551616) (h3 : rh < 18446744073709551616) (h4 : sh < 18446744073709551616) (hle : S ≤ r) :
    cHi true rl sl 0 ≤ 1 ∧ r - S = cLo true rh sh (cHi true rl sl 0) * 18446744073709551616 + cLo true rl sl 0 ∧ cLo true rl sl 0 < 18446744073709551616 ∧ cLo true rh sh (cHi true rl sl 0) < 18446744073709551616 := by
  have k2 := cHi_sub rl sl 0
  have k1 := cLo_sub rl sl 0
  have k3 := cLo_sub rh sh (cHi true rl sl 0)
  split at k2 <;> rw [k2] at k3 <;> rw [k2] <;> omega

theorem w64p {k : Nat} (hk : k ≤ 63) : IntKind.u64.wrap ((2 : Int) ^ k) = (((2 : Nat) ^ k : Nat) : Int) := by
  have h1 : (2 : Nat) ^ k ≤ 2 ^ 63 := Nat.pow_le_pow_right (by decide) hk
  have h2 : (2 : Nat) ^ 63 = 9223372036854775808 := by decide
  rw [← wn64 (n := 2 ^ k) (by omega)]
  simp
theorem shr_two {l k : Nat} (hk : k ≤ 63) : ((l : Int).fdiv 2).fdiv (2 ^ (63 - k)) = ((l / 2 ^ (64 - k) : Nat) : Int) := by
  have h1 : (l : Int).fdiv 2 = ((l / 2 : Nat) : Int) := fdivP l 1
  rw [h1, fdivP, Nat.div_div_eq_div_mul]
  congr 2
  rw [Nat.mul_comm, ← Nat.pow_succ]
  congr 1
  omega

theorem wdiv_loop {hh : Heap} {A B bh bl K : Nat} {t2 t3 t4 t5 t11 : TV} (hB : B = bh * 18446744073709551616 + bl) (hbl : bl < 18446744073709551616) (hA : A < 340282366920938463463374607431768211456) (hb0 : 0 < bh) (hK : K ≤ 63) (hlz : bh * 2 ^ K < 18446744073709551616) : ∀ (n m r : Nat) (e : Env), n ≤ K + 1 → A = m * 2 ^ n * B + r → r < B * 2 ^ n →
    e.get 2 = t2 → e.get 3 = t3 → e.get 4 = t4 → e.get 5 = t5 → e.get 9 = [.sc (.int .u64 bh)] → e.get 10 = [.sc (.int .u64 bl)] → e.get 11 = t11 → e.get 12 = [.sc (.int .u64 (m * 2 ^ n : Nat))] → e.get 13 = [.sc (.int .u64 (r / 18446744073709551616 : Nat))] → e.get 14 = [.sc (.int .u64 (r % 18446744073709551616 : Nat))] → e.get 15 = [.sc (.int .i64 ((n : Int) - 1))] →
    ∃ e', loopE F O (.loop [2, 3, 4, 5, 9, 10, 11, 12, 13, 14, 15] M.b14_0) e hh = some (.exit 0, e', hh) ∧ e'.get 2 = t2 ∧ e'.get 3 = t3 ∧ e'.get 4 = t4 ∧ e'.get 5 = t5 ∧ e'.get 11 = t11 ∧ e'.get 12 = [.sc (.int .u64 (A / B : Nat))] ∧ e'.get 13 = [.sc (.int .u64 (A % B / 18446744073709551616 : Nat))] ∧ e'.get 14 = [.sc (.int .u64 (A % B % 18446744073709551616 : Nat))]
  | 0, m, r, e, hn, hm, hr, e2, e3, e4, e5, e9, e10, e11, e12, e13, e14, e15 => by
    rw [Nat.pow_zero, Nat.mul_one] at hm hr
    have q1 : A / B = m := by rw [hm, Nat.add_comm, Nat.add_mul_div_right _ _ (by omega), Nat.div_eq_of_lt hr, Nat.zero_add]
    have q2 : A % B = r := by rw [hm, Nat.add_comm, Nat.add_mul_mod_self_right, Nat.mod_eq_of_lt hr]
    rw [Nat.pow_zero, Nat.mul_one] at e12
    rw [q1, q2]
    refine ⟨[(2, t2), (3, t3), (4, t4), (5, t5), (9, [.sc (.int .u64 bh)]), (10, [.sc (.int .u64 bl)]), (11, t11), (12, [.sc (.int .u64 m)]), (13, [.sc (.int .u64 (r / 18446744073709551616 : Nat))]), (14, [.sc (.int .u64 (r % 18446744073709551616 : Nat))]), (15, [.sc (.int .i64 (-1))]), (53, [.sc (.bool false)])], exitM fun R RO RD RT E => ?_, rfl, rfl, rfl, rfl, rfl, rfl, rfl, rfl⟩
    have e15' : e.get 15 = [.sc (.int .i64 (-1))] := by rw [e15]; rfl
    clear hm hr q1 q2 hlz hA hB e15
    generalize r / 18446744073709551616 = x1 at *
    generalize r % 18446744073709551616 = x2 at *
    simp [M.b14_0, E.eqs, e2, e3, e4, e5, e9, e10, e11, e12, e13, e14, e15']
  | n + 1, m, r, e, hn, hm, hr, e2, e3, e4, e5, e9, e10, e11, e12, e13, e14, e15 => by
    have e15' : e.get 15 = [.sc (.int .i64 (n : Int))] := by rw [e15]; congr 3; omega
    have hn63 : n ≤ 63 := by omega
    obtain ⟨sr1, sr2⟩ := shift_round hm hr
    have ns := norm_split (hi := bh) (lo := bl) hn63
    rw [← hB] at ns
    have hp : 0 < 2 ^ n := Nat.pow_pos (by decide)
    have x1l : bh * 2 ^ n < 18446744073709551616 := Nat.lt_of_le_of_lt (Nat.mul_le_mul_left _ (Nat.pow_le_pow_right (by decide) (by omega : n ≤ K))) hlz
    obtain ⟨_, hC⟩ := high_lt (hi := 0) (y := 1) (by decide) hbl hn63
    have p2 : IntKind.u64.wrap ((bh : Int) * 2 ^ n) = ((bh * 2 ^ n : Nat) : Int) := by
      have : ((bh * 2 ^ n : Nat) : Int) = (bh : Int) * 2 ^ n := by simp
      rw [← this]
      exact wn64 x1l
    have p3 := shr_two (l := bl) hn63
    have hCl : bl / 2 ^ (64 - n) < 18446744073709551616 := Nat.lt_of_le_of_lt (Nat.div_le_self _ _) hbl
    obtain ⟨sh, hsh⟩ : ∃ sh, sh = bh * 2 ^ n + bl / 2 ^ (64 - n) := ⟨_, rfl⟩
    obtain ⟨sl, hsl⟩ : ∃ sl, sl = bl * 2 ^ n % 18446744073709551616 := ⟨_, rfl⟩
    have p4 : bitop .or .u64 ((bh * 2 ^ n : Nat) : Int) ((bl / 2 ^ (64 - n) : Nat) : Int) = (sh : Int) := by
      rw [or_u64 x1l hCl, Nat.or_comm, or_add hC, hsh, Nat.add_comm]
    have shl : sh < 18446744073709551616 := by
      have h1 : (bh * 2 ^ n ||| bl / 2 ^ (64 - n)) < 2 ^ 64 := Nat.or_lt_two_pow x1l hCl
      rw [Nat.or_comm, or_add hC, Nat.add_comm, ← hsh] at h1
      exact h1
    have sll : sl < 18446744073709551616 := by rw [hsl]; exact Nat.mod_lt _ (by decide)
    have p5 : IntKind.u64.wrap ((bl : Int) * 2 ^ n) = (sl : Int) := by
      have : ((bl * 2 ^ n : Nat) : Int) = (bl : Int) * 2 ^ n := by simp
      rw [← this, wu64', hsl]
      omega
    rw [← hsh, ← hsl] at ns
    obtain ⟨rh, hrh⟩ : ∃ rh, rh = r / 18446744073709551616 := ⟨_, rfl⟩
    obtain ⟨rl, hrl⟩ : ∃ rl, rl = r % 18446744073709551616 := ⟨_, rfl⟩
    have hrs : r = rh * 18446744073709551616 + rl := by rw [hrh, hrl]; omega
    have hrA : r ≤ A := by rw [hm]; exact Nat.le_add_left _ _
    have rhl : rh < 18446744073709551616 := by omega
    have rll : rl < 18446744073709551616 := by omega
    rw [← hrh] at e13
    rw [← hrl] at e14
    have tc := two_cmp hrs ns rll sll
    have sk1 : shAmt .u64 1 = 1 := by simp [shAmt, IntKind.bits]
    have sk2 : shAmt .u64 (n : Int) = n := by simp only [shAmt, IntKind.bits]; omega
    have w1 : IntKind.i64.wrap (63 - (n : Int)) = ((63 - n : Nat) : Int) := by rw [wi64 (by omega) (by omega)]; omega
    have w2 : IntKind.i64.wrap ((n : Int) - 1) = (n : Int) - 1 := wi64 (by omega) (by omega)
    have sk3 : shAmt .u64 ((63 - n : Nat) : Int) = 63 - n := by simp only [shAmt, IntKind.bits]; omega
    have n1 : ¬ (n : Int) < 0 := by omega
    have n2 : ¬ ((63 - n : Nat) : Int) < 0 := by omega
    have c0 : (0 : Int) ≤ (n : Int) := by omega
    have w3 := w64p hn63
    have hqB : m * 2 ^ (n + 1) < 18446744073709551616 := by
      have h1 : m * 2 ^ (n + 1) * B ≤ A := by rw [hm]; exact Nat.le_add_right _ _
      have h2 : m * 2 ^ (n + 1) * 18446744073709551616 ≤ m * 2 ^ (n + 1) * B := Nat.mul_le_mul_left _ (by omega)
      generalize m * 2 ^ (n + 1) = Q at *
      omega
    have hpl : 2 ^ n < 18446744073709551616 := by
      have h1 : (2 : Nat) ^ n ≤ 2 ^ 63 := Nat.pow_le_pow_right (by decide) hn63
      have h2 : (2 : Nat) ^ 63 = 9223372036854775808 := by decide
      omega
    have p6 := or_u64 hqB hpl
    rw [Nat.or_comm] at p6
    by_cases hc : B * 2 ^ n ≤ r
    · obtain ⟨s1, s2, s3⟩ := sr1 hc
      rw [s1] at p6
      obtain ⟨b1, b2, b3, b4⟩ := two_sub hrs ns rll sll rhl shl hc
      obtain ⟨e', ih, f⟩ := wdiv_loop (hh := hh) (t2 := t2) (t3 := t3) (t4 := t4) (t5 := t5) (t11 := t11) hB hbl hA hb0 hK hlz n (2 * m + 1) (r - B * 2 ^ n) [(2, t2), (3, t3), (4, t4), (5, t5), (9, [.sc (.int .u64 bh)]), (10, [.sc (.int .u64 bl)]), (11, t11), (12, [.sc (.int .u64 ((2 * m + 1) * 2 ^ n : Nat))]), (13, [.sc (.int .u64 ((r - B * 2 ^ n) / 18446744073709551616 : Nat))]), (14, [.sc (.int .u64 ((r - B * 2 ^ n) % 18446744073709551616 : Nat))]), (15, [.sc (.int .i64 ((n : Int) - 1))])] (by omega) s2 s3 rfl rfl rfl rfl rfl rfl rfl rfl rfl rfl rfl
      refine ⟨e', stepM (fun R RO RD RT E => ?_) ih, f⟩
      have g1 : (r - B * 2 ^ n) / 18446744073709551616 = cLo true rh sh (cHi true rl sl 0) := by rw [b2]; omega
      have g2 : (r - B * 2 ^ n) % 18446744073709551616 = cLo true rl sl 0 := by rw [b2]; omega
      rw [g1, g2]
      have tc2 := tc.1 hc
      clear tc
      clear sr1 sr2 s1 s2 s3 hm hr hrs hrA hrh hrl hqB hpl b2 ns hsh hsl x1l hC hCl hlz hA ih f g1 g2 hB
      generalize bh * 2 ^ n = X1 at *
      generalize bl / 2 ^ (64 - n) = X2 at *
      generalize 63 - n = n' at *
      generalize m * 2 ^ (n + 1) = q0 at *
      generalize (2 * m + 1) * 2 ^ n = q1 at *
      generalize hcl : cLo true rl sl 0 = cl at *
      generalize hch : cHi true rl sl 0 = ch at *
      generalize (2 : Nat) ^ n = pn at *
      have p6 := p6
      rcases tc2 with c1 | ⟨c1, c2, c3⟩
      · simp [M.b14_0, E.eqs, e2, e3, e4, e5, e9, e10, e11, e12, e13, e14, e15', c0, n1, n2, sk1, sk2, sk3, w1, w2, w3, p2, p3, p4, p5, p6, c1, hcl, hch, b1]
      · simp [M.b14_0, E.eqs, e2, e3, e4, e5, e9, e10, e11, e12, e13, e14, e15', c0, n1, n2, sk1, sk2, sk3, w1, w2, w3, p2, p3, p4, p5, p6, c1, c2, c3, hcl, hch, b1]
        try simp_all
    · obtain ⟨s1, s2⟩ := sr2 hc
      obtain ⟨e', ih, f⟩ := wdiv_loop (hh := hh) (t2 := t2) (t3 := t3) (t4 := t4) (t5 := t5) (t11 := t11) hB hbl hA hb0 hK hlz n (2 * m) r [(2, t2), (3, t3), (4, t4), (5, t5), (9, [.sc (.int .u64 bh)]), (10, [.sc (.int .u64 bl)]), (11, t11), (12, [.sc (.int .u64 (2 * m * 2 ^ n : Nat))]), (13, [.sc (.int .u64 (r / 18446744073709551616 : Nat))]), (14, [.sc (.int .u64 (r % 18446744073709551616 : Nat))]), (15, [.sc (.int .i64 ((n : Int) - 1))])] (by omega) s1 (by omega) rfl rfl rfl rfl rfl rfl rfl rfl rfl rfl rfl
      refine ⟨e', stepM (fun R RO RD RT E => ?_) ih, f⟩
      rw [← hrh, ← hrl, ← s2]
      have c1 : ¬ sh < rh := fun h => hc (tc.2 (.inl h))
      have tc2 : ¬ (rh = sh ∧ sl ≤ rl) := fun ⟨h1, h2⟩ => hc (tc.2 (.inr ⟨c1, h1, h2⟩))
      clear tc sr1 sr2 s1 s2 hm hr hrs hrA hrh hrl hqB hpl ns hsh hsl x1l hC hCl hlz hA ih f p6 hB
      generalize bh * 2 ^ n = X1 at *
      generalize bl / 2 ^ (64 - n) = X2 at *
      generalize 63 - n = n' at *
      generalize m * 2 ^ (n + 1) = q0 at *
      by_cases c2 : rh = sh
      · have c3 : ¬ sl ≤ rl := fun h => tc2 ⟨c2, h⟩
        subst c2
        simp [M.b14_0, E.eqs, e2, e3, e4, e5, e9, e10, e11, e12, e13, e14, e15', c0, n1, n2, sk1, sk2, sk3, w1, w2, w3, p2, p3, p4, p5, c3]
      · simp [M.b14_0, E.eqs, e2, e3, e4, e5, e9, e10, e11, e12, e13, e14, e15', c0, n1, n2, sk1, sk2, sk3, w1, w2, w3, p2, p3, p4, p5, c1, c2]
end Go.Proofs.Ytohnpealiilikaa
