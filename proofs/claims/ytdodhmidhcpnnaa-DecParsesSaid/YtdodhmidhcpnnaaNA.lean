/- bits.Div64: the walk. -/
import Derived.Test.YtdodhmidhcpnnaaN9
set_option linter.unusedVariables false
set_option linter.unusedSimpArgs false
set_option maxRecDepth 100000
namespace Go.Proofs.Ytdodhmidhcpnnaa
open Go.Abs

theorem knuth_total {X B w v : Nat} (hv : 0 < v) : (X * B + w) / v = X / v * B + (X % v * B + w) / v ∧ (X * B + w) % v = (X % v * B + w) % v := by
  have h1 : X * B + w = (X % v * B + w) + v * (X / v * B) := by
    have h2 : X * B = (X % v + v * (X / v)) * B := by rw [Nat.mod_add_div]
    rw [h2, Nat.add_mul, Nat.mul_assoc]
    omega
  constructor
  · rw [h1, Nat.add_mul_div_left _ _ hv]
    omega
  · rw [h1, Nat.add_mul_mod_self_left]

theorem norm_split {hi lo k : Nat} (hk : k ≤ 63) : (hi * 2 ^ k + lo / 2 ^ (64 - k)) * 18446744073709551616 + lo * 2 ^ k % 18446744073709551616 = (hi * 18446744073709551616 + lo) * 2 ^ k := by
  have h1 : lo * 2 ^ k / 18446744073709551616 = lo / 2 ^ (64 - k) := by
    have e : 18446744073709551616 = 2 ^ (64 - k) * 2 ^ k := by rw [← Nat.pow_add, Nat.sub_add_cancel (by omega)]
    rw [e, Nat.mul_div_mul_right _ _ (Nat.pow_pos (by decide))]
  have h2 := Nat.div_add_mod (lo * 2 ^ k) 18446744073709551616
  rw [h1] at h2
  rw [Nat.add_mul, Nat.add_mul, Nat.mul_right_comm hi, Nat.add_assoc]
  refine congrArg (hi * 18446744073709551616 * 2 ^ k + ·) ?_
  rw [Nat.mul_comm (lo / 2 ^ (64 - k))]
  exact h2

theorem pow_split {k : Nat} (hk : k ≤ 63) : 2 ^ k * 2 ^ (64 - k) = 18446744073709551616 := by
  rw [← Nat.pow_add]
  have e : k + (64 - k) = 64 := by omega
  have e2 : (2 : Nat) ^ (k + (64 - k)) = 2 ^ 64 := by rw [e]
  exact e2.trans (by decide)

theorem high_lt {hi lo y k : Nat} (h1 : hi < y) (hlo : lo < 18446744073709551616) (hk : k ≤ 63) : hi * 2 ^ k + lo / 2 ^ (64 - k) < y * 2 ^ k ∧ lo / 2 ^ (64 - k) < 2 ^ k := by
  have h2 : lo / 2 ^ (64 - k) < 2 ^ k := by
    rw [Nat.div_lt_iff_lt_mul (Nat.pow_pos (by decide)), pow_split hk]
    exact hlo
  have h3 : (hi + 1) * 2 ^ k ≤ y * 2 ^ k := Nat.mul_le_mul_right _ h1
  rw [Nat.add_mul, Nat.one_mul] at h3
  exact ⟨Nat.lt_of_lt_of_le (Nat.add_lt_add_left h2 _) h3, h2⟩

theorem rest_nat {u w q v : Nat} (h1 : u < 18446744073709551616) (hw : w < 4294967296) (hv : v < 18446744073709551616) (hv0 : 0 < v) (hq : q = (u * 4294967296 + w) / v) (hql : q < 4294967296) :
    IntKind.u64.wrap (IntKind.u64.wrap (IntKind.u64.wrap ((u : Int) * 4294967296) + w) - IntKind.u64.wrap ((q : Int) * v)) = (((u * 4294967296 + w) % v : Nat) : Int) := by
  have h2 := Nat.div_add_mod (u * 4294967296 + w) v
  rw [← hq] at h2
  have h3 := Nat.mod_lt (u * 4294967296 + w) hv0
  have h4 : ((q * v : Nat) : Int) = (q : Int) * v := Int.natCast_mul _ _
  rw [Nat.mul_comm] at h2
  generalize q * v = Y at *
  generalize (u * 4294967296 + w) % v = r at *
  rw [wu64', wu64', wu64', wu64', ← h4]
  omega

theorem guess_init {u v1 : Nat} (hp : 0 < v1) : u = u / v1 * v1 + u % v1 := by
  have := Nat.div_add_mod u v1
  rw [Nat.mul_comm] at this
  exact this.symm

theorem sub_guess {u v1 : Nat} (hu : u < 18446744073709551616) (hp : 0 < v1) : IntKind.u64.wrap ((u : Int) - IntKind.u64.wrap (((u / v1 : Nat) : Int) * v1)) = ((u % v1 : Nat) : Int) := by
  have h1 := guess_init (u := u) hp
  have h2 : ((u / v1 * v1 : Nat) : Int) = ((u / v1 : Nat) : Int) * v1 := Int.natCast_mul _ _
  rw [← h2, wn64 (by omega), wu64 (by omega) (by omega)]
  omega
theorem quo_guess {u v1 : Nat} (hu : u < 18446744073709551616) : IntKind.u64.wrap ((u : Int).tdiv v1) = ((u / v1 : Nat) : Int) := by
  rw [Int.tdiv_eq_ediv_of_nonneg (by omega), ← Int.natCast_ediv]
  exact wn64 (Nat.lt_of_le_of_lt (Nat.div_le_self _ _) hu)
theorem quo_guess' {u v1 : Nat} (hu : u < 18446744073709551616) : IntKind.u64.wrap ((u : Int) / v1) = ((u / v1 : Nat) : Int) := by
  rw [← Int.natCast_ediv]
  exact wn64 (Nat.lt_of_le_of_lt (Nat.div_le_self _ _) hu)

theorem join32 {a b : Nat} (ha : a < 4294967296) (hb : b < 4294967296) : IntKind.u64.wrap (IntKind.u64.wrap ((a : Int) * 4294967296) + b) = ((a * 4294967296 + b : Nat) : Int) := by
  rw [wu64 (n := (a : Int) * 4294967296) (by omega) (by omega), wu64 (by omega) (by omega)]
  omega

theorem two_digits (u t : Nat) : (u * 4294967296 + t / 4294967296) * 4294967296 + t % 4294967296 = u * 18446744073709551616 + t := by omega

theorem split32 (v : Nat) : v = v / 4294967296 * 4294967296 + v % 4294967296 := by omega

set_option maxHeartbeats 2000000 in
theorem div64_aux (h : Heap) {hi lo y N QQ RR : Nat} (hy : hi < y) (hy64 : y < 18446744073709551616) (hlo : lo < 18446744073709551616) (hNN : hi * 18446744073709551616 + lo = N) (hQQ : N / y = QQ) (hRR : N % y = RR) :
    call 91 [[.sc (.int .u64 hi)], [.sc (.int .u64 lo)], [.sc (.int .u64 y)]] h = some ([.sc (.int .u64 QQ), .sc (.int .u64 RR)], h) := by
  have c1 : ¬ (y : Int) = 0 := by omega
  have c2 : ¬ (y : Int) ≤ hi := by omega
  refine callX rfl (by rfl : F 91 = some M.a91) (fun R RO RD RT E => ?_)
  by_cases h0 : hi = 0
  · subst h0
    have hN0 : lo = N := by omega
    subst hN0
    have d1 : IntKind.u64.wrap ((lo : Int).tdiv y) = ((lo / y : Nat) : Int) := by
      rw [Int.tdiv_eq_ediv_of_nonneg (by omega), ← Int.natCast_ediv]
      exact wn64 (Nat.lt_of_le_of_lt (Nat.div_le_self _ _) hlo)
    have d2 : (lo : Int).tmod y = ((lo % y : Nat) : Int) := by rw [Int.tmod_eq_emod_of_nonneg (by omega), ← Int.natCast_emod]
    have d3 : IntKind.u64.wrap ((lo : Int) / y) = ((lo / y : Nat) : Int) := by
      rw [← Int.natCast_ediv]
      exact wn64 (Nat.lt_of_le_of_lt (Nat.div_le_self _ _) hlo)
    have d4 : (lo : Int) % y = ((lo % y : Nat) : Int) := (Int.natCast_emod _ _).symm
    have c3 : ¬ y = 0 := by omega
    rw [hQQ] at d1 d3
    rw [hRR] at d2 d4
    simp [M.a91, E.eqs, c1, c2, c3, d1, d2, d3, d4]
  · obtain ⟨k, e1, hk, k1, k2⟩ := spec92 h hy64 (by omega)
    obtain ⟨u1, u2⟩ := high_lt hy hlo hk
    have ns := norm_split (hi := hi) (lo := lo) hk
    -- the names of the parts
    obtain ⟨v, hv⟩ : ∃ v, v = y * 2 ^ k := ⟨_, rfl⟩
    obtain ⟨u, hu⟩ : ∃ u, u = hi * 2 ^ k + lo / 2 ^ (64 - k) := ⟨_, rfl⟩
    obtain ⟨t, ht⟩ : ∃ t, t = lo * 2 ^ k % 18446744073709551616 := ⟨_, rfl⟩
    have hp : 0 < 2 ^ k := Nat.pow_pos (by decide)
    have k64 : (2 : Nat) ^ 64 = 18446744073709551616 := by decide
    have k63 : (2 : Nat) ^ 63 = 9223372036854775808 := by decide
    rw [k63, ← hv] at k1
    rw [k64, ← hv] at k2
    rw [← hu, ← hv] at u1
    rw [← hu, ← ht, hNN] at ns
    have t64 : t < 18446744073709551616 := by rw [ht]; exact Nat.mod_lt _ (by decide)
    have p1 : IntKind.u64.wrap ((y : Int) * 2 ^ k) = (v : Int) := by
      have : ((y * 2 ^ k : Nat) : Int) = (y : Int) * 2 ^ k := by simp
      rw [← this, ← hv]
      exact wn64 k2
    have hul : u < 18446744073709551616 := Nat.lt_trans u1 k2
    have hA : hi * 2 ^ k < 18446744073709551616 := Nat.lt_of_le_of_lt (by rw [hu]; exact Nat.le_add_right _ _) hul
    have hC : lo / 2 ^ (64 - k) < 18446744073709551616 := Nat.lt_of_le_of_lt (Nat.div_le_self _ _) hlo
    have p2 : IntKind.u64.wrap ((hi : Int) * 2 ^ k) = ((hi * 2 ^ k : Nat) : Int) := by
      have : ((hi * 2 ^ k : Nat) : Int) = (hi : Int) * 2 ^ k := by simp
      rw [← this]
      exact wn64 hA
    have p3 : (lo : Int).fdiv (2 ^ (64 - k)) = ((lo / 2 ^ (64 - k) : Nat) : Int) := fdivP lo (64 - k)
    have p4 : bitop .or .u64 ((hi * 2 ^ k : Nat) : Int) ((lo / 2 ^ (64 - k) : Nat) : Int) = (u : Int) := by
      rw [or_u64 hA hC, Nat.or_comm, or_add u2, hu, Nat.add_comm]
    have p5 : IntKind.u64.wrap ((lo : Int) * 2 ^ k) = (t : Int) := by
      have : ((lo * 2 ^ k : Nat) : Int) = (lo : Int) * 2 ^ k := by simp
      rw [← this, wu64', ht]
      omega
    have wk : IntKind.u64.wrap (k : Int) = k := wn64 (by omega)
    have wk2 : IntKind.u64.wrap (64 - (k : Int)) = ((64 - k : Nat) : Int) := by rw [wu64 (by omega) (by omega)]; omega
    have sk : shAmt .u64 (k : Int) = k := by simp only [shAmt, IntKind.bits]; omega
    have sk2 : shAmt .u64 ((64 - k : Nat) : Int) = 64 - k := by simp only [shAmt, IntKind.bits]; omega
    generalize hi * 2 ^ k = A at *
    generalize lo / 2 ^ (64 - k) = C at *
    obtain ⟨v1, hv1⟩ : ∃ v1, v1 = v / 4294967296 := ⟨_, rfl⟩
    obtain ⟨v0, hv0⟩ : ∃ v0, v0 = v % 4294967296 := ⟨_, rfl⟩
    obtain ⟨t1, ht1⟩ : ∃ t1, t1 = t / 4294967296 := ⟨_, rfl⟩
    obtain ⟨t0, ht0⟩ : ∃ t0, t0 = t % 4294967296 := ⟨_, rfl⟩
    have vs : v = v1 * 4294967296 + v0 := by rw [hv1, hv0]; exact split32 v
    have v1l : v1 < 4294967296 := by omega
    have v0l : v0 < 4294967296 := by omega
    have v1B : 4294967296 ≤ 2 * v1 := by omega
    have t1l : t1 < 4294967296 := by omega
    have t0l : t0 < 4294967296 := by omega
    -- the first digit
    have hvp : 0 < v := by omega
    have i1 := guess_init (u := u) (v1 := v1) (by omega)
    obtain ⟨l1, l2⟩ := guess_bound (B := 4294967296) (w := t1) v1B v1l v0l (by omega : u < v1 * 4294967296 + v0) t1l
    have r1l : u % v1 < 4294967296 := Nat.lt_trans (Nat.mod_lt _ (by omega)) v1l
    obtain ⟨e', lo1, f2, f8, f9, f10, f11, f13, f14, f15⟩ := guess1 (h := h) (v1 := v1) (v0 := v0) (u := u) (w := t1) (t2 := [.sc (.int .u64 v)]) (t8 := [.sc (.int .u64 k)]) (t11 := [.sc (.int .u64 u)]) (t14 := [.sc (.int .u64 t0)]) v1l v0l v1B (by omega) t1l 4294967296 (u / v1) (u % v1)
      [(2, [.sc (.int .u64 v)]), (8, [.sc (.int .u64 k)]), (9, [.sc (.int .u64 v1)]), (10, [.sc (.int .u64 v0)]), (11, [.sc (.int .u64 u)]), (13, [.sc (.int .u64 t1)]), (14, [.sc (.int .u64 t0)]), (15, [.sc (.int .u64 (u / v1 : Nat))]), (16, [.sc (.int .u64 (u % v1 : Nat))])] (by omega) i1 l1 (by omega) r1l rfl rfl rfl rfl rfl rfl rfl rfl rfl
    have lo1 := E.run (loop_run lo1)
    have wq1 := quo_guess (v1 := v1) hul
    have wq1' := quo_guess' (v1 := v1) hul
    have wr1 := sub_guess (v1 := v1) hul (by omega)
    rw [← vs] at f15 l1
    obtain ⟨Q1, hQ1⟩ : ∃ Q1, Q1 = (u * 4294967296 + t1) / v := ⟨_, rfl⟩
    have hQ1l : Q1 < 4294967296 := by rw [hQ1]; exact quot_lt u1 t1l
    have rn := rest_nat hul t1l k2 hvp hQ1 hQ1l
    obtain ⟨R1, hR1⟩ : ∃ R1, R1 = (u * 4294967296 + t1) % v := ⟨_, rfl⟩
    have R1v : R1 < v := by rw [hR1]; exact Nat.mod_lt _ hvp
    have R1l : R1 < 18446744073709551616 := Nat.lt_trans R1v k2
    rw [← hR1] at rn
    rw [← hQ1] at f15
    -- the second digit
    have j1 := guess_init (u := R1) (v1 := v1) (by omega)
    obtain ⟨m1, m2⟩ := guess_bound (B := 4294967296) (w := t0) v1B v1l v0l (by omega : R1 < v1 * 4294967296 + v0) t0l
    have r0l : R1 % v1 < 4294967296 := Nat.lt_trans (Nat.mod_lt _ (by omega)) v1l
    obtain ⟨e2, lo2, g2, g8, g9, g10, g14, g15, g17, g18⟩ := guess0 (h := h) (v1 := v1) (v0 := v0) (u := R1) (w := t0) (t2 := [.sc (.int .u64 v)]) (t8 := [.sc (.int .u64 k)]) (t11 := [.sc (.int .u64 Q1)]) (t14 := [.sc (.int .u64 R1)]) v1l v0l v1B (by omega) t0l 4294967296 (R1 / v1) (R1 % v1)
      [(2, [.sc (.int .u64 v)]), (8, [.sc (.int .u64 k)]), (9, [.sc (.int .u64 v1)]), (10, [.sc (.int .u64 v0)]), (14, [.sc (.int .u64 t0)]), (15, [.sc (.int .u64 Q1)]), (16, [.sc (.int .u64 (R1 % v1 : Nat))]), (17, [.sc (.int .u64 R1)]), (18, [.sc (.int .u64 (R1 / v1 : Nat))])] (by omega) j1 m1 (by omega) r0l rfl rfl rfl rfl rfl rfl rfl rfl rfl
    have lo2 := E.run (loop_run lo2)
    have wq2 := quo_guess (v1 := v1) R1l
    have wq2' := quo_guess' (v1 := v1) R1l
    have wr2 := sub_guess (v1 := v1) R1l (by omega)
    rw [← vs] at g18
    obtain ⟨Q0, hQ0⟩ : ∃ Q0, Q0 = (R1 * 4294967296 + t0) / v := ⟨_, rfl⟩
    have hQ0l : Q0 < 4294967296 := by rw [hQ0]; exact quot_lt R1v t0l
    have rn2 := rest_nat R1l t0l k2 hvp hQ0 hQ0l
    obtain ⟨R0, hR0⟩ : ∃ R0, R0 = (R1 * 4294967296 + t0) % v := ⟨_, rfl⟩
    rw [← hR0] at rn2
    rw [← hQ0] at g18
    -- both together
    have hN : (u * 4294967296 + t1) * 4294967296 + t0 = N * 2 ^ k := by rw [← ns, ht1, ht0]; exact two_digits u t
    obtain ⟨q1, q2⟩ := knuth_total (X := u * 4294967296 + t1) (B := 4294967296) (w := t0) hvp
    rw [hN, ← hQ1, ← hR1, ← hQ0, hv, Nat.mul_div_mul_right _ _ hp, hQQ] at q1
    rw [hN, ← hR1, ← hR0, hv, Nat.mul_mod_mul_right, hRR] at q2
    have q3 : RR = R0 / 2 ^ k := by rw [← q2, Nat.mul_div_cancel _ hp]
    have fin1 : IntKind.u64.wrap (IntKind.u64.wrap ((Q1 : Int) * 4294967296) + Q0) = (QQ : Int) := by
      rw [q1]
      exact join32 hQ1l hQ0l
    have fin2 : (R0 : Int).fdiv (2 ^ k) = (RR : Int) := by rw [q3]; exact fdivP R0 k
    have a0 := and32 k2
    have a1 := fdiv32 v
    have a2 := and32 t64
    have a3 := fdiv32 t
    rw [← hv0] at a0
    rw [← hv1] at a1
    rw [← ht0] at a2
    rw [← ht1] at a3
    have c4 : ¬ hi = 0 := h0
    have c5 : ¬ y = 0 := by omega
    have c6 : ¬ y ≤ hi := by omega
    have s32 : shAmt .u64 32 = 32 := by simp [shAmt, IntKind.bits]
    clear q1 q2 q3 hN ns hNN hQQ hRR hQ1 hQ0 hR1 hR0 l1 l2 m1 m2 i1 j1 hu ht hv hv1 hv0 ht1 ht0 vs u1 u2 k1 hA hC
    generalize u / v1 = G1 at *
    generalize u % v1 = H1 at *
    generalize R1 / v1 = G0 at *
    generalize R1 % v1 = H0 at *
    generalize 64 - k = k' at *
    have n1 : ¬ (k : Int) < 0 := by omega
    have n3 : ¬ v1 = 0 := by omega
    have n2 : ¬ (k' : Int) < 0 := by omega
    simp [M.a91, E.eqs, n1, n2, n3, c1, c2, c4, c5, c6, e1, wk, wk2, sk, sk2, s32, p1, p2, p3, p4, p5, a0, a1, a2, a3, wq1, wq1', wr1, lo1, f2, f8, f9, f10, f11, f13, f14, f15, rn, wq2, wq2', wr2, lo2, g2, g8, g14, g15, g17, g18, rn2, fin1, fin2]

theorem spec91 (h : Heap) {hi lo y : Nat} (hy : hi < y) (hy64 : y < 18446744073709551616) (hlo : lo < 18446744073709551616) :
    call 91 [[.sc (.int .u64 hi)], [.sc (.int .u64 lo)], [.sc (.int .u64 y)]] h = some ([.sc (.int .u64 ((hi * 18446744073709551616 + lo) / y : Nat)), .sc (.int .u64 ((hi * 18446744073709551616 + lo) % y : Nat))], h) := div64_aux h hy hy64 hlo rfl rfl rfl
end Go.Proofs.Ytdodhmidhcpnnaa
