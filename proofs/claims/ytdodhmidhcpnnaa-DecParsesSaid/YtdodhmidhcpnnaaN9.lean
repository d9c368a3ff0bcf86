/- bits.Div64: the plain law of a digit of a quotient; then the walk. -/
import Derived.Test.YtdodhmidhcpnnaaN8
set_option linter.unusedVariables false
set_option linter.unusedSimpArgs false
set_option maxRecDepth 100000
namespace Go.Proofs.Ytdodhmidhcpnnaa
open Go.Abs

/-- the digit that is guessed is not too small, and is at most one above the base -/
theorem guess_bound {B v1 v0 u w : Nat} (hB : B ≤ 2 * v1) (hv1 : v1 < B) (hv0 : v0 < B) (hu : u < v1 * B + v0) (hw : w < B) : (u * B + w) / (v1 * B + v0) ≤ u / v1 ∧ u / v1 ≤ B + 1 := by
  have hp : 0 < v1 := by omega
  constructor
  · rw [Nat.le_div_iff_mul_le hp]
    have h1 := Nat.div_mul_le_self (u * B + w) (v1 * B + v0)
    generalize (u * B + w) / (v1 * B + v0) = Q at *
    have h2 : Q * v1 * B ≤ u * B + w := by
      have : Q * (v1 * B + v0) = Q * v1 * B + Q * v0 := by rw [Nat.mul_add, Nat.mul_assoc]
      omega
    have h3 : Q * v1 * B < (u + 1) * B := by rw [Nat.add_mul]; omega
    have := Nat.lt_of_mul_lt_mul_right h3
    omega
  · have h1 : u < (B + 2) * v1 := by
      rw [Nat.add_mul, Nat.mul_comm B v1]
      omega
    have := (Nat.div_lt_iff_lt_mul hp).2 h1
    omega

/-- the test that a guess is too large is right -/
theorem test_right {B v1 v0 u w q r : Nat} (hq : u = q * v1 + r) (hvp : 0 < v1 * B + v0) : (B * r + w < q * v0 ↔ (u * B + w) / (v1 * B + v0) < q) := by
  rw [Nat.div_lt_iff_lt_mul hvp]
  have h1 : u * B = q * v1 * B + r * B := by rw [hq, Nat.add_mul]
  have h2 : q * (v1 * B + v0) = q * v1 * B + q * v0 := by rw [Nat.mul_add, Nat.mul_assoc]
  rw [h1, h2, Nat.mul_comm B r]
  omega

theorem quot_lt {B v u w : Nat} (hu : u < v) (hw : w < B) : (u * B + w) / v < B := by
  have hv : 0 < v := by omega
  rw [Nat.div_lt_iff_lt_mul hv]
  have : (u + 1) * B ≤ v * B := Nat.mul_le_mul_right _ hu
  rw [Nat.add_mul] at this
  rw [Nat.mul_comm B v]
  omega

/-- a guess that passes the test, or whose rest is past the base, is the digit -/
theorem guess_done {B v1 v0 u w q r : Nat} (hq : u = q * v1 + r) (hvp : 0 < v1 * B + v0) (hv0 : v0 < B) (hlo : (u * B + w) / (v1 * B + v0) ≤ q) (hd : (q < B ∧ ¬ B * r + w < q * v0) ∨ (q ≤ B ∧ B ≤ r)) : q = (u * B + w) / (v1 * B + v0) := by
  have : ¬ (u * B + w) / (v1 * B + v0) < q := by
    rw [← test_right hq hvp]
    rcases hd with ⟨_, h⟩ | ⟨h1, h2⟩
    · exact h
    · have h3 : q * v0 ≤ B * v0 := Nat.mul_le_mul_right _ h1
      have h4 : B * v0 ≤ B * r := Nat.mul_le_mul_left _ (by omega)
      omega
  omega

/-- the rest, in arithmetic that goes round -/
theorem rest_wrap {X w Y : Int} (h0 : 0 ≤ X + w - Y) (h1 : X + w - Y < 18446744073709551616) : ((X % 18446744073709551616 + w) % 18446744073709551616 - Y % 18446744073709551616) % 18446744073709551616 = X + w - Y := by omega

theorem mul_lt64 {q v0 : Nat} (h1 : q < 4294967296) (h2 : v0 < 4294967296) : q * v0 < 18446744073709551616 := by
  have : q * v0 ≤ 4294967295 * 4294967295 := Nat.mul_le_mul (by omega) (by omega)
  omega

/-- one round of a guess -/
theorem guess_step {v1 v0 u w q r : Nat} (hv1 : v1 < 4294967296) (hv0 : v0 < 4294967296) (hB : 4294967296 ≤ 2 * v1) (hu : u < v1 * 4294967296 + v0) (hw : w < 4294967296)
    (hq : u = q * v1 + r) (hlo : (u * 4294967296 + w) / (v1 * 4294967296 + v0) ≤ q) (hc : 4294967296 ≤ q ∨ (q < 4294967296 ∧ 4294967296 * r + w < q * v0)) :
    1 ≤ q ∧ u = (q - 1) * v1 + (r + v1) ∧ (u * 4294967296 + w) / (v1 * 4294967296 + v0) ≤ q - 1 := by
  have h1 : (u * 4294967296 + w) / (v1 * 4294967296 + v0) < q := by
    rcases hc with h | ⟨_, h⟩
    · exact Nat.lt_of_lt_of_le (quot_lt hu hw) h
    · exact (test_right hq (by omega)).1 h
  generalize (u * 4294967296 + w) / (v1 * 4294967296 + v0) = Q at *
  have h2 : 1 ≤ q := by omega
  obtain ⟨p, rfl⟩ : ∃ p, q = p + 1 := ⟨q - 1, by omega⟩
  refine ⟨by omega, ?_, by omega⟩
  rw [Nat.add_mul] at hq
  simp only [Nat.add_sub_cancel]
  omega

section
variable {h : Heap} {v1 v0 u w : Nat} {t2 t8 t11 t14 : TV}
theorem guess1 (hv1 : v1 < 4294967296) (hv0 : v0 < 4294967296) (hB : 4294967296 ≤ 2 * v1) (hu : u < v1 * 4294967296 + v0) (hw : w < 4294967296) : ∀ (m q r : Nat) (e : Env), 4294967296 - r ≤ m → u = q * v1 + r → (u * 4294967296 + w) / (v1 * 4294967296 + v0) ≤ q → q ≤ 4294967297 → r < 4294967296 →
    e.get 2 = t2 → e.get 8 = t8 → e.get 9 = [.sc (.int .u64 v1)] → e.get 10 = [.sc (.int .u64 v0)] → e.get 11 = t11 → e.get 13 = [.sc (.int .u64 w)] → e.get 14 = t14 → e.get 15 = [.sc (.int .u64 q)] → e.get 16 = [.sc (.int .u64 r)] →
    ∃ e', loopE F O (.loop [2, 8, 9, 10, 11, 13, 14, 15, 16] M.b91_1) e h = some (.exit 0, e', h) ∧ e'.get 2 = t2 ∧ e'.get 8 = t8 ∧ e'.get 9 = [.sc (.int .u64 v1)] ∧ e'.get 10 = [.sc (.int .u64 v0)] ∧ e'.get 11 = t11 ∧ e'.get 13 = [.sc (.int .u64 w)] ∧ e'.get 14 = t14 ∧ e'.get 15 = [.sc (.int .u64 ((u * 4294967296 + w) / (v1 * 4294967296 + v0) : Nat))]
  | 0, q, r, e, hm, hq, hlo, hq1, hr, e2, e8, e9, e10, e11, e13, e14, e15, e16 => by omega
  | m + 1, q, r, e, hm, hq, hlo, hq1, hr, e2, e8, e9, e10, e11, e13, e14, e15, e16 => by
    obtain ⟨T0, hT0⟩ : ∃ T0, T0 = 4294967296 * r := ⟨_, rfl⟩
    obtain ⟨T, hT⟩ : ∃ T, T = T0 + w := ⟨_, rfl⟩
    have w1 : IntKind.u64.wrap (4294967296 * (r : Int)) = (T0 : Int) := by rw [wu64 (by omega) (by omega)]; omega
    have w2 : IntKind.u64.wrap ((T0 : Int) + w) = (T : Int) := by rw [wu64 (by omega) (by omega)]; omega
    by_cases hc : 4294967296 ≤ q ∨ (q < 4294967296 ∧ 4294967296 * r + w < q * v0)
    · obtain ⟨s1, s2, s3⟩ := guess_step hv1 hv0 hB hu hw hq hlo hc
      obtain ⟨r', hr'⟩ : ∃ r', r' = r + v1 := ⟨_, rfl⟩
      obtain ⟨q', hq'⟩ : ∃ q', q' = q - 1 := ⟨_, rfl⟩
      rw [← hr', ← hq'] at s2
      rw [← hq'] at s3
      have w3 : IntKind.u64.wrap ((q : Int) - 1) = (q' : Int) := by rw [wu64 (by omega) (by omega)]; omega
      have w4 : IntKind.u64.wrap ((r : Int) + v1) = (r' : Int) := by rw [wu64 (by omega) (by omega)]; omega
      have test : (4294967296 : Int) ≤ q ∨ ¬ (4294967296 : Int) ≤ q ∧ ∃ P : Nat, IntKind.u64.wrap ((q : Int) * v0) = (P : Int) ∧ (T : Int) < P := by
        rcases hc with hc | ⟨hc1, hc2⟩
        · exact .inl (by omega)
        · exact .inr ⟨by omega, q * v0, by rw [← Int.natCast_mul]; exact wn64 (mul_lt64 hc1 hv0), by omega⟩
      by_cases hb : 4294967296 ≤ r'
      · have hQ := guess_done (B := 4294967296) s2 (by omega) hv0 s3 (.inr ⟨by omega, hb⟩)
        rw [← hQ]
        have b1 : (4294967296 : Int) ≤ (r' : Int) := by omega
        refine ⟨[(2, t2), (8, t8), (9, [.sc (.int .u64 v1)]), (10, [.sc (.int .u64 v0)]), (11, t11), (13, [.sc (.int .u64 w)]), (14, t14), (15, [.sc (.int .u64 q')]), (16, [.sc (.int .u64 r')]), (85, [.sc (.bool true)])], exitM fun R RO RD RT E => ?_, rfl, rfl, rfl, rfl, rfl, rfl, rfl, rfl⟩
        clear hq hlo hQ s2 s3 hc hu
        rcases test with c1 | ⟨c1, P, w5, c2⟩
        · simp [M.b91_1, E.eqs, e2, e8, e9, e10, e11, e13, e14, e15, e16, c1, w3, w4, b1]
        · simp [M.b91_1, E.eqs, e2, e8, e9, e10, e11, e13, e14, e15, e16, c1, w1, w2, w3, w4, w5, c2, b1]
      · have b1 : ¬ (4294967296 : Int) ≤ (r' : Int) := by omega
        obtain ⟨e', ih, f⟩ := guess1 hv1 hv0 hB hu hw m q' r' [(2, t2), (8, t8), (9, [.sc (.int .u64 v1)]), (10, [.sc (.int .u64 v0)]), (11, t11), (13, [.sc (.int .u64 w)]), (14, t14), (15, [.sc (.int .u64 q')]), (16, [.sc (.int .u64 r')])] (by omega) s2 s3 (by omega) (by omega) rfl rfl rfl rfl rfl rfl rfl rfl rfl
        refine ⟨e', stepM (fun R RO RD RT E => ?_) ih, f⟩
        clear hq hlo s2 s3 hc hu ih f
        rcases test with c1 | ⟨c1, P, w5, c2⟩
        · simp [M.b91_1, E.eqs, e2, e8, e9, e10, e11, e13, e14, e15, e16, c1, w3, w4, b1]
        · simp [M.b91_1, E.eqs, e2, e8, e9, e10, e11, e13, e14, e15, e16, c1, w1, w2, w3, w4, w5, c2, b1]
    · have hc1 : q < 4294967296 := by omega
      have hc2 : ¬ 4294967296 * r + w < q * v0 := fun h => hc (.inr ⟨hc1, h⟩)
      have hQ := guess_done (B := 4294967296) hq (by omega) hv0 hlo (.inl ⟨hc1, hc2⟩)
      rw [← hQ]
      obtain ⟨P, hP⟩ : ∃ P, P = q * v0 := ⟨_, rfl⟩
      have w5 : IntKind.u64.wrap ((q : Int) * v0) = (P : Int) := by rw [← Int.natCast_mul, hP]; exact wn64 (mul_lt64 hc1 hv0)
      have c1 : ¬ (4294967296 : Int) ≤ q := by omega
      have c2 : ¬ (T : Int) < P := by omega
      refine ⟨[(2, t2), (8, t8), (9, [.sc (.int .u64 v1)]), (10, [.sc (.int .u64 v0)]), (11, t11), (13, [.sc (.int .u64 w)]), (14, t14), (15, [.sc (.int .u64 q)]), (16, [.sc (.int .u64 r)]), (78, [.sc (.bool false)])], exitM fun R RO RD RT E => ?_, rfl, rfl, rfl, rfl, rfl, rfl, rfl, rfl⟩
      clear hq hlo hQ hc hu
      simp [M.b91_1, E.eqs, e2, e8, e9, e10, e11, e13, e14, e15, e16, c1, w1, w2, w5, c2]
theorem guess0 (hv1 : v1 < 4294967296) (hv0 : v0 < 4294967296) (hB : 4294967296 ≤ 2 * v1) (hu : u < v1 * 4294967296 + v0) (hw : w < 4294967296) : ∀ (m q r : Nat) (e : Env), 4294967296 - r ≤ m → u = q * v1 + r → (u * 4294967296 + w) / (v1 * 4294967296 + v0) ≤ q → q ≤ 4294967297 → r < 4294967296 →
    e.get 2 = t2 → e.get 8 = t8 → e.get 9 = [.sc (.int .u64 v1)] → e.get 10 = [.sc (.int .u64 v0)] → e.get 14 = [.sc (.int .u64 w)] → e.get 15 = t11 → e.get 16 = [.sc (.int .u64 r)] → e.get 17 = t14 → e.get 18 = [.sc (.int .u64 q)] →
    ∃ e', loopE F O (.loop [2, 8, 9, 10, 14, 15, 16, 17, 18] M.b91_0) e h = some (.exit 2, e', h) ∧ e'.get 2 = t2 ∧ e'.get 8 = t8 ∧ e'.get 9 = [.sc (.int .u64 v1)] ∧ e'.get 10 = [.sc (.int .u64 v0)] ∧ e'.get 14 = [.sc (.int .u64 w)] ∧ e'.get 15 = t11 ∧ e'.get 17 = t14 ∧ e'.get 18 = [.sc (.int .u64 ((u * 4294967296 + w) / (v1 * 4294967296 + v0) : Nat))]
  | 0, q, r, e, hm, hq, hlo, hq1, hr, e2, e8, e9, e10, e11, e13, e14, e15, e16 => by omega
  | m + 1, q, r, e, hm, hq, hlo, hq1, hr, e2, e8, e9, e10, e11, e13, e14, e15, e16 => by
    obtain ⟨T0, hT0⟩ : ∃ T0, T0 = 4294967296 * r := ⟨_, rfl⟩
    obtain ⟨T, hT⟩ : ∃ T, T = T0 + w := ⟨_, rfl⟩
    have w1 : IntKind.u64.wrap (4294967296 * (r : Int)) = (T0 : Int) := by rw [wu64 (by omega) (by omega)]; omega
    have w2 : IntKind.u64.wrap ((T0 : Int) + w) = (T : Int) := by rw [wu64 (by omega) (by omega)]; omega
    by_cases hc : 4294967296 ≤ q ∨ (q < 4294967296 ∧ 4294967296 * r + w < q * v0)
    · obtain ⟨s1, s2, s3⟩ := guess_step hv1 hv0 hB hu hw hq hlo hc
      obtain ⟨r', hr'⟩ : ∃ r', r' = r + v1 := ⟨_, rfl⟩
      obtain ⟨q', hq'⟩ : ∃ q', q' = q - 1 := ⟨_, rfl⟩
      rw [← hr', ← hq'] at s2
      rw [← hq'] at s3
      have w3 : IntKind.u64.wrap ((q : Int) - 1) = (q' : Int) := by rw [wu64 (by omega) (by omega)]; omega
      have w4 : IntKind.u64.wrap ((r : Int) + v1) = (r' : Int) := by rw [wu64 (by omega) (by omega)]; omega
      have test : (4294967296 : Int) ≤ q ∨ ¬ (4294967296 : Int) ≤ q ∧ ∃ P : Nat, IntKind.u64.wrap ((q : Int) * v0) = (P : Int) ∧ (T : Int) < P := by
        rcases hc with hc | ⟨hc1, hc2⟩
        · exact .inl (by omega)
        · exact .inr ⟨by omega, q * v0, by rw [← Int.natCast_mul]; exact wn64 (mul_lt64 hc1 hv0), by omega⟩
      by_cases hb : 4294967296 ≤ r'
      · have hQ := guess_done (B := 4294967296) s2 (by omega) hv0 s3 (.inr ⟨by omega, hb⟩)
        rw [← hQ]
        have b1 : (4294967296 : Int) ≤ (r' : Int) := by omega
        refine ⟨[(2, t2), (8, t8), (9, [.sc (.int .u64 v1)]), (10, [.sc (.int .u64 v0)]), (14, [.sc (.int .u64 w)]), (15, t11), (16, [.sc (.int .u64 r')]), (17, t14), (18, [.sc (.int .u64 q')]), (120, [.sc (.bool true)])], exitM fun R RO RD RT E => ?_, rfl, rfl, rfl, rfl, rfl, rfl, rfl, rfl⟩
        clear hq hlo hQ s2 s3 hc hu
        rcases test with c1 | ⟨c1, P, w5, c2⟩
        · simp [M.b91_0, E.eqs, e2, e8, e9, e10, e11, e13, e14, e15, e16, c1, w3, w4, b1]
        · simp [M.b91_0, E.eqs, e2, e8, e9, e10, e11, e13, e14, e15, e16, c1, w1, w2, w3, w4, w5, c2, b1]
      · have b1 : ¬ (4294967296 : Int) ≤ (r' : Int) := by omega
        obtain ⟨e', ih, f⟩ := guess0 hv1 hv0 hB hu hw m q' r' [(2, t2), (8, t8), (9, [.sc (.int .u64 v1)]), (10, [.sc (.int .u64 v0)]), (14, [.sc (.int .u64 w)]), (15, t11), (16, [.sc (.int .u64 r')]), (17, t14), (18, [.sc (.int .u64 q')])] (by omega) s2 s3 (by omega) (by omega) rfl rfl rfl rfl rfl rfl rfl rfl rfl
        refine ⟨e', stepM (fun R RO RD RT E => ?_) ih, f⟩
        clear hq hlo s2 s3 hc hu ih f
        rcases test with c1 | ⟨c1, P, w5, c2⟩
        · simp [M.b91_0, E.eqs, e2, e8, e9, e10, e11, e13, e14, e15, e16, c1, w3, w4, b1]
        · simp [M.b91_0, E.eqs, e2, e8, e9, e10, e11, e13, e14, e15, e16, c1, w1, w2, w3, w4, w5, c2, b1]
    · have hc1 : q < 4294967296 := by omega
      have hc2 : ¬ 4294967296 * r + w < q * v0 := fun h => hc (.inr ⟨hc1, h⟩)
      have hQ := guess_done (B := 4294967296) hq (by omega) hv0 hlo (.inl ⟨hc1, hc2⟩)
      rw [← hQ]
      obtain ⟨P, hP⟩ : ∃ P, P = q * v0 := ⟨_, rfl⟩
      have w5 : IntKind.u64.wrap ((q : Int) * v0) = (P : Int) := by rw [← Int.natCast_mul, hP]; exact wn64 (mul_lt64 hc1 hv0)
      have c1 : ¬ (4294967296 : Int) ≤ q := by omega
      have c2 : ¬ (T : Int) < P := by omega
      refine ⟨[(2, t2), (8, t8), (9, [.sc (.int .u64 v1)]), (10, [.sc (.int .u64 v0)]), (14, [.sc (.int .u64 w)]), (15, t11), (16, [.sc (.int .u64 r)]), (17, t14), (18, [.sc (.int .u64 q)]), (113, [.sc (.bool false)])], exitM fun R RO RD RT E => ?_, rfl, rfl, rfl, rfl, rfl, rfl, rfl, rfl⟩
      clear hq hlo hQ hc hu
      simp [M.b91_0, E.eqs, e2, e8, e9, e10, e11, e13, e14, e15, e16, c1, w1, w2, w5, c2]
end
end Go.Proofs.Ytdodhmidhcpnnaa
