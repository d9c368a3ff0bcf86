/- Chapter 2: products by powers of ten, rounded half-even. -/
import Derived.Test.YtohnpealiilikaaNC
import Derived.Test.YtohnpealiilikaaND
import Derived.Test.YtohnpealiilikaaN7
set_option linter.unusedVariables false
set_option linter.unusedSimpArgs false
set_option maxRecDepth 100000
namespace Go.Proofs.Ytohnpealiilikaa
open Go.Abs

/-- half-even -/
def rqUp (N D : Nat) : Prop := D < N % D + N % D ∨ N % D + N % D = D ∧ N / D % 2 = 1
instance (N D : Nat) : Decidable (rqUp N D) := inferInstanceAs (Decidable (_ ∨ _))
def rq (N D : Nat) : Nat := N / D + if rqUp N D then 1 else 0
/-- a number by a power of ten, half-even -/
def rnd (n : Int) (k : Nat) : Int := sg (decide (n < 0)) (rq n.natAbs (10 ^ k))
theorem rq_le {N D : Nat} : rq N D ≤ N + 1 := by
  unfold rq
  have := Nat.div_le_self N D
  split <;> omega
theorem rq_zero {D : Nat} (hD : 0 < D) : rq 0 D = 0 := by
  have h : ¬ rqUp 0 D := by
    unfold rqUp
    rw [Nat.zero_mod, Nat.zero_div]
    omega
  unfold rq
  rw [if_neg h, Nat.zero_div]
theorem rq_one (N : Nat) : rq N 1 = N := by
  have h : ¬ rqUp N 1 := by
    unfold rqUp
    rw [Nat.mod_one, Nat.div_one]
    omega
  unfold rq
  rw [if_neg h, Nat.div_one, Nat.add_zero]
theorem rnd_zero (n : Int) : rnd n 0 = n := by
  unfold rnd sg
  rw [Nat.pow_zero, rq_one]
  by_cases h : n < 0 <;> simp [h] <;> omega
theorem rnd_mul (a b : Int) (k : Nat) : sg (decide (a < 0) != decide (b < 0)) (rq (a.natAbs * b.natAbs) (10 ^ k)) = rnd (a * b) k := by
  unfold rnd
  rw [Int.natAbs_mul, ← natAbs_sgn]
  by_cases h : a.natAbs * b.natAbs = 0
  · rw [h, rq_zero (Nat.pow_pos (by decide))]
    unfold sg
    split <;> split <;> rfl
  · rw [decide_eq_false h]
    simp

theorem two_divs {N a b : Nat} : N / a / b = N / (a * b) ∧ N % (a * b) = N / a % b * a + N % a := by
  refine ⟨Nat.div_div_eq_div_mul _ _ _, ?_⟩
  rw [Nat.mod_mul, Nat.mul_comm, Nat.add_comm]

/-- the second half of a rounding in two steps -/
theorem up_two {a h m rest : Nat} (ha : 0 < a) (hr : rest < a) (odd : Prop) :
    (h < m ∨ m = h ∧ (0 < rest ∨ odd)) ↔ ((h + h) * a < (m * a + rest) + (m * a + rest) ∨ (m * a + rest) + (m * a + rest) = (h + h) * a ∧ odd) := by
  have e : (h + h) * a = h * a + h * a := Nat.add_mul _ _ _
  rw [e]
  rcases Nat.lt_trichotomy h m with c | c | c
  · have : (h + 1) * a ≤ m * a := Nat.mul_le_mul_right _ c
    rw [Nat.add_mul, Nat.one_mul] at this
    constructor
    · intro _; left; omega
    · intro _; left; exact c
  · subst c
    constructor
    · rintro (c | ⟨_, c | c⟩)
      · omega
      · left; omega
      · by_cases h0 : rest = 0
        · right; exact ⟨by omega, c⟩
        · left; omega
    · rintro (c | ⟨c, d⟩)
      · right; exact ⟨rfl, .inl (by omega)⟩
      · right; exact ⟨rfl, .inr d⟩
  · have : (m + 1) * a ≤ h * a := Nat.mul_le_mul_right _ c
    rw [Nat.add_mul, Nat.one_mul] at this
    constructor
    · rintro (c | ⟨c, d⟩) <;> omega
    · rintro (c | ⟨c, d⟩) <;> omega

theorem half_of {k : Nat} (hk : 0 < k) : 10 ^ k / 2 + 10 ^ k / 2 = 10 ^ k := by
  obtain ⟨j, rfl⟩ : ∃ j, k = j + 1 := ⟨k - 1, by omega⟩
  rw [Nat.pow_succ]
  omega

theorem quo2 {x : Nat} (hx : x < 18446744073709551616) : IntKind.u64.wrap ((x : Int).tdiv 2) = ((x / 2 : Nat) : Int) := by
  rw [Int.tdiv_eq_ediv_of_nonneg (by omega), wu64']; omega
theorem quo2' {x : Nat} (hx : x < 18446744073709551616) : IntKind.u64.wrap ((x : Int) / 2) = ((x / 2 : Nat) : Int) := by
  rw [wu64']; omega
theorem l4_low (V : Nat) : (l4 V)[0]? = some (.int .u64 ((V % 18446744073709551616 : Nat) : Int)) := rfl
theorem l4_low' (V : Nat) (h : 0 < (l4 V).length) : (l4 V)[0] = .int .u64 ((V % 18446744073709551616 : Nat) : Int) := rfl
theorem and1 {x : Nat} : bitop .and .u64 ((x : Int) % 18446744073709551616) 1 = (x : Int) % 2 := by
  have h1 := and_u64 (a := x % 18446744073709551616) (b := 1) (Nat.mod_lt _ (by decide)) (by decide)
  rw [Nat.and_one_is_mod] at h1
  have h2 : x % 18446744073709551616 % 2 = x % 2 := by omega
  rw [h2] at h1
  have e1 : ((x % 18446744073709551616 : Nat) : Int) = (x : Int) % 18446744073709551616 := by omega
  have e2 : ((x % 2 : Nat) : Int) = (x : Int) % 2 := by omega
  rw [e1, e2] at h1
  exact h1

theorem up_loop {h : Heap} {X Y Z : Blk} {P : Nat} {t3 t4 t6 : TV} (hP : P + 1 < 115792089237316195423570985008687907853269984665640564039457584007913129639936) (e : Env)
    (e3 : e.get 3 = t3) (e4 : e.get 4 = t4) (e6 : e.get 6 = t6) (e9 : e.get 9 = [.sc (.ptr (h.length + 3) 0 4)]) (e12 : e.get 12 = [.sc (.bool true)]) (e14 : e.get 14 = [.sc (.int .i64 0)]) :
    ∃ e', loopE F O (.loop [3, 4, 6, 9, 12, 14] M.b20_0) e (h ++ [X, Y, Z, ⟨.var, l4 P⟩]) = some (.exit 1, e', h ++ [X, Y, Z, ⟨.var, l4 (P + 1)⟩]) ∧ e'.get 3 = t3 ∧ e'.get 4 = t4 ∧ e'.get 6 = t6 ∧ e'.get 9 = [.sc (.ptr (h.length + 3) 0 4)] := by
  obtain ⟨a0, a1, a2, a3, h0, h1, h2, h3, hv⟩ := l4_ex (V := P) (by omega)
  rw [l4_of h0 h1 h2 h3 hv]
  have w0 : IntKind.i64.wrap (0 + 1 : Int) = 1 := by rw [wi64 (by omega) (by omega)]; rfl
  have w1 : IntKind.i64.wrap (1 + 1 : Int) = 2 := by rw [wi64 (by omega) (by omega)]; rfl
  have w2 : IntKind.i64.wrap (2 + 1 : Int) = 3 := by rw [wi64 (by omega) (by omega)]; rfl
  have w3 : IntKind.i64.wrap (3 + 1 : Int) = 4 := by rw [wi64 (by omega) (by omega)]; rfl
  have v0 : IntKind.i64.wrap (1 : Int) = 1 := wi64 (by omega) (by omega)
  have v1 : IntKind.i64.wrap (2 : Int) = 2 := wi64 (by omega) (by omega)
  have v2 : IntKind.i64.wrap (3 : Int) = 3 := wi64 (by omega) (by omega)
  have v3 : IntKind.i64.wrap (4 : Int) = 4 := wi64 (by omega) (by omega)
  have wz : IntKind.u64.wrap (18446744073709551615 + 1 : Int) = 0 := by rw [wu64']; rfl
  have wz' : IntKind.u64.wrap (18446744073709551616 : Int) = 0 := by rw [wu64']; rfl
  have up : ∀ x : Nat, ¬ x = 18446744073709551615 → x < 18446744073709551616 → IntKind.u64.wrap ((x : Int) + 1) = ((x + 1 : Nat) : Int) ∧ ¬ ((x : Int) + 1 = 0) ∧ ¬ (((x + 1 : Nat) : Int) = 0) := fun x c hx => ⟨by rw [wu64 (by omega) (by omega)]; omega, by omega, by omega⟩
  by_cases c0 : a0 = 18446744073709551615
  · subst c0
    by_cases c1 : a1 = 18446744073709551615
    · subst c1
      by_cases c2 : a2 = 18446744073709551615
      · subst c2
        have c3 : ¬ a3 = 18446744073709551615 := by omega
        obtain ⟨u1, u2, u3⟩ := up a3 c3 h3
        rw [l4_of (V := P + 1) (a0 := 0) (a1 := 0) (a2 := 0) (a3 := a3 + 1) (by omega) (by omega) (by omega) (by omega) (by omega)]
        clear hv hP up
        refine ⟨[(3, t3), (4, t4), (6, t6), (9, [.sc (.ptr (h.length + 3) 0 4)]), (14, [.sc (.int .i64 4)]), (94, [.sc (.bool false)])], ?_, rfl, rfl, rfl, rfl⟩
        refine stepM (e1 := [(3, t3), (4, t4), (6, t6), (9, [.sc (.ptr (h.length + 3) 0 4)]), (12, [.sc (.bool true)]), (14, [.sc (.int .i64 1)])]) (h1 := h ++ [X, Y, Z, ⟨.var, [.int .u64 0, .int .u64 ((18446744073709551615 : Nat) : Int), .int .u64 ((18446744073709551615 : Nat) : Int), .int .u64 a3]⟩]) (fun R RO RD RT E => by simp [M.b20_0, E.eqs, e3, e4, e6, e9, e12, e14, freshB, loadA, storeA, w0, v0, wz, wz']) ?_
        refine stepM (e1 := [(3, t3), (4, t4), (6, t6), (9, [.sc (.ptr (h.length + 3) 0 4)]), (12, [.sc (.bool true)]), (14, [.sc (.int .i64 2)])]) (h1 := h ++ [X, Y, Z, ⟨.var, [.int .u64 0, .int .u64 0, .int .u64 ((18446744073709551615 : Nat) : Int), .int .u64 a3]⟩]) (fun R RO RD RT E => by simp [M.b20_0, E.eqs, freshB, loadA, storeA, w1, v1, wz, wz']) ?_
        refine stepM (e1 := [(3, t3), (4, t4), (6, t6), (9, [.sc (.ptr (h.length + 3) 0 4)]), (12, [.sc (.bool true)]), (14, [.sc (.int .i64 3)])]) (h1 := h ++ [X, Y, Z, ⟨.var, [.int .u64 0, .int .u64 0, .int .u64 0, .int .u64 a3]⟩]) (fun R RO RD RT E => by simp [M.b20_0, E.eqs, freshB, loadA, storeA, w2, v2, wz, wz']) ?_
        refine stepM (e1 := [(3, t3), (4, t4), (6, t6), (9, [.sc (.ptr (h.length + 3) 0 4)]), (12, [.sc (.bool false)]), (14, [.sc (.int .i64 4)])]) (h1 := h ++ [X, Y, Z, ⟨.var, [.int .u64 0, .int .u64 0, .int .u64 0, .int .u64 ((a3 + 1 : Nat) : Int)]⟩]) (fun R RO RD RT E => by simp [M.b20_0, E.eqs, freshB, loadA, storeA, w3, v3, u1, u2, u3]) ?_
        exact exitM fun R RO RD RT E => by simp [M.b20_0, E.eqs]
      · obtain ⟨u1, u2, u3⟩ := up a2 c2 h2
        rw [l4_of (V := P + 1) (a0 := 0) (a1 := 0) (a2 := a2 + 1) (a3 := a3) (by omega) (by omega) (by omega) (by omega) (by omega)]
        clear hv hP up
        refine ⟨[(3, t3), (4, t4), (6, t6), (9, [.sc (.ptr (h.length + 3) 0 4)]), (14, [.sc (.int .i64 3)]), (94, [.sc (.bool false)])], ?_, rfl, rfl, rfl, rfl⟩
        refine stepM (e1 := [(3, t3), (4, t4), (6, t6), (9, [.sc (.ptr (h.length + 3) 0 4)]), (12, [.sc (.bool true)]), (14, [.sc (.int .i64 1)])]) (h1 := h ++ [X, Y, Z, ⟨.var, [.int .u64 0, .int .u64 ((18446744073709551615 : Nat) : Int), .int .u64 a2, .int .u64 a3]⟩]) (fun R RO RD RT E => by simp [M.b20_0, E.eqs, e3, e4, e6, e9, e12, e14, freshB, loadA, storeA, w0, v0, wz, wz']) ?_
        refine stepM (e1 := [(3, t3), (4, t4), (6, t6), (9, [.sc (.ptr (h.length + 3) 0 4)]), (12, [.sc (.bool true)]), (14, [.sc (.int .i64 2)])]) (h1 := h ++ [X, Y, Z, ⟨.var, [.int .u64 0, .int .u64 0, .int .u64 a2, .int .u64 a3]⟩]) (fun R RO RD RT E => by simp [M.b20_0, E.eqs, freshB, loadA, storeA, w1, v1, wz, wz']) ?_
        refine stepM (e1 := [(3, t3), (4, t4), (6, t6), (9, [.sc (.ptr (h.length + 3) 0 4)]), (12, [.sc (.bool false)]), (14, [.sc (.int .i64 3)])]) (h1 := h ++ [X, Y, Z, ⟨.var, [.int .u64 0, .int .u64 0, .int .u64 ((a2 + 1 : Nat) : Int), .int .u64 a3]⟩]) (fun R RO RD RT E => by simp [M.b20_0, E.eqs, freshB, loadA, storeA, w2, v2, u1, u2, u3]) ?_
        exact exitM fun R RO RD RT E => by simp [M.b20_0, E.eqs]
    · obtain ⟨u1, u2, u3⟩ := up a1 c1 h1
      rw [l4_of (V := P + 1) (a0 := 0) (a1 := a1 + 1) (a2 := a2) (a3 := a3) (by omega) (by omega) (by omega) (by omega) (by omega)]
      clear hv hP up
      refine ⟨[(3, t3), (4, t4), (6, t6), (9, [.sc (.ptr (h.length + 3) 0 4)]), (14, [.sc (.int .i64 2)]), (94, [.sc (.bool false)])], ?_, rfl, rfl, rfl, rfl⟩
      refine stepM (e1 := [(3, t3), (4, t4), (6, t6), (9, [.sc (.ptr (h.length + 3) 0 4)]), (12, [.sc (.bool true)]), (14, [.sc (.int .i64 1)])]) (h1 := h ++ [X, Y, Z, ⟨.var, [.int .u64 0, .int .u64 a1, .int .u64 a2, .int .u64 a3]⟩]) (fun R RO RD RT E => by simp [M.b20_0, E.eqs, e3, e4, e6, e9, e12, e14, freshB, loadA, storeA, w0, v0, wz, wz']) ?_
      refine stepM (e1 := [(3, t3), (4, t4), (6, t6), (9, [.sc (.ptr (h.length + 3) 0 4)]), (12, [.sc (.bool false)]), (14, [.sc (.int .i64 2)])]) (h1 := h ++ [X, Y, Z, ⟨.var, [.int .u64 0, .int .u64 ((a1 + 1 : Nat) : Int), .int .u64 a2, .int .u64 a3]⟩]) (fun R RO RD RT E => by simp [M.b20_0, E.eqs, freshB, loadA, storeA, w1, v1, u1, u2, u3]) ?_
      exact exitM fun R RO RD RT E => by simp [M.b20_0, E.eqs]
  · obtain ⟨u1, u2, u3⟩ := up a0 c0 h0
    rw [l4_of (V := P + 1) (a0 := a0 + 1) (a1 := a1) (a2 := a2) (a3 := a3) (by omega) (by omega) (by omega) (by omega) (by omega)]
    clear hv hP up
    refine ⟨[(3, t3), (4, t4), (6, t6), (9, [.sc (.ptr (h.length + 3) 0 4)]), (14, [.sc (.int .i64 1)]), (94, [.sc (.bool false)])], ?_, rfl, rfl, rfl, rfl⟩
    refine stepM (e1 := [(3, t3), (4, t4), (6, t6), (9, [.sc (.ptr (h.length + 3) 0 4)]), (12, [.sc (.bool false)]), (14, [.sc (.int .i64 1)])]) (h1 := h ++ [X, Y, Z, ⟨.var, [.int .u64 ((a0 + 1 : Nat) : Int), .int .u64 a1, .int .u64 a2, .int .u64 a3]⟩]) (fun R RO RD RT E => by simp [M.b20_0, E.eqs, e3, e4, e6, e9, e12, e14, freshB, loadA, storeA, w0, v0, u1, u2, u3]) ?_
    exact exitM fun R RO RD RT E => by simp [M.b20_0, E.eqs]
end Go.Proofs.Ytohnpealiilikaa
