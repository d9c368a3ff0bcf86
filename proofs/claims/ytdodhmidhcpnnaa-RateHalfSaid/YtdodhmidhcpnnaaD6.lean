/- Chapter 3: plain laws of finer scales and of rounding. -/
import Derived.Test.YtdodhmidhcpnnaaD3
import Derived.Test.YtdodhmidhcpnnaaD4
set_option linter.unusedVariables false
set_option linter.unusedSimpArgs false
set_option maxRecDepth 100000
namespace Go.Proofs.Ytdodhmidhcpnnaa
open Go.Abs

theorem fin_fin (n : Int) {i j : Int} (hi : 0 ≤ i) (hj : 0 ≤ j) : fin (fin n i) j = fin n (i + j) := by
  unfold fin
  rw [Int.mul_assoc, ← Int.pow_add]
  congr 2
  omega
theorem fin_add (n m k : Int) : fin (n + m) k = fin n k + fin m k := by unfold fin; rw [Int.add_mul]
theorem fin_sub (n m k : Int) : fin (n - m) k = fin n k - fin m k := by unfold fin; rw [Int.sub_mul]
theorem ten_pos (k : Int) : (0 : Int) < 10 ^ k.toNat := Int.pow_pos (by omega)
theorem sgn_fin (n k : Int) : sgn (fin n k) = sgn n := by
  unfold fin
  have hp := ten_pos k
  rcases Int.lt_trichotomy n 0 with h | h | h
  · rw [sgn_lt h, sgn_lt (Int.mul_neg_of_neg_of_pos h hp)]
  · subst h; rw [Int.zero_mul]
  · rw [sgn_gt h, sgn_gt (Int.mul_pos h hp)]

theorem rgt_mod (s : Int) : rgt (s % 19) = true := rgt_iff.2 (by omega)
theorem mxS_comm (s t : Int) : mxS s t = mxS t s := by unfold mxS; split <;> split <;> omega
theorem bothR_comm (a s b t : Int) : bothR false a s b t = bothR false b t a s := by
  unfold bothR
  rw [mxS_comm t s]
  by_cases h : rgt s = true ∧ rgt t = true
  · rw [if_pos h, if_pos (show rgt t = true ∧ rgt s = true from ⟨h.2, h.1⟩)]
    generalize fin a (mxS s t - s) = x
    generalize fin b (mxS s t - t) = y
    by_cases hh : InW x ∧ InW y
    · rw [if_pos hh, if_pos (show InW y ∧ InW x from ⟨hh.2, hh.1⟩)]
      simp only [Bool.false_eq_true, if_false, Int.add_comm]
    · rw [if_neg hh, if_neg (show ¬ (InW y ∧ InW x) from fun c => hh ⟨c.2, c.1⟩)]
  · rw [if_neg h, if_neg (show ¬ (rgt t = true ∧ rgt s = true) from fun c => h ⟨c.2, c.1⟩)]
theorem mulR_comm (a s b t to : Int) : mulR a s b t to = mulR b t a s to := by
  unfold mulR
  rw [Int.mul_comm a b, Int.add_comm s t]
  by_cases h : rgt s = true ∧ rgt t = true ∧ rgt to = true
  · rw [if_pos h, if_pos (show rgt t = true ∧ rgt s = true ∧ rgt to = true from ⟨h.2.1, h.1, h.2.2⟩)]
  · rw [if_neg h, if_neg (show ¬ (rgt t = true ∧ rgt s = true ∧ rgt to = true) from fun c => h ⟨c.2.1, c.1, c.2.2⟩)]

/-- a sum that is: its parts, and it, are numbers -/
theorem bothR_ok {sub : Bool} {a s b t n m : Int} (h : bothR sub a s b t = [Dc n m, .sc (.int .i64 0)]) : rgt s = true ∧ rgt t = true ∧ InW (fin a (mxS s t - s)) ∧ InW (fin b (mxS s t - t)) ∧ bothR sub a s b t = [Dc (if sub then fin a (mxS s t - s) - fin b (mxS s t - t) else fin a (mxS s t - s) + fin b (mxS s t - t)) (mxS s t), .sc (.int .i64 0)] ∧ InW (if sub then fin a (mxS s t - s) - fin b (mxS s t - t) else fin a (mxS s t - s) + fin b (mxS s t - t)) := by
  unfold bothR at h ⊢
  by_cases h1 : rgt s = true ∧ rgt t = true
  · rw [if_pos h1] at h ⊢
    by_cases h2 : InW (fin a (mxS s t - s)) ∧ InW (fin b (mxS s t - t))
    · rw [if_pos h2] at h ⊢
      by_cases h3 : InW (if sub then fin a (mxS s t - s) - fin b (mxS s t - t) else fin a (mxS s t - s) + fin b (mxS s t - t))
      · exact ⟨h1.1, h1.2, h2.1, h2.2, okD_in h3, h3⟩
      · rw [okD_out h3] at h
        simp at h
    · rw [if_neg h2] at h
      simp at h
  · rw [if_neg h1] at h
    simp at h

theorem rq_mono {N M D : Nat} (hD : 0 < D) (h : N ≤ M) : rq N D ≤ rq M D := by
  have hq : N / D ≤ M / D := Nat.div_le_div_right h
  unfold rq
  rcases Nat.lt_or_ge (N / D) (M / D) with c | c
  · split <;> split <;> omega
  · have e : N / D = M / D := by omega
    have h1 := Nat.div_add_mod N D
    have h2 := Nat.div_add_mod M D
    rw [e] at h1
    have hr : N % D ≤ M % D := by omega
    by_cases u : rqUp N D
    · have : rqUp M D := by
        unfold rqUp at u ⊢
        rw [e] at u
        omega
      rw [if_pos u, if_pos this, e]
      exact Nat.le_refl _
    · rw [if_neg u]
      omega

/-- what is rounded is at most half of its last place away, and even where it is half -/
theorem rq_half (N : Nat) {D : Nat} (hD : 0 < D) : ∃ d : Int, (N : Int) - (rq N D : Int) * D = d ∧ -(D : Int) ≤ d + d ∧ d + d ≤ D ∧ ((d + d = D ∨ d + d = -(D : Int)) → rq N D % 2 = 0) := by
  refine ⟨_, rfl, ?_⟩
  have h1 := Nat.div_add_mod N D
  have h2 := Nat.mod_lt N hD
  unfold rq
  have e0 : ((N / D * D : Nat) : Int) = ((N / D : Nat) : Int) * D := Int.natCast_mul _ _
  have e2 : N / D * D = D * (N / D) := Nat.mul_comm _ _
  by_cases u : rqUp N D
  · rw [if_pos u]
    have e1 : ((N / D + 1 : Nat) : Int) * D = ((N / D * D : Nat) : Int) + D := by rw [Int.natCast_add, Int.add_mul, e0]; simp
    rw [e1]
    unfold rqUp at u
    refine ⟨by omega, by omega, fun h => by omega⟩
  · rw [if_neg u, Nat.add_zero, ← e0]
    unfold rqUp at u
    refine ⟨by omega, by omega, fun h => by omega⟩

theorem rnd_half (n : Int) (k : Nat) : -(10 : Int) ^ k ≤ (n - rnd n k * 10 ^ k) + (n - rnd n k * 10 ^ k) ∧ (n - rnd n k * 10 ^ k) + (n - rnd n k * 10 ^ k) ≤ 10 ^ k ∧
    (((n - rnd n k * 10 ^ k) + (n - rnd n k * 10 ^ k) = 10 ^ k ∨ (n - rnd n k * 10 ^ k) + (n - rnd n k * 10 ^ k) = -(10 : Int) ^ k) → rnd n k % 2 = 0) := by
  obtain ⟨d, hd, h1, h2, h3⟩ := rq_half n.natAbs (D := 10 ^ k) (Nat.pow_pos (by decide))
  rw [pow_cast] at hd h1 h2 h3
  unfold rnd sg
  generalize rq n.natAbs (10 ^ k) = R at *
  generalize (10 : Int) ^ k = p at *
  by_cases c : n < 0
  · simp only [c, decide_true, if_true]
    have e : n - -(R : Int) * p = -d := by rw [Int.neg_mul]; omega
    rw [e]
    refine ⟨by omega, by omega, fun h => ?_⟩
    have := h3 (by omega)
    omega
  · simp only [c, decide_false, if_false, Bool.false_eq_true]
    have e : n - (R : Int) * p = d := by omega
    rw [e]
    refine ⟨by omega, by omega, fun h => ?_⟩
    have := h3 (by omega)
    omega

theorem rnd_in {n : Int} (hn : InW n) (k : Nat) : InW (rnd n k) := by
  by_cases h0 : k = 0
  · subst h0; rw [rnd_zero]; exact hn
  · have h1 : rq n.natAbs (10 ^ k) ≤ n.natAbs / 10 + 1 := by
      have h2 : 10 ≤ 10 ^ k := by
        have := Nat.pow_le_pow_right (show 0 < 10 by decide) (show 1 ≤ k by omega)
        simpa using this
      have h3 : n.natAbs / 10 ^ k ≤ n.natAbs / 10 := Nat.div_le_div_left h2 (by decide)
      unfold rq
      split <;> omega
    unfold rnd sg
    unfold InW at *
    generalize rq n.natAbs (10 ^ k) = R at *
    split <;> omega

theorem rnd_fin (n : Int) (k : Nat) : rnd (n * 10 ^ k) k = n := by
  have hp : 0 < 10 ^ k := Nat.pow_pos (by decide)
  have hpi : (0 : Int) < 10 ^ k := Int.pow_pos (by omega)
  have e1 : (n * 10 ^ k).natAbs = n.natAbs * 10 ^ k := by
    rw [Int.natAbs_mul, ← pow_cast, Int.natAbs_natCast]
  have e2 : rq (n.natAbs * 10 ^ k) (10 ^ k) = n.natAbs := by
    have u : ¬ rqUp (n.natAbs * 10 ^ k) (10 ^ k) := by
      unfold rqUp
      rw [Nat.mul_mod_left]
      omega
    unfold rq
    rw [if_neg u, Nat.mul_div_cancel _ hp, Nat.add_zero]
  unfold rnd
  rw [e1, e2]
  unfold sg
  by_cases c : n < 0
  · have : n * 10 ^ k < 0 := Int.mul_neg_of_neg_of_pos c hpi
    rw [decide_eq_true this, if_pos rfl]
    omega
  · have : ¬ n * 10 ^ k < 0 := by
      have := Int.mul_nonneg (show 0 ≤ n by omega) (show (0 : Int) ≤ 10 ^ k by omega)
      omega
    rw [decide_eq_false this, if_neg (by decide)]
    omega

theorem spec32 (h : Heap) {n : Int} (s : Int) (h1 : -9223372036854775808 ≤ n) (h2 : n < 9223372036854775808) : call 32 [[.sc (.int .i64 n)], [.sc (.int .i64 s)]] h = some ([Dc n s], h) := by
  have s1 := fun h => spec45 h h1 h2
  refine callX rfl (by rfl : F 32 = some M.a32) (fun R RO RD RT E => ?_)
  simp [M.a32, E.eqs, zero_dC, s1, fldA, freshB, loadA, storeA, trim_pure, pureT, pureV, pureS]
end Go.Proofs.Ytdodhmidhcpnnaa
