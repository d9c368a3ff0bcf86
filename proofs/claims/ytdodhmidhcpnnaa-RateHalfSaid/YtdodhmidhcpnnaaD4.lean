/- Chapter 3: which of two is greater: both ways. -/
import Derived.Test.YtdodhmidhcpnnaaD2
set_option linter.unusedVariables false
set_option linter.unusedSimpArgs false
set_option maxRecDepth 100000
namespace Go.Proofs.Ytdodhmidhcpnnaa
open Go.Abs

theorem sgn_lt {n : Int} (h : n < 0) : sgn n = -1 := by unfold sgn; rw [if_pos h]
theorem sgn_eq {n : Int} (h : n = 0) : sgn n = 0 := by unfold sgn; rw [if_neg (by omega), if_pos h]
theorem sgn_gt {n : Int} (h : 0 < n) : sgn n = 1 := by unfold sgn; rw [if_neg (by omega), if_neg (by omega)]
theorem sgn_negate (n : Int) : -sgn n = sgn (-n) := by
  rcases Int.lt_trichotomy n 0 with h | h | h
  · rw [sgn_lt h, sgn_gt (by omega)]; rfl
  · rw [sgn_eq h, sgn_eq (by omega)]; rfl
  · rw [sgn_gt h, sgn_lt (by omega)]
theorem sgn_small (n : Int) : -1 ≤ sgn n ∧ sgn n ≤ 1 := by unfold sgn; split <;> (try split) <;> omega

theorem rest_lt {a p : Int} (hp : 0 < p) : -p < a.tmod p ∧ a.tmod p < p := by
  rw [← sg_tmod]
  have h1 : a.natAbs % p.natAbs < p.natAbs := Nat.mod_lt _ (by omega)
  generalize a.natAbs % p.natAbs = m at *
  unfold sg
  split <;> omega
theorem quot_in {a p : Int} (ha : InW a) (hp : 0 < p) : InW (a.tdiv p) := by
  rw [← sg_tdiv]
  have h1 := Nat.div_le_self a.natAbs p.natAbs
  generalize a.natAbs / p.natAbs = m at *
  have : decide (p < 0) = false := decide_eq_false (by omega)
  rw [this]
  unfold sg InW at *
  by_cases h : a < 0
  · simp only [h, decide_true]
    simp
    omega
  · simp only [h, decide_false]
    simp
    omega

/-- a quotient and its rest, compared with b, are compared as the number with b times the divisor -/
theorem cmp_quot {a b p : Int} (hp : 0 < p) : (¬ sgn (a.tdiv p - b) = 0 ∧ sgn (a.tdiv p - b) = sgn (a - b * p)) ∨ (sgn (a.tdiv p - b) = 0 ∧ sgn (a.tmod p) = sgn (a - b * p)) := by
  have e := Int.mul_tdiv_add_tmod a p
  obtain ⟨r1, r2⟩ := rest_lt (a := a) hp
  generalize a.tdiv p = q at *
  generalize a.tmod p = r at *
  rcases Int.lt_trichotomy q b with h | h | h
  · left
    have h1 : (q + 1) * p ≤ b * p := Int.mul_le_mul_of_nonneg_right (by omega) (by omega)
    have h2 : (q + 1) * p = p * q + p := by rw [Int.add_mul, Int.one_mul, Int.mul_comm]
    rw [sgn_lt (by omega), sgn_lt (by omega)]
    exact ⟨by omega, rfl⟩
  · right
    subst h
    rw [sgn_eq (by omega)]
    have : a - q * p = r := by rw [Int.mul_comm]; omega
    rw [this]
    exact ⟨rfl, rfl⟩
  · left
    have h1 : (b + 1) * p ≤ q * p := Int.mul_le_mul_of_nonneg_right (by omega) (by omega)
    have h2 : (b + 1) * p = b * p + p := by rw [Int.add_mul, Int.one_mul]
    have h3 : q * p = p * q := Int.mul_comm _ _
    rw [sgn_gt (by omega), sgn_gt (by omega)]
    exact ⟨by omega, rfl⟩

/-- what comparing gives, and what is wrong -/
def cmpV (a s b t : Int) : Int := if rgt s = true ∧ rgt t = true then sgn (fin a (mxS s t - s) - fin b (mxS s t - t)) else 0
def cmpE (s t : Int) : Int := if rgt s = true ∧ rgt t = true then 0 else 21

theorem fin_zero (n : Int) : fin n 0 = n := by unfold fin; simp

set_option maxHeartbeats 2000000 in
theorem spec70 (h : Heap) {a s b t : Int} (ha : InW a) (hb : InW b) (h0 : 0 ≤ t) (h1 : t ≤ s) (h2 : s ≤ 18) : call 70 [[Dc a s], [Dc b t]] h = some ([.sc (.int .i64 (sgn (a - fin b (s - t))))], h) := by
  obtain ⟨p1, p2, p3, p4⟩ := pow_in (k := s - t) (by omega) (by omega)
  have s1 := fun h => spec38 h (s - t)
  rw [p1, p2] at s1
  have w1 : IntKind.i64.wrap (s - t) = s - t := wi64 (by omega) (by omega)
  have s2 := fun h => spec90 h ha p3
  have qi := quot_in ha p4
  have pz : ¬ (10 : Int) ^ (s - t).toNat = 0 := by omega
  unfold dvQ dvR dvE at s2
  rw [if_neg pz, if_neg pz, if_neg pz, if_pos qi] at s2
  have o1 : okC (a.tdiv (10 ^ (s - t).toNat)) = a.tdiv (10 ^ (s - t).toNat) := if_pos qi
  have o2 : okE (a.tdiv (10 ^ (s - t).toNat)) = 0 := if_pos qi
  rw [o1, o2] at s2
  have s3 := fun h => spec44 h qi hb
  have s4 := fun h => spec42 h (tmod_in (b := 10 ^ (s - t).toNat) ha)
  have cq := cmp_quot (a := a) (b := b) p4
  have e : b * 10 ^ (s - t).toNat = fin b (s - t) := rfl
  rw [e] at cq
  refine callX rfl (by rfl : F 70 = some M.a70) (fun R RO RD RT E => ?_)
  clear p1 p2 p3 p4 qi pz o1 o2 e
  generalize sgn (a - fin b (s - t)) = res at *
  generalize (10 : Int) ^ (s - t).toNat = p at *
  generalize sgn (a.tdiv p - b) = c at *
  generalize sgn (a.tmod p) = c2 at *
  generalize a.tdiv p = q at *
  generalize a.tmod p = r at *
  rcases cq with ⟨c1, rfl⟩ | ⟨rfl, rfl⟩
  · simp [M.a70, E.eqs, zero_dC, wC_zero, s1, w1, s2, s3, c1, fldA, freshB, loadA, storeA, trim_pure, pureT, pureV, pureS]
  · simp [M.a70, E.eqs, zero_dC, wC_zero, s1, w1, s2, s3, s4, fldA, freshB, loadA, storeA, trim_pure, pureT, pureV, pureS]

set_option maxHeartbeats 2000000 in
theorem spec46 (h : Heap) {a s b t : Int} (ha : InW a) (hb : InW b) : call 46 [[Dc a s], [Dc b t]] h = some ([.sc (.int .i64 (cmpV a s b t)), .sc (.int .i64 (cmpE s t))], h) := by
  have r1 := fun h => spec29 h a s
  have r2 := fun h => spec29 h b t
  unfold cmpV cmpE
  refine callX rfl (by rfl : F 46 = some M.a46) (fun R RO RD RT E => ?_)
  by_cases c1 : rgt s = true
  · rw [c1] at r1
    by_cases c2 : rgt t = true
    · rw [c2] at r2
      rw [if_pos ⟨c1, c2⟩, if_pos ⟨c1, c2⟩]
      obtain ⟨a0, a1⟩ := rgt_iff.1 c1
      obtain ⟨b0, b1⟩ := rgt_iff.1 c2
      by_cases c3 : s < t
      · have m : mxS s t = t := if_pos c3
        rw [m, Int.sub_self, fin_zero]
        have s1 := fun h => spec70 h (a := b) (s := t) (b := a) (t := s) hb ha a0 (by omega) b1
        have e : IntKind.i64.wrap (-sgn (b - fin a (t - s))) = sgn (fin a (t - s) - b) := by
          have := sgn_small (b - fin a (t - s))
          rw [wi64 (by omega) (by omega), sgn_negate]
          congr 1
          omega
        generalize sgn (fin a (t - s) - b) = r at *
        generalize sgn (b - fin a (t - s)) = r' at *
        simp [M.a46, E.eqs, r1, r2, c3, s1, e, fldA, freshB, loadA, storeA, trim_pure, pureT, pureV, pureS]
      · have m : mxS s t = s := if_neg c3
        rw [m, Int.sub_self, fin_zero]
        have s1 := fun h => spec70 h (a := a) (s := s) (b := b) (t := t) ha hb b0 (by omega) a1
        generalize sgn (a - fin b (s - t)) = r at *
        simp [M.a46, E.eqs, r1, r2, c3, s1, fldA, freshB, loadA, storeA, trim_pure, pureT, pureV, pureS]
    · rw [if_neg (fun c => c2 c.2), if_neg (fun c => c2 c.2)]
      have c2 : rgt t = false := by simpa using c2
      rw [c2] at r2
      simp [M.a46, E.eqs, zero_dC, r1, r2, fldA, freshB, loadA, storeA, trim_pure, pureT, pureV, pureS]
  · rw [if_neg (fun c => c1 c.1), if_neg (fun c => c1 c.1)]
    have c1 : rgt s = false := by simpa using c1
    rw [c1] at r1
    simp [M.a46, E.eqs, zero_dC, r1, fldA, freshB, loadA, storeA, trim_pure, pureT, pureV, pureS]

theorem fin_abs {n k : Int} (hn : InW n) (h0 : 0 ≤ k) (h1 : k ≤ 18) : (fin n k).natAbs < 4294967296 ^ 8 := by
  unfold fin
  rw [Int.natAbs_mul]
  have e : ((10 : Int) ^ k.toNat).natAbs = 10 ^ k.toNat := by rw [← pow_cast]; simp
  rw [e]
  have h2 : 10 ^ k.toNat ≤ 10 ^ 18 := Nat.pow_le_pow_right (by decide) (by omega)
  exact Nat.lt_of_le_of_lt (Nat.mul_le_mul (by unfold InW at hn; omega : n.natAbs ≤ 170141183460469231731687303715884105728) h2) (by decide)

set_option maxHeartbeats 2000000 in
theorem spec47 (h : Heap) {a s b t : Int} (ha : InW a) (hb : InW b) : call 47 [[Dc a s], [Dc b t]] h = some ([.sc (.int .i64 (cmpV a s b t)), .sc (.int .i64 (cmpE s t))], h) := by
  have r1 := fun h => spec30 h a s
  have r2 := fun h => spec30 h b t
  unfold cmpV cmpE
  refine callX rfl (by rfl : F 47 = some M.a47) (fun R RO RD RT E => ?_)
  by_cases c1 : rgt s = true
  · rw [c1] at r1
    by_cases c2 : rgt t = true
    · rw [c2] at r2
      rw [if_pos ⟨c1, c2⟩, if_pos ⟨c1, c2⟩]
      obtain ⟨a0, a1⟩ := rgt_iff.1 c1
      obtain ⟨b0, b1⟩ := rgt_iff.1 c2
      obtain ⟨m1, m2, m3⟩ := mxS_of s t
      have mx : (if s < t then t else s) = mxS s t := rfl
      generalize mxS s t = m at *
      have f1 := fun h => spec61 h (n := a) (s := s) (t := m) ha a0 m1 (by omega)
      have f2 := fun h => spec61 h (n := b) (s := t) (t := m) hb b0 m2 (by omega)
      have b1 := fin_abs (k := m - s) ha (by omega) (by omega)
      have b2 := fin_abs (k := m - t) hb (by omega) (by omega)
      generalize fin a (m - s) = x at *
      generalize fin b (m - t) = y at *
      have l8 : (4294967296 : Nat) ^ 8 + 4294967296 ^ 8 < 4294967296 ^ 15 := by decide
      have s1 := fun h => spec71 h (a := x) (b := y) (by unfold InB; omega) (by unfold InB; omega) (by unfold InB; omega)
      generalize sgn (x - y) = r at *
      clear l8 b1 b2
      simp [M.a47, E.eqs, r1, r2, mx, f1, f2, s1, fldA, freshB, loadA, storeA, trim_pure, pureT, pureV, pureS]
    · rw [if_neg (fun c => c2 c.2), if_neg (fun c => c2 c.2)]
      have c2 : rgt t = false := by simpa using c2
      rw [c2] at r2
      simp [M.a47, E.eqs, zero_dC, r1, r2, fldA, freshB, loadA, storeA, trim_pure, pureT, pureV, pureS]
  · rw [if_neg (fun c => c1 c.1), if_neg (fun c => c1 c.1)]
    have c1 : rgt s = false := by simpa using c1
    rw [c1] at r1
    simp [M.a47, E.eqs, zero_dC, r1, fldA, freshB, loadA, storeA, trim_pure, pureT, pureV, pureS]
end Go.Proofs.Ytdodhmidhcpnnaa
