/- Chapter 2, the document's: rounding, Scaled. -/
import Derived.Test.YtohnpealiilikaaNJ
import Derived.Test.YtohnpealiilikaaNL
import Derived.Test.YtohnpealiilikaaNE
set_option linter.unusedVariables false
set_option linter.unusedSimpArgs false
set_option maxRecDepth 100000
namespace Go.Proofs.Ytohnpealiilikaa
open Go.Abs

theorem ten_small {k : Nat} (hk : k ≤ 60) : 10 ^ k < 4294967296 ^ 7 := Nat.lt_of_le_of_lt (Nat.pow_le_pow_right (by decide) hk) (by decide)
theorem pow_cast (k : Nat) : ((10 ^ k : Nat) : Int) = (10 : Int) ^ k := by simp

/-- a big number by a power of ten, half-even; up, if it is below 0 -/
def rndI (n k : Int) : Int := if 0 < k then rnd n k.toNat else n * 10 ^ (-k).toNat
theorem rndI_pos (n : Int) {k : Nat} (hk : 0 < k) : rndI n k = rnd n k := by unfold rndI; rw [if_pos (by omega)]; congr 1
theorem rndI_neg (n : Int) (k : Nat) : rndI n (-(k : Int)) = n * 10 ^ k := by
  unfold rndI
  rw [if_neg (by omega)]
  have : (-(-(k : Int))).toNat = k := by omega
  rw [this]

theorem round_neg (h : Heap) {n : Int} {k : Nat} (hn : n.natAbs < 4294967296 ^ 8) (hk : k ≤ 60) : call 54 [[.agg (bigC n)], [.sc (.int .i64 (-(k : Int)))]] h = some ([.agg (bigC (n * 10 ^ k))], h) := by
  have s1 := fun h => spec55 h hk
  have hT := ten_small hk
  have e := pow_cast k
  have mk := big_mk (n := (10 : Int) ^ k) (b := false) (N := 10 ^ k) (by rw [← e]; exact (decide_eq_false (Int.not_lt.2 (Int.natCast_nonneg _))).symm) (by rw [← e]; simp)
  have s2 := fun h => spec50 h (a := n) (b := 10 ^ k) hn (by rw [← e]; simpa using hT)
  have w1 : IntKind.i64.wrap (k : Int) = (k : Int) := wi64 (by omega) (by omega)
  have c1 : -(k : Int) ≤ 0 := by omega
  refine callX rfl (by rfl : F 54 = some M.a54) (fun R RO RD RT E => ?_)
  clear hT e
  generalize (10 : Int) ^ k = p at *
  generalize (10 : Nat) ^ k = q at *
  generalize n * p = np at *
  simp [M.a54, E.eqs, c1, w1, s1, mk, s2, fldA, freshB, loadA, storeA, trim_pure, pureT, pureV, pureS]

theorem one_put : (digC 0).set 0 (.int .u64 1) = digC 1 := rfl
theorem digC_low {N : Nat} : (digC N)[0]? = some (.int .u64 ((N % 4294967296 : Nat) : Int)) := by
  have := digC_get (N := N) (i := 0) (by decide)
  rw [Nat.pow_zero, Nat.div_one] at this
  exact this
theorem rem2' (x : Nat) : ((x % 4294967296 : Nat) : Int).tmod 2 = ((x % 2 : Nat) : Int) := by rw [rem2]; congr 1; omega

set_option maxHeartbeats 4000000 in
theorem round_pos (h : Heap) {n : Int} {k : Nat} (hn : InB n) (h0 : 0 < k) (hk : k ≤ 60) : call 54 [[.agg (bigC n)], [.sc (.int .i64 k)]] h = some ([.agg (bigC (rnd n k))], h) := by
  have s1 := fun h => spec55 h hk
  have hT := ten_small hk
  have hT0 : 0 < 10 ^ k := Nat.pow_pos (by decide)
  have b7 : (4294967296 : Nat) ^ 7 < 4294967296 ^ 15 := by decide
  have b16 : (4294967296 : Nat) ^ 16 = 4294967296 ^ 15 * 4294967296 := Nat.pow_succ 4294967296 15
  have b1 : 1 < (4294967296 : Nat) ^ 15 := by decide
  have s3 := fun h => spec46 h (a := n.natAbs) (b := 10 ^ k) hT0 (Nat.lt_trans hT b7) hn.lt
  have rl := Nat.mod_lt n.natAbs hT0
  have s4 := fun h => spec63 h (n.natAbs % 10 ^ k) (n.natAbs % 10 ^ k)
  have s5 := fun h => spec64 h (a := n.natAbs % 10 ^ k + n.natAbs % 10 ^ k) (b := 10 ^ k) (by omega) (by omega)
  have s6 := fun h => spec63 h (n.natAbs / 10 ^ k) 1
  have ql : n.natAbs / 10 ^ k < 4294967296 ^ 15 := Nat.lt_of_le_of_lt (Nat.div_le_self _ _) hn
  have lo := digC_low (N := n.natAbs / 10 ^ k)
  have r2 := rem2' (n.natAbs / 10 ^ k)
  obtain ⟨w, hw⟩ : ∃ w, w = n.natAbs / 10 ^ k % 4294967296 := ⟨_, rfl⟩
  obtain ⟨bq, hbq⟩ : ∃ bq, bq = n.natAbs / 10 ^ k % 2 := ⟨_, rfl⟩
  have m2 : bq = 0 ∨ bq = 1 := by omega
  rw [← hw] at lo r2
  rw [← hbq] at r2
  have lo' : ∀ hh, (digC (n.natAbs / 10 ^ k))[0]'hh = .int .u64 (w : Int) := fun hh => get_of lo hh
  have qu : rq n.natAbs (10 ^ k) = n.natAbs / 10 ^ k + 1 ∧ rqUp n.natAbs (10 ^ k) ∨ rq n.natAbs (10 ^ k) = n.natAbs / 10 ^ k ∧ ¬ rqUp n.natAbs (10 ^ k) := by
    unfold rq
    by_cases c : rqUp n.natAbs (10 ^ k)
    · exact .inl ⟨by rw [if_pos c], c⟩
    · exact .inr ⟨by rw [if_neg c]; rfl, c⟩
  have sz : ∀ q, q < 4294967296 ^ 16 → ∀ h, call 45 [[.agg (digC q)]] h = some ([.sc (.bool (decide (q = 0)))], h) := fun q hq h => spec45 h hq
  have sz1 := sz (n.natAbs / 10 ^ k) (by omega)
  have sz2 := sz (n.natAbs / 10 ^ k + 1) (by omega)
  have mk := big_mk (sg_neg (decide (n < 0)) (rq n.natAbs (10 ^ k))) (sg_abs _ _)
  have mr : sg (decide (n < 0)) (rq n.natAbs (10 ^ k)) = rnd n k := rfl
  rw [mr] at mk
  unfold rqUp at qu
  have c1 : ¬ (k : Int) ≤ 0 := by omega
  have c2 : ¬ k = 0 := by omega
  have cmpv : (10 ^ k < n.natAbs % 10 ^ k + n.natAbs % 10 ^ k ∧ (if n.natAbs % 10 ^ k + n.natAbs % 10 ^ k = 10 ^ k then (0 : Int) else if n.natAbs % 10 ^ k + n.natAbs % 10 ^ k < 10 ^ k then -1 else 1) = 1) ∨
      (n.natAbs % 10 ^ k + n.natAbs % 10 ^ k = 10 ^ k ∧ (if n.natAbs % 10 ^ k + n.natAbs % 10 ^ k = 10 ^ k then (0 : Int) else if n.natAbs % 10 ^ k + n.natAbs % 10 ^ k < 10 ^ k then -1 else 1) = 0) ∨
      (n.natAbs % 10 ^ k + n.natAbs % 10 ^ k < 10 ^ k ∧ (if n.natAbs % 10 ^ k + n.natAbs % 10 ^ k = 10 ^ k then (0 : Int) else if n.natAbs % 10 ^ k + n.natAbs % 10 ^ k < 10 ^ k then -1 else 1) = -1) := by
    generalize n.natAbs % 10 ^ k + n.natAbs % 10 ^ k = x
    generalize 10 ^ k = y
    rcases Nat.lt_trichotomy x y with c | c | c
    · exact .inr (.inr ⟨c, by rw [if_neg (by omega), if_pos c]⟩)
    · exact .inr (.inl ⟨c, by rw [if_pos c]⟩)
    · exact .inl ⟨c, by rw [if_neg (by omega), if_neg (by omega)]⟩
  clear hT hT0 b7 b16 b1 rl ql hn hk sz mr
  refine callX rfl (by rfl : F 54 = some M.a54) (fun R RO RD RT E => ?_)
  generalize (if n.natAbs % 10 ^ k + n.natAbs % 10 ^ k = 10 ^ k then (0 : Int) else if n.natAbs % 10 ^ k + n.natAbs % 10 ^ k < 10 ^ k then -1 else 1) = cv at *
  generalize rnd n k = res at *
  generalize rq n.natAbs (10 ^ k) = rr at *
  generalize n.natAbs / 10 ^ k = q at *
  generalize n.natAbs % 10 ^ k = r at *
  generalize (10 : Nat) ^ k = T at *
  have up : (cv = 1 ∨ cv = 0 ∧ bq = 1) ∧ rr = q + 1 ∨ (cv = -1 ∨ cv = 0 ∧ bq = 0) ∧ rr = q := by omega
  clear cmpv qu hw hbq m2
  by_cases n0 : n < 0
  all_goals
    rcases up with ⟨cc, rfl⟩ | ⟨cc, rfl⟩
    · simp [n0] at mk
      rcases cc with rfl | ⟨rfl, rfl⟩
      · simp [M.a54, E.eqs, c1, c2, s1, s3, s4, s5, s6, one_put, n0, mk, sz2, zeros_big, zeros_digC, fldA, freshB, loadA, storeA, trim_pure, pureT, pureV, pureS]
      · simp [M.a54, E.eqs, c1, c2, s1, s3, s4, s5, s6, one_put, lo, lo', r2, n0, mk, sz2, zeros_big, zeros_digC, fldA, freshB, loadA, storeA, trim_pure, pureT, pureV, pureS]
    · simp [n0] at mk
      rcases cc with rfl | ⟨rfl, rfl⟩
      · simp [M.a54, E.eqs, c1, c2, s1, s3, s4, s5, s6, one_put, n0, mk, sz1, zeros_big, zeros_digC, fldA, freshB, loadA, storeA, trim_pure, pureT, pureV, pureS]
      · simp [M.a54, E.eqs, c1, c2, s1, s3, s4, s5, s6, one_put, lo, lo', r2, n0, mk, sz1, zeros_big, zeros_digC, fldA, freshB, loadA, storeA, trim_pure, pureT, pureV, pureS]

/-- rounding, by any power from -18 (or so) to 60 -/
theorem spec54 (h : Heap) {n k : Int} (hn : n.natAbs < 4294967296 ^ 8) (h1 : -60 ≤ k) (h2 : k ≤ 60) : call 54 [[.agg (bigC n)], [.sc (.int .i64 k)]] h = some ([.agg (bigC (rndI n k))], h) := by
  by_cases hk : 0 < k
  · obtain ⟨m, rfl⟩ := Int.eq_ofNat_of_zero_le (Int.le_of_lt hk)
    rw [rndI_pos n (by omega)]
    exact round_pos h (Nat.lt_trans hn (by decide)) (by omega) (by omega)
  · obtain ⟨m, hm⟩ : ∃ m : Nat, k = -(m : Int) := ⟨k.natAbs, by omega⟩
    subst hm
    rw [rndI_neg]
    exact round_neg h hn (by omega)
theorem rndI_big {n k : Int} (hn : n.natAbs < 4294967296 ^ 8) (h1 : -60 ≤ k) (h2 : k ≤ 60) : InB (rndI n k) := by
  unfold InB
  by_cases hk : 0 < k
  · obtain ⟨m, rfl⟩ := Int.eq_ofNat_of_zero_le (Int.le_of_lt hk)
    rw [rndI_pos n (by omega)]
    unfold rnd
    rw [← sg_abs]
    refine Nat.lt_of_le_of_lt rq_le ?_
    have : (4294967296 : Nat) ^ 8 + 1 < 4294967296 ^ 15 := by decide
    omega
  · obtain ⟨m, hm⟩ : ∃ m : Nat, k = -(m : Int) := ⟨k.natAbs, by omega⟩
    subst hm
    rw [rndI_neg, Int.natAbs_mul]
    have : ((10 : Int) ^ m).natAbs = 10 ^ m := by rw [← pow_cast]; simp
    rw [this]
    exact Nat.lt_of_lt_of_le (Nat.mul_lt_mul'' hn (ten_small (k := m) (by omega))) (by decide)

theorem InW.mul8 {a b : Int} (ha : InW a) (hb : InW b) : (a * b).natAbs < 4294967296 ^ 8 := by
  rw [Int.natAbs_mul]
  exact Nat.lt_of_le_of_lt (Nat.mul_le_mul (by unfold InW at ha; omega : a.natAbs ≤ 170141183460469231731687303715884105728) (by unfold InW at hb; omega : b.natAbs ≤ 170141183460469231731687303715884105728)) (by decide)

theorem rndI_of {n : Int} {k : Nat} : rndI n k = rnd n k := by
  by_cases hk : 0 < k
  · exact rndI_pos n hk
  · have : k = 0 := by omega
    subst this
    rw [rnd_zero]
    have := rndI_neg n 0
    simpa using this

theorem spec21 (h : Heap) {a b : Int} (ha : InW a) (hb : InW b) (k : Int) : call 21 [[W a], [W b], [.sc (.int .i64 k)]] h = some ([W (scC (a * b) k), .sc (.int .i64 (scE (a * b) k))], h) := by
  have s1 := fun h => spec44 h ha
  have s2 := fun h => spec44 h hb
  unfold scC scE
  by_cases hk : 0 ≤ k ∧ k ≤ 36
  · rw [if_pos hk, if_pos hk]
    have s3 := fun h => spec50 h (a := a) (b := b) (Nat.lt_trans ha.natAbs (by decide)) (Nat.lt_trans hb.natAbs (by decide))
    have s4 := fun h => spec54 h (n := a * b) (k := k) (ha.mul8 hb) (by omega) (by omega)
    have s5 := fun h => spec47 h (rndI_big (n := a * b) (k := k) (ha.mul8 hb) (by omega) (by omega))
    obtain ⟨n, rfl⟩ := Int.eq_ofNat_of_zero_le hk.1
    rw [rndI_of] at s4 s5
    have t : (n : Int).toNat = n := by omega
    rw [t]
    have c1 : ¬ (n : Int) < 0 := by omega
    have c2 : ¬ (36 : Int) < n := by omega
    refine callX rfl (by rfl : F 21 = some M.a21) (fun R RO RD RT E => ?_)
    generalize a * b = ab at *
    generalize rnd ab n = res at *
    simp [M.a21, E.eqs, c1, c2, s1, s2, s3, s4, s5, freshB, loadA, storeA, trim_pure, pureT, pureV, pureS]
  · rw [if_neg hk, if_neg hk]
    refine callX rfl (by rfl : F 21 = some M.a21) (fun R RO RD RT E => ?_)
    by_cases c1 : k < 0
    · simp [M.a21, E.eqs, c1, wC_zero, freshB, loadA, storeA, trim_pure, pureT, pureV, pureS]
    · have c2 : 36 < k := by omega
      simp [M.a21, E.eqs, c1, c2, wC_zero, freshB, loadA, storeA, trim_pure, pureT, pureV, pureS]
end Go.Proofs.Ytohnpealiilikaa
