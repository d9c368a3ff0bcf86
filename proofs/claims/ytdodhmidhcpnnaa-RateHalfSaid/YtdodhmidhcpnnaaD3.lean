/- Chapter 3: products to any scale: both ways. -/
import Derived.Test.YtdodhmidhcpnnaaD2
set_option linter.unusedVariables false
set_option linter.unusedSimpArgs false
set_option maxRecDepth 100000
namespace Go.Proofs.Ytdodhmidhcpnnaa
open Go.Abs

/-- a product to a scale, and what is wrong -/
def mulR (a s b t to : Int) : TV := if rgt s = true ∧ rgt t = true ∧ rgt to = true then okD (rndI (a * b) (s + t - to)) to else [Dc 0 0, .sc (.int .i64 21)]
theorem mulR_form (a s b t to : Int) : ∃ n m e : Int, mulR a s b t to = [Dc n m, .sc (.int .i64 e)] := by
  unfold mulR
  split
  · exact ⟨_, _, _, rfl⟩
  · exact ⟨0, 0, 21, rfl⟩

theorem rndI_fin {n k : Int} (hk : k ≤ 0) : rndI n k = fin n (-k) := by
  unfold rndI fin
  rw [if_neg (by omega)]
theorem fin_out {n k : Int} (hn : ¬ InW n) (hk : 0 ≤ k) : ¬ InW (fin n k) := by
  unfold fin InW at *
  have hp : (0 : Int) < 10 ^ k.toNat := Int.pow_pos (by omega)
  have h1 : (1 : Int) ≤ 10 ^ k.toNat := by omega
  by_cases h : 0 ≤ n
  · have := Int.mul_le_mul_of_nonneg_left h1 h
    omega
  · have := Int.mul_le_mul_of_nonneg_left h1 (show 0 ≤ -n by omega)
    rw [Int.neg_mul, Int.neg_mul] at this
    omega

set_option maxHeartbeats 2000000 in
theorem spec18 (h : Heap) {a s b t to : Int} (ha : InW a) (hb : InW b) : call 18 [[Dc a s], [Dc b t], [.sc (.int .i64 to)]] h = some (mulR a s b t to, h) := by
  have r1 := fun h => spec29 h a s
  have r2 := fun h => spec29 h b t
  have r3 := fun h => spec53 h to
  unfold mulR
  refine callX rfl (by rfl : F 18 = some M.a18) (fun R RO RD RT E => ?_)
  by_cases c1 : rgt s = true
  · rw [c1] at r1
    by_cases c2 : rgt t = true
    · rw [c2] at r2
      by_cases c3 : rgt to = true
      · rw [c3] at r3
        rw [if_pos ⟨c1, c2, c3⟩]
        obtain ⟨a0, a1⟩ := rgt_iff.1 c1
        obtain ⟨b0, b1⟩ := rgt_iff.1 c2
        obtain ⟨d0, d1⟩ := rgt_iff.1 c3
        have w0 : IntKind.i64.wrap (s + t) = s + t := wi64 (by omega) (by omega)
        have w1 : IntKind.i64.wrap (s + t - to) = s + t - to := wi64 (by omega) (by omega)
        by_cases hk : 0 ≤ s + t - to
        · have hk' : to ≤ s + t := by omega
          have s1 := fun h => spec54 h ha hb (s + t - to)
          unfold scC scE at s1
          rw [if_pos ⟨hk, by omega⟩, if_pos ⟨hk, by omega⟩] at s1
          have e : rnd (a * b) (s + t - to).toNat = rndI (a * b) (s + t - to) := by
            obtain ⟨m, hm⟩ := Int.eq_ofNat_of_zero_le hk
            rw [hm, rndI_of]
            rfl
          rw [e] at s1
          generalize rndI (a * b) (s + t - to) = r at *
          by_cases hz : InW r
          · rw [okD_in hz]
            have o1 : okC r = r := if_pos hz
            have o2 : okE r = 0 := if_pos hz
            rw [o1, o2] at s1
            simp [M.a18, E.eqs, zero_dC, wC_zero, r1, r2, r3, w0, w1, hk, hk', s1, fldA, freshB, loadA, storeA, trim_pure, pureT, pureV, pureS]
          · rw [okD_out hz]
            have o1 : okC r = 0 := if_neg hz
            have o2 : okE r = 20 := if_neg hz
            rw [o1, o2] at s1
            simp [M.a18, E.eqs, zero_dC, wC_zero, r1, r2, r3, w0, w1, hk, hk', s1, fldA, freshB, loadA, storeA, trim_pure, pureT, pureV, pureS]
        · have hk' : ¬ to ≤ s + t := by omega
          rw [rndI_fin (by omega)]
          have s1 := fun h => spec39 h ha hb
          have w2 : IntKind.i64.wrap (-(s + t - to)) = -(s + t - to) := wi64 (by omega) (by omega)
          have w3 : IntKind.i64.wrap (to - (s + t)) = -(s + t - to) := by rw [wi64 (by omega) (by omega)]; omega
          by_cases hp : InW (a * b)
          · rw [okW_in' hp] at s1
            have s2 := fun h => spec55 h (n := a * b) (k := -(s + t - to)) hp (by omega) (by omega)
            generalize fin (a * b) (-(s + t - to)) = r at *
            generalize a * b = p at *
            by_cases hz : InW r
            · rw [okW_in' hz] at s2
              rw [okD_in hz]
              simp [M.a18, E.eqs, zero_dC, wC_zero, r1, r2, r3, w0, w1, w2, hk, hk', s1, fldA, freshB, loadA, storeA, trim_pure, pureT, pureV, pureS]
              try simp [w3, s2, zero_dC, freshB, loadA, storeA, trim_pure, pureT, pureV, pureS]
            · rw [okW_out' hz] at s2
              rw [okD_out hz]
              simp [M.a18, E.eqs, zero_dC, wC_zero, r1, r2, r3, w0, w1, w2, hk, hk', s1, fldA, freshB, loadA, storeA, trim_pure, pureT, pureV, pureS]
              try simp [w3, s2, zero_dC, freshB, loadA, storeA, trim_pure, pureT, pureV, pureS]
          · rw [okW_out' hp] at s1
            rw [okD_out (fin_out hp (by omega))]
            simp [M.a18, E.eqs, zero_dC, wC_zero, r1, r2, r3, w0, w1, hk, hk', s1, fldA, freshB, loadA, storeA, trim_pure, pureT, pureV, pureS]
      · rw [if_neg (fun c => c3 c.2.2)]
        have c3 : rgt to = false := by simpa using c3
        rw [c3] at r3
        simp [M.a18, E.eqs, zero_dC, r1, r2, r3, fldA, freshB, loadA, storeA, trim_pure, pureT, pureV, pureS]
    · rw [if_neg (fun c => c2 c.2.1)]
      have c2 : rgt t = false := by simpa using c2
      rw [c2] at r2
      simp [M.a18, E.eqs, zero_dC, r1, r2, fldA, freshB, loadA, storeA, trim_pure, pureT, pureV, pureS]
  · rw [if_neg (fun c => c1 c.1)]
    have c1 : rgt s = false := by simpa using c1
    rw [c1] at r1
    simp [M.a18, E.eqs, zero_dC, r1, fldA, freshB, loadA, storeA, trim_pure, pureT, pureV, pureS]

theorem one_Dc : AV.agg (setCells (dC 0 0) 0 (wC 1)) = Dc 1 0 := rfl
theorem inW_one : InW 1 := by unfold InW; omega
theorem spec21 (h : Heap) {a s to : Int} (ha : InW a) : call 21 [[Dc a s], [.sc (.int .i64 to)]] h = some (mulR a s 1 0 to, h) := by
  have s1 := fun h => spec18 h (s := s) (t := 0) (to := to) ha inW_one
  have s2 := fun h => spec45 h (n := 1) (by omega) (by omega)
  obtain ⟨n, m, e, hf⟩ := mulR_form a s 1 0 to
  rw [hf] at s1 ⊢
  refine callX rfl (by rfl : F 21 = some M.a21) (fun R RO RD RT E => ?_)
  simp [M.a21, E.eqs, zero_dC, s1, s2, freshB, loadA, storeA, trim_pure, pureT, pureV, pureS]

set_option maxHeartbeats 2000000 in
theorem spec19 (h : Heap) {a s b t to : Int} (ha : InW a) (hb : InW b) (hto1 : -9223372036854775808 ≤ to) (hto2 : to < 9223372036854775808) : call 19 [[Dc a s], [Dc b t], [.sc (.int .i64 to)]] h = some (mulR a s b t to, h) := by
  have r1 := fun h => spec30 h a s
  have r2 := fun h => spec30 h b t
  unfold mulR
  refine callX rfl (by rfl : F 19 = some M.a19) (fun R RO RD RT E => ?_)
  by_cases c1 : rgt s = true
  · rw [c1] at r1
    by_cases c2 : rgt t = true
    · rw [c2] at r2
      by_cases c3 : rgt to = true
      · rw [if_pos ⟨c1, c2, c3⟩]
        obtain ⟨a0, a1⟩ := rgt_iff.1 c1
        obtain ⟨b0, b1⟩ := rgt_iff.1 c2
        obtain ⟨d0, d1⟩ := rgt_iff.1 c3
        have n0 : ¬ to < 0 := by omega
        have n1 : ¬ 18 < to := by omega
        have w0 : IntKind.i64.wrap (s + t) = s + t := wi64 (by omega) (by omega)
        have w1 : IntKind.i64.wrap (s + t - to) = s + t - to := wi64 (by omega) (by omega)
        have s1 := fun h => spec59 h ha
        have s2 := fun h => spec59 h hb
        have s3 := fun h => spec58 h (a := a) (b := b) (Nat.lt_trans ha.natAbs (by decide)) (Nat.lt_trans hb.natAbs (by decide))
        have s4 := fun h => spec57 h (n := a * b) (k := s + t - to) (ha.mul8 hb) (by omega) (by omega)
        have s5 := fun h => spec56 h to (rndI_big (n := a * b) (k := s + t - to) (ha.mul8 hb) (by omega) (by omega))
        generalize rndI (a * b) (s + t - to) = r at *
        generalize a * b = p at *
        generalize okC r = z1 at *
        generalize (if InW r then to else 0) = z2 at *
        generalize okE r = z3 at *
        simp [M.a19, E.eqs, zero_dC, zeros_big, r1, r2, n0, n1, w0, w1, s1, s2, s3, s4, s5, fldA, freshB, loadA, storeA, trim_pure, pureT, pureV, pureS]
      · rw [if_neg (fun c => c3 c.2.2)]
        have c3 : ¬ (0 ≤ to ∧ to ≤ 18) := fun c => c3 (rgt_iff.2 c)
        by_cases n0 : to < 0
        · simp [M.a19, E.eqs, zero_dC, r1, r2, n0, fldA, freshB, loadA, storeA, trim_pure, pureT, pureV, pureS]
        · have n1 : 18 < to := by omega
          simp [M.a19, E.eqs, zero_dC, r1, r2, n0, n1, fldA, freshB, loadA, storeA, trim_pure, pureT, pureV, pureS]
    · rw [if_neg (fun c => c2 c.2.1)]
      have c2 : rgt t = false := by simpa using c2
      rw [c2] at r2
      simp [M.a19, E.eqs, zero_dC, r1, r2, fldA, freshB, loadA, storeA, trim_pure, pureT, pureV, pureS]
  · rw [if_neg (fun c => c1 c.1)]
    have c1 : rgt s = false := by simpa using c1
    rw [c1] at r1
    simp [M.a19, E.eqs, zero_dC, r1, fldA, freshB, loadA, storeA, trim_pure, pureT, pureV, pureS]

theorem spec22 (h : Heap) {a s to : Int} (ha : InW a) : call 22 [[Dc a s], [.sc (.int .i64 to)]] h = some (mulR a s 1 0 to, h) := by
  have r1 := fun h => spec30 h a s
  have r0 : rgt 0 = true := rfl
  unfold mulR
  rw [Int.mul_one, Int.add_zero]
  refine callX rfl (by rfl : F 22 = some M.a22) (fun R RO RD RT E => ?_)
  by_cases c1 : rgt s = true
  · rw [c1] at r1
    by_cases c3 : rgt to = true
    · rw [if_pos ⟨c1, r0, c3⟩]
      obtain ⟨a0, a1⟩ := rgt_iff.1 c1
      obtain ⟨d0, d1⟩ := rgt_iff.1 c3
      have n0 : ¬ to < 0 := by omega
      have n1 : ¬ 18 < to := by omega
      have w1 : IntKind.i64.wrap (s - to) = s - to := wi64 (by omega) (by omega)
      have s1 := fun h => spec59 h ha
      have h8 : a.natAbs < 4294967296 ^ 8 := Nat.lt_trans ha.natAbs (by decide)
      have s4 := fun h => spec57 h (n := a) (k := s - to) h8 (by omega) (by omega)
      have s5 := fun h => spec56 h to (rndI_big (n := a) (k := s - to) h8 (by omega) (by omega))
      generalize rndI a (s - to) = r at *
      generalize okC r = z1 at *
      generalize (if InW r then to else 0) = z2 at *
      generalize okE r = z3 at *
      simp [M.a22, E.eqs, zero_dC, zeros_big, r1, n0, n1, w1, s1, s4, s5, fldA, freshB, loadA, storeA, trim_pure, pureT, pureV, pureS]
    · rw [if_neg (fun c => c3 c.2.2)]
      have c3 : ¬ (0 ≤ to ∧ to ≤ 18) := fun c => c3 (rgt_iff.2 c)
      by_cases n0 : to < 0
      · simp [M.a22, E.eqs, zero_dC, r1, n0, fldA, freshB, loadA, storeA, trim_pure, pureT, pureV, pureS]
      · have n1 : 18 < to := by omega
        simp [M.a22, E.eqs, zero_dC, r1, n0, n1, fldA, freshB, loadA, storeA, trim_pure, pureT, pureV, pureS]
  · rw [if_neg (fun c => c1 c.1)]
    have c1 : rgt s = false := by simpa using c1
    rw [c1] at r1
    simp [M.a22, E.eqs, zero_dC, r1, fldA, freshB, loadA, storeA, trim_pure, pureT, pureV, pureS]
end Go.Proofs.Ytdodhmidhcpnnaa
