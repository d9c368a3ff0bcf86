/- Chapter 18: conversions: both ways. -/
import Derived.Test.YtdodhmidhcpnnaaD3
import Derived.Test.YtdodhmidhcpnnaaD4
set_option linter.unusedVariables false
set_option linter.unusedSimpArgs false
set_option maxRecDepth 100000
namespace Go.Proofs.Ytdodhmidhcpnnaa
open Go.Abs

/-- may it be a rate? -/
def rrE (n s : Int) : Int := if rgt s = true then (if 0 < n then 0 else 44) else 21
/-- what is crossed -/
def crossR (a s b t to : Int) : TV :=
  if rgt s = true ∧ rgt to = true then (if 0 < a then (if rrE b t = 0 then mulR a s b t to else [Dc 0 0, .sc (.int .i64 (rrE b t))]) else [Dc 0 0, .sc (.int .i64 43)]) else [Dc 0 0, .sc (.int .i64 21)]
theorem crossR_form (a s b t to : Int) : ∃ n m e : Int, crossR a s b t to = [Dc n m, .sc (.int .i64 e)] := by
  unfold crossR
  split
  · split
    · split
      · exact mulR_form a s b t to
      · exact ⟨0, 0, _, rfl⟩
    · exact ⟨0, 0, 43, rfl⟩
  · exact ⟨0, 0, 21, rfl⟩

theorem sgn_pos_iff (n : Int) : (0 < sgn n) ↔ 0 < n := by
  rcases Int.lt_trichotomy n 0 with h | h | h
  · rw [sgn_lt h]; omega
  · rw [sgn_eq h]; omega
  · rw [sgn_gt h]; omega

theorem zero_cmp {n s : Int} (hs : rgt s = true) : cmpV n s 0 0 = sgn n ∧ cmpE s 0 = 0 := by
  have r0 : rgt 0 = true := rfl
  unfold cmpV cmpE
  rw [if_pos ⟨hs, r0⟩, if_pos ⟨hs, r0⟩]
  obtain ⟨a0, _⟩ := rgt_iff.1 hs
  have m : mxS s 0 = s := if_neg (by omega)
  rw [m, Int.sub_self, fin_zero]
  refine ⟨?_, rfl⟩
  unfold fin
  rw [Int.zero_mul, Int.sub_zero]

theorem spec65 (h : Heap) {n s : Int} (hn : InW n) (hs : rgt s = true) : call 65 [[Dc n s]] h = some ([.sc (.bool (decide (0 < n)))], h) := by
  have s1 := fun h => spec46 h (s := s) (t := 0) hn inW_zero
  rw [(zero_cmp (n := n) hs).1, (zero_cmp (n := n) hs).2] at s1
  have e := sgn_pos_iff n
  refine callX rfl (by rfl : F 65 = some M.a65) (fun R RO RD RT E => ?_)
  generalize sgn n = v at *
  by_cases c : 0 < n
  · have c' := e.2 c
    rw [decide_eq_true c]
    simp [M.a65, E.eqs, zero_dC, s1, c', fldA, freshB, loadA, storeA, trim_pure, pureT, pureV, pureS]
  · have c' : ¬ 0 < v := fun q => c (e.1 q)
    rw [decide_eq_false c]
    simp [M.a65, E.eqs, zero_dC, s1, c', fldA, freshB, loadA, storeA, trim_pure, pureT, pureV, pureS]

theorem spec34 (h : Heap) {n s : Int} (hn : InW n) : call 34 [[Dc n s]] h = some ([.sc (.int .i64 (rrE n s))], h) := by
  have r1 := fun h => spec29 h n s
  unfold rrE
  refine callX rfl (by rfl : F 34 = some M.a34) (fun R RO RD RT E => ?_)
  by_cases c1 : rgt s = true
  · rw [if_pos c1]
    have s2 := fun h => spec65 h hn c1
    rw [c1] at r1
    by_cases c : 0 < n
    · rw [if_pos c]
      rw [decide_eq_true c] at s2
      simp [M.a34, E.eqs, r1, s2, fldA, freshB, loadA, storeA, trim_pure, pureT, pureV, pureS]
    · rw [if_neg c]
      rw [decide_eq_false c] at s2
      simp [M.a34, E.eqs, r1, s2, fldA, freshB, loadA, storeA, trim_pure, pureT, pureV, pureS]
  · rw [if_neg c1]
    have c1 : rgt s = false := by simpa using c1
    rw [c1] at r1
    simp [M.a34, E.eqs, r1, fldA, freshB, loadA, storeA, trim_pure, pureT, pureV, pureS]

theorem hi_neg (n : Int) : (n / 18446744073709551616 < 0) ↔ n < 0 := by omega
theorem spec37 (h : Heap) {n s : Int} (hn : InW n) : call 37 [[Dc n s]] h = some ([.sc (.int .i64 (rrE n s))], h) := by
  have r1 := fun h => spec30 h n s
  have ek := wC_eqK_of hn inW_zero
  have hi := hi_neg n
  unfold rrE
  refine callX rfl (by rfl : F 37 = some M.a37) (fun R RO RD RT E => ?_)
  by_cases c1 : rgt s = true
  · rw [if_pos c1]
    rw [c1] at r1
    by_cases c : 0 < n
    · rw [if_pos c]
      have d1 : ¬ n / 18446744073709551616 < 0 := fun q => by have := hi.1 q; omega
      rw [decide_eq_false (show ¬ n = 0 by omega)] at ek
      simp [M.a37, E.eqs, wC_zero, dC_hi, dC_hi', r1, d1, ek, fldA, freshB, loadA, storeA, trim_pure, pureT, pureV, pureS]
    · rw [if_neg c]
      by_cases c2 : n < 0
      · have d1 : n / 18446744073709551616 < 0 := hi.2 c2
        simp [M.a37, E.eqs, wC_zero, dC_hi, dC_hi', r1, d1, fldA, freshB, loadA, storeA, trim_pure, pureT, pureV, pureS]
      · have d1 : ¬ n / 18446744073709551616 < 0 := fun q => c2 (hi.1 q)
        rw [decide_eq_true (show n = 0 by omega)] at ek
        simp [M.a37, E.eqs, wC_zero, dC_hi, dC_hi', r1, d1, ek, fldA, freshB, loadA, storeA, trim_pure, pureT, pureV, pureS]
  · rw [if_neg c1]
    have c1 : rgt s = false := by simpa using c1
    rw [c1] at r1
    simp [M.a37, E.eqs, r1, fldA, freshB, loadA, storeA, trim_pure, pureT, pureV, pureS]

set_option maxHeartbeats 1000000 in
theorem spec31 (h : Heap) {a s b t to : Int} (ha : InW a) (hb : InW b) : call 31 [[Dc a s], [Dc b t], [.sc (.int .i64 to)]] h = some (crossR a s b t to, h) := by
  have r1 := fun h => spec29 h a s
  have r2 := fun h => spec34 h (s := t) hb
  have m1 := fun h => spec18 h (s := s) (t := t) (to := to) ha hb
  unfold crossR
  refine callX rfl (by rfl : F 31 = some M.a31) (fun R RO RD RT E => ?_)
  by_cases c1 : rgt s = true
  · have s2 := fun h => spec65 h ha c1
    rw [c1] at r1
    by_cases c2 : rgt to = true
    · rw [if_pos ⟨c1, c2⟩]
      obtain ⟨d0, d1⟩ := rgt_iff.1 c2
      have n0 : ¬ to < 0 := by omega
      have n1 : ¬ 18 < to := by omega
      by_cases c : 0 < a
      · rw [if_pos c]
        rw [decide_eq_true c] at s2
        by_cases ce : rrE b t = 0
        · rw [if_pos ce]
          rw [ce] at r2
          obtain ⟨x1, x2, x3, hx⟩ := mulR_form a s b t to
          rw [hx] at m1 ⊢
          simp [M.a31, E.eqs, zero_dC, r1, r2, s2, n0, n1, m1, fldA, freshB, loadA, storeA, trim_pure, pureT, pureV, pureS]
        · rw [if_neg ce]
          generalize rrE b t = re at *
          simp [M.a31, E.eqs, zero_dC, r1, r2, s2, n0, n1, ce, fldA, freshB, loadA, storeA, trim_pure, pureT, pureV, pureS]
      · rw [if_neg c]
        rw [decide_eq_false c] at s2
        simp [M.a31, E.eqs, zero_dC, r1, s2, n0, n1, fldA, freshB, loadA, storeA, trim_pure, pureT, pureV, pureS]
    · rw [if_neg (fun q => c2 q.2)]
      have c3 : ¬ (0 ≤ to ∧ to ≤ 18) := fun c => c2 (rgt_iff.2 c)
      by_cases n0 : to < 0
      · simp [M.a31, E.eqs, zero_dC, r1, n0, fldA, freshB, loadA, storeA, trim_pure, pureT, pureV, pureS]
      · have n1 : 18 < to := by omega
        simp [M.a31, E.eqs, zero_dC, r1, n0, n1, fldA, freshB, loadA, storeA, trim_pure, pureT, pureV, pureS]
  · rw [if_neg (fun q => c1 q.1)]
    have c1 : rgt s = false := by simpa using c1
    rw [c1] at r1
    simp [M.a31, E.eqs, zero_dC, r1, fldA, freshB, loadA, storeA, trim_pure, pureT, pureV, pureS]

set_option maxHeartbeats 1000000 in
theorem spec36 (h : Heap) {a s b t to : Int} (ha : InW a) (hb : InW b) (hto1 : -9223372036854775808 ≤ to) (hto2 : to < 9223372036854775808) : call 36 [[Dc a s], [Dc b t], [.sc (.int .i64 to)]] h = some (crossR a s b t to, h) := by
  have r1 := fun h => spec30 h a s
  have r2 := fun h => spec37 h (s := t) hb
  have m1 := fun h => spec19 h (s := s) (t := t) (to := to) ha hb hto1 hto2
  have ek := wC_eqK_of ha inW_zero
  have hi := hi_neg a
  unfold crossR
  refine callX rfl (by rfl : F 36 = some M.a36) (fun R RO RD RT E => ?_)
  by_cases c1 : rgt s = true
  · rw [c1] at r1
    by_cases c2 : rgt to = true
    · rw [if_pos ⟨c1, c2⟩]
      obtain ⟨d0, d1⟩ := rgt_iff.1 c2
      have n0 : ¬ to < 0 := by omega
      have n1 : ¬ 18 < to := by omega
      by_cases c : 0 < a
      · rw [if_pos c]
        have d1 : ¬ a / 18446744073709551616 < 0 := fun q => by have := hi.1 q; omega
        rw [decide_eq_false (show ¬ a = 0 by omega)] at ek
        by_cases ce : rrE b t = 0
        · rw [if_pos ce]
          rw [ce] at r2
          obtain ⟨x1, x2, x3, hx⟩ := mulR_form a s b t to
          rw [hx] at m1 ⊢
          simp [M.a36, E.eqs, zero_dC, wC_zero, dC_hi, dC_hi', d1, ek, r1, r2, n0, n1, m1, fldA, freshB, loadA, storeA, trim_pure, pureT, pureV, pureS]
        · rw [if_neg ce]
          generalize rrE b t = re at *
          simp [M.a36, E.eqs, zero_dC, wC_zero, dC_hi, dC_hi', d1, ek, r1, r2, n0, n1, ce, fldA, freshB, loadA, storeA, trim_pure, pureT, pureV, pureS]
      · rw [if_neg c]
        by_cases c2 : a < 0
        · have d1 : a / 18446744073709551616 < 0 := hi.2 c2
          simp [M.a36, E.eqs, zero_dC, wC_zero, dC_hi, dC_hi', d1, r1, n0, n1, fldA, freshB, loadA, storeA, trim_pure, pureT, pureV, pureS]
        · have d1 : ¬ a / 18446744073709551616 < 0 := fun q => c2 (hi.1 q)
          rw [decide_eq_true (show a = 0 by omega)] at ek
          simp [M.a36, E.eqs, zero_dC, wC_zero, dC_hi, dC_hi', d1, ek, r1, n0, n1, fldA, freshB, loadA, storeA, trim_pure, pureT, pureV, pureS]
    · rw [if_neg (fun q => c2 q.2)]
      have c3 : ¬ (0 ≤ to ∧ to ≤ 18) := fun c => c2 (rgt_iff.2 c)
      by_cases n0 : to < 0
      · simp [M.a36, E.eqs, zero_dC, r1, n0, fldA, freshB, loadA, storeA, trim_pure, pureT, pureV, pureS]
      · have n1 : 18 < to := by omega
        simp [M.a36, E.eqs, zero_dC, r1, n0, n1, fldA, freshB, loadA, storeA, trim_pure, pureT, pureV, pureS]
  · rw [if_neg (fun q => c1 q.1)]
    have c1 : rgt s = false := by simpa using c1
    rw [c1] at r1
    simp [M.a36, E.eqs, zero_dC, r1, fldA, freshB, loadA, storeA, trim_pure, pureT, pureV, pureS]
end Go.Proofs.Ytdodhmidhcpnnaa
