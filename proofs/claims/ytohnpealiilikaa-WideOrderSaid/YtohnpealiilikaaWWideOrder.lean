/- WideOrder: the law's call says true, of any three numbers. -/
import Derived.Test.YtohnpealiilikaaN1
import Derived.Test.YtohnpealiilikaaY2
set_option linter.unusedVariables false
set_option linter.unusedSimpArgs false
set_option maxRecDepth 100000
namespace Go.Proofs.Ytohnpealiilikaa.lawWideOrder
open Go.Abs

theorem sgn_lt {n : Int} (h : n < 0) : sgn n = -1 := by unfold sgn; rw [if_pos h]
theorem sgn_eq {n : Int} (h : n = 0) : sgn n = 0 := by unfold sgn; rw [if_neg (by omega), if_pos h]
theorem sgn_gt {n : Int} (h : 0 < n) : sgn n = 1 := by unfold sgn; rw [if_neg (by omega), if_neg (by omega)]

theorem sgn_cases (n : Int) : (n < 0 ∧ sgn n = -1) ∨ (n = 0 ∧ sgn n = 0) ∨ (0 < n ∧ sgn n = 1) := by
  rcases Int.lt_trichotomy n 0 with h | h | h
  · exact .inl ⟨h, sgn_lt h⟩
  · exact .inr (.inl ⟨h, sgn_eq h⟩)
  · exact .inr (.inr ⟨h, sgn_gt h⟩)

set_option maxHeartbeats 4000000 in
theorem core {H : Type} (h : Heap) (tvs : List TV) (ds : List (DataW H)) (hr : AllRo h) (hi : Ins Try.prog h 6 [24, 24, 24] tvs ds) : ∃ h', callE F O 7 tvs h = some ([.sc (.bool true)], h') := by
  obtain ⟨tv, d, tvs, ds, rfl, rfl, h1, hi⟩ := ins_cons hi
  obtain ⟨tv2, d2, tvs, ds, rfl, rfl, h2, hi⟩ := ins_cons hi
  obtain ⟨tv3, d3, rfl, rfl, h3⟩ := ins_one hi
  obtain ⟨a, rfl, ha⟩ := in_wide h1
  obtain ⟨b, rfl, hb⟩ := in_wide h2
  obtain ⟨c, rfl, hc⟩ := in_wide h3
  have s1 := fun h => spec25 h ha hb
  have s2 := fun h => spec25 h hb ha
  have s3 := fun h => spec25 h hb hc
  have s4 := fun h => spec25 h ha hc
  have s5 := fun h => spec19 h ha hc
  have s6 := fun h => spec19 h hb hc
  have s7 := fun h => spec25 h (inW_okC (a + c)) (inW_okC (b + c))
  have kn := spec16
  have eq1 := wC_eqK_of ha hb
  have f1 : IntKind.i64.wrap (-sgn (b - a)) = sgn (a - b) := by
    rcases Int.lt_trichotomy a b with hab | hab | hab
    · rw [sgn_gt (n := b - a) (by omega), sgn_lt (n := a - b) (by omega), wi64']; omega
    · rw [sgn_eq (n := b - a) (by omega), sgn_eq (n := a - b) (by omega), wi64']; omega
    · rw [sgn_lt (n := b - a) (by omega), sgn_gt (n := a - b) (by omega), wi64']; omega
  have f2 : sgn (a - b) = 0 ↔ a = b := by unfold sgn; split <;> (try split) <;> omega
  have f3 : (sgn (a - b) ≤ 0 ∧ sgn (b - c) ≤ 0 ∧ ¬ 0 < sgn (a - c)) ∨ (sgn (a - b) ≤ 0 ∧ ¬ sgn (b - c) ≤ 0) ∨ ¬ sgn (a - b) ≤ 0 := by
    have x1 := sgn_cases (a - b)
    have x2 := sgn_cases (b - c)
    have x3 := sgn_cases (a - c)
    omega
  have q6 : (okE (a + c) = 0 ∧ okE (b + c) = 0 ∧ sgn (okC (a + c) - okC (b + c)) = sgn (a - b)) ∨ okE (a + c) = 20 ∨ (okE (a + c) = 0 ∧ okE (b + c) = 20) := by
    unfold okE okC
    by_cases i1 : InW (a + c) <;> by_cases i2 : InW (b + c) <;> simp [i1, i2]
    congr 1; omega
  refine ⟨h, callX rfl (by rfl : F 7 = some M.a7) (fun R RO RD RT E => ?_)⟩
  clear h1 h2 h3 ha hb hc
  generalize sgn (a - b) = p at *
  generalize sgn (b - c) = q at *
  generalize sgn (a - c) = r at *
  generalize sgn (b - a) = p' at *
  rcases f3 with ⟨g1, g2, g3⟩ | ⟨g1, g2⟩ | g1
  · rcases q6 with ⟨q6, q7, q8⟩ | q6 | ⟨q6, q7⟩
    · simp [M.a7, E.eqs, s1, s2, s3, s4, s5, s6, s7, kn, eq1, f1, f2, g1, g2, g3, q6, q7, q8, fldA, freshB, loadA, storeA, trim_pure, pureT, pureV, pureS]
    · simp [M.a7, E.eqs, s1, s2, s3, s4, s5, s6, s7, kn, eq1, f1, f2, g1, g2, g3, q6, fldA, freshB, loadA, storeA, trim_pure, pureT, pureV, pureS]
    · simp [M.a7, E.eqs, s1, s2, s3, s4, s5, s6, s7, kn, eq1, f1, f2, g1, g2, g3, q6, q7, fldA, freshB, loadA, storeA, trim_pure, pureT, pureV, pureS]
  · rcases q6 with ⟨q6, q7, q8⟩ | q6 | ⟨q6, q7⟩
    · simp [M.a7, E.eqs, s1, s2, s3, s4, s5, s6, s7, kn, eq1, f1, f2, g1, g2, q6, q7, q8, fldA, freshB, loadA, storeA, trim_pure, pureT, pureV, pureS]
    · simp [M.a7, E.eqs, s1, s2, s3, s4, s5, s6, s7, kn, eq1, f1, f2, g1, g2, q6, fldA, freshB, loadA, storeA, trim_pure, pureT, pureV, pureS]
    · simp [M.a7, E.eqs, s1, s2, s3, s4, s5, s6, s7, kn, eq1, f1, f2, g1, g2, q6, q7, fldA, freshB, loadA, storeA, trim_pure, pureT, pureV, pureS]
  · rcases q6 with ⟨q6, q7, q8⟩ | q6 | ⟨q6, q7⟩
    · simp [M.a7, E.eqs, s1, s2, s3, s4, s5, s6, s7, kn, eq1, f1, f2, g1, q6, q7, q8, fldA, freshB, loadA, storeA, trim_pure, pureT, pureV, pureS]
    · simp [M.a7, E.eqs, s1, s2, s3, s4, s5, s6, s7, kn, eq1, f1, f2, g1, q6, fldA, freshB, loadA, storeA, trim_pure, pureT, pureV, pureS]
    · simp [M.a7, E.eqs, s1, s2, s3, s4, s5, s6, s7, kn, eq1, f1, f2, g1, q6, q7, fldA, freshB, loadA, storeA, trim_pure, pureT, pureV, pureS]
end Go.Proofs.Ytohnpealiilikaa.lawWideOrder
