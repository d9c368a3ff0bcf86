/- WideRing: the law's call says true, of any three numbers. -/
import Derived.Test.YtohnpealiilikaaN6
import Derived.Test.YtohnpealiilikaaY2
set_option linter.unusedVariables false
set_option linter.unusedSimpArgs false
set_option maxRecDepth 100000
namespace Go.Proofs.Ytohnpealiilikaa.lawWideRing
open Go.Abs

set_option maxHeartbeats 4000000 in
theorem core {H : Type} (h : Heap) (tvs : List TV) (ds : List (DataW H)) (hr : AllRo h) (hi : Ins Try.prog h 6 [24, 24, 24] tvs ds) : ∃ h', callE F O 5 tvs h = some ([.sc (.bool true)], h') := by
  obtain ⟨tv, d, tvs, ds, rfl, rfl, h1, hi⟩ := ins_cons hi
  obtain ⟨tv2, d2, tvs, ds, rfl, rfl, h2, hi⟩ := ins_cons hi
  obtain ⟨tv3, d3, rfl, rfl, h3⟩ := ins_one hi
  obtain ⟨a, rfl, ha⟩ := in_wide h1
  obtain ⟨b, rfl, hb⟩ := in_wide h2
  obtain ⟨c, rfl, hc⟩ := in_wide h3
  have s1 := fun h => spec17 h ha hb
  have s2 := fun h => spec17 h hb ha
  have s3 := fun h => spec17 h ha hc
  have s4 := fun h => spec19 h hb hc
  have s5 := fun h => spec17 h ha (inW_okC (b + c))
  have s6 := fun h => spec19 h (inW_okC (a * b)) (inW_okC (a * c))
  rw [Int.mul_comm b a] at s2
  have kn := spec16
  have eq1 := wC_eqK_of (inW_okC (a * b)) (inW_okC (a * b))
  have q : okE (a * b) = 20 ∨ (okE (a * b) = 0 ∧ okE (a * c) = 20) ∨ (okE (a * b) = 0 ∧ okE (a * c) = 0 ∧ okE (b + c) = 20) ∨ (okE (a * b) = 0 ∧ okE (a * c) = 0 ∧ okE (b + c) = 0 ∧ okC (a * b) + okC (a * c) = a * okC (b + c)) := by
    unfold okE okC
    by_cases i1 : InW (a * b) <;> by_cases i2 : InW (a * c) <;> by_cases i3 : InW (b + c) <;> simp [i1, i2, i3, Int.mul_add]
  have eq2 := wC_eqK_of (inW_okC (a * okC (b + c))) (inW_okC (a * okC (b + c)))
  refine ⟨h, callX rfl (by rfl : F 5 = some M.a5) (fun R RO RD RT E => ?_)⟩
  clear h1 h2 h3 ha hb hc
  rcases q with q1 | ⟨q1, q2⟩ | ⟨q1, q2, q3⟩ | ⟨q1, q2, q3, q4⟩
  · simp [M.a5, E.eqs, s1, s2, s3, s4, kn, eq1, q1, fldA, freshB, loadA, storeA, trim_pure, pureT, pureV, pureS]
  · simp [M.a5, E.eqs, s1, s2, s3, s4, kn, eq1, q1, q2, fldA, freshB, loadA, storeA, trim_pure, pureT, pureV, pureS]
  · simp [M.a5, E.eqs, s1, s2, s3, s4, kn, eq1, q1, q2, q3, fldA, freshB, loadA, storeA, trim_pure, pureT, pureV, pureS]
  · rw [q4] at s6
    simp [M.a5, E.eqs, s1, s2, s3, s4, s5, s6, kn, eq1, eq2, q1, q2, q3, fldA, freshB, loadA, storeA, trim_pure, pureT, pureV, pureS]
end Go.Proofs.Ytohnpealiilikaa.lawWideRing
