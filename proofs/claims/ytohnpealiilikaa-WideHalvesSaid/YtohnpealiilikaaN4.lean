/- Chapter 2, the document's: sums, differences, comparisons. -/
import Derived.Test.YtohnpealiilikaaN3
set_option linter.unusedVariables false
set_option linter.unusedSimpArgs false
set_option maxRecDepth 100000
namespace Go.Proofs.Ytohnpealiilikaa
open Go.Abs

theorem spec47 (h : Heap) {n : Int} (hn : InB n) : call 47 [[.agg (bigC n)]] h = some (okW n, h) := by
  have s1 := fun h => spec66 h hn
  obtain ⟨p, q, _, hpq⟩ := s1 []
  refine callX rfl (by rfl : F 47 = some M.a47) (fun R RO RD RT E => ?_)
  obtain ⟨p, q, s1, hpq⟩ := s1 (h ++ [⟨.var, bigC n⟩, ⟨.var, [.int .i64 0, .int .u64 0]⟩])
  by_cases c2 : InW n
  · have e1 : okC n = n := by unfold okC; rw [if_pos c2]
    have e2 : okE n = 0 := by unfold okE; rw [if_pos c2]
    rw [hpq c2] at s1
    simp [M.a47, E.eqs, s1, c2, e1, e2, fldA, freshB, loadA, storeA, trim_pure, pureT, pureV, pureS]
  · have e1 : okC n = 0 := by unfold okC; rw [if_neg c2]
    have e2 : okE n = 20 := by unfold okE; rw [if_neg c2]
    simp [M.a47, E.eqs, s1, c2, e1, e2, wC, fldA, freshB, loadA, storeA, trim_pure, pureT, pureV, pureS]

theorem InW.big {n : Int} (h : InW n) : InB n := by
  unfold InW at h
  unfold InB
  have : (4294967296 : Nat) ^ 15 = 3121748550315992231381597229793166305748598142664971150859156959625371738819765620120306103063491971159826931121406622895447975679288285306290176 := by decide
  rw [this]
  omega
theorem InW.big2 {a b : Int} (h : InW a) (h' : InW b) : InB (a + b) ∧ InB (a - b) := by
  unfold InW at h h'
  unfold InB
  have : (4294967296 : Nat) ^ 15 = 3121748550315992231381597229793166305748598142664971150859156959625371738819765620120306103063491971159826931121406622895447975679288285306290176 := by decide
  rw [this]
  omega

theorem spec33 (h : Heap) {a b : Int} (ha : InW a) (hb : InW b) : call 33 [[W a], [W b]] h = some (okW (a + b), h) := by
  have s1 := fun h => spec44 h ha
  have s2 := fun h => spec44 h hb
  have s3 := fun h => spec59 h ha.big hb.big
  have s4 := fun h => spec47 h (ha.big2 hb).1
  refine callX rfl (by rfl : F 33 = some M.a33) (fun R RO RD RT E => ?_)
  simp [M.a33, E.eqs, s1, s2, s3, s4, fldA, freshB, loadA, storeA, trim_pure, pureT, pureV, pureS]

theorem spec34 (h : Heap) {a b : Int} (ha : InW a) (hb : InW b) : call 34 [[W a], [W b]] h = some (okW (a - b), h) := by
  have s1 := fun h => spec44 h ha
  have s2 := fun h => spec44 h hb
  have s5 := fun h => spec60 h hb.big
  have s3 := fun h => spec59 h ha.big hb.big.neg
  rw [← Int.sub_eq_add_neg] at s3
  have s4 := fun h => spec47 h (ha.big2 hb).2
  refine callX rfl (by rfl : F 34 = some M.a34) (fun R RO RD RT E => ?_)
  simp [M.a34, E.eqs, s1, s2, s3, s4, s5, fldA, freshB, loadA, storeA, trim_pure, pureT, pureV, pureS]

theorem spec36 (h : Heap) {a : Int} (ha : InW a) : call 36 [[W a]] h = some (okW (-a), h) := by
  have s1 := fun h => spec44 h ha
  have s5 := fun h => spec60 h ha.big
  have s4 := fun h => spec47 h ha.big.neg
  refine callX rfl (by rfl : F 36 = some M.a36) (fun R RO RD RT E => ?_)
  simp [M.a36, E.eqs, s1, s4, s5, fldA, freshB, loadA, storeA, trim_pure, pureT, pureV, pureS]

theorem spec37 (h : Heap) {a b : Int} (ha : InW a) (hb : InW b) : call 37 [[W a], [W b]] h = some ([.sc (.int .i64 (sgn (a - b)))], h) := by
  have s1 := fun h => spec44 h ha
  have s2 := fun h => spec44 h hb
  have s3 := fun h => spec61 h ha.big hb.big (ha.big2 hb).2
  refine callX rfl (by rfl : F 37 = some M.a37) (fun R RO RD RT E => ?_)
  simp [M.a37, E.eqs, s1, s2, s3, fldA, freshB, loadA, storeA, trim_pure, pureT, pureV, pureS]
end Go.Proofs.Ytohnpealiilikaa
