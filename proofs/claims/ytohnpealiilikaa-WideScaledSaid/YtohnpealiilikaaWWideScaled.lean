/- WideScaled: the law's call says true, of any two numbers and any power. -/
import Derived.Test.YtohnpealiilikaaNM
import Derived.Test.YtohnpealiilikaaNF
import Derived.Test.YtohnpealiilikaaS7
import Derived.Test.YtohnpealiilikaaY2
set_option linter.unusedVariables false
set_option linter.unusedSimpArgs false
set_option maxRecDepth 100000
namespace Go.Proofs.Ytohnpealiilikaa.lawWideScaled
open Go.Abs

set_option maxHeartbeats 4000000 in
theorem core {H : Type} (h : Heap) (tvs : List TV) (ds : List (DataW H)) (hr : AllRo h) (hi : Ins Try.prog h 6 [24, 24, 3] tvs ds) : ∃ h', callE F O 6 tvs h = some ([.sc (.bool true)], h') := by
  obtain ⟨tv, d, tvs, ds, rfl, rfl, h1, hi⟩ := ins_cons hi
  obtain ⟨tv2, d2, tvs, ds, rfl, rfl, h2, hi⟩ := ins_cons hi
  obtain ⟨tv3, d3, rfl, rfl, h3⟩ := ins_one hi
  obtain ⟨a, rfl, ha⟩ := in_wide h1
  obtain ⟨b, rfl, hb⟩ := in_wide h2
  obtain ⟨k, rfl, hk1, hk2⟩ := in_int h3
  have s1 := fun h => spec20 h ha hb k
  have s2 := fun h => spec21 h ha hb k
  have s3 := fun h => spec20 h ha hb (k % 37)
  have s4 := fun h => spec21 h ha hb (k % 37)
  have s5 := fun h => spec22 h (n := k) (m := 37) (by omega) (by omega) hk1 hk2
  have s6 := fun h => spec23 h k
  have s7 := fun h => spec24 h k
  have kn := spec16
  refine ⟨h, callX rfl (by rfl : F 6 = some M.a6) (fun R RO RD RT E => ?_)⟩
  clear h1 h2 h3 ha hb
  generalize k % 37 = k' at *
  simp [M.a6, E.eqs, s1, s2, s3, s4, s5, s6, s7, kn, fldA, freshB, loadA, storeA, trim_pure, pureT, pureV, pureS]
end Go.Proofs.Ytohnpealiilikaa.lawWideScaled
