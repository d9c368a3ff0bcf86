/- WideDivs: the law's call says true, of any two numbers. -/
import Derived.Test.YtohnpealiilikaaNJ
import Derived.Test.YtohnpealiilikaaY2
set_option linter.unusedVariables false
set_option linter.unusedSimpArgs false
set_option maxRecDepth 100000
namespace Go.Proofs.Ytohnpealiilikaa.lawWideDivs
open Go.Abs

set_option maxHeartbeats 4000000 in
theorem core {H : Type} (h : Heap) (tvs : List TV) (ds : List (DataW H)) (hr : AllRo h) (hi : Ins Try.prog h 6 [24, 24] tvs ds) : ∃ h', callE F O 3 tvs h = some ([.sc (.bool true)], h') := by
  obtain ⟨tv, d, tvs, ds, rfl, rfl, h1, hi⟩ := ins_cons hi
  obtain ⟨tv2, d2, rfl, rfl, h2⟩ := ins_one hi
  obtain ⟨a, rfl, ha⟩ := in_wide h1
  obtain ⟨b, rfl, hb⟩ := in_wide h2
  have s1 := fun h => spec14 h ha hb
  have s2 := fun h => spec15 h ha hb
  have kn := spec16
  refine ⟨h, callX rfl (by rfl : F 3 = some M.a3) (fun R RO RD RT E => ?_)⟩
  clear h1 h2 ha hb
  simp [M.a3, E.eqs, s1, s2, kn, fldA, freshB, loadA, storeA, trim_pure, pureT, pureV, pureS]
end Go.Proofs.Ytohnpealiilikaa.lawWideDivs
