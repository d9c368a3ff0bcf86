/- DecCmps: the law's call says true, of any two decimals. -/
import Derived.Test.YtdodhmidhcpnnaaD4
set_option linter.unusedVariables false
set_option linter.unusedSimpArgs false
set_option maxRecDepth 100000
namespace Go.Proofs.Ytdodhmidhcpnnaa.lawDecCmps
open Go.Abs

set_option maxHeartbeats 4000000 in
theorem core {H : Type} (h : Heap) (tvs : List TV) (ds : List (DataW H)) (hr : AllRo h) (hi : Ins Try.prog h 6 [26, 26, 4] tvs ds) : ∃ h', callE F O 10 tvs h = some ([.sc (.bool true)], h') := by
  obtain ⟨tv, d, tvs, ds, rfl, rfl, h1, hi⟩ := ins_cons hi
  obtain ⟨tv2, d2, tvs, ds, rfl, rfl, h2, hi⟩ := ins_cons hi
  obtain ⟨tv3, d3, rfl, rfl, h3⟩ := ins_one hi
  obtain ⟨a, s0, rfl, ha, hs1, hs2⟩ := in_dec h1
  obtain ⟨b, t0, rfl, hb, ht1, ht2⟩ := in_dec h2
  obtain ⟨is, rfl⟩ := in_bool (by kernel_rfl) (by kernel_rfl) h3
  have n1 := fun h => spec17 h a is hs1 hs2
  have n2 := fun h => spec17 h b is ht1 ht2
  generalize nearS is s0 = s at *
  generalize nearS is t0 = t at *
  have s1 := fun h => spec46 h (s := s) (t := t) ha hb
  have s2 := fun h => spec47 h (s := s) (t := t) ha hb
  have kn := spec20
  refine ⟨h, callX rfl (by rfl : F 10 = some M.a10) (fun R RO RD RT E => ?_)⟩
  clear h1 h2 h3 ha hb
  generalize cmpV a s b t = v at *
  generalize cmpE s t = e at *
  simp [M.a10, E.eqs, zero_dC, n1, n2, s1, s2, kn, fldA, freshB, loadA, storeA, trim_pure, pureT, pureV, pureS]
end Go.Proofs.Ytdodhmidhcpnnaa.lawDecCmps
