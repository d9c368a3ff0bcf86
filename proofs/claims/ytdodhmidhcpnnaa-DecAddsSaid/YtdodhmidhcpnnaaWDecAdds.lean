/- DecAdds: the law's call says true, of any two decimals. -/
import Derived.Test.YtdodhmidhcpnnaaD2
set_option linter.unusedVariables false
set_option linter.unusedSimpArgs false
set_option maxRecDepth 100000
namespace Go.Proofs.Ytdodhmidhcpnnaa.lawDecAdds
open Go.Abs

set_option maxHeartbeats 4000000 in
theorem core {H : Type} (h : Heap) (tvs : List TV) (ds : List (DataW H)) (hr : AllRo h) (hi : Ins Try.prog h 6 [26, 26, 4] tvs ds) : ∃ h', callE F O 5 tvs h = some ([.sc (.bool true)], h') := by
  obtain ⟨tv, d, tvs, ds, rfl, rfl, h1, hi⟩ := ins_cons hi
  obtain ⟨tv2, d2, tvs, ds, rfl, rfl, h2, hi⟩ := ins_cons hi
  obtain ⟨tv3, d3, rfl, rfl, h3⟩ := ins_one hi
  obtain ⟨a, s0, rfl, ha, hs1, hs2⟩ := in_dec h1
  obtain ⟨b, t0, rfl, hb, ht1, ht2⟩ := in_dec h2
  obtain ⟨is, rfl⟩ := in_bool (by kernel_rfl) (by kernel_rfl) h3
  have n1 := fun h => spec17 h a is hs1 hs2
  have n2 := fun h => spec17 h b is ht1 ht2
  generalize nearS is s0 = s at *
  generalize nearS is t0 = t at *
  have s1 := fun h => spec23 h (s := s) (t := t) ha hb
  have s2 := fun h => spec24 h (s := s) (t := t) ha hb
  have s3 := fun h => spec25 h (s := s) (t := t) ha hb
  have s4 := fun h => spec26 h (s := s) (t := t) ha hb
  have s5 := fun h => spec27 h (s := s) ha
  have s6 := fun h => spec28 h (s := s) ha
  have s7 := fun h => spec29 h a s
  have s8 := fun h => spec30 h a s
  obtain ⟨x1, x2, x3, hx⟩ := bothR_form false a s b t
  obtain ⟨y1, y2, y3, hy⟩ := bothR_form true a s b t
  obtain ⟨z1, z2, z3, hz⟩ := negR_form a s
  rw [hx] at s1 s2
  rw [hy] at s3 s4
  rw [hz] at s5 s6
  have kn := spec20
  refine ⟨h, callX rfl (by rfl : F 5 = some M.a5) (fun R RO RD RT E => ?_)⟩
  clear h1 h2 h3 ha hb hx hy hz
  simp [M.a5, E.eqs, zero_dC, n1, n2, s1, s2, s3, s4, s5, s6, s7, s8, kn, fldA, freshB, loadA, storeA, trim_pure, pureT, pureV, pureS]
end Go.Proofs.Ytdodhmidhcpnnaa.lawDecAdds
