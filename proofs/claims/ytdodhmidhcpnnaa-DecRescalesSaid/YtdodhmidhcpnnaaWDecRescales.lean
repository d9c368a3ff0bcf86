/- DecRescales: the law's call says true, of any decimal and any scale. -/
import Derived.Test.YtdodhmidhcpnnaaD3
set_option linter.unusedVariables false
set_option linter.unusedSimpArgs false
set_option maxRecDepth 100000
namespace Go.Proofs.Ytdodhmidhcpnnaa.lawDecRescales
open Go.Abs

set_option maxHeartbeats 4000000 in
theorem core {H : Type} (h : Heap) (tvs : List TV) (ds : List (DataW H)) (hr : AllRo h) (hi : Ins Try.prog h 6 [26, 3, 4] tvs ds) : ∃ h', callE F O 4 tvs h = some ([.sc (.bool true)], h') := by
  obtain ⟨tv, d, tvs, ds, rfl, rfl, h1, hi⟩ := ins_cons hi
  obtain ⟨tv4, d4, tvs, ds, rfl, rfl, h4, hi⟩ := ins_cons hi
  obtain ⟨tv3, d3, rfl, rfl, h3⟩ := ins_one hi
  obtain ⟨a, s0, rfl, ha, hs1, hs2⟩ := in_dec h1
  obtain ⟨k0, rfl, hk1, hk2⟩ := in_int h4
  obtain ⟨is, rfl⟩ := in_bool (by kernel_rfl) (by kernel_rfl) h3
  have n1 := fun h => spec17 h a is hs1 hs2
  generalize nearS is s0 = s at *
  have kn := spec20
  refine ⟨h, callX rfl (by rfl : F 4 = some M.a4) (fun R RO RD RT E => ?_)⟩
  cases is
  · have s1 := fun h => spec21 h (s := s) (to := k0) ha
    have s2 := fun h => spec22 h (s := s) (to := k0) ha
    obtain ⟨x1, x2, x3, hx⟩ := mulR_form a s 1 0 k0
    rw [hx] at s1 s2
    clear h1 h3 h4 ha hx
    simp [M.a4, E.eqs, zero_dC, n1, s1, s2, kn, fldA, freshB, loadA, storeA, trim_pure, pureT, pureV, pureS]
  · have s0 := fun h => spec16 h (n := k0) (m := 19) (by omega) (by omega) hk1 hk2
    have s1 := fun h => spec21 h (s := s) (to := k0 % 19) ha
    have s2 := fun h => spec22 h (s := s) (to := k0 % 19) ha
    obtain ⟨x1, x2, x3, hx⟩ := mulR_form a s 1 0 (k0 % 19)
    rw [hx] at s1 s2
    clear h1 h3 h4 ha hx
    generalize k0 % 19 = k at *
    simp [M.a4, E.eqs, zero_dC, n1, s0, s1, s2, kn, fldA, freshB, loadA, storeA, trim_pure, pureT, pureV, pureS]
end Go.Proofs.Ytdodhmidhcpnnaa.lawDecRescales
