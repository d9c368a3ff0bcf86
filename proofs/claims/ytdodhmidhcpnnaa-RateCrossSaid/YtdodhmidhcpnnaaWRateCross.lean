/- RateCross: the law's call says true, of any two decimals and any scale. -/
import Derived.Test.YtdodhmidhcpnnaaD5
set_option linter.unusedVariables false
set_option linter.unusedSimpArgs false
set_option maxRecDepth 100000
namespace Go.Proofs.Ytdodhmidhcpnnaa.lawRateCross
open Go.Abs

set_option maxHeartbeats 4000000 in
theorem core {H : Type} (h : Heap) (tvs : List TV) (ds : List (DataW H)) (hr : AllRo h) (hi : Ins Try.prog h 6 [26, 26, 3, 4] tvs ds) : ∃ h', callE F O 7 tvs h = some ([.sc (.bool true)], h') := by
  obtain ⟨tv, d, tvs, ds, rfl, rfl, h1, hi⟩ := ins_cons hi
  obtain ⟨tv2, d2, tvs, ds, rfl, rfl, h2, hi⟩ := ins_cons hi
  obtain ⟨tv4, d4, tvs, ds, rfl, rfl, h4, hi⟩ := ins_cons hi
  obtain ⟨tv3, d3, rfl, rfl, h3⟩ := ins_one hi
  obtain ⟨a, s0, rfl, ha, hs1, hs2⟩ := in_dec h1
  obtain ⟨b, t0, rfl, hb, ht1, ht2⟩ := in_dec h2
  obtain ⟨k0, rfl, hk1, hk2⟩ := in_int h4
  obtain ⟨is, rfl⟩ := in_bool (by kernel_rfl) (by kernel_rfl) h3
  have n1 := fun h => spec35 h a is hs1 hs2
  have n2 := fun h => spec35 h b is ht1 ht2
  generalize nearS is s0 = s at *
  generalize nearS is t0 = t at *
  have q1 := fun h => spec34 h (s := t) hb
  have q2 := fun h => spec37 h (s := t) hb
  generalize rrE b t = qe at *
  have kn := spec33
  refine ⟨h, callX rfl (by rfl : F 7 = some M.a7) (fun R RO RD RT E => ?_)⟩
  cases is
  · have s1 := fun h => spec31 h (s := s) (t := t) (to := k0) ha hb
    have s2 := fun h => spec36 h (s := s) (t := t) (to := k0) ha hb hk1 hk2
    obtain ⟨x1, x2, x3, hx⟩ := crossR_form a s b t k0
    rw [hx] at s1 s2
    clear h1 h2 h3 h4 ha hb hx
    simp [M.a7, E.eqs, zero_dC, n1, n2, s1, s2, q1, q2, kn, fldA, freshB, loadA, storeA, trim_pure, pureT, pureV, pureS]
  · have s0 := fun h => spec16 h (n := k0) (m := 19) (by omega) (by omega) hk1 hk2
    have s1 := fun h => spec31 h (s := s) (t := t) (to := k0 % 19) ha hb
    have s2 := fun h => spec36 h (s := s) (t := t) (to := k0 % 19) ha hb (by omega) (by omega)
    obtain ⟨x1, x2, x3, hx⟩ := crossR_form a s b t (k0 % 19)
    rw [hx] at s1 s2
    clear h1 h2 h3 h4 ha hb hx
    generalize k0 % 19 = k at *
    simp [M.a7, E.eqs, zero_dC, n1, n2, s0, s1, s2, q1, q2, kn, fldA, freshB, loadA, storeA, trim_pure, pureT, pureV, pureS]
end Go.Proofs.Ytdodhmidhcpnnaa.lawRateCross
