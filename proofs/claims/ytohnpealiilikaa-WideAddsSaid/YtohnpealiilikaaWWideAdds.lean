/- WideAdds: the law's call says true, of any two numbers. -/
import Derived.Test.YtohnpealiilikaaN4
import Derived.Test.YtohnpealiilikaaY2
set_option linter.unusedVariables false
set_option linter.unusedSimpArgs false
set_option maxRecDepth 100000
namespace Go.Proofs.Ytohnpealiilikaa.lawWideAdds
open Go.Abs

theorem widened (h : Heap) {n : Int} (h1 : -9223372036854775808 ≤ n) (h2 : n < 9223372036854775808) : call 38 [[.sc (.int .i64 n)]] h = some ([W n], h) := by
  refine callX rfl (by rfl : F 38 = some M.a38) (fun R RO RD RT E => ?_)
  by_cases c1 : n < 0
  · rw [W_eq (n := n) (hi := -1) (lo := IntKind.u64.wrap n) (by rw [wu64']; omega) (by rw [wu64']; omega) (by rw [wu64']; omega)]
    simp [M.a38, E.eqs, c1, fldA, freshB, loadA, storeA, trim_pure, pureT, pureV, pureS]
  · rw [W_eq (n := n) (hi := 0) (lo := IntKind.u64.wrap n) (by rw [wu64']; omega) (by rw [wu64']; omega) (by rw [wu64']; omega)]
    simp [M.a38, E.eqs, c1, fldA, freshB, loadA, storeA, trim_pure, pureT, pureV, pureS]

theorem core {H : Type} (h : Heap) (tvs : List TV) (ds : List (DataW H)) (hr : AllRo h) (hi : Ins Try.prog h 6 [24, 24, 2] tvs ds) : ∃ h', callE F O 12 tvs h = some ([.sc (.bool true)], h') := by
  obtain ⟨tv, d, tvs, ds, rfl, rfl, h1, hi⟩ := ins_cons hi
  obtain ⟨tv2, d2, tvs, ds, rfl, rfl, h2, hi⟩ := ins_cons hi
  obtain ⟨tv3, d3, rfl, rfl, h3⟩ := ins_one hi
  obtain ⟨a, rfl, ha⟩ := in_wide h1
  obtain ⟨b, rfl, hb⟩ := in_wide h2
  obtain ⟨n, rfl, hn⟩ := in_num (by kernel_rfl) (by kernel_rfl : Try.prog.underlying 2 = some (.int .i64)) h3
  obtain ⟨hn1, hn2⟩ := wf_i64 hn
  have s1 := fun h => spec19 h ha hb
  have s2 := fun h => spec33 h ha hb
  have s3 := fun h => spec32 h ha hb
  have s4 := fun h => spec34 h ha hb
  have s5 := fun h => spec35 h ha
  have s6 := fun h => spec36 h ha
  have s7 := fun h => spec25 h ha hb
  have s8 := fun h => spec37 h ha hb
  have s9 := fun h => spec31 h ha
  have s10 := fun h => spec37 h ha inW_zero
  rw [Int.sub_zero, W_zero] at s10
  have s11 := fun h => spec26 h hn1 hn2
  have s12 := fun h => widened h hn1 hn2
  have kn := spec16
  refine ⟨h, callX rfl (by rfl : F 12 = some M.a12) (fun R RO RD RT E => ?_)⟩
  simp [M.a12, E.eqs, s1, s2, s3, s4, s5, s6, s7, s8, s9, s10, s11, s12, kn, fldA, freshB, loadA, storeA, trim_pure, pureT, pureV, pureS]
end Go.Proofs.Ytohnpealiilikaa.lawWideAdds
