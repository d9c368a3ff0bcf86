/- DecTexts: the law's call says true, of any decimal. -/
import Derived.Test.YtdodhmidhcpnnaaDB
set_option linter.unusedVariables false
set_option linter.unusedSimpArgs false
set_option maxRecDepth 100000
namespace Go.Proofs.Ytdodhmidhcpnnaa.lawDecTexts
open Go.Abs

theorem dtxt_length {n s : Int} (hn : InW n) (hs : rgt s = true) : (dtxt n s).length < 1048576 := by
  have hl := txt_length hn.abs60 (by decide)
  obtain ⟨s0, s18⟩ := rgt_iff.1 hs
  have hp := pad_length s.toNat (txt n.natAbs)
  have : (ptT s.toNat (padT s.toNat (txt n.natAbs))).length ≤ (padT s.toNat (txt n.natAbs)).length + 1 := by
    unfold ptT
    split
    · omega
    · rw [List.length_append, List.length_cons, List.length_take, List.length_drop]
      omega
  unfold dtxt
  split
  · rw [List.length_cons]; omega
  · omega

set_option maxHeartbeats 4000000 in
theorem core {H : Type} (h : Heap) (tvs : List TV) (ds : List (DataW H)) (hr : AllRo h) (hi : Ins Try.prog h 6 [26, 4] tvs ds) : ∃ h', callE F O 13 tvs h = some ([.sc (.bool true)], h') := by
  obtain ⟨tv, d, tvs, ds, rfl, rfl, h1, hi⟩ := ins_cons hi
  obtain ⟨tv3, d3, rfl, rfl, h3⟩ := ins_one hi
  obtain ⟨a, s0, rfl, ha, hs1, hs2⟩ := in_dec h1
  obtain ⟨is, rfl⟩ := in_bool (by kernel_rfl) (by kernel_rfl) h3
  have n1 := fun h => spec17 h a is hs1 hs2
  generalize nearS is s0 = s at *
  have s1 := fun h => spec48 h (s := s) ha
  have s2 := fun h => spec49 h (s := s) ha
  have kn := spec20
  unfold textR at s1 s2
  refine ⟨h, callX rfl (by rfl : F 13 = some M.a13) (fun R RO RD RT E => ?_)⟩
  by_cases c : rgt s = true
  · rw [if_pos c] at s1 s2
    have s3 := fun h => spec50 h (dtxt_length ha c)
    obtain ⟨s0', s18⟩ := rgt_iff.1 c
    rw [parse_dtxt ha s0' s18] at s3
    clear h1 h3 ha
    generalize dtxt a s = t at *
    simp [M.a13, E.eqs, zero_dC, n1, s1, s2, s3, kn, fldA, freshB, loadA, storeA, trim_pure, pureT, pureV, pureS]
  · rw [if_neg c] at s1 s2
    have s3 := fun h => spec50 h (s := []) (by decide)
    rw [dparse_nil] at s3
    clear h1 h3 ha
    simp [M.a13, E.eqs, zero_dC, n1, s1, s2, s3, kn, fldA, freshB, loadA, storeA, trim_pure, pureT, pureV, pureS]
end Go.Proofs.Ytdodhmidhcpnnaa.lawDecTexts
