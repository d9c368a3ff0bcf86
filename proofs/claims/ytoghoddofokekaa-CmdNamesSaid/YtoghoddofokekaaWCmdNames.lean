/- CmdNames: the law's call says true, of any text. -/
import Derived.Test.YtoghoddofokekaaC1
import Derived.Test.YtoghoddofokekaaY4
set_option linter.unusedVariables false
set_option linter.unusedSimpArgs false
set_option maxRecDepth 100000
namespace Go.Proofs.Ytoghoddofokekaa.lawCmdNames
open Go.Abs

theorem core {H : Type} (h : Heap) (tvs : List TV) (ds : List (DataW H)) (hr : AllRo h) (hi : Ins Try.prog h 6 [9] tvs ds) : ∃ h', callE F O 3 tvs h = some ([.sc (.bool true)], h') := by
  obtain ⟨tv, d, rfl, rfl, h1⟩ := ins_one hi
  obtain ⟨l, rfl, hl⟩ := in_str h1
  have s1 := fun h => spec20 h (l := l) (Nat.lt_of_le_of_lt hl (by decide))
  have s2 := fun h => spec21 h (l := l)
  have kn := spec19
  refine ⟨h, callX rfl (by rfl : F 3 = some M.a3) (fun R RO RD RT E => ?_)⟩
  simp [M.a3, E.eqs, s1, s2, kn, trim_pure, pureT, pureV, pureS]
end Go.Proofs.Ytoghoddofokekaa.lawCmdNames
