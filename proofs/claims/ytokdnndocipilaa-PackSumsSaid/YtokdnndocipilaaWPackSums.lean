/- PackSums: the law's call says true, of any bytes. -/
import Derived.Test.YtokdnndocipilaaS6
import Derived.Test.YtokdnndocipilaaZ0
set_option linter.unusedVariables false
set_option linter.unusedSimpArgs false
set_option maxRecDepth 100000
namespace Go.Proofs.Ytokdnndocipilaa.lawPackSums
open Go.Abs

theorem seal_back (l : List UInt8) : unE (sealB l) = 0 ∧ unB (sealB l) = l := by
  have h1 : (sealB l).length - 4 = l.length := by rw [sealB_length]; omega
  have h2 : (sealB l).take l.length = l := by unfold sealB; rw [List.take_left]
  have h3 : (sealB l).drop l.length = le4 (sumB l) := by unfold sealB; rw [List.drop_left]
  have hE : unE (sealB l) = 0 := by
    unfold unE
    rw [if_neg (by rw [sealB_length]; omega), h1, h2, h3, if_pos rfl]
  exact ⟨hE, by unfold unB; rw [if_pos hE, h1, h2]⟩

theorem core {H : Type} (h : Heap) (tvs : List TV) (ds : List (DataW H)) (hr : AllRo h) (hi : Ins Try.prog h 6 [23] tvs ds) (hz : (DataW.weightsEach Try.prog [23] ds).all (· ≤ reachBytes) = true) : ∃ h', callE F O 4 tvs h = some ([.sc (.bool true)], h') := by
  obtain ⟨tv, d, rfl, rfl, h1⟩ := ins_one hi
  obtain ⟨x, l, rfl, hx, hl⟩ := in_bytesZ h1 (wok_of hz 0 rfl rfl)
  have a1 := copy_app hx (by omega)
  have f1 := copy_fresh h l
  obtain ⟨h2, z2, e2, f2⟩ := spec23 f1.row (by omega)
  obtain ⟨h3, z3, e3, f3⟩ := spec24 (f2.keep (f1.keep hx)) (by omega)
  obtain ⟨h4, z4, e4, f4⟩ := spec25 (f3.keep (f2.keep f1.row)) (by omega)
  obtain ⟨h5, z5, e5, f5⟩ := spec23 f4.row (by rw [sealB_length]; omega)
  have x5 := f5.keep (f4.keep (f3.keep (f2.keep (f1.keep hx))))
  have o5 := f5.keep (f4.keep (f3.keep (f2.keep f1.row)))
  have s4 := f5.keep f4.row
  have kn := spec13 h5
  have su := spec26 o5 (by omega)
  have rs := spec27 x5 (by omega)
  obtain ⟨h6, z6, e6, f6⟩ := spec28 x5 (by omega)
  have b1 := b2sA_row s4
  have b2 := b2sA_row (f6.keep s4)
  have b3 := b2sA_row f6.row
  have b4 := b2sA_row (f6.keep (f5.keep (f4.keep (f3.keep f2.row))))
  have b5 := b2sA_row (f6.keep (f5.keep (f4.keep f3.row)))
  have b6 := b2sA_row (f6.keep f5.row)
  have b7 := b2sA_row (f6.keep x5)
  have b8 := b2sA_row (f6.keep o5)
  obtain ⟨q1, q2⟩ := seal_back l
  rw [q1] at e5
  rw [q2] at b6
  exact ⟨_, callM (x := .ret) (e := [(2, [.sc (.bool true)])]) (h' := h6) rfl (by rfl : F 4 = some M.a4) (fun R RO RD RT E => by
    simp [M.a4, E.eqs, a1, e2, e3, e4, e5, kn, su, rs, e6, b1, b2, b3, b4, b5, b6, b7, b8]) (.inr rfl) rfl⟩
end Go.Proofs.Ytokdnndocipilaa.lawPackSums
