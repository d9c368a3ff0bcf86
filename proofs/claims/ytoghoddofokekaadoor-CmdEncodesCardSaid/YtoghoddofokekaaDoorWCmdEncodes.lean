/- CmdEncodes: the law's call says true, of any command. -/
import Derived.Test.YtoghoddofokekaaDoorE5
set_option linter.unusedVariables false
set_option linter.unusedSimpArgs false
set_option maxRecDepth 100000
namespace Go.Proofs.YtoghoddofokekaaDoor.lawCmdEncodes
open Go.Abs

theorem core {H : Type} (h : Heap) (tvs : List TV) (ds : List (DataW H)) (hr : AllRo h) (hi : Ins Tryd.prog h 6 [28, 4] tvs ds) : ∃ h', callE F O 4 tvs h = some ([.sc (.bool true)], h') := by
  obtain ⟨tv, d, tvs, ds, rfl, rfl, h1, hi⟩ := ins_cons hi
  obtain ⟨tv2, d2, rfl, rfl, h2⟩ := ins_one hi
  obtain ⟨c, rfl, ci⟩ := in_cmd h1
  obtain ⟨is, rfl⟩ := in_bool (by kernel_rfl) (by kernel_rfl) h2
  obtain ⟨h0, hh0⟩ : ∃ h0 : Heap, h0 = h ++ [⟨.var, c.cells⟩] := ⟨_, rfl⟩
  have b0 : h0[h.length]? = some ⟨.var, c.cells⟩ := by rw [hh0]; simp
  obtain ⟨x, q0, rx, ox, xx, xy⟩ := shaped_in h0 is ci
  obtain ⟨g1, hg1⟩ : ∃ g1 : Heap, g1 = h0.set h.length ⟨.var, x.cells⟩ := ⟨_, rfl⟩
  have b1 : g1[h.length]? = some ⟨.var, x.cells⟩ := by rw [hg1]; exact get_set_same b0
  have hl : c.cells.length = 10 := rfl
  have ht : c.cells.take 10 = c.cells := rfl
  have hlx : x.cells.length = 10 := rfl
  have htx : x.cells.take 10 = x.cells := rfl
  have sc : setCells c.cells 0 x.cells = x.cells := rfl
  have l0 : loadA h0 true 10 [.sc (.ptr h.length 0 10)] = some ([.agg c.cells], h0) := by simp [loadA, b0, hl, ht]
  have st : storeA h0 10 [.sc (.ptr h.length 0 10)] [.agg x.cells] = some ([], g1) := by simp [storeA, b0, hl, hlx, sc, hg1]
  have l1 : loadA g1 true 10 [.sc (.ptr h.length 0 10)] = some ([.agg x.cells], g1) := by simp [loadA, b1, hlx, htx]
  obtain ⟨g2, y2, q1, f1⟩ := spec11 g1 ox xx xy
  have b2 := f1.mod.get b1 fun h => h
  have l2 : loadA g2 true 10 [.sc (.ptr h.length 0 10)] = some ([.agg x.cells], g2) := by simp [loadA, b2, hlx, htx]
  obtain ⟨g3, y3, q2, f2⟩ := spec12 g2 ox
  have s1 := b2sA_row (f2.keep f1.row)
  have s2 := b2sA_row f2.row
  have kn := spec8 g3
  refine ⟨_, callX (hh := trim h g3 [.sc (.bool true)]) rfl (by rfl : F 4 = some M.a4) (fun R RO RD RT E => ?_)⟩
  clear hg1 sc htx ht b0 b1 b2 f1 f2
  generalize c.cells = cs at *
  generalize x.cells = xs at *
  simp [M.a4, E.eqs, ← hh0, hl, l0, q0, st, kn, l1, q1, l2, q2, s1, s2]
end Go.Proofs.YtoghoddofokekaaDoor.lawCmdEncodes
