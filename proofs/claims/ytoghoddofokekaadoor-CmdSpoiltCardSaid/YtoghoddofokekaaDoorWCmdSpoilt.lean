/- CmdSpoilt: the law's call says true, of any command and numbers. -/
import Derived.Test.YtoghoddofokekaaDoorE6
set_option linter.unusedVariables false
set_option linter.unusedSimpArgs false
set_option maxRecDepth 100000
namespace Go.Proofs.YtoghoddofokekaaDoor.lawCmdSpoilt
open Go.Abs

theorem core {H : Type} (h : Heap) (tvs : List TV) (ds : List (DataW H)) (hr : AllRo h) (hi : Ins Tryd.prog h 6 [28, 3, 3, 3] tvs ds) : ∃ h', callE F O 5 tvs h = some ([.sc (.bool true)], h') := by
  obtain ⟨tv, d, tvs, ds, rfl, rfl, h1, hi⟩ := ins_cons hi
  obtain ⟨tv2, d2, tvs, ds, rfl, rfl, h2, hi⟩ := ins_cons hi
  obtain ⟨tv3, d3, tvs, ds, rfl, rfl, h3, hi⟩ := ins_cons hi
  obtain ⟨tv4, d4, rfl, rfl, h4⟩ := ins_one hi
  obtain ⟨c, rfl, ci⟩ := in_cmd h1
  obtain ⟨how, rfl, w1, w2⟩ := in_int h2
  obtain ⟨at_, rfl, a1, a2⟩ := in_int h3
  obtain ⟨to, rfl, t1, t2⟩ := in_int h4
  obtain ⟨h0, hh0⟩ : ∃ h0 : Heap, h0 = h ++ [⟨.var, c.cells⟩] := ⟨_, rfl⟩
  have b0 : h0[h.length]? = some ⟨.var, c.cells⟩ := by rw [hh0]; simp
  obtain ⟨x, q0, rx, ox, xx, xy⟩ := shaped_in h0 true ci
  have hR := rx rfl
  have hl : c.cells.length = 10 := rfl
  have ht : c.cells.take 10 = c.cells := rfl
  have l0 : loadA h0 true 10 [.sc (.ptr h.length 0 10)] = some ([.agg c.cells], h0) := by simp [loadA, b0, hl, ht]
  obtain ⟨g2, y2, q1, f1⟩ := spec12 h0 ox
  have eE : encE x = 0 := by unfold encE; rw [hR]; rfl
  have eL : encL x = encB x := by unfold encL; rw [hR]; rfl
  rw [eE] at q1
  rw [eL] at f1
  have hle := encB_le ox hR
  obtain ⟨g3, y3, l', q2, hy', hl'⟩ := spec14 f1.own (by unfold encB; simp) (by omega) how at_ to w1 w2 a1 a2
  obtain ⟨g4, q3⟩ := spec13 hy' (by omega)
  refine ⟨_, callX (hh := trim h g4 [.sc (.bool true)]) rfl (by rfl : F 5 = some M.a5) (fun R RO RD RT E => ?_)⟩
  clear f1 b0 hy' ht
  generalize c.cells = cs at *
  generalize x.cells = xs at *
  simp [M.a5, E.eqs, ← hh0, hl, l0, q0, q1, q2, q3]
end Go.Proofs.YtoghoddofokekaaDoor.lawCmdSpoilt
