/- CmdBack: the law's call says true, of any command. -/
import Derived.Test.YtoghoddofokekaaDoorE5
set_option linter.unusedVariables false
set_option linter.unusedSimpArgs false
set_option maxRecDepth 100000
namespace Go.Proofs.YtoghoddofokekaaDoor.lawCmdBack
open Go.Abs

theorem core {H : Type} (h : Heap) (tvs : List TV) (ds : List (DataW H)) (hr : AllRo h) (hi : Ins Tryd.prog h 6 [28, 4] tvs ds) : ∃ h', callE F O 6 tvs h = some ([.sc (.bool true)], h') := by
  obtain ⟨tv, d, tvs, ds, rfl, rfl, h1, hi⟩ := ins_cons hi
  obtain ⟨tv2, d2, rfl, rfl, h2⟩ := ins_one hi
  obtain ⟨c, rfl, ci⟩ := in_cmd h1
  obtain ⟨is, rfl⟩ := in_bool (by kernel_rfl) (by kernel_rfl) h2
  obtain ⟨h0, hh0⟩ : ∃ h0 : Heap, h0 = h ++ [⟨.var, c.cells⟩] := ⟨_, rfl⟩
  have b0 : h0[h.length]? = some ⟨.var, c.cells⟩ := by rw [hh0]; simp
  obtain ⟨x, q0, rx, ox, xx, xy⟩ := shaped_in h0 is ci
  obtain ⟨g1, hg1⟩ : ∃ g1 : Heap, g1 = h0.set h.length ⟨.var, x.cells⟩ := ⟨_, rfl⟩
  have b1 : g1[h.length]? = some ⟨.var, x.cells⟩ := by rw [hg1]; exact get_set_same b0
  have hl : c.cells.length = 10 := rfl
  have ht : c.cells.take 10 = c.cells := rfl
  have hlx : x.cells.length = 10 := rfl
  have htx : x.cells.take 10 = x.cells := rfl
  have sc : setCells c.cells 0 x.cells = x.cells := rfl
  have l0 : loadA h0 true 10 [.sc (.ptr h.length 0 10)] = some ([.agg c.cells], h0) := by simp [loadA, b0, hl, ht]
  have st : storeA h0 10 [.sc (.ptr h.length 0 10)] [.agg x.cells] = some ([], g1) := by simp [storeA, b0, hl, hlx, sc, hg1]
  have l1 : loadA g1 true 10 [.sc (.ptr h.length 0 10)] = some ([.agg x.cells], g1) := by simp [loadA, b1, hlx, htx]
  obtain ⟨g2, y2, q1, f1⟩ := spec11 g1 ox xx xy
  have b2 := f1.mod.get b1 fun h => h
  have l2 : loadA g2 true 10 [.sc (.ptr h.length 0 10)] = some ([.agg x.cells], g2) := by simp [loadA, b2, hlx, htx]
  have kn := spec8 g2
  have q2 := spec9 g2 x xx xy
  have ln := lenA_row f1.row
  unfold encE at q1
  cases hR : rightC x
  · rw [hR] at q1 q2
    have eL : encL x = [] := by unfold encL; rw [hR]; rfl
    rw [eL] at ln
    simp only [Bool.false_eq_true, if_false] at q1
    refine ⟨_, callX (hh := trim h g2 [.sc (.bool true)]) rfl (by rfl : F 6 = some M.a6) (fun R RO RD RT E => ?_)⟩
    clear hg1 sc htx ht b0 b1 b2 f1
    generalize c.cells = cs at *
    generalize x.cells = xs at *
    simp [M.a6, E.eqs, ← hh0, hl, l0, q0, st, kn, l1, q1, l2, q2, ln]
  · rw [hR] at q1 q2
    have eL : encL x = encB x := by unfold encL; rw [hR]; rfl
    rw [eL] at ln f1
    simp only [if_true] at q1
    have hle := encB_le ox hR
    obtain ⟨g3, q3, m3⟩ := spec15 f1.row (by omega)
    rw [rCmd_laid hR ox] at q3
    have b3 := m3.get b2 fun h => h
    obtain ⟨g4, hg4⟩ : ∃ g4 : Heap, g4 = g3 ++ [⟨.var, x.cells⟩] := ⟨_, rfl⟩
    have m4 : Mod (fun _ => False) g3 g4 := by rw [hg4]; exact Mod.app _ _ _
    have b4 : g4[g3.length]? = some ⟨.var, x.cells⟩ := by rw [hg4]; simp
    have b4' := m4.get b3 fun h => h
    have l4 : loadA g4 true 10 [.sc (.ptr g3.length 0 10)] = some ([.agg x.cells], g4) := by simp [loadA, b4, hlx, htx]
    have l4' : loadA g4 true 10 [.sc (.ptr h.length 0 10)] = some ([.agg x.cells], g4) := by simp [loadA, b4', hlx, htx]
    have ln4 := lenA_row ((f1.row.mod m3 fun _ _ h => h).mod m4 fun _ _ h => h)
    have zc : Cm.zero.cells = [.int .i64 0, .int .u64 0, .int .u64 0, .int .u64 0, .int .u64 0, .int .i64 0, .int .u64 0, .int .i64 0, .str [], .str []] := rfl
    have st3 : storeA (g3 ++ [⟨.var, Cm.zero.cells⟩]) 10 [.sc (.ptr g3.length 0 10)] [.agg x.cells] = some ([], g4) := by
      have e0 : (g3 ++ [⟨.var, Cm.zero.cells⟩])[g3.length]? = some (⟨.var, Cm.zero.cells⟩ : Blk) := by simp
      have e1 : setCells Cm.zero.cells 0 x.cells = x.cells := rfl
      have e2 : Cm.zero.cells.length = 10 := rfl
      simp [storeA, e1, e2, hlx, hg4]
    rw [zc] at st3
    have hty : eqK [.i, .i, .i, .i, .i, .i, .i, .i, .s, .s] x.cells x.cells = some true := by simp [eqK, Cm.cells]
    have hle' : ((encB x).length : Int) ≤ 128 := by omega
    refine ⟨_, callX (hh := trim h g4 [.sc (.bool true)]) rfl (by rfl : F 6 = some M.a6) (fun R RO RD RT E => ?_)⟩
    clear hg1 sc htx ht b0 b1 b2 b3 b4 b4' f1 hg4 zc
    generalize c.cells = cs at *
    generalize x.cells = xs at *
    generalize (encB x).length = n at *
    simp [M.a6, E.eqs, ← hh0, hl, l0, q0, st, kn, l1, q1, l2, q2, q3, st3, l4, l4', ln4, hty, hle, hle']
end Go.Proofs.YtoghoddofokekaaDoor.lawCmdBack
