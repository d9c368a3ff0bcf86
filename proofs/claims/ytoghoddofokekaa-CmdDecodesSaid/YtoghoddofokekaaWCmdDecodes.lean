/- CmdDecodes: the law's call says true, of any bytes. -/
import Derived.Test.YtoghoddofokekaaD1
import Derived.Test.YtoghoddofokekaaZ0
set_option linter.unusedVariables false
set_option linter.unusedSimpArgs false
set_option maxRecDepth 100000
namespace Go.Proofs.Ytoghoddofokekaa.lawCmdDecodes
open Go.Abs

set_option maxHeartbeats 2000000 in
theorem core {H : Type} (h : Heap) (tvs : List TV) (ds : List (DataW H)) (hr : AllRo h) (hi : Ins Try.prog h 6 [28] tvs ds) (hz : (DataW.weightsEach Try.prog [28] ds).all (· ≤ reachBytes) = true) : ∃ h', callE F O 7 tvs h = some ([.sc (.bool true)], h') := by
  obtain ⟨tv, d, rfl, rfl, h1⟩ := ins_one hi
  obtain ⟨y, l, rfl, hy, hl⟩ := in_bytesZ h1 (wok_of hz 0 rfl rfl)
  have a1 := copy_app hy (by omega)
  have f1 := copy_fresh h l
  have hy1 := f1.keep hy
  have hx1 := f1.row
  generalize SV.sl h.length 0 l.length l.length = x at *
  generalize (h ++ [⟨.row 5 1, Go.Abs.bytes l⟩] : Heap) = h1 at *
  obtain ⟨g1, e1, m1⟩ := spec34 hx1 (by omega)
  generalize hc : (rCmd l).1.cells = cs at *
  have hcc : cs.length = 10 := by rw [← hc]; rfl
  have hct : cs.take 10 = cs := by rw [← hc]; rfl
  have hset : setCells [.int .i64 0, .int .u64 0, .int .u64 0, .int .u64 0, .int .u64 0, .int .i64 0, .int .u64 0, .int .i64 0, .str [], .str []] 0 cs = cs := by rw [← hc]; rfl
  have hty : eqK [.i, .i, .i, .i, .i, .i, .i, .i, .s, .s] cs cs = some true := by rw [← hc]; simp [eqK, Cm.cells]
  generalize he : (rCmd l).2 = er at *
  obtain ⟨g2, hg2⟩ : ∃ g2 : Heap, g2 = g1 ++ [⟨.var, cs⟩] := ⟨_, rfl⟩
  have m2 : Mod (fun _ => False) g1 g2 := by rw [hg2]; exact Mod.app _ _ _
  have b2 : g2[g1.length]? = some ⟨.var, cs⟩ := by rw [hg2]; simp
  have hy2 := (hy1.mod m1 fun _ _ h => h).mod m2 fun _ _ h => h
  have hx2 := (hx1.mod m1 fun _ _ h => h).mod m2 fun _ _ h => h
  obtain ⟨g3, e3, m3⟩ := spec35 hy2 (by omega)
  rw [hc, he] at e3
  obtain ⟨g4, hg4⟩ : ∃ g4 : Heap, g4 = g3 ++ [⟨.var, cs⟩] := ⟨_, rfl⟩
  have m4 : Mod (fun _ => False) g3 g4 := by rw [hg4]; exact Mod.app _ _ _
  have b4 : g4[g3.length]? = some ⟨.var, cs⟩ := by rw [hg4]; simp
  have b4' : g4[g1.length]? = some ⟨.var, cs⟩ := m4.get (m3.get b2 fun h => h) fun h => h
  have s1 := b2sA_row ((hy2.mod m3 fun _ _ h => h).mod m4 fun _ _ h => h)
  have s2 := b2sA_row ((hx2.mod m3 fun _ _ h => h).mod m4 fun _ _ h => h)
  have kn := spec19 g4
  refine ⟨_, callX (hh := trim h g4 [.sc (.bool true)]) rfl (by rfl : F 7 = some M.a7) (fun R RO RD RT E => ?_)⟩
  simp [M.a7, E.eqs, a1, e1, e3, fldA, freshB, loadA, storeA, hcc, hct, hset, b2, b4, b4', ← hg2, ← hg4, kn, hty, s1, s2]
end Go.Proofs.Ytoghoddofokekaa.lawCmdDecodes
