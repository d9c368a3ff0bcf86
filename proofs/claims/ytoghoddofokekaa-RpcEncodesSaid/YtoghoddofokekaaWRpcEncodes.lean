/- RpcEncodes: the law's call says true, of any message. -/
import Derived.Test.YtoghoddofokekaaJ1
import Derived.Test.YtoghoddofokekaaZ1
set_option linter.unusedVariables false
set_option linter.unusedSimpArgs false
set_option maxRecDepth 100000
namespace Go.Proofs.Ytoghoddofokekaa.lawRpcEncodes
open Go.Abs

set_option maxHeartbeats 2000000 in
theorem core {H : Type} (h : Heap) (tvs : List TV) (ds : List (DataW H)) (hr : AllRo h) (hi : Ins Try.prog h 6 [30] tvs ds) (hz : (DataW.weightsEach Try.prog [30] ds).all (· ≤ reachBytes) = true) : ∃ h', callE F O 5 tvs h = some ([.sc (.bool true)], h') := by
  obtain ⟨tv, d, rfl, rfl, h1⟩ := ins_one hi
  obtain ⟨m, xe, xd, rfl, hE, hD, b1, b2, b3, hN⟩ := in_msgZ h1 (wok_of hz 0 rfl rfl)
  have a : MsAt h m xe xd := ⟨hE, hD, hN.index, by omega, by omega⟩
  have hT : ∀ z ∈ m.es, z.1.T.length ≤ 140737488353280 := fun z hz => by have := b3 z hz; omega
  obtain ⟨h0, hh0⟩ : ∃ h0 : Heap, h0 = h ++ [⟨.var, m.cells xe xd⟩] := ⟨_, rfl⟩
  have m0 : Mod (fun _ => False) h h0 := by rw [hh0]; exact Mod.app _ _ _
  have bA0 : h0[h.length]? = some ⟨.var, m.cells xe xd⟩ := by rw [hh0]; simp
  obtain ⟨h1, es, xe', xd', q1, m1, a1, hw⟩ := spec22 (a.mod m0) hT
  have bA1 := m1.get bA0 fun h => h
  have N1 : MsN (m.wes es) := ⟨hN.term, hN.index, hN.lt, hN.cm, hN.bi, hN.bt, hN.off⟩
  obtain ⟨h2, y1, q2, f2⟩ := spec27 a1 N1
  have bA2 := f2.mod.get bA1 fun h => h
  obtain ⟨h3, y2, q3, f3⟩ := spec28 (((a.mod m0).mod m1).mod f2.mod) hN
  rw [errM_wes hw] at q2
  rw [encM_wes hw] at f2
  have kn := spec23 h3
  have s1 := b2sA_row (f3.keep f2.row)
  have s2 := b2sA_row f3.row
  have ec0 : (m.cells xe xd).length = 15 := rfl
  have l0 : loadA h0 true 15 [.sc (.ptr h.length 0 15)] = some ([.agg (m.cells xe xd)], h0) := by simp [loadA, bA0, Ms.cells]
  have l2 : loadA h2 true 15 [.sc (.ptr h.length 0 15)] = some ([.agg (m.cells xe xd)], h2) := by simp [loadA, bA2, Ms.cells]
  refine ⟨_, callX (hh := trim h h3 [.sc (.bool true)]) rfl (by rfl : F 5 = some M.a5) (fun R RO RD RT E => ?_)⟩
  clear bA0 bA1 bA2 a1 a hE hD m0 m1 f2 f3
  generalize (m.wes es).cells xe' xd' = C1 at *
  generalize m.cells xe xd = C0 at *
  generalize errM m = rm at *
  simp [M.a5, E.eqs, ec0, ← hh0, q1, q2, q3, l0, l2, kn, s1, s2]
end Go.Proofs.Ytoghoddofokekaa.lawRpcEncodes
