/- RpcRight: the law's call says true, of any message. -/
import Derived.Test.YtoghoddofokekaaJ1
import Derived.Test.YtoghoddofokekaaZ1
set_option linter.unusedVariables false
set_option linter.unusedSimpArgs false
set_option maxRecDepth 100000
namespace Go.Proofs.Ytoghoddofokekaa.lawRpcRight
open Go.Abs

set_option maxHeartbeats 2000000 in
theorem core {H : Type} (h : Heap) (tvs : List TV) (ds : List (DataW H)) (hr : AllRo h) (hi : Ins Try.prog h 6 [30] tvs ds) (hz : (DataW.weightsEach Try.prog [30] ds).all (· ≤ reachBytes) = true) : ∃ h', callE F O 4 tvs h = some ([.sc (.bool true)], h') := by
  obtain ⟨tv, d, rfl, rfl, h1⟩ := ins_one hi
  obtain ⟨m, xe, xd, rfl, hE, hD, b1, b2, b3, hN⟩ := in_msgZ h1 (wok_of hz 0 rfl rfl)
  have a : MsAt h m xe xd := ⟨hE, hD, hN.index, by omega, by omega⟩
  have hT : ∀ z ∈ m.es, z.1.T.length ≤ 140737488353280 := fun z hz => by have := b3 z hz; omega
  obtain ⟨Z, hZ⟩ : ∃ Z : List SV, Z = [.int .i64 0, .int .i64 0, .int .i64 0, .int .u64 0, .int .u64 0, .int .u64 0, .nils, .int .u64 0, .bool false, .int .u64 0, .int .u64 0, .int .i64 0, .int .i64 0, .nils, .bool false] := ⟨_, rfl⟩
  obtain ⟨h0, hh0⟩ : ∃ h0 : Heap, h0 = h ++ [⟨.var, m.cells xe xd⟩] := ⟨_, rfl⟩
  have m0 : Mod (fun _ => False) h h0 := by rw [hh0]; exact Mod.app _ _ _
  have bA0 : h0[h.length]? = some ⟨.var, m.cells xe xd⟩ := by rw [hh0]; simp
  obtain ⟨h1, es, xe', xd', q1, m1, a1, hw⟩ := spec22 (a.mod m0) hT
  have bA1 := m1.get bA0 fun h => h
  obtain ⟨h2, hh2⟩ : ∃ h2 : Heap, h2 = h1 ++ [⟨.var, (m.wes es).cells xe' xd'⟩] := ⟨_, rfl⟩
  have m2 : Mod (fun _ => False) h1 h2 := by rw [hh2]; exact Mod.app _ _ _
  have bB2 : h2[h1.length]? = some ⟨.var, (m.wes es).cells xe' xd'⟩ := by rw [hh2]; simp
  have bA2 := m2.get bA1 fun h => h
  have aa := ((a.mod m0).mod m1).mod m2
  have ab := a1.mod m2
  have kn := spec23 h2
  have r1 := spec24 ab
  have r2 := spec25 aa
  rw [rightM_wes hw] at r1
  have sm := spec26 ab aa (Ms.plain_wes hw).symm
  have ec0 : (m.cells xe xd).length = 15 := rfl
  have ec1 : ((m.wes es).cells xe' xd').length = 15 := rfl
  have l0 : loadA h0 true 15 [.sc (.ptr h.length 0 15)] = some ([.agg (m.cells xe xd)], h0) := by simp [loadA, bA0, Ms.cells]
  have l1 : loadA h2 true 15 [.sc (.ptr h.length 0 15)] = some ([.agg (m.cells xe xd)], h2) := by simp [loadA, bA2, Ms.cells]
  have l2 : loadA h2 true 15 [.sc (.ptr h1.length 0 15)] = some ([.agg ((m.wes es).cells xe' xd')], h2) := by simp [loadA, bB2, Ms.cells, Ms.wes]
  have st : storeA (h1 ++ [⟨.var, Z⟩]) 15 [.sc (.ptr h1.length 0 15)] [.agg ((m.wes es).cells xe' xd')] = some ([], h2) := by
    rw [hh2]
    simp [storeA, hZ, Ms.cells, Ms.wes]
  have zl : Z.length = 15 := by rw [hZ]; rfl
  refine ⟨_, callX (hh := trim h h2 [.sc (.bool true)]) rfl (by rfl : F 4 = some M.a4) (fun R RO RD RT E => ?_)⟩
  clear hh2 bA0 bA1 bB2 bA2 aa ab a1 a hE hD m0 m1 m2
  generalize (m.wes es).cells xe' xd' = C1 at *
  generalize m.cells xe xd = C0 at *
  generalize rightM m = rm at *
  simp [M.a4, E.eqs, ec0, ec1, ← hh0, ← hZ, zl, q1, l0, l1, l2, st, kn, r1, r2, sm]
end Go.Proofs.Ytoghoddofokekaa.lawRpcRight
