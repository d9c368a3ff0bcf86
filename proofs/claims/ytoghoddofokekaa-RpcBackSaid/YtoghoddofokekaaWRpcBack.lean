/- RpcBack: the law's call says true, of any message. -/
import Derived.Test.YtoghoddofokekaaJ5
import Derived.Test.YtoghoddofokekaaZ1
set_option linter.unusedVariables false
set_option linter.unusedSimpArgs false
set_option maxRecDepth 100000
namespace Go.Proofs.Ytoghoddofokekaa.lawRpcBack
open Go.Abs

set_option maxHeartbeats 2000000 in
theorem core {H : Type} (h : Heap) (tvs : List TV) (ds : List (DataW H)) (hr : AllRo h) (hi : Ins Try.prog h 6 [30] tvs ds) (hz : (DataW.weightsEach Try.prog [30] ds).all (· ≤ reachBytes) = true) : ∃ h', callE F O 15 tvs h = some ([.sc (.bool true)], h') := by
  obtain ⟨tv, d, rfl, rfl, h1⟩ := ins_one hi
  obtain ⟨m, xe, xd, rfl, hE, hD, b1, b2, b3, hN⟩ := in_msgZ h1 (wok_of hz 0 rfl rfl)
  have a : MsAt h m xe xd := ⟨hE, hD, hN.index, by omega, by omega⟩
  have hT : ∀ z ∈ m.es, z.1.T.length ≤ 140737488353280 := fun z hz => by have := b3 z hz; omega
  obtain ⟨h0, hh0⟩ : ∃ h0 : Heap, h0 = h ++ [⟨.var, m.cells xe xd⟩] := ⟨_, rfl⟩
  have m0 : Mod (fun _ => False) h h0 := by rw [hh0]; exact Mod.app _ _ _
  have bA0 : h0[h.length]? = some ⟨.var, m.cells xe xd⟩ := by rw [hh0]; simp
  obtain ⟨h1, es, xe', xd', q1, m1, a1, hw⟩ := spec22 (a.mod m0) hT
  have N1 : MsN (m.wes es) := ⟨hN.term, hN.index, hN.lt, hN.cm, hN.bi, hN.bt, hN.off⟩
  obtain ⟨g1, y1, q2, f1⟩ := spec27 a1 N1
  rw [errM_wes hw] at q2
  rw [encM_wes hw] at f1
  have m01 := m1.trans f1.mod fun _ _ h => h
  have bA1 := m01.get bA0 fun h => h
  have ag1 := (a.mod m0).mod m01
  obtain ⟨g2, es2, xe2, xd2, q3, m2, a2, hw2⟩ := spec22 ag1 hT
  have bA2 := m2.get bA1 fun h => h
  have qr := spec24 a2
  rw [rightM_wes hw2] at qr
  have kn := spec23 g1
  have ec0 := cellsL m xe xd
  have l0 := load15 bA0
  have l1 := load15 bA1
  have f2 := f1.pass m2
  have ln := lenA_row f2.row
  unfold errM at q2
  unfold encM at ln f2
  cases hR : rightM m
  · rw [hR] at q2 qr ln
    simp only [Bool.false_eq_true, if_false] at q2 ln
    refine ⟨_, callX (hh := trim h g2 [.sc (.bool true)]) rfl (by rfl : F 15 = some M.a15) (fun R RO RD RT E => ?_)⟩
    clear bA0 bA1 bA2 a1 a a2 ag1 hE hD m0 m1 m2 m01 f1 f2
    generalize (m.wes es).cells xe' xd' = C1 at *
    generalize (m.wes es2).cells xe2 xd2 = C2 at *
    generalize m.cells xe xd = C0 at *
    simp at ln
    simp [M.a15, E.eqs, ec0, ← hh0, q1, q2, q3, l0, l1, kn, qr, ln]
  · rw [hR] at q2 qr ln f2
    simp only [if_true] at q2 ln f2
    obtain ⟨hle, _⟩ := bodyM_le hR hN a.es.trm
    have hsl := sealB_length (bodyM m)
    obtain ⟨g3, m3, xe3, xd3, q4, p4, F4⟩ := spec47 f2.row (by omega)
    rw [rMsg_laid hR hN a.es.trm] at q4 p4
    simp only at q4 p4
    have st := store_new g3 m3 xe3 xd3
    obtain ⟨g4, hg4⟩ : ∃ g4 : Heap, g4 = g3 ++ [⟨.var, m3.cells xe3 xd3⟩] := ⟨_, rfl⟩
    have m4 : Mod (fun _ => False) g3 g4 := by rw [hg4]; exact Mod.app _ _ _
    have b4 : g4[g3.length]? = some ⟨.var, m3.cells xe3 xd3⟩ := by rw [hg4]; simp
    rw [← hg4] at st
    have m34 := F4.mod.trans m4 fun _ _ h => h
    have same := spec26 (F4.at'.mod m4) ((ag1.mod m2).mod m34) p4.symm
    have l4 := load15 b4
    have l5 := load15 (m34.get bA2 fun h => h)
    have ln4 := lenA_row (f2.row.mod m34 fun _ _ h => h)
    obtain ⟨Z, hZ⟩ : ∃ Z, Z = zC := ⟨_, rfl⟩
    rw [← hZ] at st
    have zl : Z.length = 15 := by rw [hZ]; rfl
    have hle2 : (((sealB (bodyM m)).length : Nat) : Int) ≤ 1024 := by omega
    have hle3 : (sealB (bodyM m)).length ≤ 1024 := by omega
    refine ⟨_, callX (hh := trim h g4 [.sc (.bool true)]) rfl (by rfl : F 15 = some M.a15) (fun R RO RD RT E => ?_)⟩
    clear bA0 bA1 bA2 a1 a a2 ag1 hE hD m0 m1 m2 m01 f1 f2 F4 hg4 b4 m4 m34 p4 hsl hle
    generalize (m.wes es).cells xe' xd' = C1 at *
    generalize (m.wes es2).cells xe2 xd2 = C2 at *
    generalize m3.cells xe3 xd3 = C3 at *
    generalize m.cells xe xd = C0 at *
    generalize (sealB (bodyM m)).length = sl at *
    simp [M.a15, E.eqs, ec0, ← hh0, q1, q2, q3, l0, l1, kn, qr, q4, ← hZ, zl, st, l4, l5, same, ln4, hle2, hle3]
end Go.Proofs.Ytoghoddofokekaa.lawRpcBack
