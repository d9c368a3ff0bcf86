/- RpcDecodes: the law's call says true, of any bytes. -/
import Derived.Test.YtoghoddofokekaaJ3
import Derived.Test.YtoghoddofokekaaZ1
set_option linter.unusedVariables false
set_option linter.unusedSimpArgs false
set_option maxRecDepth 100000
namespace Go.Proofs.Ytoghoddofokekaa.lawRpcDecodes
open Go.Abs

set_option maxHeartbeats 2000000 in
theorem spec {h : Heap} {yb : SV} {lb : List UInt8} (hyb : Row h yb 1 lb.length (Go.Abs.bytes lb)) (hlb : lb.length ≤ 140737488352256) (sl : Bool) : ∃ h', call 13 [[.sc yb], [.sc (.bool sl)]] h = some ([.sc (.bool true)], h') := by
  have pre : ∃ e1 g y' l', runE F O (sqh (sqd 1 M.a13.body)) [(0, [.sc yb]), (1, [.sc (.bool sl)])] h = some (.normal, e1, g) ∧ e1.get 0 = [.sc y'] ∧ Row g y' 1 l'.length (Go.Abs.bytes l') ∧ l'.length ≤ 140737488353280 := by
    cases sl
    · refine ⟨[(0, [.sc yb]), (10, [.sc (.bool false)])], h, yb, lb, runM fun R RO RD RT E => ?_, rfl, hyb, by omega⟩
      simp [M.a13, sqd, sqh, E.eqs]
    · obtain ⟨g, z, q, f⟩ := spec48 hyb (by omega)
      refine ⟨[(0, [.sc z])], g, z, sealB lb, runM fun R RO RD RT E => ?_, rfl, f.row, by rw [sealB_length]; omega⟩
      simp [M.a13, sqd, sqh, E.eqs, q]
  obtain ⟨e1, g, y', l', run, e10, hy', hl'⟩ := pre
  have a1 := copy_app hy' (by omega)
  have f1 := copy_fresh g l'
  have hy1 := f1.keep hy'
  have hx1 := f1.row
  generalize SV.sl g.length 0 l'.length l'.length = xo at *
  generalize (g ++ [⟨.row 5 1, Go.Abs.bytes l'⟩] : Heap) = h1 at *
  obtain ⟨g1, m1, xe1, xd1, q1, p1, F1⟩ := spec47 hx1 hl'
  have st1 := store_new g1 m1 xe1 xd1
  obtain ⟨g2, hg2⟩ : ∃ g2 : Heap, g2 = g1 ++ [⟨.var, m1.cells xe1 xd1⟩] := ⟨_, rfl⟩
  have m2 : Mod (fun _ => False) g1 g2 := by rw [hg2]; exact Mod.app _ _ _
  have b2 : g2[g1.length]? = some ⟨.var, m1.cells xe1 xd1⟩ := by rw [hg2]; simp
  rw [← hg2] at st1
  have m12 := F1.mod.trans m2 fun _ _ h => h
  have hy2 := hy1.mod m12 fun _ _ h => h
  have hx2 := hx1.mod m12 fun _ _ h => h
  obtain ⟨g3, m3, xe3, xd3, q3, p3, F3⟩ := spec49 hy2 hl'
  have st3 := store_new g3 m3 xe3 xd3
  obtain ⟨g4, hg4⟩ : ∃ g4 : Heap, g4 = g3 ++ [⟨.var, m3.cells xe3 xd3⟩] := ⟨_, rfl⟩
  have m4 : Mod (fun _ => False) g3 g4 := by rw [hg4]; exact Mod.app _ _ _
  have b4 : g4[g3.length]? = some ⟨.var, m3.cells xe3 xd3⟩ := by rw [hg4]; simp
  rw [← hg4] at st3
  have m34 := F3.mod.trans m4 fun _ _ h => h
  have b4' := m34.get b2 fun h => h
  have s1 := b2sA_row (hy2.mod m34 fun _ _ h => h)
  have s2 := b2sA_row (hx2.mod m34 fun _ _ h => h)
  have same := spec26 ((F1.at'.mod m2).mod m34) (F3.at'.mod m4) (p3.trans p1.symm)
  have kn := spec23 g4
  have l1 := load15 b4'
  have l2 := load15 b4
  have zl : zC.length = 15 := rfl
  have hZ : ∃ Z, Z = zC := ⟨_, rfl⟩
  obtain ⟨Z, hZ⟩ := hZ
  rw [← hZ] at st1 st3 zl
  generalize m1.cells xe1 xd1 = cs1 at *
  generalize m3.cells xe3 xd3 = cs2 at *
  generalize (rMsg l').2 = er at *
  refine ⟨_, callX (hh := trim h g4 [.sc (.bool true)]) rfl (by rfl : F 13 = some M.a13) (fun R RO RD RT E => ?_)⟩
  have run := E.run run
  have top : ∀ r, R (sqd 2 M.a13.body) e1 g = r → R M.a13.body (envFrom 0 [[.sc yb], [.sc (.bool sl)]]) h = r := fun r hr => by
    refine seqM E (e1 := [(0, [.sc yb]), (1, [.sc (.bool sl)])]) (h1 := h) ?_ (seqM E run hr)
    simp [E.eqs]
  rw [top _ rfl]
  clear hg2 hg4 F1 F3 b2 b4 b4' m2 m4 m12 m34
  simp [M.a13, sqd, E.eqs, e10, a1, ← hZ, zl, q1, st1, q3, st3, l1, l2, kn, same, s1, s2]

theorem core {H : Type} (h : Heap) (tvs : List TV) (ds : List (DataW H)) (hr : AllRo h) (hi : Ins Try.prog h 6 [28, 4] tvs ds) (hz : (DataW.weightsEach Try.prog [28, 4] ds).all (· ≤ reachBytes) = true) : ∃ h', callE F O 13 tvs h = some ([.sc (.bool true)], h') := by
  obtain ⟨tv, d, tvs, ds, rfl, rfl, h1, hi⟩ := ins_cons hi
  obtain ⟨tv2, d2, rfl, rfl, h2⟩ := ins_one hi
  obtain ⟨yb, lb, rfl, hyb, hlb⟩ := in_bytesZ h1 (wok_of hz 0 rfl rfl)
  obtain ⟨sl, rfl⟩ := in_bool (by kernel_rfl) (by kernel_rfl) h2
  exact spec hyb (by omega) sl
end Go.Proofs.Ytoghoddofokekaa.lawRpcDecodes
