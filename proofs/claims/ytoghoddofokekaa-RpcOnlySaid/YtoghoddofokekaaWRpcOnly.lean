/- RpcOnly: the law's call says true, of any bytes. -/
import Derived.Test.YtoghoddofokekaaJ6
import Derived.Test.YtoghoddofokekaaZ1
set_option linter.unusedVariables false
set_option linter.unusedSimpArgs false
set_option maxRecDepth 100000
namespace Go.Proofs.Ytoghoddofokekaa.lawRpcOnly
open Go.Abs

theorem rMsg_none {l : List UInt8} (h : (rMsg l).2 ≠ 0) : (rMsg l).1 = Ms.zero := by
  unfold rMsg at h ⊢
  split
  · rfl
  · rename_i h1
    rw [if_neg h1] at h
    split
    · rfl
    · rename_i h2
      rw [if_neg h2] at h
      simp only at h ⊢
      have key : ∀ e : Nat, ((if e = 0 then ((rBody (unB l)).m, 0) else (Ms.zero, e)) : Ms × Nat).2 ≠ 0 → ((if e = 0 then ((rBody (unB l)).m, 0) else (Ms.zero, e)) : Ms × Nat).1 = Ms.zero := fun e he => by
        split
        · rename_i h3
          rw [if_pos h3] at he
          exact absurd rfl he
        · rfl
      exact key _ h

set_option maxHeartbeats 2000000 in
theorem core {H : Type} (h : Heap) (tvs : List TV) (ds : List (DataW H)) (hr : AllRo h) (hi : Ins Try.prog h 6 [28, 4] tvs ds) (hz : (DataW.weightsEach Try.prog [28, 4] ds).all (· ≤ reachBytes) = true) : ∃ h', callE F O 16 tvs h = some ([.sc (.bool true)], h') := by
  obtain ⟨tv, d, tvs, ds, rfl, rfl, h1, hi⟩ := ins_cons hi
  obtain ⟨tv2, d2, rfl, rfl, h2⟩ := ins_one hi
  obtain ⟨yb, lb, rfl, hyb, hlb⟩ := in_bytesZ h1 (wok_of hz 0 rfl rfl)
  obtain ⟨sl, rfl⟩ := in_bool (by kernel_rfl) (by kernel_rfl) h2
  have pre : ∃ e1 g y' l', runE F O (sqh (sqd 1 M.a16.body)) [(0, [.sc yb]), (1, [.sc (.bool sl)])] h = some (.normal, e1, g) ∧ e1.get 0 = [.sc y'] ∧ Row g y' 1 l'.length (Go.Abs.bytes l') ∧ l'.length ≤ 140737488353280 := by
    cases sl
    · refine ⟨[(0, [.sc yb]), (9, [.sc (.bool false)])], h, yb, lb, runM fun R RO RD RT E => ?_, rfl, hyb, by omega⟩
      simp [M.a16, sqd, sqh, E.eqs]
    · obtain ⟨g, z, q, f⟩ := spec48 hyb (by omega)
      refine ⟨[(0, [.sc z])], g, z, sealB lb, runM fun R RO RD RT E => ?_, rfl, f.row, by rw [sealB_length]; omega⟩
      simp [M.a16, sqd, sqh, E.eqs, q]
  obtain ⟨e1, g, y', l', run, e10, hy', hl'⟩ := pre
  obtain ⟨g1, m1, xe1, xd1, q1, p1, F1⟩ := spec47 hy' hl'
  have st1 := store_new g1 m1 xe1 xd1
  obtain ⟨g2, hg2⟩ : ∃ g2 : Heap, g2 = g1 ++ [⟨.var, m1.cells xe1 xd1⟩] := ⟨_, rfl⟩
  have m2 : Mod (fun _ => False) g1 g2 := by rw [hg2]; exact Mod.app _ _ _
  have b2 : g2[g1.length]? = some ⟨.var, m1.cells xe1 xd1⟩ := by rw [hg2]; simp
  rw [← hg2] at st1
  have m12 := F1.mod.trans m2 fun _ _ h => h
  have hy2 := hy'.mod m12 fun _ _ h => h
  have a2 := F1.at'.mod m2
  have kn := spec23 g2
  have l2 := load15 b2
  obtain ⟨Z, hZ⟩ : ∃ Z, Z = zC := ⟨_, rfl⟩
  rw [← hZ] at st1
  have zl : Z.length = 15 := by rw [hZ]; rfl
  by_cases he : (rMsg l').2 = 0
  · obtain ⟨o1, o2⟩ := rMsg_only he
    have pp : m1.plain = (rMsg l').1.plain := by rw [← p1, Ms.plain_plain]
    have hR : rightM m1 = true := by rw [rightM_plain pp]; exact o1
    obtain ⟨x1, x2, _⟩ := encM_plain pp
    rw [o2] at x1
    rw [he] at q1
    obtain ⟨g3, y3, q3, f3⟩ := spec27 a2 F1.num
    have e0 : errM m1 = 0 := by unfold errM; rw [hR]; rfl
    rw [e0] at q3
    rw [x1] at f3
    have l3 := load15 (f3.mod.get b2 fun h => h)
    have r3 := spec24 (a2.mod f3.mod)
    rw [hR] at r3
    have s1 := b2sA_row f3.row
    have s2 := b2sA_row (f3.keep hy2)
    refine ⟨_, callX (hh := trim h g3 [.sc (.bool true)]) rfl (by rfl : F 16 = some M.a16) (fun R RO RD RT E => ?_)⟩
    have run := E.run run
    have top : ∀ r, R (sqd 2 M.a16.body) e1 g = r → R M.a16.body (envFrom 0 [[.sc yb], [.sc (.bool sl)]]) h = r := fun r hr => by
      refine seqM E (e1 := [(0, [.sc yb]), (1, [.sc (.bool sl)])]) (h1 := h) ?_ (seqM E run hr)
      simp [E.eqs]
    rw [top _ rfl]
    clear hg2 F1 b2 m2 m12 a2 f3
    generalize m1.cells xe1 xd1 = cs1 at *
    simp [M.a16, sqd, E.eqs, e10, ← hZ, zl, q1, st1, l2, kn, q3, l3, r3, s1, s2]
  · have hz := rMsg_none he
    have same := spec26 a2 (MsAt.zero g2) (by rw [p1, hz]; rfl)
    have zz : Ms.zero.cells .nils .nils = Z := by rw [hZ]; rfl
    rw [zz] at same
    have he' : ¬ (((rMsg l').2 : Nat) : Int) = 0 := by omega
    refine ⟨_, callX (hh := trim h g2 [.sc (.bool true)]) rfl (by rfl : F 16 = some M.a16) (fun R RO RD RT E => ?_)⟩
    have run := E.run run
    have top : ∀ r, R (sqd 2 M.a16.body) e1 g = r → R M.a16.body (envFrom 0 [[.sc yb], [.sc (.bool sl)]]) h = r := fun r hr => by
      refine seqM E (e1 := [(0, [.sc yb]), (1, [.sc (.bool sl)])]) (h1 := h) ?_ (seqM E run hr)
      simp [E.eqs]
    rw [top _ rfl]
    clear hg2 F1 b2 m2 m12 a2
    generalize m1.cells xe1 xd1 = cs1 at *
    generalize (rMsg l').2 = er at *
    simp [M.a16, sqd, E.eqs, e10, ← hZ, zl, q1, st1, l2, kn, same, he, he']
end Go.Proofs.Ytoghoddofokekaa.lawRpcOnly
