/- RpcTurned: the law's call says true, of any message and numbers. -/
import Derived.Test.YtoghoddofokekaaJ4
import Derived.Test.YtoghoddofokekaaS7
import Derived.Test.YtoghoddofokekaaS8
import Derived.Test.YtoghoddofokekaaZ1
set_option linter.unusedVariables false
set_option linter.unusedSimpArgs false
set_option maxRecDepth 100000
namespace Go.Proofs.Ytoghoddofokekaa.lawRpcTurned
open Go.Abs

set_option maxHeartbeats 2000000 in
theorem core {H : Type} (h : Heap) (tvs : List TV) (ds : List (DataW H)) (hr : AllRo h) (hi : Ins Try.prog h 6 [30, 3, 3] tvs ds) (hz : (DataW.weightsEach Try.prog [30, 3, 3] ds).all (· ≤ reachBytes) = true) : ∃ h', callE F O 17 tvs h = some ([.sc (.bool true)], h') := by
  obtain ⟨tv, d, tvs, ds, rfl, rfl, h1, hi⟩ := ins_cons hi
  obtain ⟨tv2, d2, tvs, ds, rfl, rfl, h2, hi⟩ := ins_cons hi
  obtain ⟨tv3, d3, rfl, rfl, h3⟩ := ins_one hi
  obtain ⟨m, xe, xd, rfl, hE, hD, b1, b2, b3, hN⟩ := in_msgZ h1 (wok_of hz 0 rfl rfl)
  obtain ⟨a, rfl, ha1, ha2⟩ := in_int h2
  obtain ⟨b, rfl, hb1, hb2⟩ := in_int h3
  have am : MsAt h m xe xd := ⟨hE, hD, hN.index, by omega, by omega⟩
  have hT : ∀ z ∈ m.es, z.1.T.length ≤ 140737488353280 := fun z hz => by have := b3 z hz; omega
  obtain ⟨h0, hh0⟩ : ∃ h0 : Heap, h0 = h ++ [⟨.var, m.cells xe xd⟩] := ⟨_, rfl⟩
  have m0 : Mod (fun _ => False) h h0 := by rw [hh0]; exact Mod.app _ _ _
  have bA0 : h0[h.length]? = some ⟨.var, m.cells xe xd⟩ := by rw [hh0]; simp
  obtain ⟨h1, es, xe', xd', q1, m1, a1, hw⟩ := spec22 (am.mod m0) hT
  have N1 : MsN (m.wes es) := ⟨hN.term, hN.index, hN.lt, hN.cm, hN.bi, hN.bt, hN.off⟩
  obtain ⟨g1, z1, q2, f1⟩ := spec27 a1 N1
  rw [errM_wes hw] at q2
  rw [encM_wes hw] at f1
  have kn := spec23 g1
  have ec0 := cellsL m xe xd
  have l0 := load15 bA0
  have p2 := spec29 g1 (n := b) (m := 255) (by omega) (by omega) (by omega) (by omega)
  unfold errM at q2
  unfold encM at f1
  cases hR : rightM m
  · rw [hR] at q2
    simp only [Bool.false_eq_true, if_false] at q2
    refine ⟨_, callX (hh := trim h g1 [.sc (.bool true)]) rfl (by rfl : F 17 = some M.a17) (fun R RO RD RT E => ?_)⟩
    clear bA0 a1 am hE hD m0 m1 f1 p2
    generalize (m.wes es).cells xe' xd' = C1 at *
    generalize m.cells xe xd = C0 at *
    simp [M.a17, E.eqs, ec0, ← hh0, q1, q2, l0, kn]
  rw [hR] at q2 f1
  simp only [if_true] at q2 f1
  obtain ⟨hle, h3⟩ := bodyM_le hR hN am.es.trm
  obtain ⟨L, hL⟩ : ∃ L, L = bodyM m := ⟨_, rfl⟩
  rw [← hL] at f1 hle h3
  have ll := lenA_row f1.row
  have sll := sealB_length L
  have p1 := spec29 g1 (n := a) (m := ((sealB L).length : Int)) (by omega) (by omega) (by omega) (by omega)
  have hk1 := Int.emod_nonneg a (b := ((sealB L).length : Int)) (by omega)
  have hk2 := Int.emod_lt_of_pos a (b := ((sealB L).length : Int)) (by omega)
  generalize hk : a % ((sealB L).length : Int) = ki at *
  obtain ⟨k, rfl⟩ := Int.eq_ofNat_of_zero_le hk1
  have hv1 := Int.emod_nonneg b (b := 255) (by omega)
  have hv2 := Int.emod_lt_of_pos b (b := 255) (by omega)
  generalize hv : b % 255 = vi at *
  obtain ⟨v, rfl⟩ := Int.eq_ofNat_of_zero_le hv1
  have hkl : k < (sealB L).length := by omega
  obtain ⟨c, hc⟩ : ∃ c, (sealB L)[k]? = some c := ⟨_, List.getElem?_eq_getElem hkl⟩
  obtain ⟨i1, i2⟩ := byte_at f1.row hc
  obtain ⟨w, hw'⟩ : ∃ w, w = UInt8.ofNat (1 + v) := ⟨_, rfl⟩
  have hwn : w.toNat = 1 + v := by rw [hw', UInt8.toNat_ofNat']; omega
  have w2 : IntKind.u8.wrap (IntKind.i64.wrap (1 + (v : Int))) = (w.toNat : Int) := by rw [wi64 (by omega) (by omega), wu8', hwn]; omega
  have x1 := xor_u8 (a := c.toNat) (b := w.toNat) (by have := c.toNat_lt; omega) (by have := w.toNat_lt; omega)
  rw [← UInt8.toNat_xor] at x1
  obtain ⟨y, hy⟩ : ∃ y, y = c ^^^ w := ⟨_, rfl⟩
  rw [← hy] at x1
  have st1 := storeA_elem f1.own hkl (by omega) (.int .u8 (y.toNat : Int))
  have st2 := storeH_own f1.own (i := k * 1) (by omega) (.int .u8 (y.toNat : Int))
  rw [Nat.mul_one, ← bytes_set] at st2
  rw [Nat.mul_one] at st1
  have st3 : Own (storeH g1 z1 k (.int .u8 (y.toNat : Int))) z1 5 1 ((sealB L).set k y).length (Go.Abs.bytes ((sealB L).set k y)) := by rw [List.length_set]; exact st2
  have ut := un_turned L k y (by omega) (fun x hx => by
    rw [hc] at hx
    injection hx with hx
    subst hx
    intro he
    rw [hy] at he
    have h1 := congrArg UInt8.toNat he
    rw [UInt8.toNat_xor] at h1
    have : w.toNat = 0 := xor_cl (c := c.toNat) (by simpa using h1)
    omega)
  obtain ⟨g2, m2, xe2, xd2, q3, _, _⟩ := spec47 st3.row (by rw [List.length_set]; omega)
  have e13 : (rMsg ((sealB L).set k y)).2 = 13 := by
    unfold rMsg
    rw [if_neg (by rw [List.length_set]; omega), ut]
    rfl
  rw [e13] at q3
  obtain ⟨g3, hg3⟩ : ∃ g3 : Heap, g3 = g2 ++ [⟨.var, m2.cells xe2 xd2⟩] := ⟨_, rfl⟩
  have st4 := store_new g2 m2 xe2 xd2
  rw [← hg3] at st4
  obtain ⟨Z, hZ⟩ : ∃ Z, Z = zC := ⟨_, rfl⟩
  rw [← hZ] at st4
  have zl : Z.length = 15 := by rw [hZ]; rfl
  refine ⟨_, callX (hh := trim h g3 [.sc (.bool true)]) rfl (by rfl : F 17 = some M.a17) (fun R RO RD RT E => ?_)⟩
  clear bA0 a1 am hE hD m0 m1 f1 st2 st3 ut e13 hL hg3
  generalize storeH g1 z1 k (.int .u8 (y.toNat : Int)) = g4 at *
  generalize (m.wes es).cells xe' xd' = C1 at *
  generalize m.cells xe xd = C0 at *
  generalize m2.cells xe2 xd2 = C2 at *
  generalize (sealB L).length = ln at *
  simp [M.a17, E.eqs, ec0, ← hh0, q1, q2, l0, kn, ll, p1, p2, i1, i2, w2, x1, st1, q3, ← hZ, zl, st4]
end Go.Proofs.Ytoghoddofokekaa.lawRpcTurned
