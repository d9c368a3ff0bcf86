/- PackTurned: the law's call says true, of any bytes and numbers. -/
import Derived.Test.YtokdnndocipilaaS6
import Derived.Test.YtokdnndocipilaaS7
import Derived.Test.YtokdnndocipilaaS8
import Derived.Test.YtokdnndocipilaaZ0
set_option linter.unusedVariables false
set_option linter.unusedSimpArgs false
set_option maxRecDepth 100000
namespace Go.Proofs.Ytokdnndocipilaa.lawPackTurned
open Go.Abs

theorem core {H : Type} (h : Heap) (tvs : List TV) (ds : List (DataW H)) (hr : AllRo h) (hi : Ins Try.prog h 6 [23, 3, 3] tvs ds) (hz : (DataW.weightsEach Try.prog [23, 3, 3] ds).all (· ≤ reachBytes) = true) : ∃ h', callE F O 5 tvs h = some ([.sc (.bool true)], h') := by
  obtain ⟨tv, d, tvs, ds, rfl, rfl, h1, hi⟩ := ins_cons hi
  obtain ⟨tv2, d2, tvs, ds, rfl, rfl, h2, hi⟩ := ins_cons hi
  obtain ⟨tv3, d3, rfl, rfl, h3⟩ := ins_one hi
  obtain ⟨x, l, rfl, hx, hl⟩ := in_bytesZ h1 (wok_of hz 0 rfl rfl)
  obtain ⟨a, rfl, ha1, ha2⟩ := in_int h2
  obtain ⟨b, rfl, hb1, hb2⟩ := in_int h3
  obtain ⟨g1, z1, e1, f1⟩ := spec25 hx (by omega)
  have kn := spec13 g1
  have l1 := lenA_row f1.row
  have l2 := lenA_row (f1.keep hx)
  rw [sealB_length] at l1
  have w1 : IntKind.i64.wrap ((l.length : Int) + 4) = ((l.length + 4 : Nat) : Int) := by rw [wi64 (by omega) (by omega)]; omega
  have p1 := spec14 g1 (n := a) (m := ((l.length + 4 : Nat) : Int)) (by omega) (by omega) (by omega) (by omega)
  have p2 := spec14 g1 (n := b) (m := 255) (by omega) (by omega) (by omega) (by omega)
  have hk1 := Int.emod_nonneg a (b := ((l.length + 4 : Nat) : Int)) (by omega)
  have hk2 := Int.emod_lt_of_pos a (b := ((l.length + 4 : Nat) : Int)) (by omega)
  generalize hk : a % ((l.length + 4 : Nat) : Int) = ki at *
  obtain ⟨k, rfl⟩ := Int.eq_ofNat_of_zero_le hk1
  have hv1 := Int.emod_nonneg b (b := 255) (by omega)
  have hv2 := Int.emod_lt_of_pos b (b := 255) (by omega)
  generalize hv : b % 255 = vi at *
  obtain ⟨v, rfl⟩ := Int.eq_ofNat_of_zero_le hv1
  have hkl : k < (sealB l).length := by rw [sealB_length]; omega
  obtain ⟨c, hc⟩ : ∃ c, (sealB l)[k]? = some c := ⟨_, List.getElem?_eq_getElem hkl⟩
  obtain ⟨i1, i2⟩ := byte_at f1.row hc
  obtain ⟨w, hw⟩ : ∃ w, w = UInt8.ofNat (1 + v) := ⟨_, rfl⟩
  have hwn : w.toNat = 1 + v := by rw [hw, UInt8.toNat_ofNat']; omega
  have w2 : IntKind.u8.wrap (IntKind.i64.wrap (1 + (v : Int))) = (w.toNat : Int) := by rw [wi64 (by omega) (by omega), wu8', hwn]; omega
  have x1 := xor_u8 (a := c.toNat) (b := w.toNat) (by have := c.toNat_lt; omega) (by have := w.toNat_lt; omega)
  rw [← UInt8.toNat_xor] at x1
  obtain ⟨y, hy⟩ : ∃ y, y = c ^^^ w := ⟨_, rfl⟩
  rw [← hy] at x1
  have st1 := storeA_elem f1.own hkl (by omega) (.int .u8 (y.toNat : Int))
  have st2 := storeH_own f1.own (i := k * 1) (by omega) (.int .u8 (y.toNat : Int))
  rw [Nat.mul_one, ← bytes_set] at st2
  rw [Nat.mul_one] at st1
  have st3 : Own (storeH g1 z1 k (.int .u8 (y.toNat : Int))) z1 5 1 ((sealB l).set k y).length (Go.Abs.bytes ((sealB l).set k y)) := by rw [List.length_set]; exact st2
  have ut := un_turned l k y (by omega) (fun x hx => by
    rw [hc] at hx
    injection hx with hx
    subst hx
    intro he
    rw [hy] at he
    have h1 := congrArg UInt8.toNat he
    rw [UInt8.toNat_xor] at h1
    have : w.toNat = 0 := xor_cl (c := c.toNat) (by simpa using h1)
    omega)
  obtain ⟨g2, z2, e2, f2⟩ := spec23 st3.row (by rw [List.length_set, sealB_length]; omega)
  have ub : unB ((sealB l).set k y) = [] := by unfold unB; rw [ut]; rfl
  rw [ut] at e2
  rw [ub] at f2
  have l3 := lenA_row f2.row
  exact ⟨_, callM (x := .ret) (e := [(6, [.sc (.bool true)])]) (h' := g2) rfl (by rfl : F 5 = some M.a5) (fun R RO RD RT E => by
    simp at w1 p1 l1 l3
    simp [M.a5, E.eqs, e1, kn, l1, l2, w1, p1, p2, i1, i2, w2, x1, st1, e2, l3]) (.inr rfl) rfl⟩
end Go.Proofs.Ytokdnndocipilaa.lawPackTurned
