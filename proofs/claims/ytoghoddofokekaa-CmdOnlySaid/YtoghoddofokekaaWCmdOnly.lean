/- CmdOnly: the law's call says true, of any bytes and kind. -/
import Derived.Test.YtoghoddofokekaaD2
import Derived.Test.YtoghoddofokekaaZ0
set_option linter.unusedVariables false
set_option linter.unusedSimpArgs false
set_option maxRecDepth 100000
namespace Go.Proofs.Ytoghoddofokekaa.lawCmdOnly
open Go.Abs

theorem rCmd_zero {l : List UInt8} (h : (rCmd l).2 ≠ 0) : (rCmd l).1 = Cm.zero := by
  unfold rCmd at h ⊢
  split
  · rfl
  · rename_i hb
    rw [if_neg hb] at h
    simp only at h ⊢
    have key : ∀ (e : Nat) (c : Cm), ((if e = 0 then (c, 0) else (Cm.zero, e)) : Cm × Nat).2 ≠ 0 → ((if e = 0 then (c, 0) else (Cm.zero, e)) : Cm × Nat).1 = Cm.zero := fun e c h => by
      by_cases he : e = 0
      · rw [if_pos he] at h
        exact absurd rfl h
      · rw [if_neg he]
    exact key _ _ h

set_option maxHeartbeats 2000000 in
theorem core {H : Type} (h : Heap) (tvs : List TV) (ds : List (DataW H)) (hr : AllRo h) (hi : Ins Try.prog h 6 [28, 3] tvs ds) (hz : (DataW.weightsEach Try.prog [28, 3] ds).all (· ≤ reachBytes) = true) : ∃ h', callE F O 8 tvs h = some ([.sc (.bool true)], h') := by
  obtain ⟨tv, d, tvs, ds, rfl, rfl, h1, hi⟩ := ins_cons hi
  obtain ⟨tv2, d2, rfl, rfl, h2⟩ := ins_one hi
  obtain ⟨y, l, rfl, hy, hl⟩ := in_bytesZ h1 (wok_of hz 0 rfl rfl)
  obtain ⟨kd, rfl, k1, k2⟩ := in_int h2
  have len := lenA_row hy
  have pre : ∃ e1 g y' l', runE F O (sqh (sqd 1 M.a8.body)) [(0, [.sc y]), (1, [.sc (.int .i64 kd)])] h = some (.normal, e1, g) ∧ e1.get 0 = [.sc y'] ∧ Row g y' 1 l'.length (Go.Abs.bytes l') ∧ l'.length ≤ 140737488353280 := by
    by_cases hl0 : l.length = 0
    · have c1 : ¬ (0 : Int) < l.length := by omega
      refine ⟨[(0, [.sc y]), (1, [.sc (.int .i64 kd)]), (11, [.sc (.bool false)])], h, y, l, runM fun R RO RD RT E => ?_, rfl, hy, by omega⟩
      simp [M.a8, sqd, sqh, E.eqs, len, hl0]
    · have c1 : (0 : Int) < l.length := by omega
      have pk := spec29 h (n := kd) (m := 11) (by omega) (by omega) k1 k2
      have p0 := Int.emod_nonneg kd (b := 11) (by omega)
      have p5 := Int.emod_lt_of_pos kd (b := 11) (by omega)
      generalize kd % 11 = w at *
      obtain ⟨b, hbd⟩ : ∃ b, b = UInt8.ofNat (1 + w).toNat := ⟨_, rfl⟩
      have hbw : IntKind.u8.wrap (1 + w) = (b.toNat : Int) := by rw [hbd, wu8', UInt8.toNat_ofNat']; omega
      have w1 : IntKind.i64.wrap (1 + w) = 1 + w := wi64 (by omega) (by omega)
      have fr : Fresh h (h ++ [⟨.row 5 1, Go.Abs.bytes [b]⟩]) (.sl h.length 0 1 1) [b] := copy_fresh h [b]
      have hy1 := fr.keep hy
      have hcut := cut_row hy1 (l := 1) (r := l.length) (by omega) (by omega)
      have ed : ((Go.Abs.bytes l).drop (1 * 1)).take ((l.length - 1) * 1) = Go.Abs.bytes (l.drop 1) := by
        rw [Nat.mul_one, Nat.mul_one, List.take_of_length_le (by simp [bytes_length])]
        simp [Go.Abs.bytes]
      rw [ed, show l.length - 1 = (l.drop 1).length by simp] at hcut
      have hs : ∀ {lo hi : Nat → Option Nat}, lo 0 = some 1 → hi l.length = some l.length → slcA h 1 [.sc y] lo hi = some ([.sc (cutS y 1 1 l.length)], h) := fun p q => slcA_row hy p q (by omega) (by omega)
      have hs1 : ∀ {lo hi : Nat → Option Nat}, lo 0 = some 1 → hi l.length = some l.length → slcA (h ++ [⟨.row 5 1, Go.Abs.bytes [b]⟩]) 1 [.sc y] lo hi = some ([.sc (cutS y 1 1 l.length)], h ++ [⟨.row 5 1, Go.Abs.bytes [b]⟩]) := fun p q => slcA_row hy1 p q (by omega) (by omega)
      obtain ⟨a1, st⟩ := own_app fr.own (srcOf_row hcut) (by simp [lim]; omega)
      have fin := fr.app st
      generalize cutS y 1 1 l.length = yc at *
      generalize appV (h ++ [⟨.row 5 1, Go.Abs.bytes [b]⟩]) (.sl h.length 0 1 1) 1 (l.drop 1).length = yA at *
      generalize appH (h ++ [⟨.row 5 1, Go.Abs.bytes [b]⟩]) (.sl h.length 0 1 1) 5 1 (l.drop 1).length (Go.Abs.bytes (l.drop 1)) = gA at *
      have hpos : 0 < l.length := by omega
      refine ⟨[(0, [.sc yA])], gA, yA, [b] ++ l.drop 1, runM fun R RO RD RT E => ?_, rfl, fin.row, by simp; omega⟩
      obtain ⟨hb1, hhb1⟩ : ∃ hb1 : Heap, hb1 = h ++ [⟨.row 5 1, Go.Abs.bytes [b]⟩] := ⟨_, rfl⟩
      rw [← hhb1] at a1 hs1
      have hhb2 : hb1 = h ++ [⟨.row 5 1, [.int .u8 b.toNat]⟩] := hhb1
      clear st fin hcut fr
      simp [M.a8, sqd, sqh, E.eqs, len, hl0, hpos, pk, w1, hbw, ← hhb2, hs, hs1, a1]
  obtain ⟨e1, g, y', l', run, e10, hy', hl'⟩ := pre
  obtain ⟨g1, q1, m1⟩ := spec34 hy' hl'
  have hy1 := hy'.mod m1 fun _ _ h => h
  by_cases he : (rCmd l').2 = 0
  · obtain ⟨hR, ok, hE⟩ := rCmd_only he
    obtain ⟨hx, hyy⟩ := right_len hR
    rw [he] at q1
    generalize (rCmd l').1 = c at *
    obtain ⟨g2, hg2⟩ : ∃ g2 : Heap, g2 = g1 ++ [⟨.var, c.cells⟩] := ⟨_, rfl⟩
    have m2 : Mod (fun _ => False) g1 g2 := by rw [hg2]; exact Mod.app _ _ _
    have b2 : g2[g1.length]? = some ⟨.var, c.cells⟩ := by rw [hg2]; simp
    obtain ⟨g3, y3, q3, f3⟩ := spec36 g2 ok (by omega) (by omega)
    have eE : encE c = 0 := by unfold encE; rw [hR]; rfl
    have eL : encL c = l' := by unfold encL; rw [hR]; exact hE
    rw [eE] at q3
    rw [eL] at f3
    have b3 := f3.mod.get b2 fun h => h
    have q4 := spec37 g3 c (by omega) (by omega)
    rw [hR] at q4
    have s1 := b2sA_row ((hy1.mod m2 fun _ _ h => h).mod f3.mod fun _ _ h => h)
    have s2 := b2sA_row f3.row
    have kn := spec19 g2
    have hcc : c.cells.length = 10 := rfl
    have hct : c.cells.take 10 = c.cells := rfl
    have hset : setCells [.int .i64 0, .int .u64 0, .int .u64 0, .int .u64 0, .int .u64 0, .int .i64 0, .int .u64 0, .int .i64 0, .str [], .str []] 0 c.cells = c.cells := rfl
    generalize c.cells = cs at *
    refine ⟨_, callX (hh := trim h g3 [.sc (.bool true)]) rfl (by rfl : F 8 = some M.a8) (fun R RO RD RT E => ?_)⟩
    have run := E.run run
    have top : ∀ r, R (sqd 2 M.a8.body) e1 g = r → R M.a8.body (envFrom 0 [[.sc y], [.sc (.int .i64 kd)]]) h = r := fun r hr => by
      refine seqM E (e1 := [(0, [.sc y]), (1, [.sc (.int .i64 kd)])]) (h1 := h) ?_ (seqM E run hr)
      simp [E.eqs]
    rw [top _ rfl]
    simp [M.a8, sqd, E.eqs, e10, q1, ← hg2, freshB, loadA, storeA, hcc, hct, hset, b2, kn, q3, b3, q4, s1, s2]
  · have hz := rCmd_zero he
    rw [hz] at q1
    have hzc : Cm.zero.cells = [.int .i64 0, .int .u64 0, .int .u64 0, .int .u64 0, .int .u64 0, .int .i64 0, .int .u64 0, .int .i64 0, .str [], .str []] := rfl
    rw [hzc] at q1
    generalize (rCmd l').2 = er at *
    obtain ⟨g2, hg2⟩ : ∃ g2 : Heap, g2 = g1 ++ [⟨.var, [.int .i64 0, .int .u64 0, .int .u64 0, .int .u64 0, .int .u64 0, .int .i64 0, .int .u64 0, .int .i64 0, .str [], .str []]⟩] := ⟨_, rfl⟩
    have b2 : g2[g1.length]? = some ⟨.var, [.int .i64 0, .int .u64 0, .int .u64 0, .int .u64 0, .int .u64 0, .int .i64 0, .int .u64 0, .int .i64 0, .str [], .str []]⟩ := by rw [hg2]; simp
    have kn := spec19 g2
    have hgs : g2.set g1.length ⟨.var, [.int .i64 0, .int .u64 0, .int .u64 0, .int .u64 0, .int .u64 0, .int .i64 0, .int .u64 0, .int .i64 0, .str [], .str []]⟩ = g2 := by rw [hg2]; simp
    have he' : ¬ ((er : Nat) : Int) = 0 := by omega
    refine ⟨_, callX (hh := trim h g2 [.sc (.bool true)]) rfl (by rfl : F 8 = some M.a8) (fun R RO RD RT E => ?_)⟩
    have run := E.run run
    have top : ∀ r, R (sqd 2 M.a8.body) e1 g = r → R M.a8.body (envFrom 0 [[.sc y], [.sc (.int .i64 kd)]]) h = r := fun r hr => by
      refine seqM E (e1 := [(0, [.sc y]), (1, [.sc (.int .i64 kd)])]) (h1 := h) ?_ (seqM E run hr)
      simp [E.eqs]
    rw [top _ rfl]
    simp [M.a8, sqd, E.eqs, e10, q1, ← hg2, freshB, loadA, storeA, b2, kn, hgs, he, he', eqK]
end Go.Proofs.Ytoghoddofokekaa.lawCmdOnly
