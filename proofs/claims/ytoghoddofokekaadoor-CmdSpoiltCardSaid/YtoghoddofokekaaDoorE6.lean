/- spoilt: bytes with one turned, put in, left out, or cut off. -/
import Derived.Test.YtoghoddofokekaaDoorE5
set_option linter.unusedVariables false
set_option linter.unusedSimpArgs false
set_option maxRecDepth 100000
namespace Go.Proofs.YtoghoddofokekaaDoor
open Go.Abs

section
variable {g : Heap} {z : SV} {L : List UInt8}

theorem slc_any {g : Heap} {c : SV} (hc : Row g c 1 L.length (Go.Abs.bytes L)) {l r : Nat} (h1 : l ≤ r) (h2 : r ≤ L.length) : ∀ (lo hi : Nat → Option Nat), lo 0 = some l → hi L.length = some r → slcA g 1 [.sc c] lo hi = some ([.sc (cutS c 1 l r)], g) := fun lo hi hl hr => slcA_row hc hl hr h1 h2
theorem cut_any {g : Heap} {c : SV} (hc : Row g c 1 L.length (Go.Abs.bytes L)) {l r : Nat} (h1 : l ≤ r) (h2 : r ≤ L.length) : Row g (cutS c 1 l r) 1 ((L.drop l).take (r - l)).length (Go.Abs.bytes ((L.drop l).take (r - l))) := by
  have := cut_row hc h1 h2
  have e : ((L.drop l).take (r - l)).length = r - l := by simp; omega
  rw [e, bytes_take, bytes_drop]
  simpa using this

set_option maxHeartbeats 2000000 in
theorem spoil (hz : Own g z 5 1 L.length (Go.Abs.bytes L)) (hle : L.length ≤ 1000) {k : Nat} (hk : k < L.length) (how to : Int) (h1 : -9223372036854775808 ≤ how) (h2 : how < 9223372036854775808) :
    ∃ g' y' l' e', runE F O (sqd 2 M.a14.body) [(0, [.sc z]), (1, [.sc (.int .i64 how)]), (3, [.sc (.int .i64 to)]), (9, [.sc (.int .i64 k)])] g = some (.ret, e', g') ∧ e'.get 8 = [.sc y'] ∧ Row g' y' 1 l'.length (Go.Abs.bytes l') ∧ l'.length ≤ 2000 := by
  have hc := hz.row
  have pk := spec32 g (n := how) (m := 4) (by omega) (by omega) h1 h2
  have p0 := Int.emod_nonneg how (b := 4) (by omega)
  have p1 := Int.emod_lt_of_pos how (b := 4) (by omega)
  generalize how % 4 = w at *
  obtain ⟨b, hbd⟩ : ∃ b, b = UInt8.ofNat (to % 256).toNat := ⟨_, rfl⟩
  have hw := byte_of to
  rw [← hbd] at hw
  rcases (by omega : w = 0 ∨ w = 1 ∨ w = 2 ∨ w = 3) with rfl | rfl | rfl | rfl
  · have ix := ixsA_row hc hk
    have st1 := storeA_elem hz (j := k) (by omega) (by omega) (.int .u8 (b.toNat : Int))
    have st2 := storeH_own hz (i := k * 1) (by omega) (.int .u8 (b.toNat : Int))
    rw [Nat.mul_one, ← bytes_set] at st2
    rw [Nat.mul_one] at st1
    have st3 : Row (storeH g z k (.int .u8 (b.toNat : Int))) z 1 (L.set k b).length (Go.Abs.bytes (L.set k b)) := by rw [List.length_set]; exact st2.row
    refine ⟨storeH g z k (.int .u8 b.toNat), z, _, [(8, [.sc z])], runM fun R RO RD RT E => ?_, rfl, st3, by simp; omega⟩
    clear st2 st3
    generalize storeH g z k (.int .u8 (b.toNat : Int)) = g2 at *
    simp [M.a14, sqd, E.eqs, pk, hw, ix, st1]
  · have r1 := hc.mod (Mod.app (fun _ => False) g [⟨.row 5 1, []⟩]) fun _ _ h => h
    have s0 := slc_any hc (l := 0) (r := k) (by omega) (by omega)
    have s1 := slc_any r1 (l := 0) (r := k) (by omega) (by omega)
    have ck := cut_any hc (l := 0) (r := k) (by omega) (by omega)
    have a1 := copy_app ck (by simp; omega)
    have f1 := copy_fresh g ((L.drop 0).take (k - 0))
    generalize SV.sl g.length 0 ((L.drop 0).take (k - 0)).length ((L.drop 0).take (k - 0)).length = y1 at *
    generalize hg2 : (g ++ [⟨.row 5 1, Go.Abs.bytes ((L.drop 0).take (k - 0))⟩] : Heap) = g2 at *
    have r2 := f1.keep hc
    have t0 := slc_any hc (l := k) (r := L.length) (by omega) (by omega)
    have t1 := slc_any r1 (l := k) (r := L.length) (by omega) (by omega)
    have t2 := slc_any r2 (l := k) (r := L.length) (by omega) (by omega)
    obtain ⟨a2, so2⟩ := own_app1 f1.own b (by simp [lim]; omega)
    have f2 := f1.app so2
    generalize appV g2 y1 1 1 = y2 at *
    generalize appH g2 y1 5 1 1 [.int .u8 b.toNat] = g3 at *
    have r3 := f2.keep hc
    have t3 := slc_any r3 (l := k) (r := L.length) (by omega) (by omega)
    obtain ⟨a3, so3⟩ := own_app f2.own (srcOf_row (cut_any r3 (l := k) (r := L.length) (by omega) (by omega))) (by simp [lim]; omega)
    have f3 := f2.app so3
    generalize appV g3 y2 1 ((L.drop k).take (L.length - k)).length = y3 at *
    generalize appH g3 y2 5 1 ((L.drop k).take (L.length - k)).length (Go.Abs.bytes ((L.drop k).take (L.length - k))) = g4 at *
    refine ⟨g4, y3, _, [(8, [.sc y3])], runM fun R RO RD RT E => ?_, rfl, f3.row, by simp; omega⟩
    clear f1 f2 f3 so2 so3 r1 r2 r3 hz ck hc hg2
    simp [M.a14, sqd, E.eqs, pk, hw, s0, s1, a1, a2, t0, t1, t2, t3, a3]
  · have r1 := hc.mod (Mod.app (fun _ => False) g [⟨.row 5 1, []⟩]) fun _ _ h => h
    have s0 := slc_any hc (l := 0) (r := k) (by omega) (by omega)
    have s1 := slc_any r1 (l := 0) (r := k) (by omega) (by omega)
    have ck := cut_any hc (l := 0) (r := k) (by omega) (by omega)
    have a1 := copy_app ck (by simp; omega)
    have f1 := copy_fresh g ((L.drop 0).take (k - 0))
    generalize SV.sl g.length 0 ((L.drop 0).take (k - 0)).length ((L.drop 0).take (k - 0)).length = y1 at *
    generalize hg2 : (g ++ [⟨.row 5 1, Go.Abs.bytes ((L.drop 0).take (k - 0))⟩] : Heap) = g2 at *
    have r2 := f1.keep hc
    obtain ⟨k1, hk1⟩ : ∃ k1, k1 = k + 1 := ⟨_, rfl⟩
    have wk : IntKind.i64.wrap ((k : Int) + 1) = (k1 : Int) := by rw [wi64 (by omega) (by omega)]; omega
    have t0 := slc_any hc (l := k1) (r := L.length) (by omega) (by omega)
    have t1 := slc_any r1 (l := k1) (r := L.length) (by omega) (by omega)
    have t2 := slc_any r2 (l := k1) (r := L.length) (by omega) (by omega)
    obtain ⟨a3, so3⟩ := own_app f1.own (srcOf_row (cut_any r2 (l := k1) (r := L.length) (by omega) (by omega))) (by simp [lim]; omega)
    have f3 := f1.app so3
    generalize appV g2 y1 1 ((L.drop k1).take (L.length - k1)).length = y3 at *
    generalize appH g2 y1 5 1 ((L.drop k1).take (L.length - k1)).length (Go.Abs.bytes ((L.drop k1).take (L.length - k1))) = g4 at *
    refine ⟨g4, y3, _, [(8, [.sc y3])], runM fun R RO RD RT E => ?_, rfl, f3.row, by simp; omega⟩
    clear f1 f3 so3 r1 r2 hz ck hc hg2
    simp [M.a14, sqd, E.eqs, pk, hw, wk, s0, s1, a1, t0, t1, t2, a3]
  · have s0 := slc_any hc (l := 0) (r := k) (by omega) (by omega)
    refine ⟨g, _, _, [(8, [.sc (cutS z 1 0 k)])], runM fun R RO RD RT E => ?_, rfl, cut_any hc (l := 0) (r := k) (by omega) (by omega), by simp; omega⟩
    simp [M.a14, sqd, E.eqs, pk, s0]

theorem spec14 (hz : Own g z 5 1 L.length (Go.Abs.bytes L)) (hne : L ≠ []) (hle : L.length ≤ 1000) (how at_ to : Int) (h1 : -9223372036854775808 ≤ how) (h2 : how < 9223372036854775808) (a1 : -9223372036854775808 ≤ at_) (a2 : at_ < 9223372036854775808) :
    ∃ g' y' l', call 14 [[.sc z], [.sc (.int .i64 how)], [.sc (.int .i64 at_)], [.sc (.int .i64 to)]] g = some ([.sc y'], g') ∧ Row g' y' 1 l'.length (Go.Abs.bytes l') ∧ l'.length ≤ 2000 := by
  have hpos : 0 < L.length := by
    rcases Nat.eq_zero_or_pos L.length with h | h
    · exact absurd (List.eq_nil_of_length_eq_zero h) hne
    · exact h
  have ln := lenA_row hz.row
  have pk := spec32 g (n := at_) (m := (L.length : Int)) (by omega) (by omega) a1 a2
  have p0 := Int.emod_nonneg at_ (b := (L.length : Int)) (by omega)
  have p1 := Int.emod_lt_of_pos at_ (b := (L.length : Int)) (by omega)
  generalize at_ % (L.length : Int) = w at *
  obtain ⟨k, rfl⟩ : ∃ k : Nat, w = (k : Int) := ⟨w.toNat, by omega⟩
  obtain ⟨g', y', l', e', run, e8, hy', hl'⟩ := spoil hz hle (k := k) (by omega) how to h1 h2
  refine ⟨_, y', l', callX (hh := Go.Abs.trim g g' [.sc y']) rfl (by rfl : F 14 = some M.a14) (fun R RO RD RT E => ?_), row_trim hy', hl'⟩
  have run := E.run run
  have top : R M.a14.body (envFrom 0 [[.sc z], [.sc (.int .i64 how)], [.sc (.int .i64 at_)], [.sc (.int .i64 to)]]) g = some (.ret, e', g') := by
    refine seqM E (e1 := [(0, [.sc z]), (1, [.sc (.int .i64 how)]), (2, [.sc (.int .i64 at_)]), (3, [.sc (.int .i64 to)])]) (h1 := g) ?_ (seqM E (e1 := [(0, [.sc z]), (1, [.sc (.int .i64 how)]), (3, [.sc (.int .i64 to)]), (9, [.sc (.int .i64 k)])]) (h1 := g) ?_ run)
    · simp [E.eqs]
    · simp [E.eqs, ln, pk]
  rw [top]
  simp [M.a14, E.eqs, e8]
end
end Go.Proofs.YtoghoddofokekaaDoor
