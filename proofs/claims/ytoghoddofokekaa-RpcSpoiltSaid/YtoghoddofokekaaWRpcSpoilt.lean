/- RpcSpoilt: the law's call says true, of any message and numbers. -/
import Derived.Test.YtoghoddofokekaaJ4
import Derived.Test.YtoghoddofokekaaS7
import Derived.Test.YtoghoddofokekaaWRpcDecodes
import Derived.Test.YtoghoddofokekaaZ1
set_option linter.unusedVariables false
set_option linter.unusedSimpArgs false
set_option maxRecDepth 100000
namespace Go.Proofs.Ytoghoddofokekaa.lawRpcSpoilt
open Go.Abs

theorem elem_cut {h : Heap} {y : SV} {l : List UInt8} (hy : Own h y 5 1 l.length (Go.Abs.bytes l)) (hne : l ≠ []) (n k : Nat) : elemP (cutS y 1 0 n) 1 k = elemP y 1 k := by
  obtain ⟨b, n0, c0, rfl⟩ := own_sl hy hne
  simp [elemP, cutS]

section
variable {g : Heap} {z c : SV} {L : List UInt8}

theorem slc_any {g : Heap} (hc : Row g c 1 L.length (Go.Abs.bytes L)) {l r : Nat} (h1 : l ≤ r) (h2 : r ≤ L.length) : ∀ (lo hi : Nat → Option Nat), lo 0 = some l → hi L.length = some r → slcA g 1 [.sc c] lo hi = some ([.sc (cutS c 1 l r)], g) := fun lo hi hl hr => slcA_row hc hl hr h1 h2
theorem cut_any {g : Heap} (hc : Row g c 1 L.length (Go.Abs.bytes L)) {l r : Nat} (h1 : l ≤ r) (h2 : r ≤ L.length) : Row g (cutS c 1 l r) 1 ((L.drop l).take (r - l)).length (Go.Abs.bytes ((L.drop l).take (r - l))) := by
  have := cut_row hc h1 h2
  have e : ((L.drop l).take (r - l)).length = r - l := by simp; omega
  rw [e, bytes_take, bytes_drop]
  simpa using this

set_option maxHeartbeats 2000000 in
theorem spoil (hz : Own g z 5 1 (sealB L).length (Go.Abs.bytes (sealB L))) (hcz : c = cutS z 1 0 L.length) (hc : Row g c 1 L.length (Go.Abs.bytes L)) (hle : L.length ≤ 1000) {k : Nat} (hk : k < L.length) (how to : Int) (h1 : -9223372036854775808 ≤ how) (h2 : how < 9223372036854775808) :
    ∃ g' y' l', runE F O (sqh (sqd 5 M.a14.body)) [(1, [.sc (.int .i64 how)]), (3, [.sc (.int .i64 to)]), (9, [.sc c]), (11, [.sc (.int .i64 k)])] g = some (.normal, [(9, [.sc y'])], g') ∧ Row g' y' 1 l'.length (Go.Abs.bytes l') ∧ l'.length ≤ 2000 := by
  have pk := spec29 g (n := how) (m := 4) (by omega) (by omega) h1 h2
  have p0 := Int.emod_nonneg how (b := 4) (by omega)
  have p1 := Int.emod_lt_of_pos how (b := 4) (by omega)
  generalize how % 4 = w at *
  have sl := sealB_length L
  obtain ⟨b, hbd⟩ : ∃ b, b = UInt8.ofNat (to % 256).toNat := ⟨_, rfl⟩
  have hw := byte_of to
  rw [← hbd] at hw
  have ne : sealB L ≠ [] := fun h => by rw [h] at sl; simp at sl
  rcases (by omega : w = 0 ∨ w = 1 ∨ w = 2 ∨ w = 3) with rfl | rfl | rfl | rfl
  · have ix := ixsA_row hc hk
    rw [hcz, elem_cut hz ne, ← hcz] at ix
    have st1 := storeA_elem hz (j := k) (by omega) (by omega) (.int .u8 (b.toNat : Int))
    have st2 := storeH_own hz (i := k * 1) (by omega) (.int .u8 (b.toNat : Int))
    rw [Nat.mul_one, ← bytes_set] at st2
    rw [Nat.mul_one] at st1
    have st3 : Row (storeH g z k (.int .u8 (b.toNat : Int))) z 1 ((sealB L).set k b).length (Go.Abs.bytes ((sealB L).set k b)) := by rw [List.length_set]; exact st2.row
    have hc2 := cut_any st3 (l := 0) (r := L.length) (by omega) (by simp; omega)
    rw [← hcz] at hc2
    refine ⟨storeH g z k (.int .u8 b.toNat), c, _, runM fun R RO RD RT E => ?_, hc2, by simp; omega⟩
    clear st2 st3 hc2
    generalize storeH g z k (.int .u8 (b.toNat : Int)) = g2 at *
    simp [M.a14, sqd, sqh, E.eqs, pk, hw, ix, st1]
  · have r1 := hc.mod (Mod.app (fun _ => False) g [⟨.row 5 1, []⟩]) fun _ _ h => h
    have s0 := slc_any hc (l := 0) (r := k) (by omega) (by omega)
    have s1 := slc_any r1 (l := 0) (r := k) (by omega) (by omega)
    have ck := cut_any hc (l := 0) (r := k) (by omega) (by omega)
    have a1 := copy_app ck (by simp; omega)
    have f1 := copy_fresh g ((L.drop 0).take (k - 0))
    generalize SV.sl g.length 0 ((L.drop 0).take (k - 0)).length ((L.drop 0).take (k - 0)).length = y1 at *
    generalize hg2 : (g ++ [⟨.row 5 1, Go.Abs.bytes ((L.drop 0).take (k - 0))⟩] : Heap) = g2 at *
    have r2 := f1.keep hc
    have t0 := slc_any hc (l := k) (r := L.length) (by omega) (by omega)
    have t1 := slc_any r1 (l := k) (r := L.length) (by omega) (by omega)
    have t2 := slc_any r2 (l := k) (r := L.length) (by omega) (by omega)
    obtain ⟨a2, so2⟩ := own_app1 f1.own b (by simp [lim]; omega)
    have f2 := f1.app so2
    generalize appV g2 y1 1 1 = y2 at *
    generalize appH g2 y1 5 1 1 [.int .u8 b.toNat] = g3 at *
    have r3 := f2.keep hc
    have t3 := slc_any r3 (l := k) (r := L.length) (by omega) (by omega)
    obtain ⟨a3, so3⟩ := own_app f2.own (srcOf_row (cut_any r3 (l := k) (r := L.length) (by omega) (by omega))) (by simp [lim]; omega)
    have f3 := f2.app so3
    generalize appV g3 y2 1 ((L.drop k).take (L.length - k)).length = y3 at *
    generalize appH g3 y2 5 1 ((L.drop k).take (L.length - k)).length (Go.Abs.bytes ((L.drop k).take (L.length - k))) = g4 at *
    refine ⟨g4, y3, _, runM fun R RO RD RT E => ?_, f3.row, by simp; omega⟩
    clear f1 f2 f3 so2 so3 r1 r2 r3 hz ck hc hg2
    simp [M.a14, sqd, sqh, E.eqs, pk, hw, s0, s1, a1, a2, t0, t1, t2, t3, a3]
  · have r1 := hc.mod (Mod.app (fun _ => False) g [⟨.row 5 1, []⟩]) fun _ _ h => h
    have s0 := slc_any hc (l := 0) (r := k) (by omega) (by omega)
    have s1 := slc_any r1 (l := 0) (r := k) (by omega) (by omega)
    have ck := cut_any hc (l := 0) (r := k) (by omega) (by omega)
    have a1 := copy_app ck (by simp; omega)
    have f1 := copy_fresh g ((L.drop 0).take (k - 0))
    generalize SV.sl g.length 0 ((L.drop 0).take (k - 0)).length ((L.drop 0).take (k - 0)).length = y1 at *
    generalize hg2 : (g ++ [⟨.row 5 1, Go.Abs.bytes ((L.drop 0).take (k - 0))⟩] : Heap) = g2 at *
    have r2 := f1.keep hc
    obtain ⟨k1, hk1⟩ : ∃ k1, k1 = k + 1 := ⟨_, rfl⟩
    have wk : IntKind.i64.wrap ((k : Int) + 1) = (k1 : Int) := by rw [wi64 (by omega) (by omega)]; omega
    have t0 := slc_any hc (l := k1) (r := L.length) (by omega) (by omega)
    have t1 := slc_any r1 (l := k1) (r := L.length) (by omega) (by omega)
    have t2 := slc_any r2 (l := k1) (r := L.length) (by omega) (by omega)
    obtain ⟨a3, so3⟩ := own_app f1.own (srcOf_row (cut_any r2 (l := k1) (r := L.length) (by omega) (by omega))) (by simp [lim]; omega)
    have f3 := f1.app so3
    generalize appV g2 y1 1 ((L.drop k1).take (L.length - k1)).length = y3 at *
    generalize appH g2 y1 5 1 ((L.drop k1).take (L.length - k1)).length (Go.Abs.bytes ((L.drop k1).take (L.length - k1))) = g4 at *
    refine ⟨g4, y3, _, runM fun R RO RD RT E => ?_, f3.row, by simp; omega⟩
    clear f1 f3 so3 r1 r2 hz ck hc hg2
    simp [M.a14, sqd, sqh, E.eqs, pk, hw, wk, s0, s1, a1, t0, t1, t2, a3]
  · have s0 := slc_any hc (l := 0) (r := k) (by omega) (by omega)
    refine ⟨g, _, _, runM fun R RO RD RT E => ?_, cut_any hc (l := 0) (r := k) (by omega) (by omega), by simp; omega⟩
    simp [M.a14, sqd, sqh, E.eqs, pk, s0]
end

set_option maxHeartbeats 2000000 in
theorem core {H : Type} (h : Heap) (tvs : List TV) (ds : List (DataW H)) (hr : AllRo h) (hi : Ins Try.prog h 6 [30, 3, 3, 3] tvs ds) (hz : (DataW.weightsEach Try.prog [30, 3, 3, 3] ds).all (· ≤ reachBytes) = true) : ∃ h', callE F O 14 tvs h = some ([.sc (.bool true)], h') := by
  obtain ⟨tv, d, tvs, ds, rfl, rfl, h1, hi⟩ := ins_cons hi
  obtain ⟨tv2, d2, tvs, ds, rfl, rfl, h2, hi⟩ := ins_cons hi
  obtain ⟨tv3, d3, tvs, ds, rfl, rfl, h3, hi⟩ := ins_cons hi
  obtain ⟨tv4, d4, rfl, rfl, h4⟩ := ins_one hi
  obtain ⟨m, xe, xd, rfl, hE, hD, b1, b2, b3, hN⟩ := in_msgZ h1 (wok_of hz 0 rfl rfl)
  obtain ⟨how, rfl, w1, w2⟩ := in_int h2
  obtain ⟨at_, rfl, a1, a2⟩ := in_int h3
  obtain ⟨to, rfl, t1, t2⟩ := in_int h4
  have am : MsAt h m xe xd := ⟨hE, hD, hN.index, by omega, by omega⟩
  obtain ⟨h0, hh0⟩ : ∃ h0 : Heap, h0 = h ++ [⟨.var, m.cells xe xd⟩] := ⟨_, rfl⟩
  have m0 : Mod (fun _ => False) h h0 := by rw [hh0]; exact Mod.app _ _ _
  have bA0 : h0[h.length]? = some ⟨.var, m.cells xe xd⟩ := by rw [hh0]; simp
  have ec0 := cellsL m xe xd
  have l0 := load15 bA0
  obtain ⟨g, z, q, f⟩ := spec28 (am.mod m0) hN
  unfold errM at q
  unfold encM at f
  cases hR : rightM m
  · rw [hR] at q
    simp only [Bool.false_eq_true, if_false] at q
    have kn := spec23 g
    refine ⟨_, callX (hh := trim h g [.sc (.bool true)]) rfl (by rfl : F 14 = some M.a14) (fun R RO RD RT E => ?_)⟩
    clear bA0 am hE hD m0 f
    generalize m.cells xe xd = C0 at *
    simp [M.a14, E.eqs, ec0, ← hh0, q, l0, kn]
  rw [hR] at q f
  simp only [if_true] at q f
  obtain ⟨hle, h3⟩ := bodyM_le hR hN am.es.trm
  obtain ⟨L, hL⟩ : ∃ L, L = bodyM m := ⟨_, rfl⟩
  rw [← hL] at f hle h3
  have sll := sealB_length L
  have ll := lenA_row f.row
  have tk : (sealB L).take L.length = L := by unfold sealB; simp
  obtain ⟨c, hcz⟩ : ∃ c, c = cutS z 1 0 L.length := ⟨_, rfl⟩
  have hc : Row g c 1 L.length (Go.Abs.bytes L) := by
    have := cut_front f.row (n := L.length) (by omega)
    rw [tk, ← hcz] at this
    exact this
  have sc := fun (lo hi : Nat → Option Nat) (a : lo 0 = some 0) (b : hi (sealB L).length = some L.length) => slc_front f.row (n := L.length) (by omega) a b
  rw [← hcz] at sc
  have lc := lenA_row hc
  have pk := spec29 g (n := at_) (m := (L.length : Int)) (by omega) (by omega) a1 a2
  have p0 := Int.emod_nonneg at_ (b := (L.length : Int)) (by omega)
  have p1 := Int.emod_lt_of_pos at_ (b := (L.length : Int)) (by omega)
  generalize at_ % (L.length : Int) = w at *
  obtain ⟨k, rfl⟩ : ∃ k : Nat, w = (k : Int) := ⟨w.toNat, by omega⟩
  obtain ⟨g', y', l', run, hy', hl'⟩ := spoil f.own hcz hc hle (k := k) (by omega) how to w1 w2
  obtain ⟨g'', qd⟩ := lawRpcDecodes.spec hy' (by omega) true
  have w4 : IntKind.i64.wrap (((sealB L).length : Int) - 4) = (L.length : Int) := by rw [wi64 (by omega) (by omega)]; omega
  refine ⟨_, callX (hh := trim h g'' [.sc (.bool true)]) rfl (by rfl : F 14 = some M.a14) (fun R RO RD RT E => ?_)⟩
  have run := E.run run
  have top : ∀ r, R (sqd 6 M.a14.body) [(9, [.sc y'])] g' = r → R M.a14.body (envFrom 0 [[.agg (m.cells xe xd)], [.sc (.int .i64 how)], [.sc (.int .i64 at_)], [.sc (.int .i64 to)]]) h = r := fun r hr => by
    clear bA0 am hE hD m0 f hc hcz hL hy'
    generalize m.cells xe xd = C0 at *
    generalize hln : (sealB L).length = ln at *
    refine seqM E (e1 := [(1, [.sc (.int .i64 how)]), (2, [.sc (.int .i64 at_)]), (3, [.sc (.int .i64 to)]), (4, [.sc (.ptr h.length 0 15)])]) (h1 := h0) ?_ (seqM E (e1 := [(1, [.sc (.int .i64 how)]), (2, [.sc (.int .i64 at_)]), (3, [.sc (.int .i64 to)]), (9, [.sc z]), (10, [.sc (.int .i64 0)])]) (h1 := g) ?_ (seqM E (e1 := [(1, [.sc (.int .i64 how)]), (2, [.sc (.int .i64 at_)]), (3, [.sc (.int .i64 to)]), (9, [.sc z]), (18, [.sc (.bool false)])]) (h1 := g) ?_ (seqM E (e1 := [(1, [.sc (.int .i64 how)]), (2, [.sc (.int .i64 at_)]), (3, [.sc (.int .i64 to)]), (9, [.sc c])]) (h1 := g) ?_ (seqM E (e1 := [(1, [.sc (.int .i64 how)]), (3, [.sc (.int .i64 to)]), (9, [.sc c]), (11, [.sc (.int .i64 k)])]) (h1 := g) ?_ (seqM E run hr)))))
    · simp [E.eqs, ← hh0, ec0]
    · simp [E.eqs, l0, q]
    · simp [E.eqs]
    · simp [E.eqs, ll, w4, sc]
    · simp [E.eqs, lc, pk]
  rw [top _ rfl]
  simp [M.a14, sqd, E.eqs, qd]
end Go.Proofs.Ytoghoddofokekaa.lawRpcSpoilt
