/- RpcReads: the law's call says true, of any bytes and any entry. -/
import Derived.Test.YtoghoddofokekaaD3
import Derived.Test.YtoghoddofokekaaZ1
set_option linter.unusedVariables false
set_option linter.unusedSimpArgs false
set_option maxRecDepth 100000
namespace Go.Proofs.Ytoghoddofokekaa.lawRpcReads
open Go.Abs

theorem fill_row {h : Heap} {x : SV} {T : List UInt8} (hx : Own h x 5 1 T.length (Go.Abs.bytes T)) {k : Nat} (hk : k < T.length) (b : UInt8) :
    storeA h 1 [.sc (elemP x 1 k)] [.sc (.int .u8 b.toNat)] = some ([], storeH h x k (.int .u8 b.toNat)) ∧
    Own (storeH h x k (.int .u8 b.toNat)) x 5 1 (T.set k b).length (Go.Abs.bytes (T.set k b)) := by
  have h1 := storeA_elem hx hk (by omega) (.int .u8 (b.toNat : Int))
  have h2 := storeH_own hx (i := k) (by omega) (.int .u8 (b.toNat : Int))
  have h3 : Go.Abs.bytes (T.set k b) = (Go.Abs.bytes T).set k (.int .u8 (b.toNat : Int)) := by simp [Go.Abs.bytes, List.map_set]
  rw [Nat.mul_one] at h1
  rw [← h3] at h2
  exact ⟨h1, by rw [List.length_set]; exact h2⟩

set_option maxHeartbeats 2000000 in
theorem core {H : Type} (h : Heap) (tvs : List TV) (ds : List (DataW H)) (hr : AllRo h) (hi : Ins Try.prog h 6 [28, 57, 4, 3, 3] tvs ds) (hz : (DataW.weightsEach Try.prog [28, 57, 4, 3, 3] ds).all (· ≤ reachBytes) = true) : ∃ h', callE F O 11 tvs h = some ([.sc (.bool true)], h') := by
  obtain ⟨tv, d, tvs, ds, rfl, rfl, h1, hi⟩ := ins_cons hi
  obtain ⟨tv2, d2, tvs, ds, rfl, rfl, h2, hi⟩ := ins_cons hi
  obtain ⟨tv3, d3, tvs, ds, rfl, rfl, h3, hi⟩ := ins_cons hi
  obtain ⟨tv4, d4, tvs, ds, rfl, rfl, h4, hi⟩ := ins_cons hi
  obtain ⟨tv5, d5, rfl, rfl, h5⟩ := ins_one hi
  obtain ⟨yb, lb, rfl, hyb, hlb⟩ := in_bytesZ h1 (wok_of hz 0 rfl rfl)
  obtain ⟨kind, conf, term, index, x, T, rfl, hx, hbulk, ht, hix, k1, k2, c1, c2⟩ := in_entryZ h2 (wok_of hz 1 rfl rfl)
  obtain ⟨is, rfl⟩ := in_bool (by kernel_rfl) (by kernel_rfl) h3
  obtain ⟨at_, rfl, a1, a2⟩ := in_int h4
  obtain ⟨to, rfl, t1, t2⟩ := in_int h5
  obtain ⟨ha, hha⟩ : ∃ ha : Heap, ha = h ++ [⟨.var, eC kind term index x conf⟩] := ⟨_, rfl⟩
  have ma : Mod (fun _ => False) h ha := by rw [hha]; exact Mod.app _ _ _
  have ba : ha[h.length]? = some ⟨.var, eC kind term index x conf⟩ := by rw [hha]; simp
  have pre : ∃ e1 g y' l', runE F O (sqh (sqd 1 M.a11.body)) [(0, [.sc yb]), (2, [.sc (.bool is)]), (3, [.sc (.int .i64 at_)]), (4, [.sc (.int .i64 to)]), (6, [.sc (.ptr h.length 0 5)])] ha = some (.normal, e1, g) ∧ e1.get 0 = [.sc y'] ∧ Row g y' 1 l'.length (Go.Abs.bytes l') ∧ l'.length ≤ 140737488353280 := by
    cases is
    · refine ⟨[(0, [.sc yb]), (3, [.sc (.int .i64 at_)]), (4, [.sc (.int .i64 to)]), (6, [.sc (.ptr h.length 0 5)]), (18, [.sc (.bool false)])], ha, yb, lb, runM fun R RO RD RT E => ?_, rfl, hyb.mod ma fun _ _ h => h, by omega⟩
      simp [M.a11, sqd, sqh, E.eqs]
    · obtain ⟨g1, kind', conf', term', index', x', T', q1, m1, hx', hT', hnew, ht', hi', hR⟩ := spec38 (hx.mod ma fun _ _ h => h) (by omega) ht hix k1 k2 c1 c2 true
      have hR := hR rfl
      obtain ⟨g2, y1, q2, f2⟩ := spec41 (kind := kind') (conf := conf') hx' ht' hi'
      unfold entE entL at *
      rw [hR] at q2 f2
      simp only [if_true] at q2 f2
      have hlen : (entB kind' term' index' T' conf').length ≤ 2000000 := by
        have := entB_le hR ht' hi'
        omega
      have hpos : 0 < (entB kind' term' index' T' conf').length := by simp [entB]
      generalize entB kind' term' index' T' conf' = L at *
      have ln := lenA_row f2.row
      have pk := spec29 g2 (n := at_) (m := (L.length : Int)) (by omega) (by omega) a1 a2
      have p0 := Int.emod_nonneg at_ (b := (L.length : Int)) (by omega)
      have p1 := Int.emod_lt_of_pos at_ (b := (L.length : Int)) (by omega)
      generalize at_ % (L.length : Int) = w at *
      obtain ⟨k, rfl⟩ : ∃ k : Nat, w = (k : Int) := ⟨w.toNat, by omega⟩
      have hk : k < L.length := by omega
      obtain ⟨b, hbd⟩ : ∃ b, b = UInt8.ofNat (to % 256).toNat := ⟨_, rfl⟩
      have hw := byte_of to
      rw [← hbd] at hw
      have ix := ixsA_row f2.row hk
      obtain ⟨st, own⟩ := fill_row f2.own hk b
      refine ⟨[(0, [.sc y1])], storeH g2 y1 k (.int .u8 b.toNat), y1, L.set k b, runM fun R RO RD RT E => ?_, rfl, own.row, by simp; omega⟩
      generalize storeH g2 y1 k (.int .u8 b.toNat) = g3 at *
      have ct : (eC kind term index x conf).take 5 = eC kind term index x conf := rfl
      have cl : (eC kind term index x conf).length = 5 := rfl
      generalize eC kind term index x conf = cs at *
      generalize eC kind' term' index' x' conf' = cs' at *
      simp [M.a11, sqd, sqh, E.eqs, loadA, ba, ct, cl, q1, q2, ln, pk, hw, ix, st]
  obtain ⟨e1, g, y', l', run, e10, hy', hl'⟩ := pre
  have a1 := copy_app hy' (by omega)
  have f1 := copy_fresh g l'
  have hy1 := f1.keep hy'
  have hx1 := f1.row
  generalize SV.sl g.length 0 l'.length l'.length = xo at *
  generalize (g ++ [⟨.row 5 1, Go.Abs.bytes l'⟩] : Heap) = h1 at *
  obtain ⟨g1, z1, q1, m1⟩ := spec45 hx1 hl'
  obtain ⟨g2, hg2⟩ : ∃ g2 : Heap, g2 = g1 ++ [⟨.var, (rEnt l').1.c z1⟩] := ⟨_, rfl⟩
  have m2 : Mod (fun _ => False) g1 g2 := by rw [hg2]; exact Mod.app _ _ _
  have b2 : g2[g1.length]? = some ⟨.var, (rEnt l').1.c z1⟩ := by rw [hg2]; simp
  have hy2 := (m1.keep hy1).mod m2 fun _ _ h => h
  have hx2 := (m1.keep hx1).mod m2 fun _ _ h => h
  have hz2 := m1.row.mod m2 fun _ _ h => h
  obtain ⟨g3, z2, q3, m3⟩ := spec46 hy2 hl'
  obtain ⟨g4, hg4⟩ : ∃ g4 : Heap, g4 = g3 ++ [⟨.var, (rEnt l').1.c z2⟩] := ⟨_, rfl⟩
  have m4 : Mod (fun _ => False) g3 g4 := by rw [hg4]; exact Mod.app _ _ _
  have b4 : g4[g3.length]? = some ⟨.var, (rEnt l').1.c z2⟩ := by rw [hg4]; simp
  have b4' : g4[g1.length]? = some ⟨.var, (rEnt l').1.c z1⟩ := m4.get (m3.mod.get b2 fun h => h) fun h => h
  have s1 := b2sA_row ((m3.keep hy2).mod m4 fun _ _ h => h)
  have s2 := b2sA_row ((m3.keep hx2).mod m4 fun _ _ h => h)
  have same := spec44 (kind := (rEnt l').1.kind) (term := (rEnt l').1.term) (index := (rEnt l').1.index) (conf := (rEnt l').1.conf) ((m3.keep hz2).mod m4 fun _ _ h => h) (m3.row.mod m4 fun _ _ h => h)
  have kn := spec23 g4
  have l1 : ((rEnt l').1.c z1).length = 5 := rfl
  have l2 : ((rEnt l').1.c z2).length = 5 := rfl
  have t1 : ((rEnt l').1.c z1).take 5 = (rEnt l').1.c z1 := rfl
  have t2 : ((rEnt l').1.c z2).take 5 = (rEnt l').1.c z2 := rfl
  have u1 : setCells [.int .i64 0, .int .u64 0, .int .u64 0, .nils, .int .i64 0] 0 ((rEnt l').1.c z1) = (rEnt l').1.c z1 := rfl
  have u2 : setCells [.int .i64 0, .int .u64 0, .int .u64 0, .nils, .int .i64 0] 0 ((rEnt l').1.c z2) = (rEnt l').1.c z2 := rfl
  have same : call 44 [[.agg ((rEnt l').1.c z1)], [.agg ((rEnt l').1.c z2)]] g4 = some ([.sc (.bool true)], g4) := same
  generalize (rEnt l').1.c z1 = cs1 at *
  generalize (rEnt l').1.c z2 = cs2 at *
  generalize (rEnt l').2 = er at *
  refine ⟨_, callX (hh := trim h g4 [.sc (.bool true)]) rfl (by rfl : F 11 = some M.a11) (fun R RO RD RT E => ?_)⟩
  have run := E.run run
  have top : ∀ r, R (sqd 2 M.a11.body) e1 g = r → R M.a11.body (envFrom 0 [[.sc yb], [.agg (eC kind term index x conf)], [.sc (.bool is)], [.sc (.int .i64 at_)], [.sc (.int .i64 to)]]) h = r := fun r hr => by
    refine seqM E (e1 := [(0, [.sc yb]), (2, [.sc (.bool is)]), (3, [.sc (.int .i64 at_)]), (4, [.sc (.int .i64 to)]), (6, [.sc (.ptr h.length 0 5)])]) (h1 := ha) ?_ (seqM E run hr)
    unfold eC at *
    simp [E.eqs, ← hha]
  rw [top _ rfl]
  simp [M.a11, sqd, E.eqs, e10, a1, q1, ← hg2, freshB, loadA, storeA, l1, l2, t1, t2, u1, u2, b2, q3, ← hg4, b4, b4', kn, same, s1, s2]
end Go.Proofs.Ytoghoddofokekaa.lawRpcReads
