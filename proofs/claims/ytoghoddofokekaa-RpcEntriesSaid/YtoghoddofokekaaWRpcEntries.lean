/- RpcEntries: the law's call says true, of any entry. -/
import Derived.Test.YtoghoddofokekaaD4
import Derived.Test.YtoghoddofokekaaZ1
set_option linter.unusedVariables false
set_option linter.unusedSimpArgs false
set_option maxRecDepth 100000
namespace Go.Proofs.Ytoghoddofokekaa.lawRpcEntries
open Go.Abs

set_option maxHeartbeats 2000000 in
theorem core {H : Type} (h : Heap) (tvs : List TV) (ds : List (DataW H)) (hr : AllRo h) (hi : Ins Try.prog h 6 [57, 4] tvs ds) (hz : (DataW.weightsEach Try.prog [57, 4] ds).all (· ≤ reachBytes) = true) : ∃ h', callE F O 10 tvs h = some ([.sc (.bool true)], h') := by
  obtain ⟨tv, d, tvs, ds, rfl, rfl, h1, hi⟩ := ins_cons hi
  obtain ⟨tv2, d2, rfl, rfl, h2⟩ := ins_one hi
  obtain ⟨kind0, conf0, term0, index0, x0, T0, rfl, hx0, hbulk, ht0, hix0, k1, k2, c1, c2⟩ := in_entryZ h1 (wok_of hz 0 rfl rfl)
  obtain ⟨is, rfl⟩ := in_bool (by kernel_rfl) (by kernel_rfl) h2
  obtain ⟨ha, hha⟩ : ∃ ha : Heap, ha = h ++ [⟨.var, eC kind0 term0 index0 x0 conf0⟩] := ⟨_, rfl⟩
  have ma : Mod (fun _ => False) h ha := by rw [hha]; exact Mod.app _ _ _
  have ba : ha[h.length]? = some ⟨.var, eC kind0 term0 index0 x0 conf0⟩ := by rw [hha]; simp
  have la : ha.length = h.length + 1 := by rw [hha]; simp
  obtain ⟨g0, kind, conf, term, index, x, T, q1, m1, hx', hT', hnew, ht, hix, hR⟩ := spec38 (hx0.mod ma fun _ _ h => h) (by omega) ht0 hix0 k1 k2 c1 c2 is
  have b0 := m1.get ba fun h => h
  obtain ⟨g1, hg1⟩ : ∃ g1 : Heap, g1 = g0.set h.length ⟨.var, eC kind term index x conf⟩ := ⟨_, rfl⟩
  have b1 : g1[h.length]? = some ⟨.var, eC kind term index x conf⟩ := by rw [hg1]; exact get_set_same b0
  have hx1 : Row g1 x 1 T.length (Go.Abs.bytes T) := by
    rw [hg1]
    refine hx'.mod (Mod.set _ _ rfl : Mod (fun j => j = h.length) g0 _) fun j hj e => ?_
    rcases hnew j hj with h3 | h3
    · have := hx0.lt j h3; omega
    · omega
  obtain ⟨g2, hg2⟩ : ∃ g2 : Heap, g2 = g1 ++ [⟨.row 57 5, eC kind term index x conf⟩] := ⟨_, rfl⟩
  have m2 : Mod (fun _ => False) g1 g2 := by rw [hg2]; exact Mod.app _ _ _
  have bB : g2[g1.length]? = some ⟨.row 57 5, eC kind term index x conf⟩ := by rw [hg2]; simp
  have q2 := copy_one bB (hx1.mod m2 fun _ _ h => h) (by omega)
  obtain ⟨xx, hxx⟩ : ∃ xx : SV, xx = .sl (g2.length + 1) 0 T.length T.length := ⟨_, rfl⟩
  rw [← hxx] at q2
  obtain ⟨g3, hg3⟩ : ∃ g3 : Heap, g3 = g2 ++ [⟨.var, eC kind term index xx conf⟩, ⟨.row 5 1, Go.Abs.bytes T⟩, ⟨.row 57 5, eC kind term index xx conf⟩] := ⟨_, rfl⟩
  rw [← hg3] at q2
  have m3 : Mod (fun _ => False) g2 g3 := by rw [hg3]; exact Mod.app _ _ _
  have bZ : g3[g2.length + 2]? = some ⟨.row 57 5, eC kind term index xx conf⟩ := by rw [hg3, List.getElem?_append_right (by omega)]; simp
  have hxx3 : Row g3 xx 1 T.length (Go.Abs.bytes T) := Own.row (e := 5) (.inr ⟨g2.length + 1, by rw [hxx]; simp, by rw [hg3, List.getElem?_append_right (by omega)]; simp, by simp [bytes_length]⟩)
  obtain ⟨g4, hg4⟩ : ∃ g4 : Heap, g4 = g3 ++ [⟨.var, eC kind term index xx conf⟩] := ⟨_, rfl⟩
  have m4 : Mod (fun _ => False) g3 g4 := by rw [hg4]; exact Mod.app _ _ _
  have bO : g4[g3.length]? = some ⟨.var, eC kind term index xx conf⟩ := by rw [hg4]; simp
  have bE : g4[h.length]? = some ⟨.var, eC kind term index x conf⟩ := m4.get (m3.get (m2.get b1 fun h => h) fun h => h) fun h => h
  have hx4 := ((hx1.mod m2 fun _ _ h => h).mod m3 fun _ _ h => h).mod m4 fun _ _ h => h
  have hxx4 := hxx3.mod m4 fun _ _ h => h
  obtain ⟨g5, y1, q5, f5⟩ := spec40 (kind := kind) (conf := conf) hxx4 ht hix
  have bO5 := f5.mod.get bO fun h => h
  have bE5 := f5.mod.get bE fun h => h
  obtain ⟨g6, y2, q6, f6⟩ := spec41 (kind := kind) (conf := conf) (f5.keep hx4) ht hix
  have bO6 := f6.mod.get bO5 fun h => h
  have bE6 := f6.mod.get bE5 fun h => h
  have hx6 := f6.keep (f5.keep hx4)
  have hxx6 := f6.keep (f5.keep hxx4)
  have s1 := b2sA_row (f6.keep f5.row)
  have s2 := b2sA_row f6.row
  have kn := spec23 g6
  have r1 := spec42 (kind := kind) (term := term) (index := index) (conf := conf) hxx6
  have r2 := spec43 (kind := kind) (term := term) (index := index) (conf := conf) hx6
  have sm := spec44 (kind := kind) (term := term) (index := index) (conf := conf) hxx6 hx6
  have hle : (entL kind term index T conf).length ≤ 140737488353280 := by
    unfold entL
    cases hc : rightE kind term index T.length conf
    · simp
    · have := entB_le hc ht hix; simp; omega
  obtain ⟨g7, z, q7, f7⟩ := spec45 (f6.keep f5.row) hle
  obtain ⟨c, hc⟩ : ∃ c, c = (rEnt (entL kind term index T conf)).1.c z := ⟨_, rfl⟩
  obtain ⟨er, her⟩ : ∃ er, er = (rEnt (entL kind term index T conf)).2 := ⟨_, rfl⟩
  obtain ⟨g8, hg8⟩ : ∃ g8 : Heap, g8 = g7 ++ [⟨.var, c⟩] := ⟨_, rfl⟩
  have m8 : Mod (fun _ => False) g7 g8 := by rw [hg8]; exact Mod.app _ _ _
  have b8 : g8[g7.length]? = some ⟨.var, c⟩ := by rw [hg8]; simp
  have bE8 := m8.get (f7.mod.get bE6 fun h => h) fun h => h
  have hx8 := (f7.keep hx6).mod m8 fun _ _ h => h
  have fin : entE kind term index T conf = 1 ∨ (entE kind term index T conf = 0 ∧ er = 0 ∧ call 44 [[.agg c], [.agg (eC kind term index x conf)]] g8 = some ([.sc (.bool true)], g8)) := by
    unfold entE entL at *
    cases hR2 : rightE kind term index T.length conf
    · exact .inl rfl
    · right
      rw [hR2] at f7 hc her
      simp only [if_true] at f7 hc her
      rw [rEnt_laid hR2 ht hix] at f7 hc her
      refine ⟨rfl, her, ?_⟩
      rw [hc]
      exact spec44 (f7.row.mod m8 fun _ _ h => h) hx8
  rw [← hc, ← her] at q7
  have lc : c.length = 5 := by rw [hc]; rfl
  have tc : c.take 5 = c := by rw [hc]; rfl
  have uc : setCells [.int .i64 0, .int .u64 0, .int .u64 0, .nils, .int .i64 0] 0 c = c := by rw [hc]; rfl
  clear f5 f6 f7 hxx6 hxx4 hxx3 hx8 hx6 hx4 hc her hg3
  have l1 : ∀ (k : Int) (t i : Nat) (y : SV) (f : Int), (eC k t i y f).length = 5 := fun _ _ _ _ _ => rfl
  have t1 : ∀ (k : Int) (t i : Nat) (y : SV) (f : Int), (eC k t i y f).take 5 = eC k t i y f := fun _ _ _ _ _ => rfl
  have u0 : setCells (eC kind0 term0 index0 x0 conf0) 0 (eC kind term index x conf) = eC kind term index x conf := rfl
  have u1 : ∀ y : SV, setCells [.int .i64 0, .int .u64 0, .int .u64 0, .nils, .int .i64 0] 0 (eC kind term index y conf) = eC kind term index y conf := fun _ => rfl
  refine ⟨_, callX (hh := trim h g8 [.sc (.bool true)]) rfl (by rfl : F 10 = some M.a10) (fun R RO RD RT E => ?_)⟩
  have top : ∀ r, R (sqd 5 M.a10.body) [(2, [.sc (.ptr h.length 0 5)]), (5, [.sc (.ptr g3.length 0 5)]), (6, [.sc y1]), (7, [.sc (.int .i64 (entE kind term index T conf))]), (8, [.sc y2]), (9, [.sc (.int .i64 (entE kind term index T conf))])] g6 = r → R M.a10.body (envFrom 0 [[.agg (eC kind0 term0 index0 x0 conf0)], [.sc (.bool is)]]) h = r := fun r hr => by
    refine seqM E (e1 := [(1, [.sc (.bool is)]), (2, [.sc (.ptr h.length 0 5)])]) (h1 := ha) ?_ (seqM E (e1 := [(2, [.sc (.ptr h.length 0 5)])]) (h1 := g1) ?_ (seqM E (e1 := [(2, [.sc (.ptr h.length 0 5)]), (5, [.sc (.ptr g3.length 0 5)])]) (h1 := g4) ?_ (seqM E (e1 := [(2, [.sc (.ptr h.length 0 5)]), (5, [.sc (.ptr g3.length 0 5)]), (6, [.sc y1]), (7, [.sc (.int .i64 (entE kind term index T conf))])]) (h1 := g5) ?_ (seqM E ?_ hr))))
    · simp [E.eqs, ← hha, l1]
    · simp [E.eqs, loadA, storeA, ba, b0, l1, t1, u0, q1, ← hg1]
    · simp [E.eqs, loadA, storeA, ixsA, freshB, b1, l1, t1, u1, ← hg2, q2, bZ, ← hg4]
    · simp [E.eqs, loadA, bO, l1, t1, q5]
    · simp [E.eqs, loadA, bE5, l1, t1, q6]
  rw [top _ rfl]
  rcases fin with fin | ⟨fin1, rfl, fin2⟩
  · rw [fin]
    generalize rightE kind term index T.length conf = rr at *
    simp [M.a10, sqd, E.eqs, kn, s1, s2, freshB, loadA, storeA, bO6, bE6, l1, t1, r1, r2, sm, q7, lc, tc, uc, ← hg8]
  · rw [fin1]
    generalize rightE kind term index T.length conf = rr at *
    simp [M.a10, sqd, E.eqs, kn, s1, s2, freshB, loadA, storeA, bO6, bE6, l1, t1, r1, r2, sm, q7, lc, tc, uc, ← hg8, b8, bE8, fin2]
end Go.Proofs.Ytoghoddofokekaa.lawRpcEntries
