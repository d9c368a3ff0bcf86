/- PackCut: the law's call says true, of any lays and any place. -/
import Derived.Test.YtokdnndocipilaaWPackBack
set_option linter.unusedVariables false
set_option linter.unusedSimpArgs false
set_option maxRecDepth 100000
namespace Go.Proofs.Ytokdnndocipilaa.lawPackCut
open Go.Abs

/-- a reader of cut off bytes, behind so many lays: all right so far, or too few -/
structure CI (h0 h : Heap) (y1 : SV) (i : Nat) (l : List Lay) (c k a bad : Nat) : Prop where
  rd : Rd h i y1 ((laidB l).take c) a bad
  mod : Mod (fun j => j = i) h0 h
  st : bad = 10 ∨ bad = 0 ∧ a = (laidB (l.take k)).length

theorem rText_bad (l : List UInt8) (a bad : Nat) (most : Int) (h : bad ≠ 0) : rText l a bad most = ([], a, bad) := by unfold rText rNum; simp [h]
theorem rNum_bad (l : List UInt8) (a bad most : Nat) (h : bad ≠ 0) : rNum l a bad most = (0, a, bad) := by unfold rNum; simp [h]
theorem rByte_bad (l : List UInt8) (a bad most : Nat) (h : bad ≠ 0) : rByte l a bad most = (0, a, bad) := by unfold rByte; simp [h]

theorem cut_drop (L : List UInt8) (c a : Nat) : (L.take c).drop a = (L.drop a).take (c - a) := by rw [List.drop_take]

theorem take_app {L T : List UInt8} {n : Nat} (h : L.length ≤ n) : (L ++ T).take n = L ++ T.take (n - L.length) := by rw [List.take_append, List.take_of_length_le h]

/-- what reading one thing leaves -/
def after (l : List UInt8) (a bad : Nat) (z : Lay) : Nat × Nat :=
  if z.what % 4 = 0 then (rByte l a bad 255).2 else if z.what % 4 = 1 then (rNum l a bad 18446744073709551615).2 else if z.what % 4 = 3 then (rNum l a bad 18446744073709551615).2 else (rText l a bad (z.t.length : Int)).2

theorem after_cut {h0 : Heap} {l : List Lay} {c k a bad : Nat} {z : Lay} (hz : l[k]? = some z) (hok : z.ok h0) (ht : z.t.length ≤ 2 ^ 38) (ha : a ≤ ((laidB l).take c).length) (st : bad = 10 ∨ bad = 0 ∧ a = (laidB (l.take k)).length) :
    (after ((laidB l).take c) a bad z).2 = 10 ∨ (after ((laidB l).take c) a bad z).2 = 0 ∧ (after ((laidB l).take c) a bad z).1 = (laidB (l.take (k + 1))).length := by
  obtain ⟨_, zn, ⟨zi1, zi2⟩, _⟩ := hok
  rcases st with rfl | ⟨rfl, rfl⟩
  · left
    unfold after
    split
    · rw [rByte_bad _ _ _ _ (by omega)]
    · split
      · rw [rNum_bad _ _ _ _ (by omega)]
      · split
        · rw [rNum_bad _ _ _ _ (by omega)]
        · rw [rText_bad _ _ _ _ (by omega)]
  · obtain ⟨q1, q2, q3⟩ := lawPackBack.laid_split l hz
    have hc : (laidB (l.take k)).length ≤ c := by have := ha; simp at this; omega
    have hd : ((laidB l).take c).drop (laidB (l.take k)).length = (layB z ++ laidB (l.drop (k + 1))).take (c - (laidB (l.take k)).length) := by rw [cut_drop, q1]
    rw [q2]
    generalize laidB (l.take k) = P at *
    generalize laidB (l.drop (k + 1)) = T at *
    generalize (laidB l).take c = L at *
    by_cases hfit : (layB z).length ≤ c - P.length
    · right
      have hd2 : L.drop P.length = layB z ++ T.take (c - P.length - (layB z).length) := by rw [hd, take_app hfit]
      unfold after
      unfold layB at hd2 ⊢
      have hbl := z.b.toNat_lt
      split
      · rename_i hw
        rw [if_pos hw] at hd2
        rw [rByte_laid hd2 (by omega)]
        simp
      · rename_i hw
        rw [if_neg hw] at hd2
        split
        · rename_i hw
          rw [if_pos hw] at hd2
          rw [rNum_laid hd2 zn (by omega)]
          simp
        · rename_i hw
          rw [if_neg hw] at hd2
          split
          · rename_i hw
            have hzl := zz_lt zi1 zi2
            rw [if_pos hw] at hd2
            rw [rNum_laid hd2 (by omega) (by omega)]
            simp
          · rename_i hw
            rw [if_neg hw] at hd2
            rw [rText_laid ha hd2 (by omega) (by omega)]
            simp
    · left
      have hd2 : L.drop P.length = (layB z).take (c - P.length) := by rw [hd, List.take_append_of_le_length (by omega)]
      have hlt : c - P.length < (layB z).length := by omega
      generalize c - P.length = r at *
      unfold after
      unfold layB at hd2 hlt
      split
      · rename_i hw
        rw [if_pos hw] at hd2 hlt
        have : r = 0 := by simpa using hlt
        subst this
        rw [rByte_short hd2]
      · rename_i hw
        rw [if_neg hw] at hd2 hlt
        split
        · rename_i hw
          rw [if_pos hw] at hd2 hlt
          rw [rNum_short hd2 zn hlt]
        · rename_i hw
          rw [if_neg hw] at hd2 hlt
          split
          · rename_i hw
            have hzl := zz_lt zi1 zi2
            rw [if_pos hw] at hd2 hlt
            rw [rNum_short hd2 (by omega) hlt]
          · rename_i hw
            rw [if_neg hw] at hd2 hlt
            by_cases hr : r < (numB z.t.length).length
            · rw [List.take_append_of_le_length (by omega)] at hd2
              unfold rText
              rw [rNum_short hd2 (by omega) hr]
              rfl
            · have hd3 : L.drop P.length = numB z.t.length ++ z.t.take (r - (numB z.t.length).length) := by rw [hd2, take_app (by omega)]
              unfold rText
              rw [rNum_laid hd3 (by omega) (by omega)]
              have hl := congrArg List.length hd3
              simp only [List.length_drop, List.length_append, List.length_take] at hl
              simp only [List.length_append] at hlt
              simp only [ne_eq, not_true_eq_false, if_false]
              rw [if_pos (by omega)]

theorem cut_loop {h0 : Heap} {xa y1 : SV} {l : List Lay} {i c : Nat} (ra : Row h0 xa 5 l.length (layC l)) (hl : ∀ z ∈ l, z.ok h0 ∧ z.t.length ≤ 2 ^ 38) (hn : l.length ≤ 2 ^ 30) (hi : ∀ j, blk xa j → j ≠ i) (hzi : ∀ z ∈ l, ∀ j, blk z.x j → j ≠ i) : ∀ (m k : Nat) (h : Heap) (a bad : Nat) (e : Env), k + m = l.length → CI h0 h y1 i l c k a bad →
    e.get 0 = [.sc xa] → e.get 6 = [.sc (.ptr i 0 3)] → e.get 7 = [.sc (.int .i64 k)] →
    ∃ h' a' bad', loopE F O (.loop [0, 6, 7] M.b9_0) e h = some (.exit 0, [(0, [.sc xa]), (6, [.sc (.ptr i 0 3)]), (7, [.sc (.int .i64 l.length)]), (27, [.sc (.bool false)])], h') ∧ CI h0 h' y1 i l c l.length a' bad'
  | 0, k, h, a, bad, e, hk, s, e0, e6, e7 => by
    have : k = l.length := by omega
    subst this
    have ln := lenA_row (ra.mod s.mod hi)
    exact ⟨h, a, bad, exitM fun R RO RD RT E => by simp [M.b9_0, E.eqs, e0, e6, e7, ln], s⟩
  | m + 1, k, h, a, bad, e, hk, s, e0, e6, e7 => by
    obtain ⟨z, hz⟩ : ∃ z, l[k]? = some z := ⟨_, List.getElem?_eq_getElem (by omega)⟩
    have hzm := List.mem_of_getElem? hz
    have hzo := hl z hzm
    obtain ⟨⟨⟨zw1, zw2⟩, zn, ⟨zi1, zi2⟩, zr⟩, zt⟩ := hl z hzm
    have ra1 := ra.mod s.mod hi
    have ln := lenA_row ra1
    obtain ⟨g1, g2, g3, g4, g5, g6, g7⟩ := lay_at ra1 hz
    have c1 : (k : Int) < l.length := by omega
    have w1 : IntKind.i64.wrap ((k : Int) + 1) = (k : Int) + 1 := wi64 (by omega) (by omega)
    have pk := spec14 h (n := z.what) (m := 4) (by omega) (by omega) zw1 zw2
    have p0 := Int.emod_nonneg z.what (b := 4) (by omega)
    have p5 := Int.emod_lt_of_pos z.what (b := 4) (by omega)
    have st1 := after_cut (c := c) hz hzo.1 zt s.rd.le s.st
    have key : ∃ h1, (∀ R RO RD RT, Mach F O R RO RD RT → R M.b9_0 (keep [0, 6, 7] e) h = some (.normal, [(0, [.sc xa]), (6, [.sc (.ptr i 0 3)]), (7, [.sc (.int .i64 ((k + 1 : Nat) : Int))])], h1)) ∧ Rd h1 i y1 ((laidB l).take c) (after ((laidB l).take c) a bad z).1 (after ((laidB l).take c) a bad z).2 ∧ Mod (fun j => j = i) h h1 := by
      have rd := s.rd
      clear st1
      unfold after
      generalize (laidB l).take c = L at *
      generalize z.what % 4 = w at *
      have hw : w = 0 ∨ w = 1 ∨ w = 3 ∨ w = 2 := by omega
      rcases hw with rfl | rfl | rfl | rfl
      · have s1 := spec32 rd (most := 255) (by omega)
        obtain ⟨b1, b2, b3⟩ := rByte_lt L a bad 255
        simp at s1 ⊢
        exact ⟨_, fun R RO RD RT E => by simp [M.b9_0, E.eqs, e0, e6, e7, ln, c1, w1, g1, g2, g3, pk, s1], rd.set (b1 rd.le) (b2 rd.small), setR_mod _ _ _ _ _⟩
      · have s1 := spec33 rd (most := 18446744073709551615) (by omega)
        obtain ⟨b0, b1, b2, b3⟩ := rNum_lt L a bad 18446744073709551615
        simp at s1 ⊢
        exact ⟨_, fun R RO RD RT E => by simp [M.b9_0, E.eqs, e0, e6, e7, ln, c1, w1, g1, g2, g3, pk, s1], rd.set (b1 rd.le) (b2 rd.small), setR_mod _ _ _ _ _⟩
      · have s1 := spec34 rd
        obtain ⟨b0, b1, b2, b3⟩ := rNum_lt L a bad 18446744073709551615
        simp only [Int.reduceEq, if_false, if_true]
        exact ⟨_, fun R RO RD RT E => by simp [M.b9_0, E.eqs, e0, e6, e7, ln, c1, w1, g1, g2, g3, pk, s1], rd.set (b1 rd.le) (b2 rd.small), setR_mod _ _ _ _ _⟩
      · have lt := lenA_row (zr.mod s.mod (hzi z hzm))
        obtain ⟨h1, y, s1, t1⟩ := spec35 rd (most := (z.t.length : Int)) (by omega) (by omega)
        simp only [Int.reduceEq, if_false]
        exact ⟨h1, fun R RO RD RT E => by simp [M.b9_0, E.eqs, e0, e6, e7, ln, c1, w1, g1, g2, g3, g7, pk, lt, s1], t1.rd, t1.mod⟩
    obtain ⟨h1, st, r1, m1⟩ := key
    obtain ⟨h2, a2, b2, lo, s2⟩ := cut_loop ra hl hn hi hzi m (k + 1) h1 _ _ [(0, [.sc xa]), (6, [.sc (.ptr i 0 3)]), (7, [.sc (.int .i64 ((k + 1 : Nat) : Int))])] (by omega) ⟨r1, s.mod.trans m1 fun _ _ h => h, st1⟩ rfl rfl rfl
    exact ⟨h2, a2, b2, stepM st lo, s2⟩

theorem core {H : Type} (h : Heap) (tvs : List TV) (ds : List (DataW H)) (hr : AllRo h) (hi : Ins Try.prog h 6 [22, 3] tvs ds) (hb : Rows.uptoBulkAll ds ≤ 1048576) : ∃ h', callE F O 9 tvs h = some ([.sc (.bool true)], h') := by
  obtain ⟨tv, d, tvs, ds, rfl, rfl, h1, hi⟩ := ins_cons hi
  obtain ⟨tv2, d2, rfl, rfl, h2⟩ := ins_one hi
  obtain ⟨x, l, rfl, hx, hl, hls⟩ := in_lays h1
  obtain ⟨a, rfl, ha1, ha2⟩ := in_int h2
  simp only [Rows.uptoBulkAll] at hb
  have hlz : ∀ z ∈ l, z.ok h ∧ z.t.length ≤ 2 ^ 38 := fun z hz => ⟨hl z hz, by
    have := size_mem hz
    omega⟩
  obtain ⟨g1, z1, e1, f1⟩ := spec30 hx hlz (by omega) (by omega)
  have hln := laidB_le l hlz
  have kn := fun h => spec13 h
  have ln1 := lenA_row f1.row
  by_cases hz : (laidB l).length = 0
  · rw [hz] at ln1
    refine ⟨_, callX (hh := trim h g1 [.sc (.bool true)]) rfl (by rfl : F 9 = some M.a9) (fun R RO RD RT E => ?_)⟩
    simp at ln1
    simp [M.a9, E.eqs, e1, kn, ln1]
  · have p1 := spec14 g1 (n := a) (m := ((laidB l).length : Int)) (by omega) (by omega) ha1 ha2
    have hk1 := Int.emod_nonneg a (b := ((laidB l).length : Int)) (by omega)
    have hk2 := Int.emod_lt_of_pos a (b := ((laidB l).length : Int)) (by omega)
    generalize a % ((laidB l).length : Int) = ki at *
    obtain ⟨c, rfl⟩ := Int.eq_ofNat_of_zero_le hk1
    have hc : c < (laidB l).length := by omega
    have sl : ∀ {lo hi : Nat → Option Nat}, lo 0 = some 0 → hi (laidB l).length = some c → slcA g1 1 [.sc z1] lo hi = some ([.sc (cutS z1 1 0 c)], g1) := fun p q => slc_front f1.row (by omega) p q
    have cr := cut_front f1.row (n := c) (by omega)
    obtain ⟨n1, n2⟩ := spec31 cr (by simp; omega)
    generalize hg2 : g1 ++ [(⟨.row 5 1, Go.Abs.bytes ((laidB l).take c)⟩ : Blk), ⟨.var, [.sl g1.length 0 ((laidB l).take c).length ((laidB l).take c).length, .int .i64 0, .int .i64 0]⟩] = g2 at *
    have m2 : Mod (fun _ => False) g1 g2 := by rw [← hg2]; exact Mod.app _ _ _
    have m : Mod (fun _ => False) h g2 := f1.mod.trans m2 fun _ _ h => h
    have hgl : h.length ≤ g1.length := f1.mod.1
    have fr := n2.fresh
    obtain ⟨g3, a3, b3, lo, s3⟩ := cut_loop (h0 := g2) (y1 := .sl g1.length 0 ((laidB l).take c).length ((laidB l).take c).length) (i := g1.length + 1) (c := c) (hx.mod m fun _ _ h => h) (fun z hz => by
      obtain ⟨⟨b1, b2, b3, b4⟩, b5⟩ := hlz z hz
      exact ⟨⟨b1, b2, b3, b4.mod m fun _ _ h => h⟩, b5⟩) (by omega) (fun j hj => by have := hx.lt j hj; omega) (fun z hz j hj => by have := (hl z hz).2.2.2.lt j hj; omega) l.length 0 g2 0 0 [(0, [.sc x]), (6, [.sc (.ptr (g1.length + 1) 0 3)]), (7, [.sc (.int .i64 0)])] (by omega)
      ⟨n2, Mod.refl _ _, .inr ⟨rfl, by simp [laidB]⟩⟩ rfl rfl rfl
    have lo := loop_run lo
    have hb3 : b3 = 10 := by
      rcases s3.st with h | ⟨_, h⟩
      · exact h
      · have := s3.rd.le
        rw [h, List.take_length] at this
        simp at this
        omega
    subst hb3
    have s1 := spec36 s3.rd
    have hE : rEnd ((laidB l).take c) a3 10 = 10 := by unfold rEnd; simp
    rw [hE] at s1
    have c2 : ¬ ((laidB l).length : Int) = 0 := by omega
    have c3 : ¬ (laidB l).length = 0 := hz
    refine ⟨_, callX (hh := trim h g3 [.sc (.bool true)]) rfl (by rfl : F 9 = some M.a9) (fun R RO RD RT E => ?_)⟩
    have lo := E.run lo
    simp at s1
    simp [M.a9, E.eqs, e1, kn, ln1, c2, c3, p1, sl, n1, fr, lo, s1]
end Go.Proofs.Ytokdnndocipilaa.lawPackCut
