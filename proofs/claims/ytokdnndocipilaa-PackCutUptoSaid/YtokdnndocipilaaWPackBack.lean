/- PackBack: the law's call says true, of any lays. -/
import Derived.Test.YtokdnndocipilaaSI
set_option linter.unusedVariables false
set_option linter.unusedSimpArgs false
set_option maxRecDepth 100000
namespace Go.Proofs.Ytokdnndocipilaa.lawPackBack
open Go.Abs

theorem laid_split (l : List Lay) {k : Nat} {z : Lay} (hz : l[k]? = some z) : (laidB l).drop (laidB (l.take k)).length = layB z ++ laidB (l.drop (k + 1)) ∧ (laidB (l.take (k + 1))).length = (laidB (l.take k)).length + (layB z).length ∧ (laidB (l.take (k + 1))).length ≤ (laidB l).length := by
  have e1 : laidB l = laidB (l.take (k + 1)) ++ laidB (l.drop (k + 1)) := by
    unfold laidB
    rw [← List.flatten_append, ← List.map_append, List.take_append_drop]
  have e2 := laidB_take l hz
  refine ⟨?_, by rw [e2, List.length_append], by rw [e1, List.length_append]; omega⟩
  rw [e1, e2, List.append_assoc, List.drop_left]

/-- a reader behind so many lays -/
structure BI (h0 h : Heap) (y1 : SV) (i : Nat) (l : List Lay) (k : Nat) : Prop where
  rd : Rd h i y1 (laidB l) (laidB (l.take k)).length 0
  mod : Mod (fun j => j = i) h0 h
  old : ∀ j, blk y1 j → j < h0.length

theorem back_loop {h0 : Heap} {xa y1 : SV} {l : List Lay} {i : Nat} (ra : Row h0 xa 5 l.length (layC l)) (hl : ∀ z ∈ l, z.ok h0 ∧ z.t.length ≤ 2 ^ 38) (hn : l.length ≤ 2 ^ 30) (hi : ∀ j, blk xa j → j ≠ i) (hzi : ∀ z ∈ l, ∀ j, blk z.x j → j ≠ i) : ∀ (m k : Nat) (h : Heap) (e : Env), k + m = l.length → BI h0 h y1 i l k →
    e.get 0 = [.sc xa] → e.get 3 = [.sc (.ptr i 0 3)] → e.get 4 = [.sc (.int .i64 k)] →
    ∃ h', loopE F O (.loop [0, 3, 4] M.b8_0) e h = some (.exit 0, [(0, [.sc xa]), (3, [.sc (.ptr i 0 3)]), (4, [.sc (.int .i64 l.length)]), (17, [.sc (.bool false)])], h') ∧ BI h0 h' y1 i l l.length
  | 0, k, h, e, hk, s, e0, e3, e4 => by
    have : k = l.length := by omega
    subst this
    have ln := lenA_row (ra.mod s.mod hi)
    exact ⟨h, exitM fun R RO RD RT E => by simp [M.b8_0, E.eqs, e0, e3, e4, ln], s⟩
  | m + 1, k, h, e, hk, s, e0, e3, e4 => by
    obtain ⟨z, hz⟩ : ∃ z, l[k]? = some z := ⟨_, List.getElem?_eq_getElem (by omega)⟩
    have hzm := List.mem_of_getElem? hz
    obtain ⟨⟨⟨zw1, zw2⟩, zn, ⟨zi1, zi2⟩, zr⟩, zt⟩ := hl z hzm
    have ra1 := ra.mod s.mod hi
    have ln := lenA_row ra1
    obtain ⟨g1, g2, g3, g4, g5, g6, g7⟩ := lay_at ra1 hz
    have c1 : (k : Int) < l.length := by omega
    have w1 : IntKind.i64.wrap ((k : Int) + 1) = (k : Int) + 1 := wi64 (by omega) (by omega)
    have pk := spec14 h (n := z.what) (m := 4) (by omega) (by omega) zw1 zw2
    have p0 := Int.emod_nonneg z.what (b := 4) (by omega)
    have p5 := Int.emod_lt_of_pos z.what (b := 4) (by omega)
    obtain ⟨q1, q2, q3⟩ := laid_split l hz
    have hbl := z.b.toNat_lt
    have key : ∃ h1, (∀ R RO RD RT, Mach F O R RO RD RT → R M.b8_0 (keep [0, 3, 4] e) h = some (.normal, [(0, [.sc xa]), (3, [.sc (.ptr i 0 3)]), (4, [.sc (.int .i64 ((k + 1 : Nat) : Int))])], h1)) ∧ Rd h1 i y1 (laidB l) (laidB (l.take (k + 1))).length 0 ∧ Mod (fun j => j = i) h h1 := by
      have rd := s.rd
      have hle := rd.le
      rw [q2] at q3 ⊢
      generalize (laidB (l.take k)).length = a at *
      unfold layB at q1 q2 q3 ⊢
      generalize z.what % 4 = w at *
      have hw : w = 0 ∨ w = 1 ∨ w = 3 ∨ w = 2 := by omega
      rcases hw with rfl | rfl | rfl | rfl
      · simp at q1 q3 ⊢
        have s1 := spec32 rd (most := z.b.toNat) (by omega)
        rw [rByte_laid q1 (Nat.le_refl _)] at s1
        have r1 := rd.set (a' := a + 1) (bad' := 0) q3 (by omega)
        obtain ⟨g1', g2', g3', g4', _⟩ := lay_at (ra1.mod (setR_mod h i y1 (a + 1) 0) hi) hz
        exact ⟨_, fun R RO RD RT E => by simp [M.b8_0, E.eqs, e0, e3, e4, ln, c1, w1, g1, g2, g3, g4, pk, s1, g1', g2', g4'], r1, setR_mod _ _ _ _ _⟩
      · simp at q1 q3 ⊢
        have s1 := spec33 rd (most := z.n) zn
        rw [rNum_laid q1 zn (Nat.le_refl _)] at s1
        have r1 := rd.set (a' := a + (numB z.n).length) (bad' := 0) q3 (by omega)
        obtain ⟨g1', g2', g3', g4', g5', _⟩ := lay_at (ra1.mod (setR_mod h i y1 (a + (numB z.n).length) 0) hi) hz
        exact ⟨_, fun R RO RD RT E => by simp [M.b8_0, E.eqs, e0, e3, e4, ln, c1, w1, g1, g2, g3, g5, pk, s1, g1', g2', g5'], r1, setR_mod _ _ _ _ _⟩
      · simp at q1 q3 ⊢
        have hzl := zz_lt zi1 zi2
        have s1 := spec34 rd
        rw [rNum_laid q1 (by omega) (by omega), zz_unzz] at s1
        have r1 := rd.set (a' := a + (numB (zz z.i)).length) (bad' := 0) q3 (by omega)
        obtain ⟨g1', g2', g3', g4', g5', g6', _⟩ := lay_at (ra1.mod (setR_mod h i y1 (a + (numB (zz z.i)).length) 0) hi) hz
        exact ⟨_, fun R RO RD RT E => by simp [M.b8_0, E.eqs, e0, e3, e4, ln, c1, w1, g1, g2, g3, g6, pk, s1, g1', g2', g6'], r1, setR_mod _ _ _ _ _⟩
      · simp only [Int.reduceEq, if_false] at q1 q3 ⊢
        have zr1 := zr.mod s.mod (hzi z hzm)
        have lt := lenA_row zr1
        obtain ⟨h1, y, s1, t1⟩ := spec35 rd (most := (z.t.length : Int)) (by omega) (by omega)
        rw [rText_laid hle q1 (by omega) (by omega)] at t1
        obtain ⟨g1', g2', g3', g4', g5', g6', g7'⟩ := lay_at (ra1.mod t1.mod hi) hz
        have u1 := b2sA_row t1.own.row
        have u2 := b2sA_row (zr1.mod t1.mod (hzi z hzm))
        have u3 := b2sA_row zr1
        exact ⟨h1, fun R RO RD RT E => by simp [M.b8_0, E.eqs, e0, e3, e4, ln, c1, w1, g1, g2, g3, g7, pk, lt, s1, g1', g2', g7', u1, u2, u3], t1.rd, t1.mod⟩
    obtain ⟨h1, st, r1, m1⟩ := key
    obtain ⟨h2, lo, s2⟩ := back_loop ra hl hn hi hzi m (k + 1) h1 [(0, [.sc xa]), (3, [.sc (.ptr i 0 3)]), (4, [.sc (.int .i64 ((k + 1 : Nat) : Int))])] (by omega) ⟨r1, s.mod.trans m1 fun _ _ h => h, s.old⟩ rfl rfl rfl
    exact ⟨h2, stepM st lo, s2⟩

theorem core {H : Type} (h : Heap) (tvs : List TV) (ds : List (DataW H)) (hr : AllRo h) (hi : Ins Try.prog h 6 [22] tvs ds) (hb : Rows.uptoBulkAll ds ≤ 1048576) : ∃ h', callE F O 8 tvs h = some ([.sc (.bool true)], h') := by
  obtain ⟨tv, d, rfl, rfl, h1⟩ := ins_one hi
  obtain ⟨x, l, rfl, hx, hl, hls⟩ := in_lays h1
  simp only [Rows.uptoBulkAll] at hb
  have hlz : ∀ z ∈ l, z.ok h ∧ z.t.length ≤ 2 ^ 38 := fun z hz => ⟨hl z hz, by
    have := size_mem hz
    omega⟩
  obtain ⟨g1, z1, e1, f1⟩ := spec30 hx hlz (by omega) (by omega)
  have hln := laidB_le l hlz
  obtain ⟨n1, n2⟩ := spec31 f1.row (by omega)
  have kn := fun h => spec13 h
  generalize hg2 : g1 ++ [(⟨.row 5 1, Go.Abs.bytes (laidB l)⟩ : Blk), ⟨.var, [.sl g1.length 0 (laidB l).length (laidB l).length, .int .i64 0, .int .i64 0]⟩] = g2 at *
  have m2 : Mod (fun _ => False) g1 g2 := by rw [← hg2]; exact Mod.app _ _ _
  have m : Mod (fun _ => False) h g2 := f1.mod.trans m2 fun _ _ h => h
  have hgl : h.length ≤ g1.length := f1.mod.1
  have fr := n2.fresh
  obtain ⟨g3, lo, s3⟩ := back_loop (h0 := g2) (y1 := .sl g1.length 0 (laidB l).length (laidB l).length) (i := g1.length + 1) (hx.mod m fun _ _ h => h) (fun z hz => by
    obtain ⟨⟨b1, b2, b3, b4⟩, b5⟩ := hlz z hz
    exact ⟨⟨b1, b2, b3, b4.mod m fun _ _ h => h⟩, b5⟩) (by omega) (fun j hj => by have := hx.lt j hj; omega) (fun z hz j hj => by have := (hl z hz).2.2.2.lt j hj; omega) l.length 0 g2 [(0, [.sc x]), (3, [.sc (.ptr (g1.length + 1) 0 3)]), (4, [.sc (.int .i64 0)])] (by omega)
    ⟨by simpa [laidB] using n2, Mod.refl _ _, fun j hj => by
      have hj : j = g1.length := hj
      rw [← hg2]; simp; omega⟩ rfl rfl rfl
  have lo := loop_run lo
  have s1 := spec36 s3.rd
  have hE : rEnd (laidB l) (laidB (l.take l.length)).length 0 = 0 := by unfold rEnd; rw [List.take_length]; simp
  rw [hE] at s1
  refine ⟨_, callX (hh := trim h g3 [.sc (.bool true)]) rfl (by rfl : F 8 = some M.a8) (fun R RO RD RT E => ?_)⟩
  have lo := E.run lo
  simp at s1
  simp [M.a8, E.eqs, e1, n1, kn, fr, lo, s1]
end Go.Proofs.Ytokdnndocipilaa.lawPackBack
