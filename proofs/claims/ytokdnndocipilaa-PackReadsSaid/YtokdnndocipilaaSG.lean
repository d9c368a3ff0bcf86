/- Chapter 1: the law 'reads': always true. -/
import Derived.Test.YtokdnndocipilaaSF
set_option linter.unusedVariables false
set_option linter.unusedSimpArgs false
set_option maxRecDepth 100000
namespace Go.Proofs.Ytokdnndocipilaa
open Go.Abs

section
variable {h : Heap} {xb xa xo y1 : SV} {i1 i2 : Nat} {l : List UInt8} {q : List Ask} {a bad : Nat}

theorem RS.two (s : RS h xb xa xo y1 i1 i2 l q a bad) {a' bad' : Nat} (h1 : a' ≤ l.length) (h2 : bad' < 100) :
    Rd (setR h i1 y1 a' bad') i2 xb l a bad ∧ RS (setR (setR h i1 y1 a' bad') i2 xb a' bad') xb xa xo y1 i1 i2 l q a' bad' ∧ Row (setR h i1 y1 a' bad') xa 4 q.length (askC q) := by
  have m1 : Mod (fun j => j = i1) h (setR h i1 y1 a' bad') := setR_mod _ _ _ _ _
  have r2 := s.r2.other m1 (fun e => s.ne e.symm) fun j hj e => s.d j (.inl hj) (.inl e)
  have m2 : Mod (fun j => j = i2) (setR h i1 y1 a' bad') (setR (setR h i1 y1 a' bad') i2 xb a' bad') := setR_mod _ _ _ _ _
  refine ⟨r2, s.go ((m1.mono fun j _ e => Or.inl e).trans m2 fun j _ e => .inr e) ((s.r1.set h1 h2).other m2 s.ne fun j hj e => s.d j (.inr (.inr (.inr hj))) (.inr e)) (r2.set h1 h2), s.ra.mod m1 fun j hj e => s.d j (.inr (.inl hj)) (.inl e)⟩

theorem rByte_lt (l : List UInt8) (a bad most : Nat) : (a ≤ l.length → (rByte l a bad most).2.1 ≤ l.length) ∧ (bad < 100 → (rByte l a bad most).2.2 < 100) ∧ (rByte l a bad most).1 < 256 := by
  unfold rByte
  split
  · simp
  · split
    · simp
    · rename_i b hb
      have := (List.getElem?_eq_some_iff.1 hb).1
      have := b.toNat_lt
      split <;> simp <;> omega
theorem rText_lt (l : List UInt8) (a bad : Nat) (most : Int) (ha : a ≤ l.length) (hb : bad < 100) : (rText l a bad most).2.1 ≤ l.length ∧ (rText l a bad most).2.2 < 100 ∧ (rText l a bad most).1.length ≤ l.length := by
  obtain ⟨h1, h2, h3, h4⟩ := rNum_lt l a bad (max most 0).toNat
  have h2 := h2 ha
  have h3 := h3 hb
  unfold rText
  generalize rNum l a bad (max most 0).toNat = D at *
  simp only
  split
  · exact ⟨h2, h3, by simp⟩
  · split
    · exact ⟨ha, by simp, by simp⟩
    · simp; omega

theorem reads_step (s : RS h xb xa xo y1 i1 i2 l q a bad) (hq : ∀ z ∈ q, z.ok) (hql : q.length ≤ 140737488353280) {k : Nat} {z : Ask} (hz : q[k]? = some z) {e : Env}
    (e0 : e.get 0 = [.sc xb]) (e1 : e.get 1 = [.sc xa]) (e5 : e.get 5 = [.sc xo]) (e6 : e.get 6 = [.sc (.ptr i1 0 3)]) (e7 : e.get 7 = [.sc (.ptr i2 0 3)]) (e8 : e.get 8 = [.sc (.int .i64 k)]) :
    ∃ h' a' bad', (∀ R RO RD RT, Mach F O R RO RD RT → R M.b29_0 (keep [0, 1, 5, 6, 7, 8] e) h = some (.normal, [(0, [.sc xb]), (1, [.sc xa]), (5, [.sc xo]), (6, [.sc (.ptr i1 0 3)]), (7, [.sc (.ptr i2 0 3)]), (8, [.sc (.int .i64 ((k + 1 : Nat) : Int))])], h')) ∧ RS h' xb xa xo y1 i1 i2 l q a' bad' := by
  have hk : k < q.length := (List.getElem?_eq_some_iff.1 hz).1
  obtain ⟨⟨zw1, zw2⟩, zb, zn, ⟨zt1, zt2⟩⟩ := hq z (List.mem_of_getElem? hz)
  have ln := lenA_row s.ra
  obtain ⟨g1, g2, g3, g4, g5, g6⟩ := ask_at s.ra hz
  have c1 : (k : Int) < q.length := by omega
  have w1 : IntKind.i64.wrap ((k : Int) + 1) = (k : Int) + 1 := wi64 (by omega) (by omega)
  have pk := spec14 h (n := z.what) (m := 5) (by omega) (by omega) zw1 zw2
  have p0 := Int.emod_nonneg z.what (b := 5) (by omega)
  have p5 := Int.emod_lt_of_pos z.what (b := 5) (by omega)
  generalize z.what % 5 = w at *
  have hw : w = 0 ∨ w = 1 ∨ w = 2 ∨ w = 3 ∨ w = 4 := by omega
  rcases hw with rfl | rfl | rfl | rfl | rfl
  · obtain ⟨b1, b2, b3⟩ := rByte_lt l a bad z.b
    have s1 := spec32 s.r1 zb
    obtain ⟨r2, s', ra'⟩ := s.two (b1 s.r1.le) (b2 s.r1.small)
    have s2 := spec37 r2 zb
    obtain ⟨g1', g2', g3', g4', g5', g6'⟩ := ask_at ra' hz
    generalize rByte l a bad z.b = D at *
    exact ⟨_, _, _, fun R RO RD RT E => by simp [M.b29_0, E.eqs, e0, e1, e5, e6, e7, e8, ln, c1, w1, g1, g2, g3, g4, pk, s1, s2, g1', g2', g4'], s'⟩
  · obtain ⟨b0, b1, b2, b3⟩ := rNum_lt l a bad z.n
    have s1 := spec33 s.r1 zn
    obtain ⟨r2, s', ra'⟩ := s.two (b1 s.r1.le) (b2 s.r1.small)
    have s2 := spec38 r2 zn
    obtain ⟨g1', g2', g3', g4', g5', g6'⟩ := ask_at ra' hz
    generalize rNum l a bad z.n = D at *
    exact ⟨_, _, _, fun R RO RD RT E => by simp [M.b29_0, E.eqs, e0, e1, e5, e6, e7, e8, ln, c1, w1, g1, g2, g3, g5, pk, s1, s2, g1', g2', g5'], s'⟩
  · obtain ⟨b1, b2, b3⟩ := rText_lt l a bad z.t s.r1.le s.r1.small
    obtain ⟨h1, y, s1, t1⟩ := spec35 s.r1 zt1 zt2
    have r2 := s.r2.other t1.mod (fun e => s.ne e.symm) fun j hj e => s.d j (.inl hj) (.inl e)
    obtain ⟨h2, y2, s2, t2⟩ := spec39 r2 zt1 zt2
    generalize rText l a bad z.t = D at *
    have ra' := s.ra.mod t1.mod fun j hj e => s.d j (.inr (.inl hj)) (.inl e)
    obtain ⟨g1', g2', g3', g4', g5', g6'⟩ := ask_at ra' hz
    have hi2 := s.r2.lt
    have hi1 := s.r1.lt
    have yn : ∀ j, blk y j → ¬ j = i2 := fun j hj e => by have := t1.new j hj; omega
    have yn1 : ∀ j, blk y j → ¬ j = i1 := fun j hj e => by have := t1.new j hj; omega
    have y2o := t1.own.mod t2.mod yn
    have u1 := b2sA_row t1.own.row
    have u2 := b2sA_row y2o.row
    have u3 := b2sA_row t2.own.row
    obtain ⟨h3, lo, mf⟩ := reads_fill (x := y) (v0 := [.sc xb]) (v1 := [.sc xa]) (v5 := [.sc xo]) (v6 := [.sc (.ptr i1 0 3)]) (v7 := [.sc (.ptr i2 0 3)]) (v8 := [.sc (.int .i64 k)]) (v9 := [.sc (.bool true)]) D.1.length 0 D.1 h2
      [(0, [.sc xb]), (1, [.sc xa]), (5, [.sc xo]), (6, [.sc (.ptr i1 0 3)]), (7, [.sc (.ptr i2 0 3)]), (8, [.sc (.int .i64 k)]), (9, [.sc (.bool true)]), (10, [.sc y]), (11, [.sc (.int .i64 0)])] (by omega) (Nat.le_trans b3 s.r1.len) y2o rfl rfl rfl rfl rfl rfl rfl rfl rfl
    have lo := loop_run lo
    have s' : RS h3 xb xa xo y1 i1 i2 l q D.2.1 D.2.2 := by
      refine s.go ?_ ((t1.rd.other t2.mod s.ne fun j hj e => s.d j (.inr (.inr (.inr hj))) (.inr e)).other mf (fun e => yn1 _ e rfl) fun j hj e => ?_) (t2.rd.other mf (fun e => yn _ e rfl) fun j hj e => ?_)
      · refine ((t1.mod.mono fun j _ e => Or.inl e).trans t2.mod fun j _ e => .inr e).trans mf fun j hj e => ?_
        have := t1.new j e
        omega
      · have h5 := t1.new j e
        have h6 := s.r1.row.lt j hj
        omega
      · have h5 := t1.new j e
        have h6 := s.rb.lt j hj
        omega
    refine ⟨h3, D.2.1, D.2.2, fun R RO RD RT E => ?_, s'⟩
    have lo := E.run lo
    simp [M.b29_0, E.eqs, e0, e1, e5, e6, e7, e8, ln, c1, w1, g1, g2, g3, g6, pk, s1, s2, g1', g2', g6', u1, u2, u3, lo]
  · obtain ⟨b0, b1, b2, b3⟩ := rNum_lt l a bad 18446744073709551615
    have s1 := spec34 s.r1
    obtain ⟨r2, s', ra'⟩ := s.two (b1 s.r1.le) (b2 s.r1.small)
    have s2 := spec40 r2
    generalize rNum l a bad 18446744073709551615 = D at *
    exact ⟨_, _, _, fun R RO RD RT E => by simp [M.b29_0, E.eqs, e0, e1, e5, e6, e7, e8, ln, c1, w1, g1, g2, g3, pk, s1, s2], s'⟩
  · have s1 := spec36 s.r1
    have s2 := spec41 s.r2
    exact ⟨_, _, _, fun R RO RD RT E => by simp [M.b29_0, E.eqs, e0, e1, e5, e6, e7, e8, ln, c1, w1, g1, g2, g3, pk, s1, s2], s⟩

theorem reads_loop (hq : ∀ z ∈ q, z.ok) (hql : q.length ≤ 140737488353280) : ∀ (m k : Nat) (h : Heap) (a bad : Nat) (e : Env), k + m = q.length → RS h xb xa xo y1 i1 i2 l q a bad →
    e.get 0 = [.sc xb] → e.get 1 = [.sc xa] → e.get 5 = [.sc xo] → e.get 6 = [.sc (.ptr i1 0 3)] → e.get 7 = [.sc (.ptr i2 0 3)] → e.get 8 = [.sc (.int .i64 k)] →
    ∃ h' a' bad', loopE F O (.loop [0, 1, 5, 6, 7, 8] M.b29_0) e h = some (.exit 0, [(0, [.sc xb]), (1, [.sc xa]), (5, [.sc xo]), (6, [.sc (.ptr i1 0 3)]), (7, [.sc (.ptr i2 0 3)]), (8, [.sc (.int .i64 q.length)]), (25, [.sc (.bool false)])], h') ∧ RS h' xb xa xo y1 i1 i2 l q a' bad'
  | 0, k, h, a, bad, e, hk, s, e0, e1, e5, e6, e7, e8 => by
    have : k = q.length := by omega
    subst this
    have ln := lenA_row s.ra
    exact ⟨h, a, bad, exitM fun R RO RD RT E => by simp [M.b29_0, E.eqs, e0, e1, e5, e6, e7, e8, ln], s⟩
  | m + 1, k, h, a, bad, e, hk, s, e0, e1, e5, e6, e7, e8 => by
    obtain ⟨z, hz⟩ : ∃ z, q[k]? = some z := ⟨_, List.getElem?_eq_getElem (by omega)⟩
    obtain ⟨h1, a1, b1, st, s1⟩ := reads_step s hq hql hz e0 e1 e5 e6 e7 e8
    obtain ⟨h2, a2, b2, lo, s2⟩ := reads_loop hq hql m (k + 1) h1 a1 b1 [(0, [.sc xb]), (1, [.sc xa]), (5, [.sc xo]), (6, [.sc (.ptr i1 0 3)]), (7, [.sc (.ptr i2 0 3)]), (8, [.sc (.int .i64 ((k + 1 : Nat) : Int))])] (by omega) s1 rfl rfl rfl rfl rfl rfl
    exact ⟨h2, a2, b2, stepM st lo, s2⟩

theorem spec29 {h : Heap} {xb xa : SV} {l : List UInt8} {q : List Ask} (hb : Row h xb 1 l.length (Go.Abs.bytes l)) (ha : Row h xa 4 q.length (askC q)) (hl : l.length ≤ 140737488352256) (hq : ∀ z ∈ q, z.ok) (hql : q.length ≤ 140737488353280) :
    ∃ h', call 29 [[.sc xb], [.sc xa]] h = some ([.sc (.bool true)], h') := by
  have a1 := copy_app hb (by omega)
  have f1 := copy_fresh h l
  obtain ⟨n1, n2⟩ := spec31 f1.row (by omega)
  generalize hg1 : h ++ [(⟨.row 5 1, Go.Abs.bytes l⟩ : Blk)] = g1 at *
  have hgl : g1.length = h.length + 1 := by rw [← hg1]; simp
  have m1 : Mod (fun _ => False) h g1 := f1.mod
  generalize hg2 : g1 ++ [(⟨.row 5 1, Go.Abs.bytes l⟩ : Blk), ⟨.var, [.sl g1.length 0 l.length l.length, .int .i64 0, .int .i64 0]⟩] = g2 at *
  have hgl2 : g2.length = g1.length + 2 := by rw [← hg2]; simp
  have m2 : Mod (fun _ => False) g1 g2 := by rw [← hg2]; exact Mod.app _ _ _
  have m3 : Mod (fun _ => False) g2 (g2 ++ [⟨.var, [xb, .int .i64 0, .int .i64 0]⟩]) := Mod.app _ _ _
  have m : Mod (fun _ => False) h (g2 ++ [⟨.var, [xb, .int .i64 0, .int .i64 0]⟩]) := (m1.trans m2 fun _ _ h => h).trans m3 fun _ _ h => h
  have hn : ∀ {x : SV} {sz n : Nat} {cs : List SV}, Row h x sz n cs → Row (g2 ++ [⟨.var, [xb, .int .i64 0, .int .i64 0]⟩]) x sz n cs := fun hx => hx.mod m fun _ _ h => h
  have s : RS (g2 ++ [⟨.var, [xb, .int .i64 0, .int .i64 0]⟩]) xb xa (.sl h.length 0 l.length l.length) (.sl g1.length 0 l.length l.length) (g1.length + 1) g2.length l q 0 0 := by
    refine ⟨hn hb, hn ha, (f1.row.mod m2 fun _ _ h => h).mod m3 fun _ _ h => h, n2.app _, ⟨by simp, hn hb, ?_, by omega, by omega, by omega⟩, by omega, fun j hj => ?_⟩
    · intro hj
      have := hb.lt _ hj
      omega
    · rcases hj with hj | hj | hj | hj
      · have := hb.lt _ hj; omega
      · have := ha.lt _ hj; omega
      · have : j = h.length := hj
        omega
      · have : j = g1.length := hj
        omega
  obtain ⟨h', a', bad', lo, s'⟩ := reads_loop hq hql q.length 0 _ 0 0 [(0, [.sc xb]), (1, [.sc xa]), (5, [.sc (.sl h.length 0 l.length l.length)]), (6, [.sc (.ptr (g1.length + 1) 0 3)]), (7, [.sc (.ptr g2.length 0 3)]), (8, [.sc (.int .i64 0)])] (by omega) s rfl rfl rfl rfl rfl rfl
  have lo := loop_run lo
  have s1 := spec36 s'.r1
  have s2 := spec41 s'.r2
  have u1 := b2sA_row s'.ro
  have u2 := b2sA_row s'.rb
  have fr := s.r1.fresh
  refine ⟨_, callX (hh := trim h h' [.sc (.bool true)]) rfl (by rfl : F 29 = some M.a29) (fun R RO RD RT E => ?_)⟩
  have lo := E.run lo
  simp [M.a29, E.eqs, a1, hg1, n1, fr, lo, s1, s2, u1, u2]
end
end Go.Proofs.Ytokdnndocipilaa
