/- bursarhand.Cmd: a command that may be; what the laws shape. -/
import Derived.Test.YtoghoddofokekaaDoorE1
set_option linter.unusedVariables false
set_option linter.unusedSimpArgs false
set_option maxRecDepth 100000
namespace Go.Proofs.YtoghoddofokekaaDoor
open Go.Abs

theorem mask_in {k : Int} (h1 : 1 ≤ k) (h2 : k ≤ 11) : mask k ≠ 0 := by
  rcases kinds k with rfl | rfl | rfl | rfl | rfl | rfl | rfl | rfl | rfl | rfl | rfl | hk
  case inr.inr.inr.inr.inr.inr.inr.inr.inr.inr.inr => omega
  all_goals decide

theorem right_of {k hi sc : Int} {s q a b lo : Nat} {x y : List UInt8} (h1 : 1 ≤ k) (h2 : k ≤ 11) (hs : numOk s = true) (q1 : fl k 1 = true → numOk q = true) (q0 : fl k 1 = false → q = 0) (a0 : fl k 2 = false → a = 0) (b0 : fl k 3 = false → b = 0)
    (m1 : fl k 4 = true → scOk sc = true) (m0 : fl k 4 = false → hi = 0 ∧ lo = 0 ∧ sc = 0) (x1 : fl k 5 = true → nameB x = true) (x0 : fl k 5 = false → x = []) (y1 : fl k 6 = true → nameB y = true) (y0 : fl k 6 = false → y = []) :
    rightC ⟨k, s, q, a, b, hi, lo, sc, x, y⟩ = true := by
  have hm := mask_in h1 h2
  have f0 := fl0 hm
  have t1 : fldOk ⟨k, s, q, a, b, hi, lo, sc, x, y⟩ 1 = true := by
    unfold fldOk
    cases h : fl k 1
    · simp [bareB, q0 h]
    · simp [fitsB, q1 h]
  have t2 : fldOk ⟨k, s, q, a, b, hi, lo, sc, x, y⟩ 2 = true := by
    unfold fldOk
    cases h : fl k 2
    · simp [bareB, a0 h]
    · simp [fitsB]
  have t3 : fldOk ⟨k, s, q, a, b, hi, lo, sc, x, y⟩ 3 = true := by
    unfold fldOk
    cases h : fl k 3
    · simp [bareB, b0 h]
    · simp [fitsB]
  have t4 : fldOk ⟨k, s, q, a, b, hi, lo, sc, x, y⟩ 4 = true := by
    unfold fldOk
    cases h : fl k 4
    · simp [bareB, m0 h]
    · simp [fitsB, m1 h]
  have t5 : fldOk ⟨k, s, q, a, b, hi, lo, sc, x, y⟩ 5 = true := by
    unfold fldOk
    cases h : fl k 5
    · simp [bareB, x0 h]
    · simp [fitsB, x1 h]
  have t6 : fldOk ⟨k, s, q, a, b, hi, lo, sc, x, y⟩ 6 = true := by
    unfold fldOk
    cases h : fl k 6
    · simp [bareB, y0 h]
    · simp [fitsB, y1 h]
  have t0 : fldOk ⟨k, s, q, a, b, hi, lo, sc, x, y⟩ 0 = true := by
    unfold fldOk
    simp [f0, fitsB, hs]
  simp [rightC, hm, fromOk, t0, t1, t2, t3, t4, t5, t6]

def H2 (h : Heap) (c : Cm) : Heap := h ++ [⟨.var, c.cells⟩, ⟨.var, Cm.zero.cells⟩]
section
variable {h : Heap} {c : Cm} {cs : List SV}
theorem H2_len : (H2 h c).length = h.length + 2 := by simp [H2]
theorem H2_app : H2 h c ++ [⟨.var, cs⟩] = CH h c cs := by simp [H2, CH]
theorem H2_a : (H2 h c)[h.length]? = some ⟨.var, c.cells⟩ := by simp [H2]
theorem H2_fa (o k : Nat) : fldA (H2 h c) k [.sc (.ptr h.length o 10)] = some ([.sc (.ptr h.length (o + k) 10)], H2 h c) := by
  simp [fldA, freshB, H2_a, Cm.cells]
theorem H2_la {j : Nat} {v : SV} (hv : c.cells[j]? = some v) : loadA (H2 h c) false 1 [.sc (.ptr h.length j 10)] = some ([.sc v], H2 h c) := by
  have hj := lt_of_get hv
  have hl : c.cells.length = 10 := rfl
  simp [loadA, H2_a, hl, hv]
  omega

theorem it_0 (k1 : -9223372036854775808 ≤ c.k) (k2 : c.k < 9223372036854775808) : ∃ (k : Int) (s : Nat), runE F O (sqh (sqd 1 M.a16.body)) [(1, [.sc (.ptr h.length 0 10)]), (2, [.sc (.ptr (h.length + 1) 0 10)])] (H2 h c) = some (.normal, [(1, [.sc (.ptr h.length 0 10)]), (2, [.sc (.ptr (h.length + 1) 0 10)]), (3, [.sc (.ptr (h.length + 2) 0 10)])], CH h c (Cm.cells ⟨k, s, 0, 0, 0, 0, 0, 0, [], []⟩)) ∧ 1 ≤ k ∧ k ≤ 11 ∧ 1 ≤ s ∧ s ≤ 3 := by
  have pk := fun h => spec32 h (n := c.k) (m := 11) (by omega) (by omega) k1 k2
  have p0 := Int.emod_nonneg c.k (b := 11) (by omega)
  have p1 := Int.emod_lt_of_pos c.k (b := 11) (by omega)
  have w1 : IntKind.i64.wrap (1 + c.k % 11) = 1 + c.k % 11 := wi64 (by omega) (by omega)
  obtain ⟨r, hr⟩ : ∃ r, r = c.s % 3 := ⟨_, rfl⟩
  have t1 : (c.s : Int).tmod 3 = (r : Int) := by rw [hr]; exact u64mod c.s 3
  obtain ⟨s, hs⟩ : ∃ s, s = 1 + r := ⟨_, rfl⟩
  have w2 : IntKind.u64.wrap (1 + (r : Int)) = (s : Int) := by rw [wu64 (by omega) (by omega)]; omega
  have fa := H2_fa (h := h) (c := c)
  have fb := CH_fa (h := h) (c := c) (cs := Cm.zero.cells)
  have l0 := H2_la (h := h) (c := c) (j := 0) rfl
  have l1 := H2_la (h := h) (c := c) (j := 1) rfl
  have m0 := CH_la (h := h) (c := c) (cs := Cm.zero.cells) (j := 0) rfl
  have m1 := CH_la (h := h) (c := c) (cs := Cm.zero.cells) (j := 1) rfl
  have ln := H2_len (h := h) (c := c)
  have ap : H2 h c ++ [⟨.var, [.int .i64 0, .int .u64 0, .int .u64 0, .int .u64 0, .int .u64 0, .int .i64 0, .int .u64 0, .int .i64 0, .str [], .str []]⟩] = CH h c Cm.zero.cells := H2_app
  generalize c.k % 11 = v at *
  have st : storeA (CH h c Cm.zero.cells) 10 [.sc (.ptr (h.length + 2) 0 10)] [.agg [.int .i64 (1 + v), .int .u64 (s : Int), .int .u64 0, .int .u64 0, .int .u64 0, .int .i64 0, .int .u64 0, .int .i64 0, .str [], .str []]] = some ([], CH h c (Cm.cells ⟨1 + v, s, 0, 0, 0, 0, 0, 0, [], []⟩)) := by
    simp [storeA, CH_x, CH_set, Cm.cells, Cm.zero]
  refine ⟨1 + v, s, runM fun R RO RD RT E => ?_, by omega, by omega, by omega, by omega⟩
  generalize CH h c (Cm.cells ⟨1 + v, s, 0, 0, 0, 0, 0, 0, [], []⟩) = g2 at *
  generalize CH h c Cm.zero.cells = g1 at *
  generalize H2 h c = g0 at *
  simp [M.a16, sqd, sqh, E.eqs, fa, fb, l0, l1, m0, m1, ln, ap, pk, t1, w1, w2, st]

theorem it_of {k : Int} {s : Nat} : runE F O (sqh (sqd 2 M.a16.body)) [(1, [.sc (.ptr h.length 0 10)]), (2, [.sc (.ptr (h.length + 1) 0 10)]), (3, [.sc (.ptr (h.length + 2) 0 10)])] (CH h c (Cm.cells ⟨k, s, 0, 0, 0, 0, 0, 0, [], []⟩)) = some (.normal, [(1, [.sc (.ptr h.length 0 10)]), (2, [.sc (.ptr (h.length + 1) 0 10)]), (3, [.sc (.ptr (h.length + 2) 0 10)]), (4, [.sc (.str (ofT k))])], CH h c (Cm.cells ⟨k, s, 0, 0, 0, 0, 0, 0, [], []⟩)) := by
  have fx := CH_fx (h := h) (c := c) (cs := Cm.cells ⟨k, s, 0, 0, 0, 0, 0, 0, [], []⟩) rfl
  have l0 := CH_lx (h := h) (c := c) (cs := Cm.cells ⟨k, s, 0, 0, 0, 0, 0, 0, [], []⟩) (j := 0) rfl rfl
  have q := fun h => spec21 h k
  refine runM fun R RO RD RT E => ?_
  generalize Cm.cells ⟨k, s, 0, 0, 0, 0, 0, 0, [], []⟩ = cs at *
  simp [M.a16, sqd, sqh, E.eqs, fx, l0, q]

theorem it_end {e : Env} (x : Cm) (g2 : e.get 2 = [.sc (.ptr (h.length + 1) 0 10)]) (g3 : e.get 3 = [.sc (.ptr (h.length + 2) 0 10)]) : runE F O (sqd 9 M.a16.body) e (CH h c x.cells) = some (.ret, [(2, [.sc (.ptr (h.length + 1) 0 10)])], h ++ [⟨.var, c.cells⟩, ⟨.var, x.cells⟩, ⟨.var, x.cells⟩]) := by
  have ld : loadA (CH h c x.cells) true 10 [.sc (.ptr (h.length + 2) 0 10)] = some ([.agg x.cells], CH h c x.cells) := by
    simp [loadA, CH_x, Cm.cells]
  have st : storeA (CH h c x.cells) 10 [.sc (.ptr (h.length + 1) 0 10)] [.agg x.cells] = some ([], h ++ [⟨.var, c.cells⟩, ⟨.var, x.cells⟩, ⟨.var, x.cells⟩]) := by
    have e1 : setCells Cm.zero.cells 0 x.cells = x.cells := rfl
    simp [storeA, CH_z]
    rw [show Cm.zero.cells.length = 10 from rfl, show x.cells.length = 10 from rfl, e1]
    simp [CH]
  refine runM fun R RO RD RT E => ?_
  generalize hg : (h ++ [⟨.var, c.cells⟩, ⟨.var, x.cells⟩, ⟨.var, x.cells⟩] : Heap) = g at *
  generalize CH h c x.cells = g1 at *
  simp [M.a16, sqd, E.eqs, g2, g3, ld, st]

/-- bursarhand.Cmd: whatever comes in, what comes out may be -/
theorem spec16 (k1 : -9223372036854775808 ≤ c.k) (k2 : c.k < 9223372036854775808) (s1 : -9223372036854775808 ≤ c.sc) (s2 : c.sc < 9223372036854775808) :
    ∃ x : Cm, call 16 [[.agg c.cells]] h = some ([.agg x.cells], h) ∧ rightC x = true ∧ x.Ok := by
  obtain ⟨k, s, r0, kk1, kk2, ss1, ss2⟩ := it_0 (h := h) k1 k2
  have r1 := it_of (h := h) (c := c) (k := k) (s := s)
  obtain ⟨e3, q, r3, S3, q1, q0⟩ := it_q (h := h) (c := c) (s := s) (e := [(1, [.sc (.ptr h.length 0 10)]), (2, [.sc (.ptr (h.length + 1) 0 10)]), (3, [.sc (.ptr (h.length + 2) 0 10)]), (4, [.sc (.str (ofT k))])]) ⟨rfl, rfl, rfl, rfl⟩ kk1 kk2
  obtain ⟨e4, a, r4, S4', al, a0⟩ := it_a (c := c) (s := s) (q := q) S3
  obtain ⟨e5, b, r5, S5, bl, b0⟩ := it_b (c := c) (s := s) (q := q) (a := a) S4'
  obtain ⟨e6, hi, lo, sc, r6, S6, ⟨i1, i2, i3⟩, m1, m0⟩ := it_m (s := s) (q := q) (a := a) (b := b) S5 s1 s2
  obtain ⟨e7, x, r7, S7, x1, x0⟩ := it_x (c := c) (s := s) (q := q) (a := a) (b := b) (hi := hi) (lo := lo) (sc := sc) S6
  obtain ⟨e8, y, r8, ⟨u2, u3⟩, y1, y0⟩ := it_y (c := c) (s := s) (q := q) (a := a) (b := b) (hi := hi) (lo := lo) (sc := sc) (x := x) S7
  have r9 := it_end (c := c) ⟨k, s, q, a, b, hi, lo, sc, x, y⟩ u2 u3
  have hq : q < 18446744073709551616 := by
    cases hf : fl k 1
    · rw [q0 hf]; omega
    · have := q1 hf; omega
  refine ⟨⟨k, s, q, a, b, hi, lo, sc, x, y⟩, callX rfl (by rfl : F 16 = some M.a16) (fun R RO RD RT E => ?_), right_of kk1 kk2 (by simp [numOk]; omega) (fun h => by have := q1 h; simp [numOk]; omega) q0 a0 b0 (fun h => by have := m1 h; simp [scOk]; omega) m0 x1 x0 y1 y0, ⟨by show s < _; omega, hq, al, bl, i3, i1, i2⟩⟩
  have top : R M.a16.body (envFrom 0 [[.agg c.cells]]) h = some (.ret, [(2, [.sc (.ptr (h.length + 1) 0 10)])], h ++ [⟨.var, c.cells⟩, ⟨.var, Cm.cells ⟨k, s, q, a, b, hi, lo, sc, x, y⟩⟩, ⟨.var, Cm.cells ⟨k, s, q, a, b, hi, lo, sc, x, y⟩⟩]) := by
    refine seqM E (e1 := [(1, [.sc (.ptr h.length 0 10)]), (2, [.sc (.ptr (h.length + 1) 0 10)])]) (h1 := H2 h c) ?_ (seqM E (E.run r0) (seqM E (E.run r1) (seqM E (E.run r3) (seqM E (E.run r4) (seqM E (E.run r5) (seqM E (E.run r6) (seqM E (E.run r7) (seqM E (E.run r8) (E.run r9)))))))))
    simp [E.eqs, H2, Cm.cells, Cm.zero]
  rw [top]
  have gz : (h ++ [⟨.var, c.cells⟩, ⟨.var, Cm.cells ⟨k, s, q, a, b, hi, lo, sc, x, y⟩⟩, ⟨.var, Cm.cells ⟨k, s, q, a, b, hi, lo, sc, x, y⟩⟩])[h.length + 1]? = some (⟨.var, Cm.cells ⟨k, s, q, a, b, hi, lo, sc, x, y⟩⟩ : Blk) := by simp
  have tr : trim h (h ++ [⟨.var, c.cells⟩, ⟨.var, Cm.cells ⟨k, s, q, a, b, hi, lo, sc, x, y⟩⟩, ⟨.var, Cm.cells ⟨k, s, q, a, b, hi, lo, sc, x, y⟩⟩]) [.agg (Cm.cells ⟨k, s, q, a, b, hi, lo, sc, x, y⟩)] = h := trim_pure rfl
  have hl : (Cm.cells ⟨k, s, q, a, b, hi, lo, sc, x, y⟩).length = 10 := rfl
  have ht : (Cm.cells ⟨k, s, q, a, b, hi, lo, sc, x, y⟩).take 10 = Cm.cells ⟨k, s, q, a, b, hi, lo, sc, x, y⟩ := rfl
  generalize Cm.cells ⟨k, s, q, a, b, hi, lo, sc, x, y⟩ = cs at *
  generalize (h ++ [⟨.var, c.cells⟩, ⟨.var, cs⟩, ⟨.var, cs⟩] : Heap) = g at *
  simp [M.a16, E.eqs, gz, hl, ht, tr]
end
end Go.Proofs.YtoghoddofokekaaDoor
