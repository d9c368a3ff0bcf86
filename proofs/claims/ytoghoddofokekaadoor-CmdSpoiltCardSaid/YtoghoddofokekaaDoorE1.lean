/- Commands that may be, of raw ones: bursarhand's Amount and Cmd; what the laws shape. -/
import Derived.Test.YtoghoddofokekaaDoorD2
import Derived.Test.YtoghoddofokekaaDoorS7
set_option linter.unusedVariables false
set_option linter.unusedSimpArgs false
set_option maxRecDepth 100000
namespace Go.Proofs.YtoghoddofokekaaDoor
open Go.Abs

theorem wrap_in (n : Int) : -9223372036854775808 ≤ IntKind.i64.wrap n ∧ IntKind.i64.wrap n < 9223372036854775808 := by rw [wi64']; omega
theorem pick_in (n : Int) {m : Int} (hm : 0 < m) (hm2 : m < 9223372036854775808) : (∀ h, call 32 [[.sc (.int .i64 (IntKind.i64.wrap n))], [.sc (.int .i64 m)]] h = some ([.sc (.int .i64 (IntKind.i64.wrap n % m))], h)) ∧ 0 ≤ IntKind.i64.wrap n % m ∧ IntKind.i64.wrap n % m < m :=
  ⟨fun h => spec32 h hm hm2 (wrap_in n).1 (wrap_in n).2, Int.emod_nonneg _ (by omega), Int.emod_lt_of_pos _ hm⟩

section
variable {h : Heap}
theorem two_get0 (a b : Blk) : (h ++ [a, b])[h.length]? = some a := by simp
theorem two_get1 (a b : Blk) : (h ++ [a, b])[h.length + 1]? = some b := by simp
theorem two_set0 (a b c : Blk) : (h ++ [a, b]).set h.length c = h ++ [c, b] := by simp
theorem two_set1 (a b c : Blk) : (h ++ [a, b]).set (h.length + 1) c = h ++ [a, c] := by simp
end

theorem spec38 {n : Int} (k1 : -9223372036854775808 ≤ n) (k2 : n < 9223372036854775808) :
    ∃ (hi : Int) (lo : Nat) (sc : Int), (∀ h, call 38 [[.sc (.int .i64 n)]] h = some ([.agg [.int .i64 hi, .int .u64 lo, .int .i64 sc]], h)) ∧ -9223372036854775808 ≤ hi ∧ hi < 9223372036854775808 ∧ lo < 18446744073709551616 ∧ 0 ≤ sc ∧ sc ≤ 18 := by
  have p1 := fun h => spec32 h (n := n) (m := 5000) (by omega) (by omega) k1 k2
  have a0 := Int.emod_nonneg n (b := 5000) (by omega)
  have a1 := Int.emod_lt_of_pos n (b := 5000) (by omega)
  have p4 := fun h => spec32 h (n := n) (m := 4611686018427387904) (by omega) (by omega) k1 k2
  have d0 := Int.emod_nonneg n (b := 4611686018427387904) (by omega)
  have d1 := Int.emod_lt_of_pos n (b := 4611686018427387904) (by omega)
  obtain ⟨p2, b0, b1⟩ := pick_in (n.tdiv 7) (m := 24) (by omega) (by omega)
  obtain ⟨p3, c0, c1⟩ := pick_in (n.tdiv 13) (m := 19) (by omega) (by omega)
  obtain ⟨n7, hn7⟩ : ∃ x, IntKind.i64.wrap (n.tdiv 7) = x := ⟨_, rfl⟩
  obtain ⟨n13, hn13⟩ : ∃ x, IntKind.i64.wrap (n.tdiv 13) = x := ⟨_, rfl⟩
  rw [hn7] at p2 b0 b1
  rw [hn13] at p3 c0 c1
  generalize n % 5000 = v1 at *
  generalize n7 % 24 = v2 at *
  generalize n13 % 19 = v3 at *
  generalize n % 4611686018427387904 = v4 at *
  obtain ⟨lo, rfl⟩ : ∃ lo : Nat, v1 = (lo : Int) := ⟨v1.toNat, by omega⟩
  have w1 : IntKind.u64.wrap (lo : Int) = (lo : Int) := wu64 (by omega) (by omega)
  rcases (by omega : v2 = 0 ∨ v2 = 1 ∨ v2 = 2 ∨ v2 = 3 ∨ (v2 ≠ 0 ∧ v2 ≠ 1 ∧ v2 ≠ 2 ∧ v2 ≠ 3)) with rfl | rfl | rfl | rfl | ⟨e0, e1, e2, e3⟩
  · refine ⟨0, lo, v3, fun h => callX rfl (by rfl : F 38 = some M.a38) (fun R RO RD RT E => ?_), by omega, by omega, by omega, by omega, by omega⟩
    simp [M.a38, E.eqs, hn7, hn13, p1, p2, p3, p4, w1, fldA, freshB, loadA, storeA, two_get0, two_get1, two_set0, two_set1, trim_pure, pureT, pureV, pureS]
  · refine ⟨9223372036854775807, 18446744073709551615, 2, fun h => callX rfl (by rfl : F 38 = some M.a38) (fun R RO RD RT E => ?_), by omega, by omega, by omega, by omega, by omega⟩
    simp [M.a38, E.eqs, hn7, hn13, p1, p2, p3, p4, w1, fldA, freshB, loadA, storeA, two_get0, two_get1, two_set0, two_set1, trim_pure, pureT, pureV, pureS]
  · refine ⟨-1, 18446744073709551615, 2, fun h => callX rfl (by rfl : F 38 = some M.a38) (fun R RO RD RT E => ?_), by omega, by omega, by omega, by omega, by omega⟩
    simp [M.a38, E.eqs, hn7, hn13, p1, p2, p3, p4, w1, fldA, freshB, loadA, storeA, two_get0, two_get1, two_set0, two_set1, trim_pure, pureT, pureV, pureS]
  · refine ⟨v4, lo, 2, fun h => callX rfl (by rfl : F 38 = some M.a38) (fun R RO RD RT E => ?_), by omega, by omega, by omega, by omega, by omega⟩
    simp [M.a38, E.eqs, hn7, hn13, p1, p2, p3, p4, w1, fldA, freshB, loadA, storeA, two_get0, two_get1, two_set0, two_set1, trim_pure, pureT, pureV, pureS]
  · refine ⟨0, lo, 2, fun h => callX rfl (by rfl : F 38 = some M.a38) (fun R RO RD RT E => ?_), by omega, by omega, by omega, by omega, by omega⟩
    simp [M.a38, E.eqs, hn7, hn13, p1, p2, p3, p4, w1, e0, e1, e2, e3, fldA, freshB, loadA, storeA, two_get0, two_get1, two_set0, two_set1, trim_pure, pureT, pureV, pureS]

theorem spec37 (h : Heap) {s w : List UInt8} (hs : s.length < 1000) : call 37 [[.sc (.str s)], [.sc (.str w)]] h = some ([.sc (.bool (hasL s w))], h) := by
  have q := fun h => spec23 h (w := w) hs
  refine callX rfl (by rfl : F 37 = some M.a37) (fun R RO RD RT E => ?_)
  simp [M.a37, E.eqs, q, trim_pure, pureT, pureV, pureS]

/-- the three cells of bursarhand.Cmd: the raw command, the result, the command so far -/
def CH (h : Heap) (c : Cm) (cs : List SV) : Heap := h ++ [⟨.var, c.cells⟩, ⟨.var, Cm.zero.cells⟩, ⟨.var, cs⟩]
section
variable {h : Heap} {c : Cm} {cs : List SV}
theorem CH_a : (CH h c cs)[h.length]? = some ⟨.var, c.cells⟩ := by simp [CH]
theorem CH_z : (CH h c cs)[h.length + 1]? = some ⟨.var, Cm.zero.cells⟩ := by simp [CH]
theorem CH_x : (CH h c cs)[h.length + 2]? = some ⟨.var, cs⟩ := by simp [CH]
theorem CH_set (cs' : List SV) : (CH h c cs).set (h.length + 2) ⟨.var, cs'⟩ = CH h c cs' := by simp [CH]
theorem CH_fa (o k : Nat) : fldA (CH h c cs) k [.sc (.ptr h.length o 10)] = some ([.sc (.ptr h.length (o + k) 10)], CH h c cs) := by
  simp [fldA, freshB, CH_a, Cm.cells]
theorem CH_fx (hl : cs.length = 10) (o k : Nat) : fldA (CH h c cs) k [.sc (.ptr (h.length + 2) o 10)] = some ([.sc (.ptr (h.length + 2) (o + k) 10)], CH h c cs) := by
  simp [fldA, freshB, CH_x, hl]
theorem CH_la {j : Nat} {v : SV} (hv : c.cells[j]? = some v) : loadA (CH h c cs) false 1 [.sc (.ptr h.length j 10)] = some ([.sc v], CH h c cs) := by
  have hj := lt_of_get hv
  have hl : c.cells.length = 10 := rfl
  simp [loadA, CH_a, hl, hv]
  omega
theorem CH_lx (hl : cs.length = 10) {j : Nat} {v : SV} (hv : cs[j]? = some v) : loadA (CH h c cs) false 1 [.sc (.ptr (h.length + 2) j 10)] = some ([.sc v], CH h c cs) := by
  have hj := lt_of_get hv
  simp [loadA, CH_x, hl, hv]
  omega
theorem CH_put (hl : cs.length = 10) {j : Nat} (hj : j < 10) (v : SV) : storeA (CH h c cs) 1 [.sc (.ptr (h.length + 2) j 10)] [.sc v] = some ([], CH h c (cs.set j v)) := by
  simp [storeA, CH_x, hl, CH_set]
  omega
theorem CH_put3 (hl : cs.length = 10) (u v w : SV) : storeA (CH h c cs) 3 [.sc (.ptr (h.length + 2) 5 10)] [.agg [u, v, w]] = some ([], CH h c (((cs.set 5 u).set 6 v).set 7 w)) := by
  simp [storeA, CH_x, hl, CH_set]

/-- the slots that stay -/
structure S4 (e : Env) (h : Heap) (k : Int) : Prop where
  s1 : e.get 1 = [.sc (.ptr h.length 0 10)]
  s2 : e.get 2 = [.sc (.ptr (h.length + 1) 0 10)]
  s3 : e.get 3 = [.sc (.ptr (h.length + 2) 0 10)]
  s4 : e.get 4 = [.sc (.str (ofT k))]

theorem fl1 {k : Int} (h1 : 1 ≤ k) (h2 : k ≤ 11) : fl k 1 = decide (k ≠ 1) := by
  rcases kinds k with rfl | rfl | rfl | rfl | rfl | rfl | rfl | rfl | rfl | rfl | rfl | hk
  case inr.inr.inr.inr.inr.inr.inr.inr.inr.inr.inr => omega
  all_goals decide

theorem u64mod (n : Nat) (m : Nat) : ((n : Int).tmod m) = ((n % m : Nat) : Int) := by rw [Int.tmod_eq_emod_of_nonneg (by omega)]; omega

theorem it_q {e : Env} {k : Int} {s : Nat} (S : S4 e h k) (h1 : 1 ≤ k) (h2 : k ≤ 11) : ∃ e' q, runE F O (sqh (sqd 3 M.a16.body)) e (CH h c (Cm.cells ⟨k, s, 0, 0, 0, 0, 0, 0, [], []⟩)) = some (.normal, e', CH h c (Cm.cells ⟨k, s, q, 0, 0, 0, 0, 0, [], []⟩)) ∧ S4 e' h k ∧ (fl k 1 = true → 1 ≤ q ∧ q ≤ 7) ∧ (fl k 1 = false → q = 0) := by
  obtain ⟨g1, g2, g3, g4⟩ := S
  have hf := fl1 h1 h2
  have l0 := CH_lx (h := h) (c := c) (cs := Cm.cells ⟨k, s, 0, 0, 0, 0, 0, 0, [], []⟩) (j := 0) rfl rfl
  have fx := CH_fx (h := h) (c := c) (cs := Cm.cells ⟨k, s, 0, 0, 0, 0, 0, 0, [], []⟩) rfl
  have fa := CH_fa (h := h) (c := c) (cs := Cm.cells ⟨k, s, 0, 0, 0, 0, 0, 0, [], []⟩)
  by_cases hk : k = 1
  · refine ⟨[(1, [.sc (.ptr h.length 0 10)]), (2, [.sc (.ptr (h.length + 1) 0 10)]), (3, [.sc (.ptr (h.length + 2) 0 10)]), (4, [.sc (.str (ofT k))]), (19, [.sc (.bool false)])], 0, runM fun R RO RD RT E => ?_, ⟨rfl, rfl, rfl, rfl⟩, fun h => ?_, fun _ => rfl⟩
    · generalize Cm.cells ⟨k, s, 0, 0, 0, 0, 0, 0, [], []⟩ = cs at *
      generalize ofT k = o at *
      simp [M.a16, sqd, sqh, E.eqs, g1, g2, g3, g4, fx, fa, l0, hk]
    · rw [hf] at h; simp [hk] at h
  · obtain ⟨r, hr⟩ : ∃ r, r = c.q % 7 := ⟨_, rfl⟩
    have t1 : (c.q : Int).tmod 7 = (r : Int) := by rw [hr]; exact u64mod c.q 7
    obtain ⟨q, hq⟩ : ∃ q, q = 1 + r := ⟨_, rfl⟩
    have w1 : IntKind.u64.wrap (1 + (r : Int)) = (q : Int) := by rw [wu64 (by omega) (by omega)]; omega
    have l2 := CH_la (h := h) (c := c) (cs := Cm.cells ⟨k, s, 0, 0, 0, 0, 0, 0, [], []⟩) (j := 2) rfl
    have st : storeA (CH h c (Cm.cells ⟨k, s, 0, 0, 0, 0, 0, 0, [], []⟩)) 1 [.sc (.ptr (h.length + 2) 2 10)] [.sc (.int .u64 (q : Int))] = some ([], CH h c (Cm.cells ⟨k, s, q, 0, 0, 0, 0, 0, [], []⟩)) := CH_put (h := h) (c := c) (cs := Cm.cells ⟨k, s, 0, 0, 0, 0, 0, 0, [], []⟩) rfl (j := 2) (by omega) (.int .u64 (q : Int))
    refine ⟨[(1, [.sc (.ptr h.length 0 10)]), (2, [.sc (.ptr (h.length + 1) 0 10)]), (3, [.sc (.ptr (h.length + 2) 0 10)]), (4, [.sc (.str (ofT k))])], q, runM fun R RO RD RT E => ?_, ⟨rfl, rfl, rfl, rfl⟩, fun _ => by omega, fun h => ?_⟩
    · generalize Cm.cells ⟨k, s, 0, 0, 0, 0, 0, 0, [], []⟩ = cs at *
      generalize Cm.cells ⟨k, s, q, 0, 0, 0, 0, 0, [], []⟩ = cs' at *
      generalize ofT k = o at *
      simp [M.a16, sqd, sqh, E.eqs, g1, g2, g3, g4, fx, fa, l0, l2, t1, w1, st, hk]
    · rw [hf] at h; simp [hk] at h
-- printed by genE1.py

theorem it_a {e : Env} {k : Int} {s q : Nat} (S : S4 e h k) : ∃ e' a, runE F O (sqh (sqd 4 M.a16.body)) e (CH h c (Cm.cells ⟨k, s, q, 0, 0, 0, 0, 0, [], []⟩)) = some (.normal, e', CH h c (Cm.cells ⟨k, s, q, a, 0, 0, 0, 0, [], []⟩)) ∧ S4 e' h k ∧ a < 18446744073709551616 ∧ (fl k 2 = false → a = 0) := by
  obtain ⟨g1, g2, g3, g4⟩ := S
  have hl : (ofT k).length < 1000 := by have := ofT_len k; omega
  have q1 := fun h => spec37 h (w := w_a) hl
  rw [has_a] at q1
  have l0 := CH_lx (h := h) (c := c) (cs := Cm.cells ⟨k, s, q, 0, 0, 0, 0, 0, [], []⟩) (j := 0) rfl rfl
  have fx := CH_fx (h := h) (c := c) (cs := Cm.cells ⟨k, s, q, 0, 0, 0, 0, 0, [], []⟩) rfl
  have fa := CH_fa (h := h) (c := c) (cs := Cm.cells ⟨k, s, q, 0, 0, 0, 0, 0, [], []⟩)
  have l2 := CH_la (h := h) (c := c) (cs := Cm.cells ⟨k, s, q, 0, 0, 0, 0, 0, [], []⟩) (j := 3) rfl
  obtain ⟨r, hr⟩ : ∃ r, r = c.a % 4 := ⟨_, rfl⟩
  have t1 : (c.a : Int).tmod 4 = (r : Int) := by rw [hr]; exact u64mod c.a 4
  have st : ∀ a : Nat, storeA (CH h c (Cm.cells ⟨k, s, q, 0, 0, 0, 0, 0, [], []⟩)) 1 [.sc (.ptr (h.length + 2) 3 10)] [.sc (.int .u64 (a : Int))] = some ([], CH h c (Cm.cells ⟨k, s, q, a, 0, 0, 0, 0, [], []⟩)) := fun a => CH_put (h := h) (c := c) (cs := Cm.cells ⟨k, s, q, 0, 0, 0, 0, 0, [], []⟩) rfl (j := 3) (by omega) (.int .u64 (a : Int))
  by_cases hk : k = 2
  · have st := st r
    refine ⟨[(1, [.sc (.ptr h.length 0 10)]), (2, [.sc (.ptr (h.length + 1) 0 10)]), (3, [.sc (.ptr (h.length + 2) 0 10)]), (4, [.sc (.str (ofT k))])], r, runM fun R RO RD RT E => ?_, ⟨rfl, rfl, rfl, rfl⟩, by omega, fun hf => ?_⟩
    · generalize Cm.cells ⟨k, s, q, 0, 0, 0, 0, 0, [], []⟩ = cs at *
      generalize Cm.cells ⟨k, s, q, r, 0, 0, 0, 0, [], []⟩ = cs' at *
      generalize ofT k = o at *
      simp [M.a16, sqd, sqh, E.eqs, g1, g2, g3, g4, fx, fa, l0, l2, t1, st, hk]
    · rw [hk] at hf
      exact absurd hf (by decide)
  · cases hf : fl k 2
    · rw [hf] at q1
      refine ⟨[(1, [.sc (.ptr h.length 0 10)]), (2, [.sc (.ptr (h.length + 1) 0 10)]), (3, [.sc (.ptr (h.length + 2) 0 10)]), (4, [.sc (.str (ofT k))]), (33, [.sc (.bool false)])], 0, runM fun R RO RD RT E => ?_, ⟨rfl, rfl, rfl, rfl⟩, by omega, fun _ => rfl⟩
      generalize Cm.cells ⟨k, s, q, 0, 0, 0, 0, 0, [], []⟩ = cs at *
      generalize ofT k = o at *
      simp [M.a16, sqd, sqh, E.eqs, g1, g2, g3, g4, fx, fa, l0, q1, hk]
    · rw [hf] at q1
      obtain ⟨a, ha⟩ : ∃ a, a = 1 + r := ⟨_, rfl⟩
      have w1 : IntKind.u64.wrap (1 + (r : Int)) = (a : Int) := by rw [wu64 (by omega) (by omega)]; omega
      have st := st a
      refine ⟨[(1, [.sc (.ptr h.length 0 10)]), (2, [.sc (.ptr (h.length + 1) 0 10)]), (3, [.sc (.ptr (h.length + 2) 0 10)]), (4, [.sc (.str (ofT k))])], a, runM fun R RO RD RT E => ?_, ⟨rfl, rfl, rfl, rfl⟩, by omega, fun hf => by simp at hf⟩
      generalize Cm.cells ⟨k, s, q, 0, 0, 0, 0, 0, [], []⟩ = cs at *
      generalize Cm.cells ⟨k, s, q, a, 0, 0, 0, 0, [], []⟩ = cs' at *
      generalize ofT k = o at *
      simp [M.a16, sqd, sqh, E.eqs, g1, g2, g3, g4, fx, fa, l0, l2, t1, w1, q1, st, hk]

theorem it_b {e : Env} {k : Int} {s q a : Nat} (S : S4 e h k) : ∃ e' b, runE F O (sqh (sqd 5 M.a16.body)) e (CH h c (Cm.cells ⟨k, s, q, a, 0, 0, 0, 0, [], []⟩)) = some (.normal, e', CH h c (Cm.cells ⟨k, s, q, a, b, 0, 0, 0, [], []⟩)) ∧ S4 e' h k ∧ b < 18446744073709551616 ∧ (fl k 3 = false → b = 0) := by
  obtain ⟨g1, g2, g3, g4⟩ := S
  have hl : (ofT k).length < 1000 := by have := ofT_len k; omega
  have q1 := fun h => spec37 h (w := w_b) hl
  rw [has_b] at q1
  have fx := CH_fx (h := h) (c := c) (cs := Cm.cells ⟨k, s, q, a, 0, 0, 0, 0, [], []⟩) rfl
  have fa := CH_fa (h := h) (c := c) (cs := Cm.cells ⟨k, s, q, a, 0, 0, 0, 0, [], []⟩)
  have l2 := CH_la (h := h) (c := c) (cs := Cm.cells ⟨k, s, q, a, 0, 0, 0, 0, [], []⟩) (j := 4) rfl
  obtain ⟨r, hr⟩ : ∃ r, r = c.b % 4 := ⟨_, rfl⟩
  have t1 : (c.b : Int).tmod 4 = (r : Int) := by rw [hr]; exact u64mod c.b 4
  cases hf : fl k 3
  · rw [hf] at q1
    refine ⟨[(1, [.sc (.ptr h.length 0 10)]), (2, [.sc (.ptr (h.length + 1) 0 10)]), (3, [.sc (.ptr (h.length + 2) 0 10)]), (4, [.sc (.str (ofT k))]), (40, [.sc (.bool false)])], 0, runM fun R RO RD RT E => ?_, ⟨rfl, rfl, rfl, rfl⟩, by omega, fun _ => rfl⟩
    generalize Cm.cells ⟨k, s, q, a, 0, 0, 0, 0, [], []⟩ = cs at *
    generalize ofT k = o at *
    simp [M.a16, sqd, sqh, E.eqs, g1, g2, g3, g4, fx, fa, q1]
  · rw [hf] at q1
    obtain ⟨b, hb⟩ : ∃ b, b = 1 + r := ⟨_, rfl⟩
    have w1 : IntKind.u64.wrap (1 + (r : Int)) = (b : Int) := by rw [wu64 (by omega) (by omega)]; omega
    have st : storeA (CH h c (Cm.cells ⟨k, s, q, a, 0, 0, 0, 0, [], []⟩)) 1 [.sc (.ptr (h.length + 2) 4 10)] [.sc (.int .u64 (b : Int))] = some ([], CH h c (Cm.cells ⟨k, s, q, a, b, 0, 0, 0, [], []⟩)) := CH_put (h := h) (c := c) (cs := Cm.cells ⟨k, s, q, a, 0, 0, 0, 0, [], []⟩) rfl (j := 4) (by omega) (.int .u64 (b : Int))
    refine ⟨[(1, [.sc (.ptr h.length 0 10)]), (2, [.sc (.ptr (h.length + 1) 0 10)]), (3, [.sc (.ptr (h.length + 2) 0 10)]), (4, [.sc (.str (ofT k))])], b, runM fun R RO RD RT E => ?_, ⟨rfl, rfl, rfl, rfl⟩, by omega, fun hf => by simp at hf⟩
    generalize Cm.cells ⟨k, s, q, a, 0, 0, 0, 0, [], []⟩ = cs at *
    generalize Cm.cells ⟨k, s, q, a, b, 0, 0, 0, [], []⟩ = cs' at *
    generalize ofT k = o at *
    simp [M.a16, sqd, sqh, E.eqs, g1, g2, g3, g4, fx, fa, l2, t1, w1, q1, st]

theorem it_m {e : Env} {k : Int} {s q a b : Nat} (S : S4 e h k) (k1 : -9223372036854775808 ≤ c.sc) (k2 : c.sc < 9223372036854775808) : ∃ e' hi lo sc, runE F O (sqh (sqd 6 M.a16.body)) e (CH h c (Cm.cells ⟨k, s, q, a, b, 0, 0, 0, [], []⟩)) = some (.normal, e', CH h c (Cm.cells ⟨k, s, q, a, b, hi, lo, sc, [], []⟩)) ∧ S4 e' h k ∧ (-9223372036854775808 ≤ hi ∧ hi < 9223372036854775808 ∧ lo < 18446744073709551616) ∧ (fl k 4 = true → 0 ≤ sc ∧ sc ≤ 18) ∧ (fl k 4 = false → hi = 0 ∧ lo = 0 ∧ sc = 0) := by
  obtain ⟨g1, g2, g3, g4⟩ := S
  have hl : (ofT k).length < 1000 := by have := ofT_len k; omega
  have q1 := fun h => spec37 h (w := w_amount) hl
  rw [has_amount] at q1
  have fx := CH_fx (h := h) (c := c) (cs := Cm.cells ⟨k, s, q, a, b, 0, 0, 0, [], []⟩) rfl
  have fa := CH_fa (h := h) (c := c) (cs := Cm.cells ⟨k, s, q, a, b, 0, 0, 0, [], []⟩)
  have l2 := CH_la (h := h) (c := c) (cs := Cm.cells ⟨k, s, q, a, b, 0, 0, 0, [], []⟩) (j := 7) rfl
  obtain ⟨hi, lo, sc, qa, a1, a2, a3, a4, a5⟩ := spec38 k1 k2
  cases hf : fl k 4
  · rw [hf] at q1
    refine ⟨[(1, [.sc (.ptr h.length 0 10)]), (2, [.sc (.ptr (h.length + 1) 0 10)]), (3, [.sc (.ptr (h.length + 2) 0 10)]), (4, [.sc (.str (ofT k))]), (47, [.sc (.bool false)])], 0, 0, 0, runM fun R RO RD RT E => ?_, ⟨rfl, rfl, rfl, rfl⟩, by omega, fun hf => by simp at hf, fun _ => ⟨rfl, rfl, rfl⟩⟩
    generalize Cm.cells ⟨k, s, q, a, b, 0, 0, 0, [], []⟩ = cs at *
    generalize ofT k = o at *
    simp [M.a16, sqd, sqh, E.eqs, g1, g2, g3, g4, fx, fa, q1]
  · rw [hf] at q1
    have st : storeA (CH h c (Cm.cells ⟨k, s, q, a, b, 0, 0, 0, [], []⟩)) 3 [.sc (.ptr (h.length + 2) 5 10)] [.agg [.int .i64 hi, .int .u64 (lo : Int), .int .i64 sc]] = some ([], CH h c (Cm.cells ⟨k, s, q, a, b, hi, lo, sc, [], []⟩)) := CH_put3 (h := h) (c := c) (cs := Cm.cells ⟨k, s, q, a, b, 0, 0, 0, [], []⟩) rfl (.int .i64 hi) (.int .u64 (lo : Int)) (.int .i64 sc)
    refine ⟨[(1, [.sc (.ptr h.length 0 10)]), (2, [.sc (.ptr (h.length + 1) 0 10)]), (3, [.sc (.ptr (h.length + 2) 0 10)]), (4, [.sc (.str (ofT k))])], hi, lo, sc, runM fun R RO RD RT E => ?_, ⟨rfl, rfl, rfl, rfl⟩, ⟨a1, a2, a3⟩, fun _ => ⟨a4, a5⟩, fun hf => by simp at hf⟩
    generalize Cm.cells ⟨k, s, q, a, b, 0, 0, 0, [], []⟩ = cs at *
    generalize Cm.cells ⟨k, s, q, a, b, hi, lo, sc, [], []⟩ = cs' at *
    generalize ofT k = o at *
    simp [M.a16, sqd, sqh, E.eqs, g1, g2, g3, g4, fx, fa, l2, q1, qa, st]

theorem it_x {e : Env} {k hi sc : Int} {s q a b lo : Nat} (S : S4 e h k) : ∃ e' z, runE F O (sqh (sqd 7 M.a16.body)) e (CH h c (Cm.cells ⟨k, s, q, a, b, hi, lo, sc, [], []⟩)) = some (.normal, e', CH h c (Cm.cells ⟨k, s, q, a, b, hi, lo, sc, z, []⟩)) ∧ S4 e' h k ∧ (fl k 5 = true → nameB z = true) ∧ (fl k 5 = false → z = []) := by
  obtain ⟨g1, g2, g3, g4⟩ := S
  have hl : (ofT k).length < 1000 := by have := ofT_len k; omega
  have q1 := fun h => spec37 h (w := w_x) hl
  rw [has_x] at q1
  have fx := CH_fx (h := h) (c := c) (cs := Cm.cells ⟨k, s, q, a, b, hi, lo, sc, [], []⟩) rfl
  have fa := CH_fa (h := h) (c := c) (cs := Cm.cells ⟨k, s, q, a, b, hi, lo, sc, [], []⟩)
  have l2 := CH_la (h := h) (c := c) (cs := Cm.cells ⟨k, s, q, a, b, hi, lo, sc, [], []⟩) (j := 8) rfl
  have l3 := CH_la (h := h) (c := c) (cs := Cm.cells ⟨k, s, q, a, b, hi, lo, sc, [], []⟩) (j := 3) rfl
  obtain ⟨r, hr⟩ : ∃ r, r = c.a % 7 := ⟨_, rfl⟩
  have t1 : (c.a : Int).tmod 7 = (r : Int) := by rw [hr]; exact u64mod c.a 7
  have w1 : IntKind.i64.wrap (r : Int) = (r : Int) := wi64 (by omega) (by omega)
  obtain ⟨pk, p0, p1⟩ := pick_in ((c.x.length : Int) + (r : Int)) (m := 3) (by omega) (by omega)
  obtain ⟨n, hn⟩ : ∃ n, IntKind.i64.wrap ((c.x.length : Int) + (r : Int)) = n := ⟨_, rfl⟩
  rw [hn] at pk p0 p1
  have t0 : gText 0 0 = some [69, 85, 82] := rfl
  have t2 : gText 0 1 = some [74, 80, 89] := rfl
  have t3 : gText 0 2 = some [85, 83, 68] := rfl
  cases hf : fl k 5
  · rw [hf] at q1
    refine ⟨[(1, [.sc (.ptr h.length 0 10)]), (2, [.sc (.ptr (h.length + 1) 0 10)]), (3, [.sc (.ptr (h.length + 2) 0 10)]), (4, [.sc (.str (ofT k))]), (54, [.sc (.bool false)])], [], runM fun R RO RD RT E => ?_, ⟨rfl, rfl, rfl, rfl⟩, fun hf => by simp at hf, fun _ => rfl⟩
    generalize Cm.cells ⟨k, s, q, a, b, hi, lo, sc, [], []⟩ = cs at *
    generalize ofT k = o at *
    simp [M.a16, sqd, sqh, E.eqs, g1, g2, g3, g4, fx, fa, q1]
  · rw [hf] at q1
    have st : ∀ z : List UInt8, storeA (CH h c (Cm.cells ⟨k, s, q, a, b, hi, lo, sc, [], []⟩)) 1 [.sc (.ptr (h.length + 2) 8 10)] [.sc (.str z)] = some ([], CH h c (Cm.cells ⟨k, s, q, a, b, hi, lo, sc, z, []⟩)) := fun z => CH_put (h := h) (c := c) (cs := Cm.cells ⟨k, s, q, a, b, hi, lo, sc, [], []⟩) rfl (j := 8) (by omega) (.str z)
    generalize n % 3 = v at *
    rcases (by omega : v = 0 ∨ v = 1 ∨ v = 2) with rfl | rfl | rfl
    · have st := st [69, 85, 82]
      refine ⟨[(1, [.sc (.ptr h.length 0 10)]), (2, [.sc (.ptr (h.length + 1) 0 10)]), (3, [.sc (.ptr (h.length + 2) 0 10)]), (4, [.sc (.str (ofT k))])], [69, 85, 82], runM fun R RO RD RT E => ?_, ⟨rfl, rfl, rfl, rfl⟩, fun _ => by decide, fun hf => by simp at hf⟩
      generalize Cm.cells ⟨k, s, q, a, b, hi, lo, sc, [], []⟩ = cs at *
      generalize Cm.cells ⟨k, s, q, a, b, hi, lo, sc, [69, 85, 82], []⟩ = cs' at *
      generalize ofT k = o at *
      simp [M.a16, sqd, sqh, E.eqs, g1, g2, g3, g4, fx, fa, l2, l3, t1, w1, hn, pk, t0, t2, t3, q1, st]
    · have st := st [74, 80, 89]
      refine ⟨[(1, [.sc (.ptr h.length 0 10)]), (2, [.sc (.ptr (h.length + 1) 0 10)]), (3, [.sc (.ptr (h.length + 2) 0 10)]), (4, [.sc (.str (ofT k))])], [74, 80, 89], runM fun R RO RD RT E => ?_, ⟨rfl, rfl, rfl, rfl⟩, fun _ => by decide, fun hf => by simp at hf⟩
      generalize Cm.cells ⟨k, s, q, a, b, hi, lo, sc, [], []⟩ = cs at *
      generalize Cm.cells ⟨k, s, q, a, b, hi, lo, sc, [74, 80, 89], []⟩ = cs' at *
      generalize ofT k = o at *
      simp [M.a16, sqd, sqh, E.eqs, g1, g2, g3, g4, fx, fa, l2, l3, t1, w1, hn, pk, t0, t2, t3, q1, st]
    · have st := st [85, 83, 68]
      refine ⟨[(1, [.sc (.ptr h.length 0 10)]), (2, [.sc (.ptr (h.length + 1) 0 10)]), (3, [.sc (.ptr (h.length + 2) 0 10)]), (4, [.sc (.str (ofT k))])], [85, 83, 68], runM fun R RO RD RT E => ?_, ⟨rfl, rfl, rfl, rfl⟩, fun _ => by decide, fun hf => by simp at hf⟩
      generalize Cm.cells ⟨k, s, q, a, b, hi, lo, sc, [], []⟩ = cs at *
      generalize Cm.cells ⟨k, s, q, a, b, hi, lo, sc, [85, 83, 68], []⟩ = cs' at *
      generalize ofT k = o at *
      simp [M.a16, sqd, sqh, E.eqs, g1, g2, g3, g4, fx, fa, l2, l3, t1, w1, hn, pk, t0, t2, t3, q1, st]

theorem it_y {e : Env} {k hi sc : Int} {s q a b lo : Nat} {x : List UInt8} (S : S4 e h k) : ∃ e' z, runE F O (sqh (sqd 8 M.a16.body)) e (CH h c (Cm.cells ⟨k, s, q, a, b, hi, lo, sc, x, []⟩)) = some (.normal, e', CH h c (Cm.cells ⟨k, s, q, a, b, hi, lo, sc, x, z⟩)) ∧ (e'.get 2 = [.sc (.ptr (h.length + 1) 0 10)] ∧ e'.get 3 = [.sc (.ptr (h.length + 2) 0 10)]) ∧ (fl k 6 = true → nameB z = true) ∧ (fl k 6 = false → z = []) := by
  obtain ⟨g1, g2, g3, g4⟩ := S
  have hl : (ofT k).length < 1000 := by have := ofT_len k; omega
  have q1 := fun h => spec37 h (w := w_y) hl
  rw [has_y] at q1
  have fx := CH_fx (h := h) (c := c) (cs := Cm.cells ⟨k, s, q, a, b, hi, lo, sc, x, []⟩) rfl
  have fa := CH_fa (h := h) (c := c) (cs := Cm.cells ⟨k, s, q, a, b, hi, lo, sc, x, []⟩)
  have l2 := CH_la (h := h) (c := c) (cs := Cm.cells ⟨k, s, q, a, b, hi, lo, sc, x, []⟩) (j := 9) rfl
  have l3 := CH_la (h := h) (c := c) (cs := Cm.cells ⟨k, s, q, a, b, hi, lo, sc, x, []⟩) (j := 4) rfl
  obtain ⟨r, hr⟩ : ∃ r, r = c.b % 7 := ⟨_, rfl⟩
  have t1 : (c.b : Int).tmod 7 = (r : Int) := by rw [hr]; exact u64mod c.b 7
  have w1 : IntKind.i64.wrap (r : Int) = (r : Int) := wi64 (by omega) (by omega)
  obtain ⟨pk, p0, p1⟩ := pick_in ((c.y.length : Int) + (r : Int)) (m := 3) (by omega) (by omega)
  obtain ⟨n, hn⟩ : ∃ n, IntKind.i64.wrap ((c.y.length : Int) + (r : Int)) = n := ⟨_, rfl⟩
  rw [hn] at pk p0 p1
  have t0 : gText 0 0 = some [69, 85, 82] := rfl
  have t2 : gText 0 1 = some [74, 80, 89] := rfl
  have t3 : gText 0 2 = some [85, 83, 68] := rfl
  cases hf : fl k 6
  · rw [hf] at q1
    refine ⟨[(1, [.sc (.ptr h.length 0 10)]), (2, [.sc (.ptr (h.length + 1) 0 10)]), (3, [.sc (.ptr (h.length + 2) 0 10)]), (68, [.sc (.bool false)])], [], runM fun R RO RD RT E => ?_, ⟨rfl, rfl⟩, fun hf => by simp at hf, fun _ => rfl⟩
    generalize Cm.cells ⟨k, s, q, a, b, hi, lo, sc, x, []⟩ = cs at *
    generalize ofT k = o at *
    simp [M.a16, sqd, sqh, E.eqs, g1, g2, g3, g4, fx, fa, q1]
  · rw [hf] at q1
    have st : ∀ z : List UInt8, storeA (CH h c (Cm.cells ⟨k, s, q, a, b, hi, lo, sc, x, []⟩)) 1 [.sc (.ptr (h.length + 2) 9 10)] [.sc (.str z)] = some ([], CH h c (Cm.cells ⟨k, s, q, a, b, hi, lo, sc, x, z⟩)) := fun z => CH_put (h := h) (c := c) (cs := Cm.cells ⟨k, s, q, a, b, hi, lo, sc, x, []⟩) rfl (j := 9) (by omega) (.str z)
    generalize n % 3 = v at *
    rcases (by omega : v = 0 ∨ v = 1 ∨ v = 2) with rfl | rfl | rfl
    · have st := st [69, 85, 82]
      refine ⟨[(2, [.sc (.ptr (h.length + 1) 0 10)]), (3, [.sc (.ptr (h.length + 2) 0 10)])], [69, 85, 82], runM fun R RO RD RT E => ?_, ⟨rfl, rfl⟩, fun _ => by decide, fun hf => by simp at hf⟩
      generalize Cm.cells ⟨k, s, q, a, b, hi, lo, sc, x, []⟩ = cs at *
      generalize Cm.cells ⟨k, s, q, a, b, hi, lo, sc, x, [69, 85, 82]⟩ = cs' at *
      generalize ofT k = o at *
      simp [M.a16, sqd, sqh, E.eqs, g1, g2, g3, g4, fx, fa, l2, l3, t1, w1, hn, pk, t0, t2, t3, q1, st]
    · have st := st [74, 80, 89]
      refine ⟨[(2, [.sc (.ptr (h.length + 1) 0 10)]), (3, [.sc (.ptr (h.length + 2) 0 10)])], [74, 80, 89], runM fun R RO RD RT E => ?_, ⟨rfl, rfl⟩, fun _ => by decide, fun hf => by simp at hf⟩
      generalize Cm.cells ⟨k, s, q, a, b, hi, lo, sc, x, []⟩ = cs at *
      generalize Cm.cells ⟨k, s, q, a, b, hi, lo, sc, x, [74, 80, 89]⟩ = cs' at *
      generalize ofT k = o at *
      simp [M.a16, sqd, sqh, E.eqs, g1, g2, g3, g4, fx, fa, l2, l3, t1, w1, hn, pk, t0, t2, t3, q1, st]
    · have st := st [85, 83, 68]
      refine ⟨[(2, [.sc (.ptr (h.length + 1) 0 10)]), (3, [.sc (.ptr (h.length + 2) 0 10)])], [85, 83, 68], runM fun R RO RD RT E => ?_, ⟨rfl, rfl⟩, fun _ => by decide, fun hf => by simp at hf⟩
      generalize Cm.cells ⟨k, s, q, a, b, hi, lo, sc, x, []⟩ = cs at *
      generalize Cm.cells ⟨k, s, q, a, b, hi, lo, sc, x, [85, 83, 68]⟩ = cs' at *
      generalize ofT k = o at *
      simp [M.a16, sqd, sqh, E.eqs, g1, g2, g3, g4, fx, fa, l2, l3, t1, w1, hn, pk, t0, t2, t3, q1, st]
end
end Go.Proofs.YtoghoddofokekaaDoor
