/- Chapter 3: sums, differences, what is negated: both ways. -/
import Derived.Test.YtdodhmidhcpnnaaD1
set_option linter.unusedVariables false
set_option linter.unusedSimpArgs false
set_option maxRecDepth 100000
namespace Go.Proofs.Ytdodhmidhcpnnaa
open Go.Abs

/-- the greater scale -/
def mxS (s t : Int) : Int := if s < t then t else s
theorem mxS_of (s t : Int) : s ≤ mxS s t ∧ t ≤ mxS s t ∧ (mxS s t = s ∨ mxS s t = t) := by unfold mxS; split <;> omega
/-- what two at the greater scale are, and what is wrong -/
def bothR (sub : Bool) (a s b t : Int) : TV :=
  if rgt s = true ∧ rgt t = true then (if InW (fin a (mxS s t - s)) ∧ InW (fin b (mxS s t - t)) then okD (if sub then fin a (mxS s t - s) - fin b (mxS s t - t) else fin a (mxS s t - s) + fin b (mxS s t - t)) (mxS s t) else [Dc 0 0, .sc (.int .i64 20)])
  else [Dc 0 0, .sc (.int .i64 21)]
theorem bothR_form (sub : Bool) (a s b t : Int) : ∃ n m e : Int, bothR sub a s b t = [Dc n m, .sc (.int .i64 e)] := by
  unfold bothR
  split
  · split
    · exact ⟨_, _, _, rfl⟩
    · exact ⟨0, 0, 20, rfl⟩
  · exact ⟨0, 0, 21, rfl⟩
def negR (a s : Int) : TV := if rgt s = true then okD (-a) s else [Dc 0 0, .sc (.int .i64 21)]
theorem negR_form (a s : Int) : ∃ n m e : Int, negR a s = [Dc n m, .sc (.int .i64 e)] := by
  unfold negR
  split
  · exact ⟨_, _, _, rfl⟩
  · exact ⟨0, 0, 21, rfl⟩
theorem okW_in' {n : Int} (h : InW n) : okW n = [W n, .sc (.int .i64 0)] := by unfold okW okC okE; rw [if_pos h, if_pos h]
theorem okW_out' {n : Int} (h : ¬ InW n) : okW n = [W 0, .sc (.int .i64 20)] := by unfold okW okC okE; rw [if_neg h, if_neg h]

set_option maxHeartbeats 2000000 in
theorem spec60 (h : Heap) (sub : Bool) {a s b t : Int} (ha : InW a) (hb : InW b) : call 60 [[Dc a s], [Dc b t], [.sc (.int .i64 (if sub then 1 else 0))]] h = some (bothR sub a s b t, h) := by
  have r1 := fun h => spec29 h a s
  have r2 := fun h => spec29 h b t
  unfold bothR
  by_cases hs : rgt s = true ∧ rgt t = true
  · rw [if_pos hs]
    obtain ⟨q1, q2⟩ := hs
    obtain ⟨s0, s1⟩ := rgt_iff.1 q1
    obtain ⟨t0, t1⟩ := rgt_iff.1 q2
    obtain ⟨m1, m2, m3⟩ := mxS_of s t
    have mx : (if s < t then t else s) = mxS s t := rfl
    generalize mxS s t = m at *
    have f1 := fun h => spec55 h (n := a) (k := m - s) ha (by omega) (by omega)
    have f2 := fun h => spec55 h (n := b) (k := m - t) hb (by omega) (by omega)
    have w1 : IntKind.i64.wrap (m - s) = m - s := wi64 (by omega) (by omega)
    have w2 : IntKind.i64.wrap (m - t) = m - t := wi64 (by omega) (by omega)
    generalize fin a (m - s) = x at *
    generalize fin b (m - t) = y at *
    rw [q1] at r1
    rw [q2] at r2
    refine callX rfl (by rfl : F 60 = some M.a60) (fun R RO RD RT E => ?_)
    clear s0 s1 t0 t1 m1 m2 m3 ha hb
    by_cases hx : InW x
    · rw [okW_in' hx] at f1
      by_cases hy : InW y
      · rw [okW_in' hy] at f2
        rw [if_pos (show InW x ∧ InW y from ⟨hx, hy⟩)]
        have s3 := fun h => spec41 h hx hy
        have s4 := fun h => spec40 h hx hy
        cases sub
        · by_cases hz : InW (x + y)
          · rw [okW_in' hz] at s3
            simp only [Bool.false_eq_true, if_false]
            rw [okD_in hz]
            generalize x + y = z at *
            simp [M.a60, E.eqs, zero_dC, wC_zero, r1, r2, mx, w1, w2, f1, f2, s3, fldA, freshB, loadA, storeA, nilckA, trim_pure, pureT, pureV, pureS]
          · rw [okW_out' hz] at s3
            simp only [Bool.false_eq_true, if_false]
            rw [okD_out hz]
            generalize x + y = z at *
            simp [M.a60, E.eqs, zero_dC, wC_zero, r1, r2, mx, w1, w2, f1, f2, s3, fldA, freshB, loadA, storeA, nilckA, trim_pure, pureT, pureV, pureS]
        · by_cases hz : InW (x - y)
          · rw [okW_in' hz] at s4
            simp only [if_true]
            rw [okD_in hz]
            generalize x - y = z at *
            simp [M.a60, E.eqs, zero_dC, wC_zero, r1, r2, mx, w1, w2, f1, f2, s4, fldA, freshB, loadA, storeA, nilckA, trim_pure, pureT, pureV, pureS]
          · rw [okW_out' hz] at s4
            simp only [if_true]
            rw [okD_out hz]
            generalize x - y = z at *
            simp [M.a60, E.eqs, zero_dC, wC_zero, r1, r2, mx, w1, w2, f1, f2, s4, fldA, freshB, loadA, storeA, nilckA, trim_pure, pureT, pureV, pureS]
      · rw [okW_out' hy] at f2
        rw [if_neg (show ¬ (InW x ∧ InW y) from fun c => hy c.2)]
        simp [M.a60, E.eqs, zero_dC, wC_zero, r1, r2, mx, w1, w2, f1, f2, fldA, freshB, loadA, storeA, nilckA, trim_pure, pureT, pureV, pureS]
    · rw [okW_out' hx] at f1
      rw [if_neg (show ¬ (InW x ∧ InW y) from fun c => hx c.1)]
      generalize okC y = y' at *
      generalize okE y = y'' at *
      simp [M.a60, E.eqs, zero_dC, wC_zero, r1, r2, mx, w1, w2, f1, f2, fldA, freshB, loadA, storeA, nilckA, trim_pure, pureT, pureV, pureS]
  · rw [if_neg hs]
    refine callX rfl (by rfl : F 60 = some M.a60) (fun R RO RD RT E => ?_)
    by_cases c1 : rgt s = true
    · have c2 : rgt t = false := by
        cases hq : rgt t
        · rfl
        · exact absurd ⟨c1, hq⟩ hs
      rw [c1] at r1
      rw [c2] at r2
      simp [M.a60, E.eqs, zero_dC, r1, r2, fldA, freshB, loadA, storeA, trim_pure, pureT, pureV, pureS]
    · have c1 : rgt s = false := by simpa using c1
      rw [c1] at r1
      simp [M.a60, E.eqs, zero_dC, r1, fldA, freshB, loadA, storeA, trim_pure, pureT, pureV, pureS]

theorem spec23 (h : Heap) {a s b t : Int} (ha : InW a) (hb : InW b) : call 23 [[Dc a s], [Dc b t]] h = some (bothR false a s b t, h) := by
  have s1 := fun h => spec60 h false (s := s) (t := t) ha hb
  simp only [Bool.false_eq_true, if_false] at s1
  obtain ⟨n, m, e, hf⟩ := bothR_form false a s b t
  rw [hf] at s1 ⊢
  refine callX rfl (by rfl : F 23 = some M.a23) (fun R RO RD RT E => ?_)
  simp [M.a23, E.eqs, zero_dC, s1, freshB, loadA, storeA, trim_pure, pureT, pureV, pureS]
theorem spec25 (h : Heap) {a s b t : Int} (ha : InW a) (hb : InW b) : call 25 [[Dc a s], [Dc b t]] h = some (bothR true a s b t, h) := by
  have s1 := fun h => spec60 h true (s := s) (t := t) ha hb
  simp only [if_true] at s1
  obtain ⟨n, m, e, hf⟩ := bothR_form true a s b t
  rw [hf] at s1 ⊢
  refine callX rfl (by rfl : F 25 = some M.a25) (fun R RO RD RT E => ?_)
  simp [M.a25, E.eqs, zero_dC, s1, freshB, loadA, storeA, trim_pure, pureT, pureV, pureS]
theorem spec27 (h : Heap) {a s : Int} (ha : InW a) : call 27 [[Dc a s]] h = some (negR a s, h) := by
  have r1 := fun h => spec29 h a s
  have s1 := fun h => spec43 h ha
  unfold negR
  refine callX rfl (by rfl : F 27 = some M.a27) (fun R RO RD RT E => ?_)
  by_cases c1 : rgt s = true
  · rw [if_pos c1]
    rw [c1] at r1
    by_cases hz : InW (-a)
    · rw [okW_in' hz] at s1
      rw [okD_in hz]
      generalize -a = z at *
      simp [M.a27, E.eqs, zero_dC, wC_zero, r1, s1, fldA, freshB, loadA, storeA, trim_pure, pureT, pureV, pureS]
    · rw [okW_out' hz] at s1
      rw [okD_out hz]
      simp [M.a27, E.eqs, zero_dC, wC_zero, r1, s1, fldA, freshB, loadA, storeA, trim_pure, pureT, pureV, pureS]
  · rw [if_neg c1]
    have c1 : rgt s = false := by simpa using c1
    rw [c1] at r1
    simp [M.a27, E.eqs, zero_dC, r1, fldA, freshB, loadA, storeA, trim_pure, pureT, pureV, pureS]
theorem spec28 (h : Heap) {a s : Int} (ha : InW a) : call 28 [[Dc a s]] h = some (negR a s, h) := by
  have r1 := fun h => spec30 h a s
  have s1 := fun h => spec59 h ha
  have s2 := fun h => spec64 h ha.big
  have s3 := fun h => spec56 h s ha.big.neg
  unfold negR
  refine callX rfl (by rfl : F 28 = some M.a28) (fun R RO RD RT E => ?_)
  by_cases c1 : rgt s = true
  · rw [if_pos c1]
    rw [c1] at r1
    generalize okC (-a) = z1 at *
    generalize (if InW (-a) then s else 0) = z2 at *
    generalize okE (-a) = z3 at *
    simp [M.a28, E.eqs, zero_dC, wC_zero, r1, s1, s2, s3, fldA, freshB, loadA, storeA, trim_pure, pureT, pureV, pureS]
  · rw [if_neg c1]
    have c1 : rgt s = false := by simpa using c1
    rw [c1] at r1
    simp [M.a28, E.eqs, zero_dC, r1, fldA, freshB, loadA, storeA, trim_pure, pureT, pureV, pureS]

theorem InB.two {x y : Int} (hx : InW x) (hy : InW y) : InB x ∧ InB y ∧ InB (x + y) ∧ InB (x - y) ∧ InB (x + -y) := ⟨hx.big, hy.big, (hx.big2 hy).1, (hx.big2 hy).2, by rw [← Int.sub_eq_add_neg]; exact (hx.big2 hy).2⟩

set_option maxHeartbeats 2000000 in
theorem spec24 (h : Heap) {a s b t : Int} (ha : InW a) (hb : InW b) : call 24 [[Dc a s], [Dc b t]] h = some (bothR false a s b t, h) := by
  have r1 := fun h => spec30 h a s
  have r2 := fun h => spec30 h b t
  unfold bothR
  by_cases hs : rgt s = true ∧ rgt t = true
  · rw [if_pos hs]
    obtain ⟨q1, q2⟩ := hs
    obtain ⟨s0, s1⟩ := rgt_iff.1 q1
    obtain ⟨t0, t1⟩ := rgt_iff.1 q2
    obtain ⟨m1, m2, m3⟩ := mxS_of s t
    have mx : (if s < t then t else s) = mxS s t := rfl
    generalize mxS s t = m at *
    have f1 := fun h => spec61 h (n := a) (s := s) (t := m) ha s0 m1 (by omega)
    have f2 := fun h => spec61 h (n := b) (s := t) (t := m) hb t0 m2 (by omega)
    have b1 := fin_big (k := m - s) ha (by omega) (by omega)
    have b2 := fin_big (k := m - t) hb (by omega) (by omega)
    generalize fin a (m - s) = x at *
    generalize fin b (m - t) = y at *
    have g1 := fun h => spec62 h b1
    have g2 := fun h => spec62 h b2
    rw [q1] at r1
    rw [q2] at r2
    refine callX rfl (by rfl : F 24 = some M.a24) (fun R RO RD RT E => ?_)
    obtain ⟨p1, u1, g1, _⟩ := g1 (h ++ [⟨.var, dC a s⟩, ⟨.var, dC b t⟩, ⟨.var, dC 0 0⟩, ⟨.var, bigC x⟩, ⟨.var, bigC y⟩])
    obtain ⟨p2, u2, g2, _⟩ := g2 (h ++ [⟨.var, dC a s⟩, ⟨.var, dC b t⟩, ⟨.var, dC 0 0⟩, ⟨.var, bigC x⟩, ⟨.var, bigC y⟩, ⟨.var, [.int .i64 p1, .int .u64 u1]⟩])
    clear s0 s1 t0 t1 m1 m2 m3 ha hb
    by_cases hx : InW x
    · rw [decide_eq_true hx] at g1
      by_cases hy : InW y
      · rw [decide_eq_true hy] at g2
        rw [if_pos (show InW x ∧ InW y from ⟨hx, hy⟩)]
        have s3 := fun h => spec63 h b1 b2
        have s4 := fun h => spec56 h m (InB.two hx hy).2.2.1
        simp only [Bool.false_eq_true, if_false]
        generalize x + y = z at *
        generalize okC z = z1 at *
        generalize (if InW z then m else 0) = z2 at *
        generalize okE z = z3 at *
        simp [M.a24, E.eqs, zero_dC, zeros_big, r1, r2, mx, f1, f2, g1, g2, s3, s4, fldA, freshB, loadA, storeA, trim_pure, pureT, pureV, pureS]
      · rw [decide_eq_false hy] at g2
        rw [if_neg (show ¬ (InW x ∧ InW y) from fun c => hy c.2)]
        simp [M.a24, E.eqs, zero_dC, zeros_big, r1, r2, mx, f1, f2, g1, g2, fldA, freshB, loadA, storeA, trim_pure, pureT, pureV, pureS]
    · rw [decide_eq_false hx] at g1
      rw [if_neg (show ¬ (InW x ∧ InW y) from fun c => hx c.1)]
      generalize decide (InW y) = dy at *
      simp [M.a24, E.eqs, zero_dC, zeros_big, r1, r2, mx, f1, f2, g1, g2, fldA, freshB, loadA, storeA, trim_pure, pureT, pureV, pureS]
  · rw [if_neg hs]
    refine callX rfl (by rfl : F 24 = some M.a24) (fun R RO RD RT E => ?_)
    by_cases c1 : rgt s = true
    · have c2 : rgt t = false := by
        cases hq : rgt t
        · rfl
        · exact absurd ⟨c1, hq⟩ hs
      rw [c1] at r1
      rw [c2] at r2
      simp [M.a24, E.eqs, zero_dC, r1, r2, fldA, freshB, loadA, storeA, trim_pure, pureT, pureV, pureS]
    · have c1 : rgt s = false := by simpa using c1
      rw [c1] at r1
      simp [M.a24, E.eqs, zero_dC, r1, fldA, freshB, loadA, storeA, trim_pure, pureT, pureV, pureS]

set_option maxHeartbeats 2000000 in
theorem spec26 (h : Heap) {a s b t : Int} (ha : InW a) (hb : InW b) : call 26 [[Dc a s], [Dc b t]] h = some (bothR true a s b t, h) := by
  have r1 := fun h => spec30 h a s
  have r2 := fun h => spec30 h b t
  unfold bothR
  by_cases hs : rgt s = true ∧ rgt t = true
  · rw [if_pos hs]
    obtain ⟨q1, q2⟩ := hs
    obtain ⟨s0, s1⟩ := rgt_iff.1 q1
    obtain ⟨t0, t1⟩ := rgt_iff.1 q2
    obtain ⟨m1, m2, m3⟩ := mxS_of s t
    have mx : (if s < t then t else s) = mxS s t := rfl
    generalize mxS s t = m at *
    have f1 := fun h => spec61 h (n := a) (s := s) (t := m) ha s0 m1 (by omega)
    have f2 := fun h => spec61 h (n := b) (s := t) (t := m) hb t0 m2 (by omega)
    have b1 := fin_big (k := m - s) ha (by omega) (by omega)
    have b2 := fin_big (k := m - t) hb (by omega) (by omega)
    generalize fin a (m - s) = x at *
    generalize fin b (m - t) = y at *
    have g1 := fun h => spec62 h b1
    have g2 := fun h => spec62 h b2
    rw [q1] at r1
    rw [q2] at r2
    refine callX rfl (by rfl : F 26 = some M.a26) (fun R RO RD RT E => ?_)
    obtain ⟨p1, u1, g1, _⟩ := g1 (h ++ [⟨.var, dC a s⟩, ⟨.var, dC b t⟩, ⟨.var, dC 0 0⟩, ⟨.var, bigC x⟩, ⟨.var, bigC y⟩])
    obtain ⟨p2, u2, g2, _⟩ := g2 (h ++ [⟨.var, dC a s⟩, ⟨.var, dC b t⟩, ⟨.var, dC 0 0⟩, ⟨.var, bigC x⟩, ⟨.var, bigC y⟩, ⟨.var, [.int .i64 p1, .int .u64 u1]⟩])
    clear s0 s1 t0 t1 m1 m2 m3 ha hb
    by_cases hx : InW x
    · rw [decide_eq_true hx] at g1
      by_cases hy : InW y
      · rw [decide_eq_true hy] at g2
        rw [if_pos (show InW x ∧ InW y from ⟨hx, hy⟩)]
        have s3 := fun h => spec63 h b1 b2.neg
        have s5 := fun h => spec64 h b2
        have s4 := fun h => spec56 h m (InB.two hx hy).2.2.2.1
        simp only [if_true]
        rw [← Int.sub_eq_add_neg] at s3
        generalize x - y = z at *
        generalize okC z = z1 at *
        generalize (if InW z then m else 0) = z2 at *
        generalize okE z = z3 at *
        simp [M.a26, E.eqs, zero_dC, zeros_big, r1, r2, mx, f1, f2, g1, g2, s3, s4, s5, fldA, freshB, loadA, storeA, trim_pure, pureT, pureV, pureS]
      · rw [decide_eq_false hy] at g2
        rw [if_neg (show ¬ (InW x ∧ InW y) from fun c => hy c.2)]
        simp [M.a26, E.eqs, zero_dC, zeros_big, r1, r2, mx, f1, f2, g1, g2, fldA, freshB, loadA, storeA, trim_pure, pureT, pureV, pureS]
    · rw [decide_eq_false hx] at g1
      rw [if_neg (show ¬ (InW x ∧ InW y) from fun c => hx c.1)]
      generalize decide (InW y) = dy at *
      simp [M.a26, E.eqs, zero_dC, zeros_big, r1, r2, mx, f1, f2, g1, g2, fldA, freshB, loadA, storeA, trim_pure, pureT, pureV, pureS]
  · rw [if_neg hs]
    refine callX rfl (by rfl : F 26 = some M.a26) (fun R RO RD RT E => ?_)
    by_cases c1 : rgt s = true
    · have c2 : rgt t = false := by
        cases hq : rgt t
        · rfl
        · exact absurd ⟨c1, hq⟩ hs
      rw [c1] at r1
      rw [c2] at r2
      simp [M.a26, E.eqs, zero_dC, r1, r2, fldA, freshB, loadA, storeA, trim_pure, pureT, pureV, pureS]
    · have c1 : rgt s = false := by simpa using c1
      rw [c1] at r1
      simp [M.a26, E.eqs, zero_dC, r1, fldA, freshB, loadA, storeA, trim_pure, pureT, pureV, pureS]
end Go.Proofs.Ytdodhmidhcpnnaa
