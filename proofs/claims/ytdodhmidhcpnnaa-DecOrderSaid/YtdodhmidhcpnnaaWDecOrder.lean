/- DecOrder: the law's call says true, of any three decimals. -/
import Derived.Test.YtdodhmidhcpnnaaD6
set_option linter.unusedVariables false
set_option linter.unusedSimpArgs false
set_option maxRecDepth 100000
namespace Go.Proofs.Ytdodhmidhcpnnaa.lawDecOrder
open Go.Abs

/-- what is added to both turns nothing of which is greater -/
theorem order {a b c s t u n1 m1 n2 m2 : Int} (h1 : bothR false a s c u = [Dc n1 m1, .sc (.int .i64 0)]) (h2 : bothR false b t c u = [Dc n2 m2, .sc (.int .i64 0)]) (i1 : InW n1) (i2 : InW n2) : cmpV n1 m1 n2 m2 = cmpV a s b t := by
  obtain ⟨s1, u1, _, _, e1, x1⟩ := bothR_ok h1
  obtain ⟨t1, _, _, _, e2, x2⟩ := bothR_ok h2
  rw [h1] at e1
  rw [h2] at e2
  simp only [Bool.false_eq_true, if_false, List.cons.injEq, AV.agg.injEq, and_true] at e1 e2 x1 x2
  have dc : ∀ {n s n' s' : Int}, InW n → InW n' → dC n s = dC n' s' → n = n' ∧ s = s' := fun ha hb h => by
    unfold dC at h
    simp only [List.cons.injEq, SV.int.injEq, true_and, and_true] at h
    unfold InW at ha hb
    omega
  obtain ⟨en1, em1⟩ := dc i1 x1 e1
  obtain ⟨en2, em2⟩ := dc i2 x2 e2
  obtain ⟨s0, s18⟩ := rgt_iff.1 s1
  obtain ⟨t0, t18⟩ := rgt_iff.1 t1
  obtain ⟨u0, u18⟩ := rgt_iff.1 u1
  obtain ⟨p1, p2, p3⟩ := mxS_of s u
  obtain ⟨q1, q2, q3⟩ := mxS_of t u
  have rm1 : rgt m1 = true := rgt_iff.2 (by omega)
  have rm2 : rgt m2 = true := rgt_iff.2 (by omega)
  unfold cmpV
  rw [if_pos ⟨rm1, rm2⟩, if_pos ⟨s1, t1⟩, en1, en2]
  rw [← em1] at p1 p2 p3 ⊢
  rw [← em2] at q1 q2 q3 ⊢
  obtain ⟨w1, w2, w3⟩ := mxS_of m1 m2
  obtain ⟨v1, v2, v3⟩ := mxS_of s t
  generalize mxS m1 m2 = M at *
  generalize mxS s t = m at *
  rw [fin_add, fin_add, fin_fin a (by omega) (by omega), fin_fin c (by omega) (by omega), fin_fin b (by omega) (by omega), fin_fin c (by omega) (by omega)]
  have k1 : m1 - s + (M - m1) = m - s + (M - m) := by omega
  have k2 : m2 - t + (M - m2) = m - t + (M - m) := by omega
  have k3 : m1 - u + (M - m1) = m2 - u + (M - m2) := by omega
  rw [k1, k2, k3, ← fin_fin a (by omega) (by omega), ← fin_fin b (by omega) (by omega)]
  rw [← sgn_fin (fin a (m - s) - fin b (m - t)) (M - m), fin_sub]
  congr 1
  omega
theorem bothR_in {sub : Bool} {a s b t : Int} : ∃ n m e : Int, bothR sub a s b t = [Dc n m, .sc (.int .i64 e)] ∧ InW n := by
  unfold bothR
  split
  · split
    · exact ⟨_, _, _, rfl, inW_okC _⟩
    · exact ⟨0, 0, 20, rfl, inW_zero⟩
  · exact ⟨0, 0, 21, rfl, inW_zero⟩

set_option maxHeartbeats 4000000 in
theorem core {H : Type} (h : Heap) (tvs : List TV) (ds : List (DataW H)) (hr : AllRo h) (hi : Ins Try.prog h 6 [26, 26, 26, 3] tvs ds) : ∃ h', callE F O 11 tvs h = some ([.sc (.bool true)], h') := by
  obtain ⟨tv, d, tvs, ds, rfl, rfl, h1, hi⟩ := ins_cons hi
  obtain ⟨tv2, d2, tvs, ds, rfl, rfl, h2, hi⟩ := ins_cons hi
  obtain ⟨tv4, d4, tvs, ds, rfl, rfl, h4, hi⟩ := ins_cons hi
  obtain ⟨tv3, d3, rfl, rfl, h3⟩ := ins_one hi
  obtain ⟨a, s0, rfl, ha, hs1, hs2⟩ := in_dec h1
  obtain ⟨b, t0, rfl, hb, ht1, ht2⟩ := in_dec h2
  obtain ⟨c, u0, rfl, hc, hu1, hu2⟩ := in_dec h4
  obtain ⟨k0, rfl, hk1, hk2⟩ := in_int h3
  have n1 := fun h => spec17 h a true hs1 hs2
  have n2 := fun h => spec17 h b true ht1 ht2
  have n3 := fun h => spec17 h c true hu1 hu2
  have kn := spec20
  have pk := fun h => spec16 h (n := k0) (m := 19) (by omega) (by omega) hk1 hk2
  have z19 : ((19 : Nat) : Int) = 19 := rfl
  generalize nearS true s0 = s at *
  generalize nearS true t0 = t at *
  generalize nearS true u0 = u at *
  have a1 := fun h => spec23 h (s := s) (t := t) ha hb
  have a2 := fun h => spec23 h (s := t) (t := s) hb ha
  rw [bothR_comm b t a s] at a2
  have m1 := fun h => spec18 h (s := s) (t := t) (to := k0 % 19) ha hb
  have m2 := fun h => spec18 h (s := t) (t := s) (to := k0 % 19) hb ha
  rw [mulR_comm b t a s] at m2
  have a3 := fun h => spec23 h (s := s) (t := u) ha hc
  have a4 := fun h => spec23 h (s := t) (t := u) hb hc
  have c1 := fun h => spec46 h (s := s) (t := t) ha hb
  obtain ⟨x1, x2, x3, hx⟩ := bothR_form false a s b t
  obtain ⟨y1, y2, y3, hy⟩ := mulR_form a s b t (k0 % 19)
  obtain ⟨p1, p2, p3, hp, hpi⟩ := bothR_in (sub := false) (a := a) (s := s) (b := c) (t := u)
  obtain ⟨q1, q2, q3, hq, hqi⟩ := bothR_in (sub := false) (a := b) (s := t) (b := c) (t := u)
  have c2 := fun h => spec46 h (s := p2) (t := q2) hpi hqi
  rw [hx] at a1 a2
  rw [hy] at m1 m2
  rw [hp] at a3
  rw [hq] at a4
  have key : ¬ p3 = 0 ∨ (p3 = 0 ∧ ¬ q3 = 0) ∨ (p3 = 0 ∧ q3 = 0 ∧ cmpV p1 p2 q1 q2 = cmpV a s b t) := by
    by_cases e1 : p3 = 0
    · by_cases e2 : q3 = 0
      · subst e1 e2
        exact .inr (.inr ⟨rfl, rfl, order hp hq hpi hqi⟩)
      · exact .inr (.inl ⟨e1, e2⟩)
    · exact .inl e1
  refine ⟨h, callX rfl (by rfl : F 11 = some M.a11) (fun R RO RD RT E => ?_)⟩
  clear h1 h2 h3 h4 ha hb hc hx hy hp hq hpi hqi
  generalize cmpV a s b t = v at *
  generalize cmpV p1 p2 q1 q2 = v2 at *
  generalize cmpE p2 q2 = v3 at *
  generalize cmpE s t = v4 at *
  generalize k0 % 19 = k at *
  rcases key with e1 | ⟨rfl, e2⟩ | ⟨rfl, rfl, rfl⟩
  · simp [M.a11, E.eqs, zero_dC, n1, n2, n3, pk, a1, a2, a3, a4, m1, m2, c1, c2, e1, kn, fldA, freshB, loadA, storeA, trim_pure, pureT, pureV, pureS]
  · simp [M.a11, E.eqs, zero_dC, n1, n2, n3, pk, a1, a2, a3, a4, m1, m2, c1, c2, e2, kn, fldA, freshB, loadA, storeA, trim_pure, pureT, pureV, pureS]
  · simp [M.a11, E.eqs, zero_dC, n1, n2, n3, pk, a1, a2, a3, a4, m1, m2, c1, c2, kn, fldA, freshB, loadA, storeA, trim_pure, pureT, pureV, pureS]
end Go.Proofs.Ytdodhmidhcpnnaa.lawDecOrder
