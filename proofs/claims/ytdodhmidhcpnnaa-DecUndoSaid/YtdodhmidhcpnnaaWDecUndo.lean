/- DecUndo: the law's call says true, of any two decimals. -/
import Derived.Test.YtdodhmidhcpnnaaD7
set_option linter.unusedVariables false
set_option linter.unusedSimpArgs false
set_option maxRecDepth 100000
namespace Go.Proofs.Ytdodhmidhcpnnaa.lawDecUndo
open Go.Abs

/-- what was added is taken away again -/
theorem undo {a s b t n m : Int} (hn : InW n) (h : bothR false a s b t = [Dc n m, .sc (.int .i64 0)]) : ∃ y, InW y ∧ m = mxS s t ∧ bothR true n m b t = [Dc y m, .sc (.int .i64 0)] ∧ cmpV y m a s = 0 ∧ cmpE m s = 0 := by
  obtain ⟨s1, t1, ia, ib, e1, x1⟩ := bothR_ok h
  rw [h] at e1
  simp only [Bool.false_eq_true, if_false, List.cons.injEq, AV.agg.injEq, and_true] at e1 x1
  obtain ⟨rfl, rfl⟩ := dC_inj hn x1 e1
  obtain ⟨s0, s18⟩ := rgt_iff.1 s1
  obtain ⟨t0, t18⟩ := rgt_iff.1 t1
  obtain ⟨p1, p2, p3⟩ := mxS_of s t
  have rm : rgt (mxS s t) = true := rgt_iff.2 (by omega)
  have mm : mxS (mxS s t) t = mxS s t := by unfold mxS at p1 p2 p3 ⊢; split <;> (try split) <;> omega
  have mm2 : mxS (mxS s t) s = mxS s t := by unfold mxS at p1 p2 p3 ⊢; split <;> (try split) <;> omega
  refine ⟨fin a (mxS s t - s), ia, rfl, ?_, ?_, ?_⟩
  · unfold bothR
    rw [if_pos ⟨rm, t1⟩, mm, Int.sub_self, fin_zero, if_pos ⟨x1, ib⟩]
    simp only [if_true]
    have e : fin a (mxS s t - s) + fin b (mxS s t - t) - fin b (mxS s t - t) = fin a (mxS s t - s) := by omega
    rw [e]
    exact okD_in ia
  · unfold cmpV
    rw [if_pos ⟨rm, s1⟩, mm2, Int.sub_self, fin_zero]
    exact sgn_eq (by omega)
  · unfold cmpE
    rw [if_pos ⟨rm, s1⟩]

set_option maxHeartbeats 4000000 in
theorem core {H : Type} (h : Heap) (tvs : List TV) (ds : List (DataW H)) (hr : AllRo h) (hi : Ins Try.prog h 6 [26, 26, 3] tvs ds) : ∃ h', callE F O 12 tvs h = some ([.sc (.bool true)], h') := by
  obtain ⟨tv, d, tvs, ds, rfl, rfl, h1, hi⟩ := ins_cons hi
  obtain ⟨tv2, d2, tvs, ds, rfl, rfl, h2, hi⟩ := ins_cons hi
  obtain ⟨tv3, d3, rfl, rfl, h3⟩ := ins_one hi
  obtain ⟨a, s0, rfl, ha, hs1, hs2⟩ := in_dec h1
  obtain ⟨b, t0, rfl, hb, ht1, ht2⟩ := in_dec h2
  obtain ⟨k0, rfl, hk1, hk2⟩ := in_int h3
  have n1 := fun h => spec17 h a true hs1 hs2
  have n2 := fun h => spec17 h b true ht1 ht2
  have kn := spec20
  have rs : rgt (nearS true s0) = true := rgt_mod s0
  have rt : rgt (nearS true t0) = true := rgt_mod t0
  generalize nearS true s0 = s at *
  generalize nearS true t0 = t at *
  obtain ⟨sl, sh⟩ := rgt_iff.1 rs
  have pk := fun h => spec16 h (n := k0) (m := 19 - s) (by omega) (by omega) hk1 hk2
  have w1 : IntKind.i64.wrap (19 - s) = 19 - s := wi64 (by omega) (by omega)
  have km1 := Int.emod_nonneg k0 (show 19 - s ≠ 0 by omega)
  have km2 := Int.emod_lt_of_pos k0 (show 0 < 19 - s by omega)
  generalize k0 % (19 - s) = k at *
  have w2 : IntKind.i64.wrap (s + k) = s + k := wi64 (by omega) (by omega)
  have a1 := fun h => spec23 h (s := s) (t := t) ha hb
  obtain ⟨n, m, e, hx, hn⟩ := bothR_in (sub := false) (a := a) (s := s) (b := b) (t := t)
  rw [hx] at a1
  have r1 := fun h => spec21 h (s := s) (to := s + k) ha
  rw [mulR_up rs (by omega) (by omega)] at r1
  have ek : s + k - s = k := by omega
  rw [ek] at r1
  -- the second half
  have half : (∀ h, call 21 [[Dc a s], [.sc (.int .i64 (s + k))]] h = some ([Dc 0 0, .sc (.int .i64 20)], h)) ∨ ∃ x, (∀ h, call 21 [[Dc a s], [.sc (.int .i64 (s + k))]] h = some ([Dc x (s + k), .sc (.int .i64 0)], h)) ∧ ∀ h, call 21 [[Dc x (s + k)], [.sc (.int .i64 s)]] h = some ([Dc a s, .sc (.int .i64 0)], h) := by
    by_cases c : InW (fin a k)
    · refine .inr ⟨fin a k, fun h => by rw [r1 h, okD_in c], fun h => ?_⟩
      rw [spec21 h (s := s + k) (to := s) c, mulR_down c (rgt_iff.2 (by omega)) sl (by omega), ek]
      unfold fin
      rw [rnd_fin]
    · exact .inl fun h => by rw [r1 h, okD_out c]
  have mxe : (if s < t then t else s) = mxS s t := rfl
  refine ⟨h, callX rfl (by rfl : F 12 = some M.a12) (fun R RO RD RT E => ?_)⟩
  have z19 : (19 : Int) - s = 19 - s := rfl
  by_cases he : e = 0
  · subst he
    obtain ⟨y, iy, hm, hs2', c1, c2⟩ := undo hn hx
    have a2 := fun h => spec25 h (s := m) (t := t) hn hb
    rw [hs2'] at a2
    have c3 := fun h => spec46 h (s := m) (t := s) iy ha
    rw [c1, c2] at c3
    clear h1 h2 h3 ha hb hx hn iy c1 c2 hs2' r1 ek rs rt
    subst hm
    generalize mxS s t = m at *
    rcases half with r1 | ⟨x, r1, r2⟩
    · simp [M.a12, E.eqs, zero_dC, n1, n2, kn, a1, a2, c3, mxe, w1, pk, w2, r1, fldA, freshB, loadA, storeA, trim_pure, pureT, pureV, pureS]
    · simp [M.a12, E.eqs, zero_dC, n1, n2, kn, a1, a2, c3, mxe, w1, pk, w2, r1, r2, fldA, freshB, loadA, storeA, trim_pure, pureT, pureV, pureS]
  · clear h1 h2 h3 ha hb hx hn r1 ek rs rt
    rcases half with r1 | ⟨x, r1, r2⟩
    · simp [M.a12, E.eqs, zero_dC, n1, n2, kn, a1, he, w1, pk, w2, r1, fldA, freshB, loadA, storeA, trim_pure, pureT, pureV, pureS]
    · simp [M.a12, E.eqs, zero_dC, n1, n2, kn, a1, he, w1, pk, w2, r1, r2, fldA, freshB, loadA, storeA, trim_pure, pureT, pureV, pureS]
end Go.Proofs.Ytdodhmidhcpnnaa.lawDecUndo
