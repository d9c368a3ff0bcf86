/- DecHalf: the law's call says true, of any decimal and any scale. -/
import Derived.Test.YtdodhmidhcpnnaaD7
set_option linter.unusedVariables false
set_option linter.unusedSimpArgs false
set_option maxRecDepth 100000
namespace Go.Proofs.Ytdodhmidhcpnnaa.lawDecHalf
open Go.Abs

theorem dC_lo (n s : Int) : (dC n s)[1]? = some (.int .u64 (n % 18446744073709551616)) := rfl
theorem dC_lo' (n s : Int) (h : 1 < (dC n s).length) : (dC n s)[1] = .int .u64 (n % 18446744073709551616) := rfl
theorem lo_even {n : Int} (h : n % 2 = 0) : (n % 18446744073709551616).tmod 2 = 0 := by rw [Int.tmod_eq_emod_of_nonneg (by omega)]; omega

set_option maxHeartbeats 4000000 in
theorem core {H : Type} (h : Heap) (tvs : List TV) (ds : List (DataW H)) (hr : AllRo h) (hi : Ins Try.prog h 6 [26, 3] tvs ds) : ∃ h', callE F O 8 tvs h = some ([.sc (.bool true)], h') := by
  obtain ⟨tv, d, tvs, ds, rfl, rfl, h1, hi⟩ := ins_cons hi
  obtain ⟨tv3, d3, rfl, rfl, h3⟩ := ins_one hi
  obtain ⟨a, s0, rfl, ha, hs1, hs2⟩ := in_dec h1
  obtain ⟨k0, rfl, hk1, hk2⟩ := in_int h3
  have n1 := fun h => spec17 h a true hs1 hs2
  have kn := spec20
  have rs : rgt (nearS true s0) = true := rgt_mod s0
  generalize nearS true s0 = s at *
  obtain ⟨sl, sh⟩ := rgt_iff.1 rs
  have pk := fun h => spec16 h (n := k0) (m := s + 1) (by omega) (by omega) hk1 hk2
  have w1 : IntKind.i64.wrap (s + 1) = s + 1 := wi64 (by omega) (by omega)
  have km1 := Int.emod_nonneg k0 (show s + 1 ≠ 0 by omega)
  have km2 := Int.emod_lt_of_pos k0 (show 0 < s + 1 by omega)
  generalize k0 % (s + 1) = to at *
  have w2 : IntKind.i64.wrap (s - to) = s - to := wi64 (by omega) (by omega)
  have r1 := fun h => spec21 h (s := s) (to := to) ha
  rw [mulR_down ha rs km1 (by omega)] at r1
  obtain ⟨p1, p2, p3, p4⟩ := pow_in (k := s - to) (by omega) (by omega)
  have s1 := fun h => spec38 h (s - to)
  rw [p1, p2] at s1
  have p18 : (10 : Int) ^ (s - to).toNat ≤ 1000000000000000000 := by
    have h1 : 10 ^ (s - to).toNat ≤ 10 ^ 18 := Nat.pow_le_pow_right (by decide) (by omega)
    have h2 : (10 : Nat) ^ 18 = 1000000000000000000 := by decide
    rw [h2] at h1
    rw [← pow_cast]
    omega
  have ri := rnd_in ha (s - to).toNat
  obtain ⟨q1, q2, q3⟩ := rnd_half a (s - to).toNat
  have s2 := fun h => spec39 h ri p3
  refine ⟨h, callX rfl (by rfl : F 8 = some M.a8) (fun R RO RD RT E => ?_)⟩
  generalize rnd a (s - to).toNat = R1 at *
  generalize (10 : Int) ^ (s - to).toNat = p at *
  by_cases hup : InW (R1 * p)
  · rw [okW_in' hup] at s2
    have s3 := fun h => spec40 h ha hup
    have io : InW (a - R1 * p) := by unfold InW; omega
    rw [okW_in' io] at s3
    have s4 := fun h => spec41 h io io
    have it : InW (a - R1 * p + (a - R1 * p)) := by unfold InW; omega
    rw [okW_in' it] at s4
    have s5 := fun h => spec42 h it
    have lo := dC_lo R1 to
    have lo' := dC_lo' R1 to
    generalize R1 * p = up at *
    generalize a - up = off at *
    generalize off + off = tw at *
    by_cases c1 : tw < 0
    · have s6 := fun h => spec43 h it
      have ing : InW (-tw) := by unfold InW; omega
      rw [okW_in' ing] at s6
      have s7 := fun h => spec44 h ing p3
      rw [sgn_lt c1] at s5
      by_cases c2 : -tw = p
      · rw [sgn_eq (show -tw - p = 0 by omega)] at s7
        have ev := lo_even (q3 (by omega))
        clear h1 h3 ha hup io it ri p3 ing q1 q2 q3
        generalize R1 % 18446744073709551616 = low at *
        simp [M.a8, E.eqs, zero_dC, wC_zero, n1, kn, pk, w1, w2, r1, s1, s2, s3, s4, s5, s6, s7, lo, lo', ev, fldA, freshB, loadA, storeA, trim_pure, pureT, pureV, pureS]
      · rw [sgn_lt (show -tw - p < 0 by omega)] at s7
        clear h1 h3 ha hup io it ri p3 ing q1 q2 q3
        simp [M.a8, E.eqs, zero_dC, wC_zero, n1, kn, pk, w1, w2, r1, s1, s2, s3, s4, s5, s6, s7, fldA, freshB, loadA, storeA, trim_pure, pureT, pureV, pureS]
    · have s7 := fun h => spec44 h it p3
      have c3 : ¬ sgn tw < 0 := by
        rcases Int.lt_trichotomy tw 0 with h | h | h
        · exact absurd h c1
        · rw [sgn_eq h]; decide
        · rw [sgn_gt h]; decide
      by_cases c2 : tw = p
      · rw [sgn_eq (show tw - p = 0 by omega)] at s7
        have ev := lo_even (q3 (by omega))
        clear h1 h3 ha hup io it ri p3 q1 q2 q3
        generalize R1 % 18446744073709551616 = low at *
        generalize sgn tw = sg1 at *
        simp [M.a8, E.eqs, zero_dC, wC_zero, n1, kn, pk, w1, w2, r1, s1, s2, s3, s4, s5, c3, s7, lo, lo', ev, fldA, freshB, loadA, storeA, trim_pure, pureT, pureV, pureS]
      · rw [sgn_lt (show tw - p < 0 by omega)] at s7
        clear h1 h3 ha hup io it ri p3 q1 q2 q3
        generalize sgn tw = sg1 at *
        simp [M.a8, E.eqs, zero_dC, wC_zero, n1, kn, pk, w1, w2, r1, s1, s2, s3, s4, s5, c3, s7, fldA, freshB, loadA, storeA, trim_pure, pureT, pureV, pureS]
  · rw [okW_out' hup] at s2
    clear h1 h3 ha hup ri p3 q1 q2 q3
    simp [M.a8, E.eqs, zero_dC, wC_zero, n1, kn, pk, w1, w2, r1, s1, s2, fldA, freshB, loadA, storeA, trim_pure, pureT, pureV, pureS]
end Go.Proofs.Ytdodhmidhcpnnaa.lawDecHalf
