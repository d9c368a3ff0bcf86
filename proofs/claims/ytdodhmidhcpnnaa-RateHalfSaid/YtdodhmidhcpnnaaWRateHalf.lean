/- RateHalf: the law's call says true, of any two numbers and any scales. -/
import Derived.Test.YtdodhmidhcpnnaaD7
import Derived.Test.YtdodhmidhcpnnaaD5
set_option linter.unusedVariables false
set_option linter.unusedSimpArgs false
set_option maxRecDepth 100000
namespace Go.Proofs.Ytdodhmidhcpnnaa.lawRateHalf
open Go.Abs

theorem mul64 {x y : Int} (h1 : 0 ≤ x) (h2 : x ≤ 4294967297) (h3 : 0 ≤ y) (h4 : y ≤ 4294967297) : 0 ≤ x * y ∧ x * y ≤ 18446744082299486209 := by
  refine ⟨Int.mul_nonneg h1 h3, ?_⟩
  have := Int.mul_le_mul h2 h4 h3 (show (0 : Int) ≤ 4294967297 by omega)
  exact Int.le_trans this (by decide)

theorem cross_ok {a b s t to : Int} (ha : InW (a * b)) (h1 : 0 < a) (h2 : 0 < b) (hs : rgt s = true) (ht : rgt t = true) (hto : rgt to = true) (hle : to ≤ s + t) : crossR a s b t to = [Dc (rnd (a * b) (s + t - to).toNat) to, .sc (.int .i64 0)] := by
  have e : rrE b t = 0 := by unfold rrE; rw [if_pos ht, if_pos h2]
  unfold crossR
  rw [if_pos ⟨hs, hto⟩, if_pos h1, if_pos e]
  unfold mulR
  rw [if_pos ⟨hs, ht, hto⟩]
  obtain ⟨k, hk⟩ := Int.eq_ofNat_of_zero_le (show 0 ≤ s + t - to by omega)
  rw [hk, rndI_of]
  exact okD_in (rnd_in ha k)

theorem rnd_mono {n m : Int} (k : Nat) (h0 : 0 ≤ n) (h : n ≤ m) : rnd n k ≤ rnd m k := by
  have := rq_mono (N := n.natAbs) (M := m.natAbs) (D := 10 ^ k) (Nat.pow_pos (by decide)) (by omega)
  unfold rnd sg
  have c1 : ¬ n < 0 := by omega
  have c2 : ¬ m < 0 := by omega
  rw [decide_eq_false c1, decide_eq_false c2]
  simp
  exact this

theorem same_cmp {n m to : Int} (hto : rgt to = true) (h : n ≤ m) : ¬ 0 < cmpV n to m to ∧ cmpE to to = 0 := by
  unfold cmpV cmpE
  rw [if_pos ⟨hto, hto⟩, if_pos ⟨hto, hto⟩]
  have e : mxS to to = to := by unfold mxS; split <;> rfl
  rw [e, Int.sub_self, fin_zero, fin_zero]
  refine ⟨?_, rfl⟩
  rcases Int.lt_trichotomy (n - m) 0 with c | c | c
  · rw [sgn_lt c]; decide
  · rw [sgn_eq c]; decide
  · omega

set_option maxHeartbeats 4000000 in
theorem core {H : Type} (h : Heap) (tvs : List TV) (ds : List (DataW H)) (hr : AllRo h) (hi : Ins Try.prog h 6 [49, 49, 3, 3, 3] tvs ds) : ∃ h', callE F O 9 tvs h = some ([.sc (.bool true)], h') := by
  obtain ⟨tv, d, tvs, ds, rfl, rfl, h1, hi⟩ := ins_cons hi
  obtain ⟨tv2, d2, tvs, ds, rfl, rfl, h2, hi⟩ := ins_cons hi
  obtain ⟨tv4, d4, tvs, ds, rfl, rfl, h4, hi⟩ := ins_cons hi
  obtain ⟨tv5, d5, tvs, ds, rfl, rfl, h5, hi⟩ := ins_cons hi
  obtain ⟨tv3, d3, rfl, rfl, h3⟩ := ins_one hi
  obtain ⟨a, rfl, hwa⟩ := in_num (q := .u32) (by kernel_rfl) (by kernel_rfl) h1
  obtain ⟨r, rfl, hwr⟩ := in_num (q := .u32) (by kernel_rfl) (by kernel_rfl) h2
  obtain ⟨k0, rfl, hk1, hk2⟩ := in_int h4
  obtain ⟨s0, rfl, hs1, hs2⟩ := in_int h5
  obtain ⟨t0, rfl, ht1, ht2⟩ := in_int h3
  obtain ⟨ha0, ha1⟩ := wf_u32 hwa
  obtain ⟨hr0, hr1⟩ := wf_u32 hwr
  have kn := spec33
  have pk1 := fun h => spec16 h (n := s0) (m := 5) (by omega) (by omega) hs1 hs2
  have pk2 := fun h => spec16 h (n := t0) (m := 7) (by omega) (by omega) ht1 ht2
  have sm1 := Int.emod_nonneg s0 (show (5 : Int) ≠ 0 by omega)
  have sm2 := Int.emod_lt_of_pos s0 (show (0 : Int) < 5 by omega)
  have tm1 := Int.emod_nonneg t0 (show (7 : Int) ≠ 0 by omega)
  have tm2 := Int.emod_lt_of_pos t0 (show (0 : Int) < 7 by omega)
  generalize s0 % 5 = s at *
  generalize t0 % 7 = t at *
  have w1 : IntKind.i64.wrap (s + t) = s + t := wi64 (by omega) (by omega)
  have w2 : IntKind.i64.wrap (s + t + 1) = s + t + 1 := wi64 (by omega) (by omega)
  have pk3 := fun h => spec16 h (n := k0) (m := s + t + 1) (by omega) (by omega) hk1 hk2
  have km1 := Int.emod_nonneg k0 (show s + t + 1 ≠ 0 by omega)
  have km2 := Int.emod_lt_of_pos k0 (show 0 < s + t + 1 by omega)
  generalize k0 % (s + t + 1) = to at *
  have rs : rgt s = true := rgt_iff.2 (by omega)
  have rt : rgt t = true := rgt_iff.2 (by omega)
  have rto : rgt to = true := rgt_iff.2 (by omega)
  have w3 : IntKind.i64.wrap a = a := wi64 (by omega) (by omega)
  have w4 : IntKind.i64.wrap (a + 1) = a + 1 := wi64 (by omega) (by omega)
  have w5 : IntKind.i64.wrap (a + 2) = a + 2 := wi64 (by omega) (by omega)
  have w6 : IntKind.i64.wrap r = r := wi64 (by omega) (by omega)
  have w7 : IntKind.i64.wrap (r + 1) = r + 1 := wi64 (by omega) (by omega)
  have w8 : IntKind.i64.wrap (s + t - to) = s + t - to := wi64 (by omega) (by omega)
  have d1 := fun h => spec32 h (n := a + 1) s (by omega) (by omega)
  have d2 := fun h => spec32 h (n := a + 2) s (by omega) (by omega)
  have d3 := fun h => spec32 h (n := r + 1) t (by omega) (by omega)
  have o1 := fun h => spec45 h (n := a + 1) (by omega) (by omega)
  have o2 := fun h => spec45 h (n := r + 1) (by omega) (by omega)
  have i1 : InW (a + 1) := by unfold InW; omega
  have i2 : InW (a + 2) := by unfold InW; omega
  have i3 : InW (r + 1) := by unfold InW; omega
  obtain ⟨b1, b2⟩ := mul64 (x := a + 1) (y := r + 1) (by omega) (by omega) (by omega) (by omega)
  obtain ⟨b3, b4⟩ := mul64 (x := a + 2) (y := r + 1) (by omega) (by omega) (by omega) (by omega)
  have hle : (a + 1) * (r + 1) ≤ (a + 2) * (r + 1) := Int.mul_le_mul_of_nonneg_right (by omega) (by omega)
  have j1 : InW ((a + 1) * (r + 1)) := by unfold InW; omega
  have j2 : InW ((a + 2) * (r + 1)) := by unfold InW; omega
  have x1 := fun h => spec31 h (s := s) (t := t) (to := to) i1 i3
  have x2 := fun h => spec31 h (s := s) (t := t) (to := to) i2 i3
  rw [cross_ok j1 (by omega) (by omega) rs rt rto (by omega)] at x1
  rw [cross_ok j2 (by omega) (by omega) rs rt rto (by omega)] at x2
  have s1 := fun h => spec39 h i1 i3
  rw [okW_in' j1] at s1
  obtain ⟨p1, p2, p3, p4⟩ := pow_in (k := s + t - to) (by omega) (by omega)
  have s2 := fun h => spec38 h (s + t - to)
  rw [p1, p2] at s2
  have mono := rnd_mono (s + t - to).toNat b1 hle
  have p18 : (10 : Int) ^ (s + t - to).toNat ≤ 1000000000000000000 := by
    have h1 : 10 ^ (s + t - to).toNat ≤ 10 ^ 18 := Nat.pow_le_pow_right (by decide) (by omega)
    have h2 : (10 : Nat) ^ 18 = 1000000000000000000 := by decide
    rw [h2] at h1
    rw [← pow_cast]
    omega
  have ri := rnd_in j1 (s + t - to).toNat
  have ri2 := rnd_in j2 (s + t - to).toNat
  obtain ⟨q1, q2, _⟩ := rnd_half ((a + 1) * (r + 1)) (s + t - to).toNat
  have s3 := fun h => spec39 h ri p3
  have cc := same_cmp rto mono
  have s8 := fun h => spec46 h (s := to) (t := to) ri ri2
  rw [cc.2] at s8
  have cc1 := cc.1
  refine ⟨h, callX rfl (by rfl : F 9 = some M.a9) (fun R RO RD RT E => ?_)⟩
  generalize rnd ((a + 1) * (r + 1)) (s + t - to).toNat = R1 at *
  generalize rnd ((a + 2) * (r + 1)) (s + t - to).toNat = R2 at *
  generalize (a + 1) * (r + 1) = P at *
  generalize (10 : Int) ^ (s + t - to).toNat = p at *
  generalize cmpV R1 to R2 to = cv at *
  have hup : InW (R1 * p) := by unfold InW; omega
  rw [okW_in' hup] at s3
  have s4 := fun h => spec40 h j1 hup
  have io : InW (P - R1 * p) := by unfold InW; omega
  rw [okW_in' io] at s4
  have s5 := fun h => spec41 h io io
  have it : InW (P - R1 * p + (P - R1 * p)) := by unfold InW; omega
  rw [okW_in' it] at s5
  have s6 := fun h => spec42 h it
  generalize R1 * p = up at *
  generalize P - up = off at *
  generalize off + off = tw at *
  have cc2 : cv ≤ 0 := by omega
  by_cases c1 : tw < 0
  · have s7 := fun h => spec43 h it
    have ing : InW (-tw) := by unfold InW; omega
    rw [okW_in' ing] at s7
    have s9 := fun h => spec44 h ing p3
    have cs : sgn (-tw - p) ≤ 0 := by
      rcases Int.lt_trichotomy (-tw - p) 0 with c | c | c
      · rw [sgn_lt c]; decide
      · rw [sgn_eq c]; decide
      · omega
    rw [sgn_lt c1] at s6
    generalize sgn (-tw - p) = sv at *
    clear h1 h2 h3 h4 h5 hi cc mono p18 q1 q2 ri ri2 j1 j2 b1 b2 b3 b4 hle i1 i2 i3 hup io it ing
    simp [M.a9, E.eqs, zero_dC, wC_zero, kn, pk1, pk2, pk3, w1, w2, w3, w4, w5, w6, w7, w8, d1, d2, d3, o1, o2, x1, x2, s1, s2, s3, s4, s5, s6, s7, s8, s9, cs, cc1, cc2, fldA, freshB, loadA, storeA, trim_pure, pureT, pureV, pureS]
  · have s9 := fun h => spec44 h it p3
    have cs : sgn (tw - p) ≤ 0 := by
      rcases Int.lt_trichotomy (tw - p) 0 with c | c | c
      · rw [sgn_lt c]; decide
      · rw [sgn_eq c]; decide
      · omega
    have c3 : ¬ sgn tw < 0 := by
      rcases Int.lt_trichotomy tw 0 with h | h | h
      · exact absurd h c1
      · rw [sgn_eq h]; decide
      · rw [sgn_gt h]; decide
    generalize sgn (tw - p) = sv at *
    generalize sgn tw = sg1 at *
    clear h1 h2 h3 h4 h5 hi cc mono p18 q1 q2 ri ri2 j1 j2 b1 b2 b3 b4 hle i1 i2 i3 hup io it
    simp [M.a9, E.eqs, zero_dC, wC_zero, kn, pk1, pk2, pk3, w1, w2, w3, w4, w5, w6, w7, w8, d1, d2, d3, o1, o2, x1, x2, s1, s2, s3, s4, s5, s6, s8, s9, cs, c3, cc1, cc2, fldA, freshB, loadA, storeA, trim_pure, pureT, pureV, pureS]
end Go.Proofs.Ytdodhmidhcpnnaa.lawRateHalf
