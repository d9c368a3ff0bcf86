/- Chapter 2: numbers of 128 bits: sums, differences, comparisons. -/
import Derived.Test.YtdodhmidhcpnnaaK0
set_option linter.unusedVariables false
set_option linter.unusedSimpArgs false
set_option maxRecDepth 100000
namespace Go.Proofs.Ytdodhmidhcpnnaa
open Go.Abs

/-- is it a number of 128 bits? -/
def InW (n : Int) : Prop := -170141183460469231731687303715884105728 ≤ n ∧ n < 170141183460469231731687303715884105728
instance (n : Int) : Decidable (InW n) := inferInstanceAs (Decidable (_ ∧ _))
/-- its cells -/
def wC (n : Int) : List SV := [.int .i64 (n / 18446744073709551616), .int .u64 (n % 18446744073709551616)]
abbrev W (n : Int) : AV := .agg (wC n)
@[simp] theorem wC_length (n : Int) : (wC n).length = 2 := by simp [wC]
@[simp] theorem wC_take (n : Int) : List.take 2 (wC n) = wC n := by simp [wC]
@[simp] theorem wC_pure (n : Int) : (wC n).all pureS = true := by simp [wC, pureS]
@[simp] theorem wC_set (n : Int) (l : List SV) (hl : l.length = 2) : setCells l 0 (wC n) = wC n := by
  match l, hl with
  | [a, b], _ => rfl
@[simp] theorem wC_eqK (n : Int) : eqK [.i, .i] (wC n) (wC n) = some true := by simp [wC]
theorem W_eq {hi lo n : Int} (h0 : 0 ≤ lo) (h1 : lo < 18446744073709551616) (hn : n = hi * 18446744073709551616 + lo) : W n = .agg [.int .i64 hi, .int .u64 lo] := by
  have e1 : n / 18446744073709551616 = hi := by omega
  have e2 : n % 18446744073709551616 = lo := by omega
  unfold W wC
  rw [e1, e2]
theorem W_of {n : Int} (h : InW n) : ∃ (hi : Int) (lo : Nat), W n = .agg [.int .i64 hi, .int .u64 (lo : Int)] ∧ n = hi * 18446744073709551616 + lo ∧ lo < 18446744073709551616 ∧ -9223372036854775808 ≤ hi ∧ hi < 9223372036854775808 := by
  unfold InW at h
  refine ⟨n / 18446744073709551616, (n % 18446744073709551616).toNat, W_eq (by omega) (by omega) (by omega), by omega, by omega, by omega, by omega⟩
theorem W_inj {a b : Int} (ha : InW a) (hb : InW b) (h : wC a = wC b) : a = b := by
  unfold InW at *
  simp only [wC, List.cons.injEq, SV.int.injEq, true_and, and_true] at h
  omega
theorem wC_eqK_of {a b : Int} (ha : InW a) (hb : InW b) : eqK [.i, .i] (wC a) (wC b) = some (decide (a = b)) := by
  by_cases h : a = b
  · subst h; simp
  · have : ¬ (a / 18446744073709551616 = b / 18446744073709551616 ∧ a % 18446744073709551616 = b % 18446744073709551616) := by omega
    simp only [wC, eqK, eq1, if_true, h]
    by_cases h1 : a / 18446744073709551616 = b / 18446744073709551616 <;> by_cases h2 : a % 18446744073709551616 = b % 18446744073709551616 <;> simp_all
/-- a number, or none -/
def okC (n : Int) : Int := if InW n then n else 0
def okE (n : Int) : Int := if InW n then 0 else 20
abbrev okW (n : Int) : TV := [W (okC n), .sc (.int .i64 (okE n))]
theorem inW_okC (n : Int) : InW (okC n) := by
  unfold okC
  split
  · assumption
  · unfold InW; omega
theorem okW_in {hi lo n : Int} (h : InW n) (h0 : 0 ≤ lo) (h1 : lo < 18446744073709551616) (hn : n = hi * 18446744073709551616 + lo) : okW n = [.agg [.int .i64 hi, .int .u64 lo], .sc (.int .i64 0)] := by
  unfold okW okC okE
  rw [if_pos h, if_pos h, W_eq h0 h1 hn]
theorem okW_out {n : Int} (h : ¬ InW n) : okW n = [.agg [.int .i64 0, .int .u64 0], .sc (.int .i64 20)] := by
  unfold okW okC okE
  rw [if_neg h, if_neg h]
  rfl
theorem W_zero : W 0 = .agg [.int .i64 0, .int .u64 0] := rfl
theorem wC_zero : [SV.int .i64 0, SV.int .u64 0] = wC 0 := rfl
theorem inW_zero : InW 0 := by unfold InW; omega

theorem u64_nat (n : Int) : ∃ m : Nat, IntKind.u64.wrap n = (m : Int) ∧ (m : Int) = n % 18446744073709551616 := by
  refine ⟨(n % 18446744073709551616).toNat, ?_, by omega⟩
  rw [wu64']; omega

theorem spec41 (h : Heap) {a b : Int} (ha : InW a) (hb : InW b) : call 41 [[W a], [W b]] h = some (okW (a + b), h) := by
  obtain ⟨ah, al, e1, e2, e3, e4, e5⟩ := W_of ha
  obtain ⟨bh, bl, f1, f2, f3, f4, f5⟩ := W_of hb
  obtain ⟨au, g1, g2⟩ := u64_nat ah
  obtain ⟨bu, g3, g4⟩ := u64_nat bh
  rw [e1, f1]
  have k1 := cLo_add al bl 0
  have k2 := cHi_add al bl 0
  have k3 := cLo_add au bu (cHi false al bl 0)
  have c1 : cHi false al bl 0 ≤ 1 := by omega
  obtain ⟨hi, hhi⟩ : ∃ x, x = IntKind.i64.wrap ((cLo false au bu (cHi false al bl 0) : Nat) : Int) := ⟨_, rfl⟩
  have w1 := hhi
  rw [wi64'] at w1
  by_cases hin : InW (a + b)
  · rw [okW_in (lo := ((cLo false al bl 0 : Nat) : Int)) (hi := hi) hin (by omega) (by omega) (by unfold InW at *; omega)]
    refine callX rfl (by rfl : F 41 = some M.a41) (fun R RO RD RT E => ?_)
    unfold InW at *
    by_cases c2 : ah < 0 <;> by_cases c3 : bh < 0 <;> by_cases c4 : hi < 0 <;> first | (exfalso; omega) | simp [M.a41, E.eqs, fldA, freshB, loadA, storeA, g1, g3, c1, ← hhi, c2, c3, c4, trim_pure, pureT, pureV, pureS]
  · rw [okW_out hin]
    refine callX rfl (by rfl : F 41 = some M.a41) (fun R RO RD RT E => ?_)
    unfold InW at *
    by_cases c2 : ah < 0 <;> by_cases c3 : bh < 0 <;> by_cases c4 : hi < 0 <;> first | (exfalso; omega) | simp [M.a41, E.eqs, fldA, freshB, loadA, storeA, g1, g3, c1, ← hhi, c2, c3, c4, trim_pure, pureT, pureV, pureS]

theorem mod_sub3 (x y c : Int) : (x % 18446744073709551616 - y % 18446744073709551616 - c) % 18446744073709551616 = (x - y - c) % 18446744073709551616 := by omega

theorem sub_arith {a b ah al bh bl c X hi lo : Int} (e2 : a = ah * 18446744073709551616 + al) (f2 : b = bh * 18446744073709551616 + bl) (e0 : 0 ≤ al) (e3 : al < 18446744073709551616) (f0 : 0 ≤ bl) (f3 : bl < 18446744073709551616)
    (e4 : -9223372036854775808 ≤ ah) (e5 : ah < 9223372036854775808) (f4 : -9223372036854775808 ≤ bh) (f5 : bh < 9223372036854775808) (hc : c = 1 ∧ al < bl ∨ c = 0 ∧ bl ≤ al)
    (hlo : lo = (al - bl) % 18446744073709551616) (hX : X = (ah - bh - c) % 18446744073709551616) (hhi : hi = (X + 9223372036854775808) % 18446744073709551616 - 9223372036854775808) :
    (InW (a - b) ∧ a - b = hi * 18446744073709551616 + lo ∧ (ah < 0 ∧ bh < 0 ∨ ¬ ah < 0 ∧ ¬ bh < 0 ∨ ah < 0 ∧ ¬ bh < 0 ∧ hi < 0 ∨ ¬ ah < 0 ∧ bh < 0 ∧ ¬ hi < 0)) ∨
    (¬ InW (a - b) ∧ (ah < 0 ∧ ¬ bh < 0 ∧ ¬ hi < 0 ∨ ¬ ah < 0 ∧ bh < 0 ∧ hi < 0)) := by
  obtain ⟨v, hv⟩ : ∃ v, v = ah - bh - c := ⟨_, rfl⟩
  rw [← hv] at hX
  have h1 : a - b = v * 18446744073709551616 + lo := by rcases hc with ⟨hc, h⟩ | ⟨hc, h⟩ <;> omega
  have h2 : hi = v ∨ hi = v + 18446744073709551616 ∨ hi = v - 18446744073709551616 := by rcases hc with ⟨hc, h⟩ | ⟨hc, h⟩ <;> omega
  have h3 : -9223372036854775808 ≤ hi ∧ hi < 9223372036854775808 := by omega
  have h4 : 0 ≤ lo ∧ lo < 18446744073709551616 := by omega
  by_cases hin : -9223372036854775808 ≤ v ∧ v < 9223372036854775808
  · refine .inl ⟨?_, ?_, ?_⟩
    · unfold InW; omega
    · have : hi = v := by omega
      rw [this]; exact h1
    · have : hi = v := by omega
      rcases hc with ⟨hc, h⟩ | ⟨hc, h⟩ <;> omega
  · refine .inr ⟨?_, ?_⟩
    · unfold InW; omega
    · rcases hc with ⟨hc, h⟩ | ⟨hc, h⟩ <;> omega

set_option maxHeartbeats 1000000 in

theorem spec40 (h : Heap) {a b : Int} (ha : InW a) (hb : InW b) : call 40 [[W a], [W b]] h = some (okW (a - b), h) := by
  obtain ⟨ah, al, e1, e2, e3, e4, e5⟩ := W_of ha
  obtain ⟨bh, bl, f1, f2, f3, f4, f5⟩ := W_of hb
  obtain ⟨au, g1, g2⟩ := u64_nat ah
  obtain ⟨bu, g3, g4⟩ := u64_nat bh
  rw [e1, f1]
  have k2 := cHi_subI al bl 0
  have c1 : cHi true al bl 0 ≤ 1 := by omega
  have k1 := cLo_subI (a := al) (b := bl) (d := 0) f3 (by omega)
  have k3 := cLo_subI (a := au) (b := bu) (d := cHi true al bl 0) (by omega) c1
  obtain ⟨hi, hhi⟩ : ∃ x, x = IntKind.i64.wrap ((cLo true au bu (cHi true al bl 0) : Nat) : Int) := ⟨_, rfl⟩
  have w1 := hhi
  rw [wi64'] at w1
  have key := sub_arith (c := ((cHi true al bl 0 : Nat) : Int)) e2 f2 (by omega) (by omega) (by omega) (by omega) e4 e5 f4 f5 (by omega) (lo := ((cLo true al bl 0 : Nat) : Int)) (by rw [k1]; simp) (X := ((cLo true au bu (cHi true al bl 0) : Nat) : Int)) (by rw [k3, g2, g4]; exact mod_sub3 _ _ _) w1
  rcases key with ⟨hin, key, nov⟩ | ⟨hin, over⟩
  · rw [okW_in (lo := ((cLo true al bl 0 : Nat) : Int)) (hi := hi) hin (by omega) (by omega) key]
    refine callX rfl (by rfl : F 40 = some M.a40) (fun R RO RD RT E => ?_)
    clear key k1 k2 k3
    rcases nov with ⟨c2, c3⟩ | ⟨c2, c3⟩ | ⟨c2, c3, c4⟩ | ⟨c2, c3, c4⟩
    · simp [M.a40, E.eqs, fldA, freshB, loadA, storeA, g1, g3, c1, ← hhi, c2, c3, trim_pure, pureT, pureV, pureS]
    · simp [M.a40, E.eqs, fldA, freshB, loadA, storeA, g1, g3, c1, ← hhi, c2, c3, trim_pure, pureT, pureV, pureS]
    · simp [M.a40, E.eqs, fldA, freshB, loadA, storeA, g1, g3, c1, ← hhi, c2, c3, c4, trim_pure, pureT, pureV, pureS]
    · simp [M.a40, E.eqs, fldA, freshB, loadA, storeA, g1, g3, c1, ← hhi, c2, c3, c4, trim_pure, pureT, pureV, pureS]
  · rw [okW_out hin]
    refine callX rfl (by rfl : F 40 = some M.a40) (fun R RO RD RT E => ?_)
    rcases over with ⟨c2, c3, c4⟩ | ⟨c2, c3, c4⟩ <;> simp [M.a40, E.eqs, fldA, freshB, loadA, storeA, g1, g3, c1, ← hhi, c2, c3, c4, trim_pure, pureT, pureV, pureS]

theorem spec43 (h : Heap) {a : Int} (ha : InW a) : call 43 [[W a]] h = some (okW (-a), h) := by
  have s1 := fun h => spec40 h inW_zero ha
  rw [Int.zero_sub] at s1
  refine callX rfl (by rfl : F 43 = some M.a43) (fun R RO RD RT E => ?_)
  simp [M.a43, E.eqs, fldA, freshB, loadA, storeA, wC_zero, s1, trim_pure, pureT, pureV, pureS]

theorem spec45 (h : Heap) {n : Int} (h1 : -9223372036854775808 ≤ n) (h2 : n < 9223372036854775808) : call 45 [[.sc (.int .i64 n)]] h = some ([W n], h) := by
  rw [W_eq (n := n) (hi := n.fdiv 9223372036854775808) (lo := IntKind.u64.wrap n) (by rw [wu64']; omega) (by rw [wu64']; omega) (by rw [wu64', Int.fdiv_eq_ediv_of_nonneg _ (by omega)]; omega)]
  refine callX rfl (by rfl : F 45 = some M.a45) (fun R RO RD RT E => ?_)
  simp [M.a45, E.eqs, fldA, freshB, loadA, storeA, shAmt, IntKind.bits, trim_pure, pureT, pureV, pureS]

def sgn (n : Int) : Int := if n < 0 then -1 else if n = 0 then 0 else 1

theorem spec42 (h : Heap) {a : Int} (ha : InW a) : call 42 [[W a]] h = some ([.sc (.int .i64 (sgn a))], h) := by
  obtain ⟨ah, al, e1, e2, e3, e4, e5⟩ := W_of ha
  rw [e1]
  refine callX rfl (by rfl : F 42 = some M.a42) (fun R RO RD RT E => ?_)
  unfold sgn
  by_cases c1 : ah < 0
  · rw [if_pos (by omega)]
    simp [M.a42, E.eqs, fldA, freshB, loadA, storeA, c1, trim_pure, pureT, pureV, pureS]
  · rw [if_neg (by omega)]
    by_cases c2 : ah = 0
    · by_cases c3 : al = 0
      · rw [if_pos (by omega)]
        simp [M.a42, E.eqs, fldA, freshB, loadA, storeA, c2, c3, trim_pure, pureT, pureV, pureS]
      · rw [if_neg (by omega)]
        have c4 : ¬ (al : Int) = 0 := by omega
        simp [M.a42, E.eqs, fldA, freshB, loadA, storeA, c2, c3, c4, trim_pure, pureT, pureV, pureS]
    · rw [if_neg (by omega)]
      simp [M.a42, E.eqs, fldA, freshB, loadA, storeA, c1, c2, trim_pure, pureT, pureV, pureS]

theorem spec44 (h : Heap) {a b : Int} (ha : InW a) (hb : InW b) : call 44 [[W a], [W b]] h = some ([.sc (.int .i64 (sgn (a - b)))], h) := by
  obtain ⟨ah, al, e1, e2, e3, e4, e5⟩ := W_of ha
  obtain ⟨bh, bl, f1, f2, f3, f4, f5⟩ := W_of hb
  rw [e1, f1]
  refine callX rfl (by rfl : F 44 = some M.a44) (fun R RO RD RT E => ?_)
  unfold sgn
  by_cases c1 : ah < bh
  · rw [if_pos (by omega)]
    simp [M.a44, E.eqs, fldA, freshB, loadA, storeA, c1, trim_pure, pureT, pureV, pureS]
  · by_cases c2 : ah = bh
    · subst c2
      by_cases c3 : al < bl
      · rw [if_pos (by omega)]
        simp [M.a44, E.eqs, fldA, freshB, loadA, storeA, c3, trim_pure, pureT, pureV, pureS]
      · rw [if_neg (by omega)]
        by_cases c4 : al = bl
        · subst c4
          rw [if_pos (by omega)]
          simp [M.a44, E.eqs, fldA, freshB, loadA, storeA, trim_pure, pureT, pureV, pureS]
        · rw [if_neg (by omega)]
          have c5 : ¬ (al : Int) < bl := by omega
          have c6 : ((al : Int) == bl) = false := by simp; omega
          simp [M.a44, E.eqs, fldA, freshB, loadA, storeA, c3, c4, c5, c6, trim_pure, pureT, pureV, pureS]
    · rw [if_neg (by omega), if_neg (by omega)]
      simp [M.a44, E.eqs, fldA, freshB, loadA, storeA, c1, c2, trim_pure, pureT, pureV, pureS]

/-- a size's two parts -/
theorem spec87 (h : Heap) {a : Int} (ha : InW a) : call 87 [[W a]] h = some ([.sc (.int .u64 ((a.natAbs / 18446744073709551616 : Nat) : Int)), .sc (.int .u64 ((a.natAbs % 18446744073709551616 : Nat) : Int))], h) := by
  obtain ⟨ah, al, e1, e2, e3, e4, e5⟩ := W_of ha
  obtain ⟨au, g1, g2⟩ := u64_nat ah
  rw [e1]
  by_cases c1 : 0 ≤ ah
  · have q1 : a.natAbs / 18446744073709551616 = au := by omega
    have q2 : a.natAbs % 18446744073709551616 = al := by omega
    rw [q1, q2]
    refine callX rfl (by rfl : F 87 = some M.a87) (fun R RO RD RT E => ?_)
    simp [M.a87, E.eqs, fldA, freshB, loadA, storeA, c1, g1, trim_pure, pureT, pureV, pureS]
  · have k2 := cHi_subI 0 al 0
    have c2 : cHi true 0 al 0 ≤ 1 := by omega
    have k1 := cLo_subI (a := 0) (b := al) (d := 0) e3 (by omega)
    have k3 := cLo_subI (a := 0) (b := au) (d := cHi true 0 al 0) (by omega) c2
    have key : (a.natAbs : Int) = ((cLo true 0 au (cHi true 0 al 0) : Nat) : Int) * 18446744073709551616 + ((cLo true 0 al 0 : Nat) : Int) := by
      have : (a.natAbs : Int) = -a := by omega
      rcases k2 with ⟨k2, k4⟩ | ⟨k2, k4⟩ <;> rw [k2] at k3 <;> omega
    have q1 : a.natAbs / 18446744073709551616 = cLo true 0 au (cHi true 0 al 0) := by omega
    have q2 : a.natAbs % 18446744073709551616 = cLo true 0 al 0 := by omega
    rw [q1, q2]
    refine callX rfl (by rfl : F 87 = some M.a87) (fun R RO RD RT E => ?_)
    simp [M.a87, E.eqs, fldA, freshB, loadA, storeA, c1, c2, g1, trim_pure, pureT, pureV, pureS]
end Go.Proofs.Ytdodhmidhcpnnaa
