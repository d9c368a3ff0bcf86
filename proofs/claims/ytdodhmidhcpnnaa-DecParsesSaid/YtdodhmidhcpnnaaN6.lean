/- Chapter 2: products of the program, narrowed. -/
import Derived.Test.YtdodhmidhcpnnaaN5
set_option linter.unusedVariables false
set_option linter.unusedSimpArgs false
set_option maxRecDepth 100000
namespace Go.Proofs.Ytdodhmidhcpnnaa
open Go.Abs

@[simp] theorem l4_length (V : Nat) : (l4 V).length = 4 := by simp [l4]
@[simp] theorem l4_take (V : Nat) : List.take 4 (l4 V) = l4 V := List.take_of_length_le (by simp)
@[simp] theorem l4_pure (V : Nat) : (l4 V).all pureS = true := by simp [l4, pureS]
theorem setCells_all {α : Type} : ∀ (vs l : List α) (p : List α), l.length = vs.length → setCells (p ++ l) p.length vs = p ++ vs
  | [], [], p, _ => by simp [setCells]
  | v :: vs, x :: l, p, h => by
    have := setCells_all vs l (p ++ [v]) (by simpa using h)
    simp only [setCells, List.set_append_right _ _ (Nat.le_refl _), Nat.sub_self, List.set_cons_zero]
    simpa using this
  | [], _ :: _, _, h => by simp at h
  | _ :: _, [], _, h => by simp at h
@[simp] theorem l4_set {V : Nat} {l : List SV} (hl : l.length = 4) : setCells l 0 (l4 V) = l4 V := by
  simpa using setCells_all (l4 V) l [] (by simp [hl])

theorem prod_sum {A B ah al bh bl : Nat} (hA : A = ah * 18446744073709551616 + al) (hB : B = bh * 18446744073709551616 + bl) :
    al * bl + al * bh * 18446744073709551616 + ah * bl * 18446744073709551616 + ah * bh * 340282366920938463463374607431768211456 = A * B := by
  subst hA hB
  grind

theorem spec67 (h : Heap) {a b : Int} (ha : InW a) (hb : InW b) : call 67 [[W a], [W b]] h = some ([.agg (l4 (a.natAbs * b.natAbs))], h) := by
  have s1 := fun h => spec87 h ha
  have s2 := fun h => spec87 h hb
  have hA : a.natAbs < 340282366920938463463374607431768211456 := by unfold InW at ha; omega
  have hB : b.natAbs < 340282366920938463463374607431768211456 := by unfold InW at hb; omega
  have hP : a.natAbs * b.natAbs < 115792089237316195423570985008687907853269984665640564039457584007913129639936 := Nat.lt_of_lt_of_le (Nat.mul_lt_mul_of_lt_of_lt hA hB) (by decide)
  have eA : a.natAbs = a.natAbs / 18446744073709551616 * 18446744073709551616 + a.natAbs % 18446744073709551616 := by omega
  have eB : b.natAbs = b.natAbs / 18446744073709551616 * 18446744073709551616 + b.natAbs % 18446744073709551616 := by omega
  have u1 : a.natAbs % 18446744073709551616 < 18446744073709551616 := by omega
  have u2 : b.natAbs % 18446744073709551616 < 18446744073709551616 := by omega
  have u3 : a.natAbs / 18446744073709551616 < 18446744073709551616 := by omega
  have u4 : b.natAbs / 18446744073709551616 < 18446744073709551616 := by omega
  generalize a.natAbs % 18446744073709551616 = al at *
  generalize a.natAbs / 18446744073709551616 = ah at *
  generalize b.natAbs % 18446744073709551616 = bl at *
  generalize b.natAbs / 18446744073709551616 = bh at *
  have ps := prod_sum eA eB
  rw [← ps] at hP ⊢
  have m := fun h => spec88 h u1 u2
  have f0 : [SV.int .u64 ((al * bl % 18446744073709551616 : Nat) : Int), .int .u64 ((al * bl / 18446744073709551616 : Nat) : Int), .int .u64 0, .int .u64 0] = l4 (al * bl) := by
    have hlt : al * bl / 18446744073709551616 < 18446744073709551616 := by
      rw [Nat.div_lt_iff_lt_mul (by omega)]
      exact Nat.mul_lt_mul_of_lt_of_lt u1 u2
    rw [l4_of (V := al * bl) (a0 := al * bl % 18446744073709551616) (a1 := al * bl / 18446744073709551616) (a2 := 0) (a3 := 0) (by omega) hlt (by omega) (by omega) (by omega)]
    rfl
  generalize al * bl % 18446744073709551616 = lo at *
  generalize al * bl / 18446744073709551616 = hi at *
  obtain ⟨Z, hZ⟩ : ∃ Z : List SV, Z = [.int .u64 0, .int .u64 0, .int .u64 0, .int .u64 0] := ⟨_, rfl⟩
  have g : ∀ V : Nat, (h ++ [⟨.var, wC a⟩, ⟨.var, wC b⟩, ⟨.var, Z⟩, ⟨.var, l4 V⟩])[h.length + 3]? = some (⟨.var, l4 V⟩ : Blk) := fun V => get_loc h _ 3
  have q1 := closure1 (g (al * bl)) u1 u4 (by omega) (by omega)
  have q2 := closure1 (g (al * bl + al * bh * 18446744073709551616)) u3 u2 (by omega) (by omega)
  have q3 := closure2 (g (al * bl + al * bh * 18446744073709551616 + ah * bl * 18446744073709551616)) u3 u4 (by omega) (by omega)
  rw [hZ] at q1 q2 q3
  refine callX rfl (by rfl : F 67 = some M.a67) (fun R RO RD RT E => ?_)
  simp [M.a67, E.eqs, s1, s2, m, f0, q1, q2, q3, freshB, loadA, storeA, trim_pure, pureT, pureV]

theorem spec86 (h : Heap) (b : Bool) {u l : Nat} (hu : u < 18446744073709551616) (hl : l < 18446744073709551616) : call 86 [[.sc (.bool b)], [.sc (.int .u64 u)], [.sc (.int .u64 l)]] h =
    some (okW (if b then -((u * 18446744073709551616 + l : Nat) : Int) else ((u * 18446744073709551616 + l : Nat) : Int)), h) := by
  cases b with
  | false =>
    simp only [Bool.false_eq_true, if_false]
    by_cases c1 : 9223372036854775808 ≤ u
    · have c2 : (9223372036854775808 : Int) ≤ u := by omega
      rw [okW_out (by unfold InW; omega)]
      refine callX rfl (by rfl : F 86 = some M.a86) (fun R RO RD RT E => ?_)
      simp [M.a86, E.eqs, c1, c2, loadA, storeA, trim_pure, pureT, pureV, pureS]
    · have c2 : ¬ (9223372036854775808 : Int) ≤ u := by omega
      rw [okW_in (hi := IntKind.i64.wrap (u : Int)) (lo := (l : Int)) (by unfold InW; omega) (by omega) (by omega) (by rw [wi64']; omega)]
      refine callX rfl (by rfl : F 86 = some M.a86) (fun R RO RD RT E => ?_)
      simp [M.a86, E.eqs, c1, c2, loadA, storeA, trim_pure, pureT, pureV, pureS]
  | true =>
    simp only [if_true]
    by_cases hin : u < 9223372036854775808 ∨ u = 9223372036854775808 ∧ l = 0
    · have k2 := cHi_subI 0 l 0
      have c2 : cHi true 0 l 0 ≤ 1 := by omega
      have k1 := cLo_subI (a := 0) (b := l) (d := 0) hl (by omega)
      have k3 := cLo_subI (a := 0) (b := u) (d := cHi true 0 l 0) hu c2
      generalize hd : cHi true 0 l 0 = d at *
      generalize hx : cLo true 0 l 0 = x at *
      generalize hy : cLo true 0 u d = y at *
      rw [okW_in (hi := IntKind.i64.wrap (y : Int)) (lo := (x : Int)) (by unfold InW; omega) (by omega) (by omega) (by
        rw [wi64']
        rcases k2 with ⟨k2, k4⟩ | ⟨k2, k4⟩ <;> rw [k2] at k3 <;> omega)]
      refine callX rfl (by rfl : F 86 = some M.a86) (fun R RO RD RT E => ?_)
      rcases hin with c3 | ⟨c3, c4⟩
      · have c5 : ¬ 9223372036854775808 < u := by omega
        have c6 : ¬ (9223372036854775808 : Int) < u := by omega
        have c7 : ¬ u = 9223372036854775808 := by omega
        have c8 : ¬ (u : Int) = 9223372036854775808 := by omega
        simp [M.a86, E.eqs, c2, c5, c6, c7, c8, hd, hx, hy, loadA, storeA, trim_pure, pureT, pureV, pureS]
      · subst c3 c4
        try simp at hd hx hy
        simp [M.a86, E.eqs, c2, hd, hx, hy, loadA, storeA, trim_pure, pureT, pureV, pureS]
    · rw [okW_out (by unfold InW; omega)]
      refine callX rfl (by rfl : F 86 = some M.a86) (fun R RO RD RT E => ?_)
      by_cases c3 : 9223372036854775808 < u
      · have c4 : (9223372036854775808 : Int) < u := by omega
        simp [M.a86, E.eqs, c3, c4, loadA, storeA, trim_pure, pureT, pureV, pureS]
      · have c4 : u = 9223372036854775808 := by omega
        have c5 : 0 < l := by omega
        subst c4
        simp [M.a86, E.eqs, c5, loadA, storeA, trim_pure, pureT, pureV, pureS]

/-- a number of a size, with a sign -/
def sg (b : Bool) (P : Nat) : Int := if b then -(P : Int) else (P : Int)

theorem spec66 (h : Heap) (b : Bool) {P : Nat} (hP : P < 115792089237316195423570985008687907853269984665640564039457584007913129639936) : call 66 [[.sc (.bool b)], [.agg (l4 P)]] h = some (okW (sg b P), h) := by
  obtain ⟨a0, a1, a2, a3, v0, v1, v2, v3, hV⟩ := l4_ex hP
  have e1 := l4_of v0 v1 v2 v3 hV
  by_cases hz : a3 = 0 ∧ a2 = 0
  · obtain ⟨rfl, rfl⟩ := hz
    have s1 := fun h => spec86 h b v1 v0
    have hP2 : a1 * 18446744073709551616 + a0 = P := by omega
    rw [hP2] at s1
    have : (if b then -(P : Int) else (P : Int)) = sg b P := rfl
    rw [this] at s1
    generalize sg b P = n at *
    refine callX rfl (by rfl : F 66 = some M.a66) (fun R RO RD RT E => ?_)
    simp [M.a66, E.eqs, e1, s1, freshB, loadA, storeA, trim_pure, pureT, pureV, pureS]
  · have hout : ¬ InW (sg b P) := by
      unfold InW sg
      have : 340282366920938463463374607431768211456 ≤ P := by omega
      split <;> omega
    rw [okW_out hout]
    refine callX rfl (by rfl : F 66 = some M.a66) (fun R RO RD RT E => ?_)
    by_cases c1 : a3 = 0
    · have c2 : ¬ a2 = 0 := fun h => hz ⟨c1, h⟩
      subst c1
      simp [M.a66, E.eqs, e1, c2, freshB, loadA, storeA, trim_pure, pureT, pureV, pureS]
    · simp [M.a66, E.eqs, e1, c1, freshB, loadA, storeA, trim_pure, pureT, pureV, pureS]

theorem sg_mul (a b : Int) : sg (decide (a < 0) != decide (b < 0)) (a.natAbs * b.natAbs) = a * b := by
  unfold sg
  rw [Int.natCast_mul]
  by_cases h1 : a < 0 <;> by_cases h2 : b < 0 <;> simp only [h1, h2, decide_true, decide_false]
  · rw [Int.ofNat_natAbs_of_nonpos (by omega), Int.ofNat_natAbs_of_nonpos (by omega)]; simp [Int.neg_mul, Int.mul_neg]
  · rw [Int.ofNat_natAbs_of_nonpos (by omega), Int.natAbs_of_nonneg (by omega)]; simp [Int.neg_mul, Int.mul_neg]
  · rw [Int.natAbs_of_nonneg (by omega), Int.ofNat_natAbs_of_nonpos (by omega)]; simp [Int.neg_mul, Int.mul_neg]
  · rw [Int.natAbs_of_nonneg (by omega), Int.natAbs_of_nonneg (by omega)]; simp

theorem spec39 (h : Heap) {a b : Int} (ha : InW a) (hb : InW b) : call 39 [[W a], [W b]] h = some (okW (a * b), h) := by
  have s1 := fun h => spec67 h ha hb
  have hP : a.natAbs * b.natAbs < 115792089237316195423570985008687907853269984665640564039457584007913129639936 := Nat.lt_of_lt_of_le (Nat.mul_lt_mul_of_lt_of_lt (by unfold InW at ha; omega : a.natAbs < 340282366920938463463374607431768211456) (by unfold InW at hb; omega : b.natAbs < 340282366920938463463374607431768211456)) (by decide)
  have s2 := fun h => spec66 h (decide (a < 0) != decide (b < 0)) hP
  rw [sg_mul] at s2
  obtain ⟨ah, al, e1, e2, e3, e4, e5⟩ := W_of ha
  obtain ⟨bh, bl, f1, f2, f3, f4, f5⟩ := W_of hb
  have d1 : decide (a < 0) = decide (ah < 0) := by simp only [decide_eq_decide]; omega
  have d2 : decide (b < 0) = decide (bh < 0) := by simp only [decide_eq_decide]; omega
  rw [d1, d2] at s2
  rw [e1, f1] at s1 ⊢
  refine callX rfl (by rfl : F 39 = some M.a39) (fun R RO RD RT E => ?_)
  simp [M.a39, E.eqs, s1, s2, fldA, freshB, loadA, storeA, trim_pure, pureT, pureV, pureS]
end Go.Proofs.Ytdodhmidhcpnnaa
