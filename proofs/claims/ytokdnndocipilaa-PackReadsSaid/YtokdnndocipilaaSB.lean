/- Chapter 1: numbers read, by the program and by the document. -/
import Derived.Test.YtokdnndocipilaaSA
set_option linter.unusedVariables false
set_option linter.unusedSimpArgs false
set_option maxRecDepth 100000
namespace Go.Proofs.Ytokdnndocipilaa
open Go.Abs

theorem and127 (x : UInt8) : bitop .and .u8 (x.toNat : Int) 127 = ((x.toNat % 128 : Nat) : Int) := by
  have := and_u8 (a := x.toNat) (b := 127) (by have := x.toNat_lt; omega) (by omega)
  rw [show (127 : Nat) = 2 ^ 7 - 1 from rfl, Nat.and_two_pow_sub_one_eq_mod] at this
  exact this

theorem number_loop {h : Heap} {x : SV} {l : List UInt8} {a : Nat} (hx : Row h x 1 l.length (Go.Abs.bytes l)) (hl : l.length ≤ 140737488353280) : ∀ (t : List UInt8) (k n : Nat) (e : Env), l.drop (a + k) = t → a + k ≤ l.length → k ≤ 9 → n < 2 ^ (7 * k) →
    e.get 0 = [.sc x] → e.get 1 = [.sc (.int .i64 a)] → e.get 7 = [.sc (.int .u64 n)] → e.get 8 = [.sc (.int .i64 k)] →
    loopE F O (.loop [0, 1, 7, 8] M.b43_0) e h = some (.ret, [(4, [.sc (.int .u64 (numD t k n).1)]), (5, [.sc (.int .i64 (numD t k n).2.1)]), (6, [.sc (.int .i64 ((if (numD t k n).2.1 = 0 then a + (numD t k n).2.2 else 0 : Nat) : Int))])], h)
  | [], k, n, e, ht, hk, h9, hn, e0, e1, e7, e8 => by
    have hlen := congrArg List.length ht
    simp at hlen
    have ln := lenA_row hx
    have w1 : IntKind.i64.wrap ((a : Int) + k) = (a : Int) + k := wi64 (by omega) (by omega)
    have c1 : (l.length : Int) ≤ (a : Int) + k := by omega
    exact retM fun R RO RD RT E => by simp [M.b43_0, E.eqs, e0, e1, e7, e8, ln, w1, c1, numD]
  | b :: t, k, n, e, ht, hk, h9, hn, e0, e1, e7, e8 => by
    have hlen := congrArg List.length ht
    simp only [List.length_drop, List.length_cons] at hlen
    have hb : l[a + k]? = some b := by have := congrArg (fun z => z[0]?) ht; simpa using this
    have ht' : l.drop (a + (k + 1)) = t := by rw [← Nat.add_assoc, ← List.drop_drop, ht]; rfl
    have ln := lenA_row hx
    obtain ⟨i1, i2⟩ := byte_at hx hb
    have w1 : IntKind.i64.wrap ((a : Int) + k) = (a : Int) + k := wi64 (by omega) (by omega)
    have c1 : ¬ (l.length : Int) ≤ (a : Int) + k := by omega
    have c2 : (0 : Int) ≤ (a : Int) + k := by omega
    have k1 : ((a : Int) + k).toNat = a + k := by omega
    have bl := b.toNat_lt
    by_cases q1 : k = 9 ∧ 1 < b.toNat
    · have hD : numD (b :: t) k n = (0, 11, 0) := by rw [numD, if_pos q1]
      rw [hD]
      have c4 : (k : Int) = 9 := by omega
      have c3 : (1 : Int) < b.toNat := by omega
      exact retM fun R RO RD RT E => by simp [M.b43_0, E.eqs, e0, e1, e7, e8, ln, w1, c1, c2, k1, i1, i2, c3, eq_true c4]
    · obtain ⟨y, hy⟩ : ∃ y, y = b.toNat % 128 := ⟨_, rfl⟩
      have a1 := and127 b
      rw [← hy] at a1
      have w2 : IntKind.u64.wrap (y : Int) = y := wu64 (by omega) (by omega)
      have w3 : IntKind.i64.wrap (7 * (k : Int)) = 7 * (k : Int) := wi64 (by omega) (by omega)
      have w4 : IntKind.u64.wrap (7 * (k : Int)) = 7 * (k : Int) := wu64 (by omega) (by omega)
      have sh : shAmt .u64 (7 * (k : Int)) = 7 * k := by simp only [shAmt, IntKind.bits]; omega
      have c0 : ¬ 7 * (k : Int) < 0 := by omega
      have hp : 2 ^ (7 * (k + 1)) = 2 ^ (7 * k) * 128 := by rw [Nat.mul_add, Nat.pow_add]
      have hyb : y * 2 ^ (7 * k) < 18446744073709551616 ∧ (k ≤ 8 → n + y * 2 ^ (7 * k) < 2 ^ (7 * (k + 1))) := by
        have h2 : y * 2 ^ (7 * k) ≤ 127 * 2 ^ (7 * k) := Nat.mul_le_mul_right _ (by omega)
        by_cases h : k = 9
        · subst h
          have h3 : y * 2 ^ (7 * 9) ≤ 1 * 2 ^ (7 * 9) := Nat.mul_le_mul_right _ (by omega)
          simp at h3
          constructor
          · simp; omega
          · intro h; omega
        · have h3 : 2 ^ (7 * k) ≤ 2 ^ (7 * 8) := Nat.pow_le_pow_right (by omega) (by omega)
          simp at h3
          constructor
          · omega
          · intro _; rw [hp]; omega
      have hn64 : n < 18446744073709551616 := by
        have h3 : 2 ^ (7 * k) ≤ 2 ^ (7 * 9) := Nat.pow_le_pow_right (by omega) (by omega)
        simp at h3
        omega
      have or1 := or_u64 hn64 hyb.1
      rw [or_add hn] at or1
      obtain ⟨d, hd⟩ : ∃ d, d = y * 2 ^ (7 * k) := ⟨_, rfl⟩
      have w5 : IntKind.u64.wrap ((y : Int) * 2 ^ (7 * k)) = (d : Int) := by
        rw [hd]
        have : ((y : Int) * 2 ^ (7 * k)) = ((y * 2 ^ (7 * k) : Nat) : Int) := by simp
        rw [this]
        exact wu64 (by omega) (by omega)
      rw [← hd] at or1 hyb
      obtain ⟨m, hm⟩ : ∃ m, m = n + d := ⟨_, rfl⟩
      rw [← hm] at or1
      have hDn : n + b.toNat % 128 * 2 ^ (7 * k) = m := by rw [hm, hd, hy]
      by_cases q2 : 128 ≤ b.toNat
      · have hk8 : k ≤ 8 := by omega
        have hD : numD (b :: t) k n = numD t (k + 1) m := by rw [numD, if_neg q1, if_pos q2, hDn]
        rw [hD]
        have ih := number_loop (a := a) hx hl t (k + 1) m [(0, [.sc x]), (1, [.sc (.int .i64 a)]), (7, [.sc (.int .u64 m)]), (8, [.sc (.int .i64 ((k + 1 : Nat) : Int))])] ht' (by omega) (by omega) (by rw [hm]; exact hyb.2 hk8) rfl rfl rfl rfl
        refine stepM (fun R RO RD RT E => ?_) ih
        have c3 : (128 : Int) ≤ b.toNat := by omega
        have c4 : ¬ (k : Int) = 9 := by omega
        have w6 : IntKind.i64.wrap ((k : Int) + 1) = (k : Int) + 1 := wi64 (by omega) (by omega)
        simp [M.b43_0, E.eqs, e0, e1, e7, e8, ln, w1, c1, c2, k1, i1, i2, a1, w2, w3, w4, sh, c0, w5, or1, c3, c4, w6]
      · have c3 : ¬ (128 : Int) ≤ b.toNat := by omega
        by_cases q3 : b.toNat = 0 ∧ 0 < k
        · have hD : numD (b :: t) k n = (0, 11, 0) := by rw [numD, if_neg q1, if_neg q2, if_pos q3]
          rw [hD]
          have c5 : (b.toNat : Int) = 0 := by omega
          have c6 : (0 : Int) < k := by omega
          by_cases h : k = 9
          · have c4 : (k : Int) = 9 := by omega
            have c7 : ¬ (1 : Int) < b.toNat := by omega
            exact retM fun R RO RD RT E => by simp [M.b43_0, E.eqs, e0, e1, e7, e8, ln, w1, c1, c2, k1, i1, i2, a1, w2, w3, w4, sh, c0, w5, or1, c3, eq_true c4, eq_true q3.1, c6, c7, q3.2]
          · have c4 : ¬ (k : Int) = 9 := by omega
            exact retM fun R RO RD RT E => by simp [M.b43_0, E.eqs, e0, e1, e7, e8, ln, w1, c1, c2, k1, i1, i2, a1, w2, w3, w4, sh, c0, w5, or1, c3, c4, eq_true q3.1, c6, q3.2]
        · have hD : numD (b :: t) k n = (m, 0, k + 1) := by rw [numD, if_neg q1, if_neg q2, if_neg q3, hDn]
          rw [hD]
          have w6 : IntKind.i64.wrap ((a : Int) + k + 1) = (a : Int) + (k + 1) := by rw [wi64 (by omega) (by omega)]; omega
          by_cases h : k = 9
          · have c4 : (k : Int) = 9 := by omega
            have c7 : ¬ (1 : Int) < b.toNat := by omega
            have c5 : ¬ b.toNat = 0 := by omega
            exact retM fun R RO RD RT E => by simp [M.b43_0, E.eqs, e0, e1, e7, e8, ln, w1, c1, c2, k1, i1, i2, a1, w2, w3, w4, sh, c0, w5, or1, c3, eq_true c4, c5, c7, w6]
          · have c4 : ¬ (k : Int) = 9 := by omega
            by_cases h5 : b.toNat = 0
            · have c5 : (b.toNat : Int) = 0 := by omega
              have c6 : ¬ 0 < k := by omega
              have c8 : k = 0 := by omega
              exact retM fun R RO RD RT E => by simp [M.b43_0, E.eqs, e0, e1, e7, e8, ln, w1, c1, c2, k1, i1, i2, a1, w2, w3, w4, sh, c0, w5, or1, c3, c4, eq_true h5, c6, eq_true c8, w6]
            · have c5 : ¬ b.toNat = 0 := by omega
              exact retM fun R RO RD RT E => by simp [M.b43_0, E.eqs, e0, e1, e7, e8, ln, w1, c1, c2, k1, i1, i2, a1, w2, w3, w4, sh, c0, w5, or1, c3, c4, c5, w6]

theorem spec43 {h : Heap} {x : SV} {l : List UInt8} {a : Nat} (hx : Row h x 1 l.length (Go.Abs.bytes l)) (hl : l.length ≤ 140737488353280) (ha : a ≤ l.length) : call 43 [[.sc x], [.sc (.int .i64 a)]] h =
    some ([.sc (.int .u64 (numD (l.drop a) 0 0).1), .sc (.int .i64 (numD (l.drop a) 0 0).2.1), .sc (.int .i64 ((if (numD (l.drop a) 0 0).2.1 = 0 then a + (numD (l.drop a) 0 0).2.2 else 0 : Nat) : Int))], h) := by
  have lo := loop_run (number_loop (a := a) hx hl (l.drop a) 0 0 [(0, [.sc x]), (1, [.sc (.int .i64 a)]), (7, [.sc (.int .u64 0)]), (8, [.sc (.int .i64 0)])] rfl (by omega) (by omega) (by simp) rfl rfl rfl rfl)
  generalize numD (l.drop a) 0 0 = D at *
  generalize (if D.2.1 = 0 then a + D.2.2 else 0) = g at *
  refine callX rfl (by rfl : F 43 = some M.a43) (fun R RO RD RT E => ?_)
  have lo := E.run lo
  simp [M.a43, E.eqs, lo]

section
variable {h : Heap} {i : Nat} {x : SV} {l : List UInt8} {a bad : Nat}

theorem numD_drop (l : List UInt8) (a : Nat) : (numD (l.drop a) 0 0).1 < 18446744073709551616 ∧ ((numD (l.drop a) 0 0).2.1 = 0 ∧ 0 < (numD (l.drop a) 0 0).2.2 ∧ (numD (l.drop a) 0 0).2.2 ≤ l.length - a ∨ ((numD (l.drop a) 0 0).2.1 = 10 ∨ (numD (l.drop a) 0 0).2.1 = 11) ∧ (numD (l.drop a) 0 0).1 = 0) := by
  have := numD_spec (l.drop a) 0 0 (by omega) (by simp)
  simpa using this

theorem spec33 (r : Rd h i x l a bad) {most : Nat} (hm : most < 18446744073709551616) : call 33 [[.sc (.ptr i 0 3)], [.sc (.int .u64 most)]] h = some ([.sc (.int .u64 (rNum l a bad most).1)], setR h i x (rNum l a bad most).2.1 (rNum l a bad most).2.2) := by
  have rn := r.nil
  have rf := r.fld
  have l0 := r.l0
  have l1 := r.l1
  have l2 := r.l2
  have hle := r.le
  have hlen := r.len
  unfold rNum
  by_cases c1 : bad = 0
  · subst c1
    rw [if_neg (by simp)]
    have s1 := spec43 r.row r.len hle
    obtain ⟨b1, b2⟩ := numD_drop l a
    generalize numD (l.drop a) 0 0 = D at *
    obtain ⟨n, er, j⟩ := D
    simp only at s1 b1 b2
    unfold rN
    by_cases c2 : er = 0
    · subst c2
      have b2 : 0 < j ∧ j ≤ l.length - a := by omega
      rw [if_pos rfl] at s1
      by_cases c3 : most < n
      · have sf := spec42 r 12
        have c4 : (most : Int) < n := by omega
        simp only [ne_eq, not_true_eq_false, if_false, c3, if_true]
        refine callX rfl (by rfl : F 33 = some M.a33) (fun R RO RD RT E => ?_)
        simp at sf s1
        simp [M.a33, E.eqs, rn, rf, l0, l1, l2, s1, sf, c3, c4, trim_len setR_length]
      · have c4 : ¬ (most : Int) < n := by omega
        have st := r.s1 (v := (a : Int) + j) (a' := a + j) (by omega)
        simp only [ne_eq, not_true_eq_false, if_false, c3]
        refine callX rfl (by rfl : F 33 = some M.a33) (fun R RO RD RT E => ?_)
        simp at s1
        simp [M.a33, E.eqs, rn, rf, l0, l1, l2, s1, st, c3, c4, trim_len setR_length]
    · have sf := spec42 r er
      have c3 : ¬ (er : Int) = 0 := by omega
      rw [if_neg c2] at s1
      simp only [ne_eq, c2, not_false_eq_true, if_true]
      refine callX rfl (by rfl : F 33 = some M.a33) (fun R RO RD RT E => ?_)
      simp at s1
      simp [M.a33, E.eqs, rn, rf, l0, l1, l2, s1, sf, c2, c3, trim_len setR_length]
  · rw [if_pos c1, r.same]
    have c3 : ¬ (bad : Int) = 0 := by omega
    refine callX rfl (by rfl : F 33 = some M.a33) (fun R RO RD RT E => ?_)
    simp [M.a33, E.eqs, rn, rf, l0, l1, l2, c1, c3]
end
end Go.Proofs.Ytokdnndocipilaa
