/- Chapter 1: the document's Num; Int and Text of both readers. -/
import Derived.Test.YtokdnndocipilaaSB
set_option linter.unusedVariables false
set_option linter.unusedSimpArgs false
set_option maxRecDepth 100000
namespace Go.Proofs.Ytokdnndocipilaa
open Go.Abs

theorem rem128 (x : UInt8) : ((x.toNat : Int).tmod 128) = ((x.toNat % 128 : Nat) : Int) := by rw [Int.tmod_eq_emod_of_nonneg (by omega)]; omega

section
variable {h : Heap} {i : Nat} {x : SV} {l : List UInt8} {a bad : Nat}

theorem rnum_rd_loop (r : Rd h i x l a 0) {most : Nat} (hm : most < 18446744073709551616) : ∀ (t : List UInt8) (k n : Nat) (e : Env), l.drop (a + k) = t → a + k ≤ l.length → k ≤ 9 → n < 2 ^ (7 * k) →
    e.get 0 = [.sc (.ptr i 0 3)] → e.get 1 = [.sc (.int .u64 most)] → e.get 5 = [.sc (.int .i64 a)] → e.get 6 = [.sc (.int .u64 n)] → e.get 7 = [.sc (.int .i64 k)] →
    loopE F O (.loop [0, 1, 5, 6, 7] M.b38_0) e h = some (.ret, [(4, [.sc (.int .u64 (rN (numD t k n) a most).1)])], setR h i x (rN (numD t k n) a most).2.1 (rN (numD t k n) a most).2.2)
  | [], k, n, e, ht, hk, h9, hn, e0, e1, e5, e6, e7 => by
    have hlen := congrArg List.length ht
    simp at hlen
    have rn := r.nil
    have rf := r.fld
    have l0 := r.l0
    have hlen2 := r.len
    have ln := lenA_row r.row
    have sf := spec44 r a 10
    have w1 : IntKind.i64.wrap ((a : Int) + k) = (a : Int) + k := wi64 (by omega) (by omega)
    have c1 : (l.length : Int) ≤ (a : Int) + k := by omega
    simp at sf
    exact retM fun R RO RD RT E => by simp [M.b38_0, E.eqs, e0, e1, e5, e6, e7, rn, rf, l0, ln, w1, c1, sf, numD, rN]
  | b :: t, k, n, e, ht, hk, h9, hn, e0, e1, e5, e6, e7 => by
    have hlen := congrArg List.length ht
    simp only [List.length_drop, List.length_cons] at hlen
    have rn := r.nil
    have rf := r.fld
    have l0 := r.l0
    have hlen2 := r.len
    have hb : l[a + k]? = some b := by have := congrArg (fun z => z[0]?) ht; simpa using this
    have ht' : l.drop (a + (k + 1)) = t := by rw [← Nat.add_assoc, ← List.drop_drop, ht]; rfl
    have ln := lenA_row r.row
    obtain ⟨i1, i2⟩ := byte_at r.row hb
    have w1 : IntKind.i64.wrap ((a : Int) + k) = (a : Int) + k := wi64 (by omega) (by omega)
    have c1 : ¬ (l.length : Int) ≤ (a : Int) + k := by omega
    have c2 : (0 : Int) ≤ (a : Int) + k := by omega
    have k1 : ((a : Int) + k).toNat = a + k := by omega
    have bl := b.toNat_lt
    have sf := spec44 r a 11
    have sg := spec44 r a 12
    simp at sf sg
    by_cases q1 : k = 9 ∧ 1 < b.toNat
    · have hD : rN (numD (b :: t) k n) a most = (0, a, 11) := by rw [numD, if_pos q1]; rfl
      rw [hD]
      have c4 : (k : Int) = 9 := by omega
      have c3 : (1 : Int) < b.toNat := by omega
      exact retM fun R RO RD RT E => by simp [M.b38_0, E.eqs, e0, e1, e5, e6, e7, rn, rf, l0, ln, w1, c1, c2, k1, i1, i2, c3, eq_true c4, sf]
    · obtain ⟨y, hy⟩ : ∃ y, y = b.toNat % 128 := ⟨_, rfl⟩
      have a1 := rem128 b
      rw [← hy] at a1
      have w2 : IntKind.u64.wrap (y : Int) = y := wu64 (by omega) (by omega)
      have w3 : IntKind.i64.wrap (7 * (k : Int)) = 7 * (k : Int) := wi64 (by omega) (by omega)
      have w4 : IntKind.u64.wrap (7 * (k : Int)) = 7 * (k : Int) := wu64 (by omega) (by omega)
      have sh : shAmt .u64 (7 * (k : Int)) = 7 * k := by simp only [shAmt, IntKind.bits]; omega
      have c0 : ¬ 7 * (k : Int) < 0 := by omega
      have hp : 2 ^ (7 * (k + 1)) = 2 ^ (7 * k) * 128 := by rw [Nat.mul_add, Nat.pow_add]
      have hyb : y * 2 ^ (7 * k) < 18446744073709551616 ∧ (k ≤ 8 → n + y * 2 ^ (7 * k) < 2 ^ (7 * (k + 1))) ∧ n + y * 2 ^ (7 * k) < 18446744073709551616 := by
        have h2 : y * 2 ^ (7 * k) ≤ 127 * 2 ^ (7 * k) := Nat.mul_le_mul_right _ (by omega)
        by_cases h : k = 9
        · subst h
          have h3 : y * 2 ^ (7 * 9) ≤ 1 * 2 ^ (7 * 9) := Nat.mul_le_mul_right _ (by omega)
          simp at h3 hn
          refine ⟨?_, fun h => by omega, ?_⟩ <;> simp <;> omega
        · have h3 : 2 ^ (7 * k) ≤ 2 ^ (7 * 8) := Nat.pow_le_pow_right (by omega) (by omega)
          simp at h3
          refine ⟨by omega, fun _ => by rw [hp]; omega, by omega⟩
      obtain ⟨d, hd⟩ : ∃ d, d = y * 2 ^ (7 * k) := ⟨_, rfl⟩
      have w5 : IntKind.u64.wrap ((y : Int) * 2 ^ (7 * k)) = (d : Int) := by
        rw [hd]
        have : ((y : Int) * 2 ^ (7 * k)) = ((y * 2 ^ (7 * k) : Nat) : Int) := by simp
        rw [this]
        exact wu64 (by omega) (by omega)
      rw [← hd] at hyb
      obtain ⟨m, hm'⟩ : ∃ m, m = n + d := ⟨_, rfl⟩
      have or1 : IntKind.u64.wrap ((n : Int) + d) = (m : Int) := by rw [wu64 (by omega) (by omega)]; omega
      have hDn : n + b.toNat % 128 * 2 ^ (7 * k) = m := by rw [hm', hd, hy]
      by_cases q2 : 128 ≤ b.toNat
      · have hk8 : k ≤ 8 := by omega
        have hD : numD (b :: t) k n = numD t (k + 1) m := by rw [numD, if_neg q1, if_pos q2, hDn]
        rw [hD]
        have ih := rnum_rd_loop r hm t (k + 1) m [(0, [.sc (.ptr i 0 3)]), (1, [.sc (.int .u64 most)]), (5, [.sc (.int .i64 a)]), (6, [.sc (.int .u64 m)]), (7, [.sc (.int .i64 ((k + 1 : Nat) : Int))])] ht' (by omega) (by omega) (by rw [hm']; exact hyb.2.1 hk8) rfl rfl rfl rfl rfl
        refine stepM (fun R RO RD RT E => ?_) ih
        have c3 : (128 : Int) ≤ b.toNat := by omega
        have c4 : ¬ (k : Int) = 9 := by omega
        have w6 : IntKind.i64.wrap ((k : Int) + 1) = (k : Int) + 1 := wi64 (by omega) (by omega)
        simp [M.b38_0, E.eqs, e0, e1, e5, e6, e7, rn, rf, l0, ln, w1, c1, c2, k1, i1, i2, a1, w2, w3, w4, sh, c0, w5, or1, c3, c4, w6]
      · have c3 : ¬ (128 : Int) ≤ b.toNat := by omega
        have k9 : decide ((k : Int) = 9) = true ∧ ¬ (1 : Int) < b.toNat ∨ decide ((k : Int) = 9) = false := by
          by_cases h : k = 9
          · exact .inl ⟨by simp; omega, by omega⟩
          · exact .inr (by simp; omega)
        by_cases q3 : b.toNat = 0 ∧ 0 < k
        · have hD : rN (numD (b :: t) k n) a most = (0, a, 11) := by rw [numD, if_neg q1, if_neg q2, if_pos q3]; rfl
          rw [hD]
          have c6 : (0 : Int) < k := by omega
          by_cases h : k = 9
          · have c4 : (k : Int) = 9 := by omega
            have c7 : ¬ (1 : Int) < b.toNat := by omega
            exact retM fun R RO RD RT E => by simp [M.b38_0, E.eqs, e0, e1, e5, e6, e7, rn, rf, l0, ln, w1, c1, c2, k1, i1, i2, a1, w2, w3, w4, sh, c0, w5, or1, c3, eq_true c4, eq_true q3.1, c6, c7, q3.2, sf]
          · have c4 : ¬ (k : Int) = 9 := by omega
            exact retM fun R RO RD RT E => by simp [M.b38_0, E.eqs, e0, e1, e5, e6, e7, rn, rf, l0, ln, w1, c1, c2, k1, i1, i2, a1, w2, w3, w4, sh, c0, w5, or1, c3, c4, eq_true q3.1, c6, q3.2, sf]
        · have hD : numD (b :: t) k n = (m, 0, k + 1) := by rw [numD, if_neg q1, if_neg q2, if_neg q3, hDn]
          rw [hD]
          have w6 : IntKind.i64.wrap ((a : Int) + k + 1) = (a : Int) + k + 1 := wi64 (by omega) (by omega)
          have st := r.s1 (v := (a : Int) + k + 1) (a' := a + (k + 1)) (by omega)
          have b0 : b.toNat = 0 ∧ ¬ 0 < k ∨ ¬ b.toNat = 0 := by omega
          by_cases q4 : most < m
          · have hR : rN (m, 0, k + 1) a most = (0, a, 12) := by unfold rN; simp [q4]
            rw [hR]
            by_cases h : k = 9
            · have c4 : (k : Int) = 9 := by omega
              have c7 : ¬ (1 : Int) < b.toNat := by omega
              have c5 : ¬ b.toNat = 0 := by omega
              exact retM fun R RO RD RT E => by simp [M.b38_0, E.eqs, e0, e1, e5, e6, e7, rn, rf, l0, ln, w1, c1, c2, k1, i1, i2, a1, w2, w3, w4, sh, c0, w5, or1, c3, eq_true c4, c5, c7, w6, q4, sg]
            · have c4 : ¬ (k : Int) = 9 := by omega
              rcases b0 with ⟨h5, c6⟩ | c5
              · exact retM fun R RO RD RT E => by simp [M.b38_0, E.eqs, e0, e1, e5, e6, e7, rn, rf, l0, ln, w1, c1, c2, k1, i1, i2, a1, w2, w3, w4, sh, c0, w5, or1, c3, c4, eq_true h5, c6, w6, q4, sg]
              · exact retM fun R RO RD RT E => by simp [M.b38_0, E.eqs, e0, e1, e5, e6, e7, rn, rf, l0, ln, w1, c1, c2, k1, i1, i2, a1, w2, w3, w4, sh, c0, w5, or1, c3, c4, c5, w6, q4, sg]
          · have hR : rN (m, 0, k + 1) a most = (m, a + (k + 1), 0) := by unfold rN; simp [q4]
            rw [hR]
            by_cases h : k = 9
            · have c4 : (k : Int) = 9 := by omega
              have c7 : ¬ (1 : Int) < b.toNat := by omega
              have c5 : ¬ b.toNat = 0 := by omega
              exact retM fun R RO RD RT E => by simp [M.b38_0, E.eqs, e0, e1, e5, e6, e7, rn, rf, l0, ln, w1, c1, c2, k1, i1, i2, a1, w2, w3, w4, sh, c0, w5, or1, c3, eq_true c4, c5, c7, w6, q4, st]
            · have c4 : ¬ (k : Int) = 9 := by omega
              rcases b0 with ⟨h5, c6⟩ | c5
              · exact retM fun R RO RD RT E => by simp [M.b38_0, E.eqs, e0, e1, e5, e6, e7, rn, rf, l0, ln, w1, c1, c2, k1, i1, i2, a1, w2, w3, w4, sh, c0, w5, or1, c3, c4, eq_true h5, c6, w6, q4, st]
              · exact retM fun R RO RD RT E => by simp [M.b38_0, E.eqs, e0, e1, e5, e6, e7, rn, rf, l0, ln, w1, c1, c2, k1, i1, i2, a1, w2, w3, w4, sh, c0, w5, or1, c3, c4, c5, w6, q4, st]

theorem spec38 (r : Rd h i x l a bad) {most : Nat} (hm : most < 18446744073709551616) : call 38 [[.sc (.ptr i 0 3)], [.sc (.int .u64 most)]] h = some ([.sc (.int .u64 (rNum l a bad most).1)], setR h i x (rNum l a bad most).2.1 (rNum l a bad most).2.2) := by
  have rn := r.nil
  have rf := r.fld
  have l0 := r.l0
  have l1 := r.l1
  have l2 := r.l2
  have hle := r.le
  unfold rNum
  by_cases c1 : bad = 0
  · subst c1
    rw [if_neg (by simp)]
    have lo := loop_run (rnum_rd_loop r hm (l.drop a) 0 0 [(0, [.sc (.ptr i 0 3)]), (1, [.sc (.int .u64 most)]), (5, [.sc (.int .i64 a)]), (6, [.sc (.int .u64 0)]), (7, [.sc (.int .i64 0)])] rfl (by omega) (by omega) (by simp) rfl rfl rfl rfl rfl)
    generalize rN (numD (l.drop a) 0 0) a most = D at *
    refine callX rfl (by rfl : F 38 = some M.a38) (fun R RO RD RT E => ?_)
    have lo := E.run lo
    simp [M.a38, E.eqs, rn, rf, l0, l1, l2, lo, trim_len setR_length]
  · rw [if_pos c1, r.same]
    have c3 : ¬ (bad : Int) = 0 := by omega
    refine callX rfl (by rfl : F 38 = some M.a38) (fun R RO RD RT E => ?_)
    simp [M.a38, E.eqs, rn, rf, l0, l1, l2, c1, c3]
end
end Go.Proofs.Ytokdnndocipilaa
