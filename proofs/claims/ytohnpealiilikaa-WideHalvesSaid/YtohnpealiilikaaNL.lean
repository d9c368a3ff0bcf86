/- Chapter 2: Scaled. -/
import Derived.Test.YtohnpealiilikaaNK
set_option linter.unusedVariables false
set_option linter.unusedSimpArgs false
set_option maxRecDepth 100000
namespace Go.Proofs.Ytohnpealiilikaa
open Go.Abs

theorem up_any {h : Heap} {X Y Z : Blk} {P : Nat} {t3 t4 t6 : TV} (u : Bool) (hP : P + 1 < 115792089237316195423570985008687907853269984665640564039457584007913129639936) (e : Env)
    (e3 : e.get 3 = t3) (e4 : e.get 4 = t4) (e6 : e.get 6 = t6) (e9 : e.get 9 = [.sc (.ptr (h.length + 3) 0 4)]) (e12 : e.get 12 = [.sc (.bool u)]) (e14 : e.get 14 = [.sc (.int .i64 0)]) :
    ∃ e', loopE F O (.loop [3, 4, 6, 9, 12, 14] M.b20_0) e (h ++ [X, Y, Z, ⟨.var, l4 P⟩]) = some (.exit 1, e', h ++ [X, Y, Z, ⟨.var, l4 (P + if u = true then 1 else 0)⟩]) ∧ e'.get 3 = t3 ∧ e'.get 4 = t4 ∧ e'.get 6 = t6 ∧ e'.get 9 = [.sc (.ptr (h.length + 3) 0 4)] := by
  cases u
  · refine ⟨[(3, t3), (4, t4), (6, t6), (9, [.sc (.ptr (h.length + 3) 0 4)]), (14, [.sc (.int .i64 0)]), (94, [.sc (.bool false)])], exitM fun R RO RD RT E => ?_, rfl, rfl, rfl, rfl⟩
    simp [M.b20_0, E.eqs, e3, e4, e6, e9, e12, e14]
  · exact up_loop hP e e3 e4 e6 e9 e12 e14

/-- what a product by a power of ten is, and what is wrong -/
def scC (n k : Int) : Int := if 0 ≤ k ∧ k ≤ 36 then okC (rnd n k.toNat) else 0
def scE (n k : Int) : Int := if 0 ≤ k ∧ k ≤ 36 then okE (rnd n k.toNat) else 1

theorem odd_iff (x : Nat) : (((x % 2 : Nat) : Int) = 1) ↔ x % 2 = 1 := by omega

set_option maxHeartbeats 4000000 in
theorem spec20 (h : Heap) {a b : Int} (ha : InW a) (hb : InW b) (k : Int) : call 20 [[W a], [W b], [.sc (.int .i64 k)]] h = some ([W (scC (a * b) k), .sc (.int .i64 (scE (a * b) k))], h) := by
  unfold scC scE
  by_cases hk : 0 ≤ k ∧ k ≤ 36
  · rw [if_pos hk, if_pos hk]
    obtain ⟨n, rfl⟩ := Int.eq_ofNat_of_zero_le hk.1
    have hn : n ≤ 36 := by omega
    have tn : (n : Int).toNat = n := by omega
    rw [tn]
    have s1 := fun h => spec49 h ha hb
    have hP : a.natAbs * b.natAbs ≤ 170141183460469231731687303715884105728 * 170141183460469231731687303715884105728 := Nat.mul_le_mul (by unfold InW at ha; omega) (by unfold InW at hb; omega)
    have hP : a.natAbs * b.natAbs + 1 < 115792089237316195423570985008687907853269984665640564039457584007913129639936 := Nat.lt_of_le_of_lt (Nat.add_le_add_right hP 1) (by decide)
    have rl := rq_le (N := a.natAbs * b.natAbs) (D := 10 ^ n)
    have s5 := fun h => spec48 h (decide (a < 0) != decide (b < 0)) (P := rq (a.natAbs * b.natAbs) (10 ^ n)) (by omega)
    rw [rnd_mul] at s5
    obtain ⟨ahi, alo, e1, e2, e3, e4, e5⟩ := W_of ha
    obtain ⟨bhi, blo, f1, f2, f3, f4, f5⟩ := W_of hb
    have d1 : decide (a < 0) = decide (ahi < 0) := by simp only [decide_eq_decide]; omega
    have d2 : decide (b < 0) = decide (bhi < 0) := by simp only [decide_eq_decide]; omega
    rw [d1, d2] at s5
    have hrq : rq (a.natAbs * b.natAbs) (10 ^ n) = a.natAbs * b.natAbs / 10 ^ n + if decide (rqUp (a.natAbs * b.natAbs) (10 ^ n)) = true then 1 else 0 := by unfold rq; simp only [decide_eq_true_eq]
    rw [hrq] at s5
    rw [e1] at s1 ⊢
    rw [f1] at s1 ⊢
    generalize rnd (a * b) n = res at *
    clear e1 f1 d1 d2 e2 f2 e4 e5 f4 f5 e3 f3 hrq rl hk tn ha hb
    generalize a.natAbs * b.natAbs = P at *
    obtain ⟨e', lo, g3, g4, g6, g9⟩ := up_any (h := h) (X := ⟨.var, [.int .i64 ahi, .int .u64 (alo : Int)]⟩) (Y := ⟨.var, [.int .i64 bhi, .int .u64 (blo : Int)]⟩) (Z := ⟨.var, wC 0⟩) (P := P / 10 ^ n) (t3 := [.sc (.ptr h.length 0 2)]) (t4 := [.sc (.ptr (h.length + 1) 0 2)]) (t6 := [.sc (.ptr (h.length + 2) 0 2)])
      (decide (rqUp P (10 ^ n))) (by have := Nat.div_le_self P (10 ^ n); omega)
      [(3, [.sc (.ptr h.length 0 2)]), (4, [.sc (.ptr (h.length + 1) 0 2)]), (6, [.sc (.ptr (h.length + 2) 0 2)]), (9, [.sc (.ptr (h.length + 3) 0 4)]), (12, [.sc (.bool (decide (rqUp P (10 ^ n))))]), (14, [.sc (.int .i64 0)])] rfl rfl rfl rfl rfl rfl
    have lo := loop_run lo
    have t0 : ∀ h, call 53 [[.sc (.int .i64 0)]] h = some ([.sc (.int .u64 1)], h) := fun h => spec53 h (k := 0) (by omega)
    have v0 : IntKind.i64.wrap 0 = 0 := wi64 (by omega) (by omega)
    have a1 := and1 (x := P / 10 ^ n)
    have m2 : ((P / 10 ^ n : Nat) : Int) % 2 = 0 ∨ ((P / 10 ^ n : Nat) : Int) % 2 = 1 := by omega
    have c1 : ¬ (n : Int) < 0 := by omega
    have c2 : ¬ (36 : Int) < n := by omega
    have one : (1 : Nat) < 18446744073709551616 := by decide
    refine callX rfl (by rfl : F 20 = some M.a20) (fun R RO RD RT E => ?_)
    have lo := E.run lo
    by_cases h0 : n = 0
    · subst h0
      have hu : ¬ rqUp P (10 ^ 0) := by unfold rqUp; rw [Nat.pow_zero, Nat.mod_one]; omega
      rw [decide_eq_false hu, Nat.pow_zero, Nat.div_one] at lo s5
      have s3 := fun h => spec52 h (V := P) (d := 1) (by omega) (by omega) (by omega)
      rw [Nat.div_one, Nat.mod_one] at s3
      have z : ((1 : Nat) : Int) = 1 := rfl
      rw [z] at s3
      simp at lo s5
      simp [M.a20, E.eqs, wC_zero, s1, t0, v0, s3, lo, g3, g4, g6, g9, s5, fldA, freshB, loadA, storeA, trim_pure, pureT, pureV, pureS]
    · have hn0 : 0 < n := by omega
      have c3 : ¬ (n : Int) = 0 := by omega
      have hh := half_of hn0
      by_cases h18 : n ≤ 18
      · have c4 : ¬ (18 : Int) < n := by omega
        have s2 := fun h => spec53 h (k := n) h18
        have tl := ten_lt h18
        have tp : 0 < 10 ^ n := Nat.pow_pos (by decide)
        have s3 := fun h => spec52 h (V := P) (d := 10 ^ n) (by omega) tp tl
        have s4 := fun h => spec52 h (V := P / 10 ^ n) (d := 1) (by have := Nat.div_le_self P (10 ^ n); omega) (by omega) (by omega)
        rw [Nat.div_one, Nat.mod_one] at s4
        have z : ((1 : Nat) : Int) = 1 := rfl
        rw [z] at s4
        have w1 : IntKind.i64.wrap ((n : Int) - n) = 0 := by rw [Int.sub_self]; exact v0
        have q2 := quo2 tl
        have q2' := quo2' tl
        have hup : rqUp P (10 ^ n) ↔ (10 ^ n / 2 < P % 10 ^ n ∨ ¬ 10 ^ n / 2 < P % 10 ^ n ∧ P % 10 ^ n = 10 ^ n / 2 ∧ P / 10 ^ n % 2 = 1) := by unfold rqUp; omega
        generalize hT : (10 : Nat) ^ n = T at *
        generalize T / 2 = H at *
        generalize P % T = r at *
        generalize P / T = Q at *
        clear hh hP hT tl tp
        by_cases u1 : H < r
        · have hu : rqUp P T := hup.2 (.inl u1)
          rw [decide_eq_true hu] at lo s5
          simp at lo s5
          clear hup hu
          simp [M.a20, E.eqs, wC_zero, c1, c2, c3, c4, h0, s1, s2, t0, v0, w1, s3, s4, q2, q2', u1, lo, g3, g4, g6, g9, s5, fldA, freshB, loadA, storeA, trim_pure, pureT, pureV, pureS]
        · by_cases u2 : r = H
          · rcases m2 with m2 | m2
            · have hu : ¬ rqUp P T := fun x => by have := hup.1 x; omega
              rw [decide_eq_false hu] at lo s5
              simp at lo s5
              clear hup hu
              simp [M.a20, E.eqs, wC_zero, c1, c2, c3, c4, h0, s1, s2, t0, v0, w1, s3, s4, q2, q2', u1, u2, l4_low, l4_low', a1, m2, lo, g3, g4, g6, g9, s5, fldA, freshB, loadA, storeA, trim_pure, pureT, pureV, pureS]
            · have hu : rqUp P T := hup.2 (.inr ⟨u1, u2, by omega⟩)
              rw [decide_eq_true hu] at lo s5
              simp at lo s5
              clear hup hu
              simp [M.a20, E.eqs, wC_zero, c1, c2, c3, c4, h0, s1, s2, t0, v0, w1, s3, s4, q2, q2', u1, u2, l4_low, l4_low', a1, m2, lo, g3, g4, g6, g9, s5, fldA, freshB, loadA, storeA, trim_pure, pureT, pureV, pureS]
          · have hu : ¬ rqUp P T := fun x => by have := hup.1 x; omega
            rw [decide_eq_false hu] at lo s5
            simp at lo s5
            clear hup hu
            simp [M.a20, E.eqs, wC_zero, c1, c2, c3, c4, h0, s1, s2, t0, v0, w1, s3, s4, q2, q2', u1, u2, lo, g3, g4, g6, g9, s5, fldA, freshB, loadA, storeA, trim_pure, pureT, pureV, pureS]
      · obtain ⟨m, rfl⟩ : ∃ m, n = 18 + m := ⟨n - 18, by omega⟩
        have hm : m ≤ 18 := by omega
        have hm0 : 0 < m := by omega
        have c4 : (18 : Int) < ((18 + m : Nat) : Int) := by omega
        have c5 : ¬ ((18 + m : Nat) : Int) = 18 := by omega
        obtain ⟨D1, hD1⟩ : ∃ D1, D1 = 10 ^ 18 := ⟨_, rfl⟩
        have s2 := fun h => spec53 h (k := 18) (by omega)
        have z18 : ((18 : Nat) : Int) = 18 := rfl
        rw [z18] at s2
        have s2m := fun h => spec53 h (k := m) hm
        have tl := ten_lt (k := 18) (by omega)
        have tlm := ten_lt hm
        have tp : 0 < 10 ^ m := Nat.pow_pos (by decide)
        have tp18 : 0 < 10 ^ 18 := Nat.pow_pos (by decide)
        have td := two_divs (N := P) (a := 10 ^ 18) (b := 10 ^ m)
        rw [← Nat.pow_add] at td
        rw [← hD1] at s2 tl tp18 td
        have s3 := fun h => spec52 h (V := P) (d := D1) (by omega) tp18 tl
        have s4 := fun h => spec52 h (V := P / D1) (d := 10 ^ m) (by have := Nat.div_le_self P D1; omega) tp tlm
        rw [td.1] at s4
        have w1 : IntKind.i64.wrap (((18 + m : Nat) : Int) - 18) = (m : Int) := by rw [wi64 (by omega) (by omega)]; omega
        have q2 := quo2 tlm
        have q2' := quo2' tlm
        have hhm := half_of hm0
        have rl : P % D1 < D1 := Nat.mod_lt _ tp18
        have hpw : 10 ^ (18 + m) = (10 ^ m / 2 + 10 ^ m / 2) * D1 := by rw [hhm, hD1, Nat.pow_add, Nat.mul_comm]
        have hup : rqUp P (10 ^ (18 + m)) ↔ (10 ^ m / 2 < P / D1 % 10 ^ m ∨ P / D1 % 10 ^ m = 10 ^ m / 2 ∧ (0 < P % D1 ∨ P / 10 ^ (18 + m) % 2 = 1)) := by
          rw [up_two tp18 rl]
          unfold rqUp
          rw [← td.2, ← hpw]
        clear hpw td hh hhm hP hD1 tl tlm tp tp18 rl
        generalize ((18 + m : Nat) : Int) = nn at *
        generalize (10 : Nat) ^ (18 + m) = T at *
        generalize (10 : Nat) ^ m = U at *
        generalize U / 2 = H at *
        generalize P % D1 = r at *
        generalize P / D1 % U = mo at *
        generalize P / D1 = P1 at *
        generalize P / T = Q at *
        by_cases u1 : H < mo
        · have hu : rqUp P T := hup.2 (.inl u1)
          rw [decide_eq_true hu] at lo s5
          simp at lo s5
          clear hup hu
          simp [M.a20, E.eqs, wC_zero, c1, c2, c3, c4, c5, s1, s2, s2m, w1, s3, s4, q2, q2', u1, lo, g3, g4, g6, g9, s5, fldA, freshB, loadA, storeA, trim_pure, pureT, pureV, pureS]
        · by_cases u2 : mo = H
          · by_cases u3 : 0 < r
            · have hu : rqUp P T := hup.2 (.inr ⟨u2, .inl u3⟩)
              rw [decide_eq_true hu] at lo s5
              simp at lo s5
              clear hup hu
              simp [M.a20, E.eqs, wC_zero, c1, c2, c3, c4, c5, s1, s2, s2m, w1, s3, s4, q2, q2', u1, u2, u3, lo, g3, g4, g6, g9, s5, fldA, freshB, loadA, storeA, trim_pure, pureT, pureV, pureS]
            · have u3' : r = 0 := by omega
              subst u3'
              rcases m2 with m2 | m2
              · have hu : ¬ rqUp P T := fun x => by have := hup.1 x; omega
                rw [decide_eq_false hu] at lo s5
                simp at lo s5
                clear hup hu
                simp [M.a20, E.eqs, wC_zero, c1, c2, c3, c4, c5, s1, s2, s2m, w1, s3, s4, q2, q2', u1, u2, l4_low, l4_low', a1, m2, lo, g3, g4, g6, g9, s5, fldA, freshB, loadA, storeA, trim_pure, pureT, pureV, pureS]
              · have hu : rqUp P T := hup.2 (.inr ⟨u2, .inr (by omega)⟩)
                rw [decide_eq_true hu] at lo s5
                simp at lo s5
                clear hup hu
                simp [M.a20, E.eqs, wC_zero, c1, c2, c3, c4, c5, s1, s2, s2m, w1, s3, s4, q2, q2', u1, u2, l4_low, l4_low', a1, m2, lo, g3, g4, g6, g9, s5, fldA, freshB, loadA, storeA, trim_pure, pureT, pureV, pureS]
          · have hu : ¬ rqUp P T := fun x => by have := hup.1 x; omega
            rw [decide_eq_false hu] at lo s5
            simp at lo s5
            clear hup hu
            simp [M.a20, E.eqs, wC_zero, c1, c2, c3, c4, c5, s1, s2, s2m, w1, s3, s4, q2, q2', u1, u2, lo, g3, g4, g6, g9, s5, fldA, freshB, loadA, storeA, trim_pure, pureT, pureV, pureS]
  · rw [if_neg hk, if_neg hk]
    refine callX rfl (by rfl : F 20 = some M.a20) (fun R RO RD RT E => ?_)
    by_cases c1 : k < 0
    · simp [M.a20, E.eqs, c1, wC_zero, freshB, loadA, storeA, trim_pure, pureT, pureV, pureS]
    · have c2 : 36 < k := by omega
      simp [M.a20, E.eqs, c1, c2, wC_zero, freshB, loadA, storeA, trim_pure, pureT, pureV, pureS]
end Go.Proofs.Ytohnpealiilikaa
