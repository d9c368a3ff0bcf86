/- Chapter 2: quotients and rests, both ways. -/
import Derived.Test.YtohnpealiilikaaNH
set_option linter.unusedVariables false
set_option linter.unusedSimpArgs false
set_option maxRecDepth 100000
namespace Go.Proofs.Ytohnpealiilikaa
open Go.Abs

theorem sg_tdiv (a b : Int) : sg (decide (a < 0) != decide (b < 0)) (a.natAbs / b.natAbs) = a.tdiv b := by
  unfold sg
  have key : ∀ m n : Nat, ((m / n : Nat) : Int) = (m : Int).tdiv n := fun m n => rfl
  obtain ⟨m, hm⟩ : ∃ m, m = a.natAbs := ⟨_, rfl⟩
  obtain ⟨n, hn⟩ : ∃ n, n = b.natAbs := ⟨_, rfl⟩
  rw [← hm, ← hn, key]
  by_cases h1 : a < 0 <;> by_cases h2 : b < 0 <;> simp only [h1, h2, decide_true, decide_false]
  · have e1 : a = -(m : Int) := by omega
    have e2 : b = -(n : Int) := by omega
    rw [e1, e2, Int.neg_tdiv, Int.tdiv_neg]; simp
  · have e1 : a = -(m : Int) := by omega
    have e2 : b = (n : Int) := by omega
    rw [e1, e2, Int.neg_tdiv]; simp
  · have e1 : a = (m : Int) := by omega
    have e2 : b = -(n : Int) := by omega
    rw [e1, e2, Int.tdiv_neg]; simp
  · have e1 : a = (m : Int) := by omega
    have e2 : b = (n : Int) := by omega
    rw [e1, e2]; simp
theorem sg_tmod (a b : Int) : sg (decide (a < 0)) (a.natAbs % b.natAbs) = a.tmod b := by
  unfold sg
  have key : ∀ m n : Nat, ((m % n : Nat) : Int) = (m : Int).tmod n := fun m n => rfl
  obtain ⟨m, hm⟩ : ∃ m, m = a.natAbs := ⟨_, rfl⟩
  obtain ⟨n, hn⟩ : ∃ n, n = b.natAbs := ⟨_, rfl⟩
  rw [← hm, ← hn, key]
  have e2 : b = (n : Int) ∨ b = -(n : Int) := by omega
  have e3 : a.tmod b = a.tmod n := by rcases e2 with e | e <;> rw [e]; exact Int.tmod_neg _ _
  rw [e3]
  by_cases h1 : a < 0 <;> simp only [h1, decide_true, decide_false]
  · have e1 : a = -(m : Int) := by omega
    rw [e1, Int.neg_tmod]; simp
  · have e1 : a = (m : Int) := by omega
    rw [e1]; simp

/-- a quotient, its rest, and what is wrong -/
def dvQ (a b : Int) : Int := if b = 0 then 0 else okC (a.tdiv b)
def dvR (a b : Int) : Int := if b = 0 then 0 else if InW (a.tdiv b) then a.tmod b else 0
def dvE (a b : Int) : Int := if b = 0 then 22 else okE (a.tdiv b)

theorem tmod_in {a b : Int} (ha : InW a) : InW (a.tmod b) := by
  rw [← sg_tmod]
  have := Nat.mod_le a.natAbs b.natAbs
  unfold sg InW at *
  split
  · rename_i h
    simp at h
    omega
  · rename_i h
    simp at h
    omega

theorem div_pos_form (h : Heap) {a b : Int} {qh ql rh rl : Nat} (hq : a.natAbs / b.natAbs = qh * 18446744073709551616 + ql) (hr : a.natAbs % b.natAbs = rh * 18446744073709551616 + rl) (h1 : qh < 18446744073709551616) (h2 : ql < 18446744073709551616) (h3 : rh < 18446744073709551616) (h4 : rl < 18446744073709551616) :
    call 43 [[.sc (.bool (decide (a < 0) != decide (b < 0)))], [.sc (.int .u64 qh)], [.sc (.int .u64 ql)]] h = some (okW (a.tdiv b), h) ∧
    call 43 [[.sc (.bool (decide (a < 0)))], [.sc (.int .u64 rh)], [.sc (.int .u64 rl)]] h = some (okW (a.tmod b), h) := by
  have s1 := spec43 h (decide (a < 0) != decide (b < 0)) h1 h2
  have s2 := spec43 h (decide (a < 0)) h3 h4
  rw [← hq] at s1
  rw [← hr] at s2
  exact ⟨s1.trans (by rw [← sg_tdiv]; rfl), s2.trans (by rw [← sg_tmod]; rfl)⟩

set_option maxHeartbeats 2000000 in
theorem spec14 (h : Heap) {a b : Int} (ha : InW a) (hb : InW b) : call 14 [[W a], [W b]] h = some ([W (dvQ a b), W (dvR a b), .sc (.int .i64 (dvE a b))], h) := by
  have ek := wC_eqK_of hb inW_zero
  unfold dvQ dvR dvE
  by_cases hz : b = 0
  · rw [if_pos hz, if_pos hz, if_pos hz]
    rw [decide_eq_true hz] at ek
    refine callX rfl (by rfl : F 14 = some M.a14) (fun R RO RD RT E => ?_)
    simp [M.a14, E.eqs, wC_zero, ek, freshB, loadA, storeA, trim_pure, pureT, pureV, pureS]
  · rw [if_neg hz, if_neg hz, if_neg hz]
    rw [decide_eq_false hz] at ek
    have s1 := fun h => spec39 h ha
    have s2 := fun h => spec39 h hb
    have hA : a.natAbs < 340282366920938463463374607431768211456 := by unfold InW at ha; omega
    have hB : b.natAbs < 340282366920938463463374607431768211456 := by unfold InW at hb; omega
    have hB0 : 0 < b.natAbs := by omega
    have o1 : okC (a.tmod b) = a.tmod b := by unfold okC; rw [if_pos (tmod_in ha)]
    have o2 : ∀ q : Int, okE q = 0 ∧ InW q ∨ okE q = 20 ∧ ¬ InW q := fun q => by
      unfold okE
      by_cases c : InW q
      · exact .inl ⟨if_pos c, c⟩
      · exact .inr ⟨if_neg c, c⟩
    obtain ⟨ahi, alo, e1, e2, e3, e4, e5⟩ := W_of ha
    obtain ⟨bhi, blo, f1, f2, f3, f4, f5⟩ := W_of hb
    have e1' := AV.agg.inj e1
    have f1' := AV.agg.inj f1
    have d1 : decide (a < 0) = decide (ahi < 0) := by simp only [decide_eq_decide]; omega
    have d2 : decide (b < 0) = decide (bhi < 0) := by simp only [decide_eq_decide]; omega
    rw [f1'] at ek
    -- the digits of both sizes
    obtain ⟨ah, hah⟩ : ∃ ah, ah = a.natAbs / 18446744073709551616 := ⟨_, rfl⟩
    obtain ⟨al, hal⟩ : ∃ al, al = a.natAbs % 18446744073709551616 := ⟨_, rfl⟩
    obtain ⟨bh, hbh⟩ : ∃ bh, bh = b.natAbs / 18446744073709551616 := ⟨_, rfl⟩
    obtain ⟨bl, hbl⟩ : ∃ bl, bl = b.natAbs % 18446744073709551616 := ⟨_, rfl⟩
    have hAs : a.natAbs = ah * 18446744073709551616 + al := by omega
    have hBs : b.natAbs = bh * 18446744073709551616 + bl := by omega
    have ahl : ah < 18446744073709551616 := by omega
    have all : al < 18446744073709551616 := by omega
    have bhl : bh < 18446744073709551616 := by omega
    have bll : bl < 18446744073709551616 := by omega
    rw [← hah, ← hal] at s1
    rw [← hbh, ← hbl] at s2
    by_cases h0 : bh = 0
    · have hbl0 : 0 < bl := by omega
      have hBe : b.natAbs = bl := by omega
      have hrl : ah % bl < bl := Nat.mod_lt _ hbl0
      have s3 := fun h => spec40 h hrl bll all
      obtain ⟨k1, k2⟩ := knuth_total (X := ah) (B := 18446744073709551616) (w := al) hbl0
      rw [← hAs, ← hBe] at k1 k2
      have sg := fun h => div_pos_form h (a := a) (b := b) (qh := ah / bl) (ql := (ah % bl * 18446744073709551616 + al) / bl) (rh := 0) (rl := (ah % bl * 18446744073709551616 + al) % bl) (by rw [k1, hBe]) (by rw [k2, hBe]; omega) (Nat.lt_of_le_of_lt (Nat.div_le_self _ _) ahl) (quot_lt hrl all) (by omega) (Nat.lt_trans (Nat.mod_lt _ hbl0) bll)
      have sg1 := fun h => (sg h).1
      have sg2 := fun h => (sg h).2
      rw [d1, d2] at sg1
      have z0 : ((0 : Nat) : Int) = 0 := rfl
      rw [d1, z0] at sg2
      have wq := quo_guess (v1 := bl) ahl
      have wq' := quo_guess' (v1 := bl) ahl
      have wr : (ah : Int).tmod bl = ((ah % bl : Nat) : Int) := rfl
      have nz : ¬ (bl : Int) = 0 := by omega
      have nz' : ¬ bl = 0 := by omega
      subst h0
      rw [e1] at s1 ⊢
      rw [f1] at s2 ⊢
      clear e1 f1 e1' f1' hAs hBs hah hal hbh hbl k1 k2 sg d1 d2 e2 f2 hBe hB0 hA hB e4 e5 f4 f5 all bll ahl hrl
      generalize ah / bl = x1 at *
      generalize (ah % bl * 18446744073709551616 + al) / bl = x2 at *
      generalize (ah % bl * 18446744073709551616 + al) % bl = x3 at *
      generalize ah % bl = x4 at *
      refine callX rfl (by rfl : F 14 = some M.a14) (fun R RO RD RT E => ?_)
      rcases o2 (a.tdiv b) with ⟨o3, o4⟩ | ⟨o3, o4⟩
      · rw [if_pos o4]
        unfold okW at sg1
        rw [o3] at sg1
        rw [o3]
        generalize a.tdiv b = q at *
        generalize a.tmod b = r at *
        simp [M.a14, E.eqs, wC_zero, ek, s1, s2, s3, wq, wq', wr, nz, nz', sg1, sg2, o1, fldA, freshB, loadA, storeA, trim_pure, pureT, pureV, pureS]
      · rw [if_neg o4]
        have o5 : okC (a.tdiv b) = 0 := by unfold okC; rw [if_neg o4]
        unfold okW at sg1
        rw [o3, o5] at sg1
        rw [o3, o5]
        generalize a.tdiv b = q at *
        generalize a.tmod b = r at *
        simp [M.a14, E.eqs, wC_zero, ek, s1, s2, s3, wq, wq', wr, nz, nz', sg1, sg2, o1, fldA, freshB, loadA, storeA, trim_pure, pureT, pureV, pureS]
    · have h0' : 0 < bh := by omega
      obtain ⟨k, lz, hk, k1, k2⟩ := spec41 (h ++ [⟨.var, [.int .i64 ahi, .int .u64 (alo : Int)]⟩, ⟨.var, [.int .i64 bhi, .int .u64 (blo : Int)]⟩, ⟨.var, wC 0⟩, ⟨.var, wC 0⟩]) bhl h0'
      have k64 : (2 : Nat) ^ 64 = 18446744073709551616 := by decide
      have k63 : (2 : Nat) ^ 63 = 9223372036854775808 := by decide
      rw [k64] at k2
      rw [k63] at k1
      have hlt : a.natAbs < b.natAbs * 2 ^ (k + 1) := by
        have h1 : bh * 18446744073709551616 * 2 ^ (k + 1) ≤ b.natAbs * 2 ^ (k + 1) := Nat.mul_le_mul_right _ (by omega)
        have h2 : bh * 18446744073709551616 * 2 ^ (k + 1) = bh * 2 ^ k * 36893488147419103232 := by
          rw [Nat.pow_succ]; generalize 2 ^ k = p; rw [Nat.mul_right_comm, ← Nat.mul_assoc, Nat.mul_assoc]
        rw [h2] at h1
        generalize bh * 2 ^ k = X at *
        generalize b.natAbs * 2 ^ (k + 1) = Y at *
        omega
      obtain ⟨e', lo, g2, g3, g4, g5, g11, g12, g13, g14⟩ := wdiv_loop (hh := h ++ [⟨.var, [.int .i64 ahi, .int .u64 (alo : Int)]⟩, ⟨.var, [.int .i64 bhi, .int .u64 (blo : Int)]⟩, ⟨.var, wC 0⟩, ⟨.var, wC 0⟩])
        (t2 := [.sc (.ptr h.length 0 2)]) (t3 := [.sc (.ptr (h.length + 1) 0 2)]) (t4 := [.sc (.ptr (h.length + 2) 0 2)]) (t5 := [.sc (.ptr (h.length + 3) 0 2)]) (t11 := [.sc (.int .u64 0)]) hBs bll hA h0' hk k2 (k + 1) 0 a.natAbs
        [(2, [.sc (.ptr h.length 0 2)]), (3, [.sc (.ptr (h.length + 1) 0 2)]), (4, [.sc (.ptr (h.length + 2) 0 2)]), (5, [.sc (.ptr (h.length + 3) 0 2)]), (9, [.sc (.int .u64 bh)]), (10, [.sc (.int .u64 bl)]), (11, [.sc (.int .u64 0)]), (12, [.sc (.int .u64 0)]), (13, [.sc (.int .u64 ah)]), (14, [.sc (.int .u64 al)]), (15, [.sc (.int .i64 k)])]
        (by omega) (by simp) hlt rfl rfl rfl rfl rfl rfl rfl (by simp) (by rw [← hah]; rfl) (by rw [← hal]; rfl) (by simp)
      have lo := loop_run lo
      have hql : a.natAbs / b.natAbs < 18446744073709551616 := by
        rw [Nat.div_lt_iff_lt_mul hB0]
        omega
      have hrl := Nat.mod_lt a.natAbs hB0
      have sg := fun h => div_pos_form h (a := a) (b := b) (qh := 0) (ql := a.natAbs / b.natAbs) (rh := a.natAbs % b.natAbs / 18446744073709551616) (rl := a.natAbs % b.natAbs % 18446744073709551616) (by omega) (by omega) (by omega) hql (by omega) (by omega)
      have sg1 := fun h => (sg h).1
      have sg2 := fun h => (sg h).2
      rw [d1, d2] at sg1
      rw [d1] at sg2
      have nz : ¬ (bh : Int) = 0 := by omega
      rw [e1] at s1 ⊢
      rw [f1] at s2 ⊢
      clear e1 f1 e1' f1' hAs hBs hah hal hbh hbl sg d1 d2 e2 f2 hB0 hA hB e4 e5 f4 f5 all bll ahl hrl hql hlt k1 k2 hk
      generalize a.natAbs / b.natAbs = x1 at *
      generalize a.natAbs % b.natAbs / 18446744073709551616 = x2 at *
      generalize a.natAbs % b.natAbs % 18446744073709551616 = x3 at *
      refine callX rfl (by rfl : F 14 = some M.a14) (fun R RO RD RT E => ?_)
      have lo := E.run lo
      have z : ((0 : Nat) : Int) = 0 := rfl
      rw [z] at sg1
      rcases o2 (a.tdiv b) with ⟨o3, o4⟩ | ⟨o3, o4⟩
      · rw [if_pos o4]
        unfold okW at sg1
        rw [o3] at sg1
        rw [o3]
        generalize a.tdiv b = q at *
        generalize a.tmod b = r at *
        simp [M.a14, E.eqs, wC_zero, ek, s1, s2, lz, lo, g2, g3, g4, g5, g11, g12, g13, g14, h0, nz, sg1, sg2, o1, fldA, freshB, loadA, storeA, trim_pure, pureT, pureV, pureS]
      · rw [if_neg o4]
        have o5 : okC (a.tdiv b) = 0 := by unfold okC; rw [if_neg o4]
        unfold okW at sg1
        rw [o3, o5] at sg1
        rw [o3, o5]
        generalize a.tdiv b = q at *
        generalize a.tmod b = r at *
        simp [M.a14, E.eqs, wC_zero, ek, s1, s2, lz, lo, g2, g3, g4, g5, g11, g12, g13, g14, h0, nz, sg1, sg2, o1, fldA, freshB, loadA, storeA, trim_pure, pureT, pureV, pureS]
end Go.Proofs.Ytohnpealiilikaa
