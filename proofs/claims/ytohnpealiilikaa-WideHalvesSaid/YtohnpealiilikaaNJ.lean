/- Chapter 2, the document's: quotients and rests. -/
import Derived.Test.YtohnpealiilikaaNG
import Derived.Test.YtohnpealiilikaaNI
set_option linter.unusedVariables false
set_option linter.unusedSimpArgs false
set_option maxRecDepth 100000
namespace Go.Proofs.Ytohnpealiilikaa
open Go.Abs

theorem sg_neg (c : Bool) (N : Nat) : (c && !decide (N = 0)) = decide (sg c N < 0) := by
  unfold sg
  cases c
  · simp
  · by_cases h : N = 0
    · subst h; simp
    · have : -(N : Int) < 0 := by omega
      rw [decide_eq_false h]
      simp only [if_true, Bool.not_false, Bool.and_self]
      rw [decide_eq_true this]
theorem sg_abs (c : Bool) (N : Nat) : N = (sg c N).natAbs := by
  unfold sg
  cases c <;> simp
theorem InB.sg {c : Bool} {N : Nat} (h : N < 4294967296 ^ 15) : InB (sg c N) := by
  unfold InB
  rw [← sg_abs]
  exact h

set_option maxHeartbeats 2000000 in
theorem spec15 (h : Heap) {a b : Int} (ha : InW a) (hb : InW b) : call 15 [[W a], [W b]] h = some ([W (dvQ a b), W (dvR a b), .sc (.int .i64 (dvE a b))], h) := by
  have s1 := fun h => spec44 h ha
  have s2 := fun h => spec44 h hb
  have sz := fun h => spec45 h (a := b.natAbs) hb.big.lt
  unfold dvQ dvR dvE
  by_cases hz : b = 0
  · rw [if_pos hz, if_pos hz, if_pos hz]
    have hz' : b.natAbs = 0 := by omega
    rw [decide_eq_true hz'] at sz
    refine callX rfl (by rfl : F 15 = some M.a15) (fun R RO RD RT E => ?_)
    simp [M.a15, E.eqs, zeros_big, wC_zero, s1, s2, sz, fldA, freshB, loadA, storeA, trim_pure, pureT, pureV, pureS]
  · rw [if_neg hz, if_neg hz, if_neg hz]
    have hz' : ¬ b.natAbs = 0 := by omega
    rw [decide_eq_false hz'] at sz
    have s3 := fun h => spec46 h (a := a.natAbs) (b := b.natAbs) (by omega) hb.big ha.big.lt
    have q1 := sg_tdiv a b
    have q2 := sg_tmod a b
    have ql : a.natAbs / b.natAbs < 4294967296 ^ 15 := Nat.lt_of_le_of_lt (Nat.div_le_self _ _) ha.big
    have rl : a.natAbs % b.natAbs < 4294967296 ^ 15 := Nat.lt_of_le_of_lt (Nat.mod_le _ _) ha.big
    have z1 := fun h => spec45 h (a := a.natAbs / b.natAbs) (Nat.lt_of_lt_of_le ql (by decide))
    have z2 := fun h => spec45 h (a := a.natAbs % b.natAbs) (Nat.lt_of_lt_of_le rl (by decide))
    have mk1 := big_mk (sg_neg (decide (a < 0) != decide (b < 0)) (a.natAbs / b.natAbs)) (sg_abs _ _)
    have mk2 := big_mk (sg_neg (decide (a < 0)) (a.natAbs % b.natAbs)) (sg_abs _ _)
    have s4 := fun h => spec47 h (InB.sg (c := decide (a < 0) != decide (b < 0)) ql)
    have s5 := fun h => spec47 h (InB.sg (c := decide (a < 0)) rl)
    rw [q1] at mk1 s4
    rw [q2] at mk2 s5
    have o1 : okC (a.tmod b) = a.tmod b := by unfold okC; rw [if_pos (tmod_in ha)]
    have o2 : ∀ q : Int, okE q = 0 ∧ InW q ∨ okE q = 20 ∧ ¬ InW q := fun q => by
      unfold okE
      by_cases c : InW q
      · exact .inl ⟨if_pos c, c⟩
      · exact .inr ⟨if_neg c, c⟩
    refine callX rfl (by rfl : F 15 = some M.a15) (fun R RO RD RT E => ?_)
    clear q1 q2 ql rl
    have o2 := o2 (a.tdiv b)
    generalize a.natAbs / b.natAbs = x1 at *
    generalize a.natAbs % b.natAbs = x2 at *
    generalize a.tdiv b = q at *
    generalize a.tmod b = r at *
    by_cases c1 : a < 0 <;> by_cases c2 : b < 0
    all_goals
      simp [c1, c2] at mk1 mk2
      rcases o2 with ⟨o3, o4⟩ | ⟨o3, o4⟩
      · rw [if_pos o4]
        unfold okW at s4
        rw [o3] at s4
        rw [o3]
        simp [M.a15, E.eqs, zeros_big, zeros_digC, wC_zero, s1, s2, sz, s3, c1, c2, z1, z2, mk1, mk2, s4, s5, o1, fldA, freshB, loadA, storeA, trim_pure, pureT, pureV, pureS]
      · rw [if_neg o4]
        have o5 : okC q = 0 := by unfold okC; rw [if_neg o4]
        unfold okW at s4
        rw [o3, o5] at s4
        rw [o3, o5]
        simp [M.a15, E.eqs, zeros_big, zeros_digC, wC_zero, s1, s2, sz, s3, c1, c2, z1, z2, mk1, mk2, s4, s5, o1, fldA, freshB, loadA, storeA, trim_pure, pureT, pureV, pureS]
end Go.Proofs.Ytohnpealiilikaa
