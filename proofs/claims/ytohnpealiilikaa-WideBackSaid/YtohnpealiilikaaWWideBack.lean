/- WideBack: the law's call says true, of any two numbers. -/
import Derived.Test.YtohnpealiilikaaNI
import Derived.Test.YtohnpealiilikaaY2
set_option linter.unusedVariables false
set_option linter.unusedSimpArgs false
set_option maxRecDepth 100000
namespace Go.Proofs.Ytohnpealiilikaa.lawWideBack
open Go.Abs

theorem okC_in {n : Int} (h : InW n) : okC n = n := if_pos h
theorem okE_in {n : Int} (h : InW n) : okE n = 0 := if_pos h
theorem okC_out {n : Int} (h : ¬ InW n) : okC n = 0 := if_neg h
theorem okE_out {n : Int} (h : ¬ InW n) : okE n = 20 := if_neg h
theorem sgn_rest (a b : Int) : sgn (a.tmod b) = 0 ∨ ¬ sgn (a.tmod b) = 0 ∧ sgn (a.tmod b) = sgn a := by
  rw [← sg_tmod]
  have := Nat.mod_le a.natAbs b.natAbs
  generalize a.natAbs % b.natAbs = m at *
  unfold sg sgn
  by_cases h : a < 0
  · simp only [h, decide_true, if_true]
    by_cases h0 : m = 0
    · subst h0; exact .inl (by decide)
    · have : -(m : Int) < 0 := by omega
      rw [if_pos this]
      exact .inr ⟨by decide, rfl⟩
  · simp only [h, decide_false, if_false, Bool.false_eq_true]
    by_cases h0 : m = 0
    · subst h0; exact .inl (by decide)
    · have h1 : ¬ (m : Int) < 0 := by omega
      have h2 : ¬ (m : Int) = 0 := by omega
      have h3 : ¬ a = 0 := by omega
      rw [if_neg h1, if_neg h2, if_neg h3]
      exact .inr ⟨by decide, rfl⟩
theorem sgn_over {a b : Int} (ha : InW a) (hb : InW b) (h : ¬ InW (a + b)) : sgn a = sgn b := by
  unfold InW sgn at *
  split <;> (try split) <;> (try split) <;> (try split) <;> omega
theorem part_in {a b : Int} (ha : InW a) : InW (a.tdiv b * b) := by
  have h1 := sg_tmod a b
  have h2 := Int.mul_tdiv_add_tmod a b
  rw [Int.mul_comm] at h2
  have h3 := Nat.mod_le a.natAbs b.natAbs
  generalize a.tdiv b * b = x at *
  generalize a.tmod b = y at *
  generalize a.natAbs % b.natAbs = z at *
  unfold sg at h1
  unfold InW at *
  split at h1
  · rename_i h
    simp at h
    omega
  · rename_i h
    simp at h
    omega

set_option maxHeartbeats 4000000 in
theorem core {H : Type} (h : Heap) (tvs : List TV) (ds : List (DataW H)) (hr : AllRo h) (hi : Ins Try.prog h 6 [24, 24] tvs ds) : ∃ h', callE F O 11 tvs h = some ([.sc (.bool true)], h') := by
  obtain ⟨tv, d, tvs, ds, rfl, rfl, h1, hi⟩ := ins_cons hi
  obtain ⟨tv2, d2, rfl, rfl, h2⟩ := ins_one hi
  obtain ⟨a, rfl, ha⟩ := in_wide h1
  obtain ⟨b, rfl, hb⟩ := in_wide h2
  have s1 := fun h => spec14 h ha hb
  have kn := spec16
  have s5 := fun h => spec19 h ha hb
  unfold okW at s5
  have ga := fun h => spec31 h ha
  have gb := fun h => spec31 h hb
  -- the second half
  have half : (InW (a + b) ∧ okE (a + b) = 0 ∧ okC (a + b) = a + b ∧ ∀ h, call 32 [[W (a + b)], [W b]] h = some ([W a, .sc (.int .i64 0)], h)) ∨ (okE (a + b) = 20 ∧ sgn a = sgn b) := by
    by_cases c : InW (a + b)
    · refine .inl ⟨c, okE_in c, okC_in c, fun h => ?_⟩
      have := spec32 h c hb
      have e : a + b - b = a := by omega
      rw [e] at this
      unfold okW at this
      rw [okC_in ha, okE_in ha] at this
      exact this
    · exact .inr ⟨okE_out c, sgn_over ha hb c⟩
  refine ⟨h, callX rfl (by rfl : F 11 = some M.a11) (fun R RO RD RT E => ?_)⟩
  unfold dvQ dvR dvE at s1
  have second : ∀ x, x = a + b → x = a + b := fun _ h => h
  by_cases hz : b = 0
  · rw [if_pos hz, if_pos hz, if_pos hz] at s1
    have ek := wC_eqK_of hb inW_zero
    rw [decide_eq_true hz] at ek
    clear h1 h2 ha hb
    rcases half with ⟨_, q1, q2, q3⟩ | ⟨q1, q2⟩
    · rw [q1, q2] at s5
      simp [M.a11, E.eqs, wC_zero, s1, s5, ga, gb, q3, ek, kn, fldA, freshB, loadA, storeA, trim_pure, pureT, pureV, pureS]
    · rw [q1] at s5
      simp [M.a11, E.eqs, wC_zero, s1, s5, ga, gb, q2, ek, kn, fldA, freshB, loadA, storeA, trim_pure, pureT, pureV, pureS]
  · rw [if_neg hz, if_neg hz, if_neg hz] at s1
    by_cases hq : InW (a.tdiv b)
    · rw [okC_in hq, okE_in hq, if_pos hq] at s1
      have s2 := fun h => spec17 h hq hb
      have pi := part_in (b := b) ha
      unfold okW at s2
      rw [okC_in pi, okE_in pi] at s2
      have s3 := fun h => spec19 h pi (tmod_in (b := b) ha)
      unfold okW at s3
      have e := Int.mul_tdiv_add_tmod a b
      rw [Int.mul_comm] at e
      rw [e] at s3
      rw [okC_in ha, okE_in ha] at s3
      have gr := fun h => spec31 h (tmod_in (b := b) ha)
      have sr := sgn_rest a b
      clear h1 h2 ha hb pi e hq
      generalize a.tdiv b * b = x at *
      generalize a.tdiv b = q at *
      generalize a.tmod b = r at *
      generalize sgn a = ga1 at *
      generalize sgn r = gr1 at *
      rcases half with ⟨_, q1, q2, q3⟩ | ⟨q1, q2⟩
      · rw [q1, q2] at s5
        rcases sr with sr | ⟨sr, sr2⟩
        · simp [M.a11, E.eqs, wC_zero, s1, s2, s3, s5, ga, gb, gr, sr, q3, kn, fldA, freshB, loadA, storeA, trim_pure, pureT, pureV, pureS]
        · subst sr2
          simp [M.a11, E.eqs, wC_zero, s1, s2, s3, s5, ga, gb, gr, sr, q3, kn, fldA, freshB, loadA, storeA, trim_pure, pureT, pureV, pureS]
      · rw [q1] at s5
        rcases sr with sr | ⟨sr, sr2⟩
        · simp [M.a11, E.eqs, wC_zero, s1, s2, s3, s5, ga, gb, gr, sr, q2, kn, fldA, freshB, loadA, storeA, trim_pure, pureT, pureV, pureS]
        · subst sr2
          rw [← q2] at gb
          simp [M.a11, E.eqs, wC_zero, s1, s2, s3, s5, ga, gb, gr, sr, kn, fldA, freshB, loadA, storeA, trim_pure, pureT, pureV, pureS]
    · rw [okC_out hq, okE_out hq, if_neg hq] at s1
      clear h1 h2 ha hb hq
      rcases half with ⟨_, q1, q2, q3⟩ | ⟨q1, q2⟩
      · rw [q1, q2] at s5
        simp [M.a11, E.eqs, wC_zero, s1, s5, ga, gb, q3, kn, fldA, freshB, loadA, storeA, trim_pure, pureT, pureV, pureS]
      · rw [q1] at s5
        simp [M.a11, E.eqs, wC_zero, s1, s5, ga, gb, q2, kn, fldA, freshB, loadA, storeA, trim_pure, pureT, pureV, pureS]
end Go.Proofs.Ytohnpealiilikaa.lawWideBack
