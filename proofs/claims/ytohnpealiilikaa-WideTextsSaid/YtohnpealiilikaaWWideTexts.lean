/- WideTexts: the law's call says true, of any number. -/
import Derived.Test.YtohnpealiilikaaT5
import Derived.Test.YtohnpealiilikaaY2
set_option linter.unusedVariables false
set_option linter.unusedSimpArgs false
set_option maxRecDepth 100000
namespace Go.Proofs.Ytohnpealiilikaa.lawWideTexts
open Go.Abs

/-- a number's text is parsed to it -/
theorem parse_text {n : Int} (hn : InW n) : parseR (wtxt n) = [W n, .sc (.int .i64 0)] := by
  have h1 := txt_noNought n.natAbs
  have h2 := txt_dig n.natAbs
  have h3 := valT_txt n.natAbs
  have h4 := txt_zero_iff n.natAbs
  unfold wtxt
  by_cases hneg : n < 0
  · rw [if_pos hneg]
    obtain ⟨b1, b2⟩ := bare_neg (txt n.natAbs)
    rw [parse_tail (by rw [b1]; exact h1) (by rw [b1]; rintro ⟨_, e⟩; have := h4.1 e; omega), b1, b2]
    unfold tailR
    rw [if_pos h2, h3]
    have : sg true n.natAbs = n := by unfold sg; rw [if_pos rfl]; omega
    rw [this]
    unfold okW okC okE
    rw [if_pos hn, if_pos hn]
  · rw [if_neg hneg]
    obtain ⟨x, r, hx⟩ : ∃ x r, txt n.natAbs = x :: r := by
      cases h : txt n.natAbs with
      | nil => exact absurd h (txt_ne _)
      | cons x r => exact ⟨x, r, rfl⟩
    have h45 : ¬ x = 45 := by
      intro e
      subst e
      rw [hx] at h2
      simp [isDig] at h2
    obtain ⟨b1, b2⟩ := bare_pos r h45
    rw [hx] at h1 h2 h3 ⊢
    rw [parse_tail (by rw [b1]; exact h1) (by rw [b2]; rintro ⟨e, _⟩; contradiction), b1, b2]
    unfold tailR
    rw [if_pos h2, h3]
    have : sg false n.natAbs = n := by unfold sg; rw [if_neg (by decide)]; omega
    rw [this]
    unfold okW okC okE
    rw [if_pos hn, if_pos hn]

set_option maxHeartbeats 4000000 in
theorem core {H : Type} (h : Heap) (tvs : List TV) (ds : List (DataW H)) (hr : AllRo h) (hi : Ins Try.prog h 6 [24] tvs ds) : ∃ h', callE F O 9 tvs h = some ([.sc (.bool true)], h') := by
  obtain ⟨tv, d, rfl, rfl, h1⟩ := ins_one hi
  obtain ⟨a, rfl, ha⟩ := in_wide h1
  have s1 := fun h => spec27 h ha
  have s2 := fun h => spec29 h ha
  have hl := txt_length ha.abs60 (by decide)
  have s3 := fun h => spec28 h (s := wtxt a) (by unfold wtxt; split <;> (try simp only [List.length_cons]) <;> omega)
  rw [parse_text ha] at s3
  have kn := spec16
  refine ⟨h, callX rfl (by rfl : F 9 = some M.a9) (fun R RO RD RT E => ?_)⟩
  clear h1 ha hl
  generalize wtxt a = t at *
  simp [M.a9, E.eqs, wC_zero, s1, s2, s3, kn, fldA, freshB, loadA, storeA, trim_pure, pureT, pureV, pureS]
end Go.Proofs.Ytohnpealiilikaa.lawWideTexts
