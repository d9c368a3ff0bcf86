/- Chapter 6: how long a message's bytes are. -/
import Derived.Test.YtoghoddofokekaaJ3
set_option linter.unusedVariables false
set_option linter.unusedSimpArgs false
set_option maxRecDepth 100000
namespace Go.Proofs.Ytoghoddofokekaa
open Go.Abs

theorem opt_le {m : Ms} {j n : Nat} (h : (layF m j).length ≤ n) : (optF m j).length ≤ n := by
  unfold optF
  split
  · exact h
  · simp
theorem bodyM_le {m : Ms} (hr : rightM m = true) (N : MsN m) (trm : ∀ z ∈ m.es, z.1.term < 18446744073709551616 ∧ z.1.index < 18446744073709551616) : (bodyM m).length ≤ 1000 ∧ 3 ≤ (bodyM m).length := by
  have ok := right_ok hr
  have hk := ask1_mask hr
  have n0 := numB_le N.term
  have n1 := opt_le (m := m) (j := 1) (n := 10) (numB_le N.index)
  have n2 := opt_le (m := m) (j := 2) (n := 10) (numB_le N.lt)
  have n3 := opt_le (m := m) (j := 3) (n := 10) (numB_le N.cm)
  have n4 := opt_le (m := m) (j := 4) (n := 1) (by simp [layF])
  have n5 := opt_le (m := m) (j := 5) (n := 21) (by have := numB_le N.bi; have := numB_le N.bt; simp [layF]; omega)
  have n6 := opt_le (m := m) (j := 6) (n := 10) (numB_le (by have := ok.off; omega))
  have n7 := opt_le (m := m) (j := 7) (n := 1) (by simp [layF])
  have n8 := opt_le (m := m) (j := 8) (n := 266) (by have := numB_le (n := m.D.length) (by have := ok.d; omega); have := ok.d; simp [layF]; omega)
  have n9 := opt_le (m := m) (j := 9) (n := 690) (by
    have := numB_le (n := m.es.length) (by have := ok.es4; omega)
    have n9 := layEs_le (l := m.ents) fun e he => by
      obtain ⟨z, hz, rfl⟩ := List.mem_map.1 he
      exact ⟨ok.right z hz, trm z hz⟩
    rw [← Ms.len_ents] at n9
    have := ok.es4
    simp [layF]
    omega)
  refine ⟨?_, by simp [bodyM]⟩
  rw [← refB_same hk]
  have hh : (headB m).length ≤ 13 := by simp [headB]; omega
  cases h9 : flM m.k 9
  · have : optF m 9 = [] := by unfold optF; rw [h9]; rfl
    rw [this]
    simp
    omega
  · obtain ⟨h4, h5, h6, h7, h8⟩ := fl9 h9
    have e8 : optF m 8 = [] := by unfold optF; rw [h8]; rfl
    rw [e8]
    simp
    omega
end Go.Proofs.Ytoghoddofokekaa
