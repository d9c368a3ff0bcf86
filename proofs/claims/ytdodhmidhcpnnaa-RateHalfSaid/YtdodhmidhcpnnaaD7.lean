/- Chapter 3: small things that several laws use. -/
import Derived.Test.YtdodhmidhcpnnaaD6
set_option linter.unusedVariables false
set_option linter.unusedSimpArgs false
set_option maxRecDepth 100000
namespace Go.Proofs.Ytdodhmidhcpnnaa
open Go.Abs

theorem bothR_in {sub : Bool} {a s b t : Int} : ∃ n m e : Int, bothR sub a s b t = [Dc n m, .sc (.int .i64 e)] ∧ InW n := by
  unfold bothR
  split
  · split
    · exact ⟨_, _, _, rfl, inW_okC _⟩
    · exact ⟨0, 0, 20, rfl, inW_zero⟩
  · exact ⟨0, 0, 21, rfl, inW_zero⟩
theorem dC_inj {n s n' s' : Int} (ha : InW n) (hb : InW n') (h : dC n s = dC n' s') : n = n' ∧ s = s' := by
  unfold dC at h
  simp only [List.cons.injEq, SV.int.injEq, true_and, and_true] at h
  unfold InW at ha hb
  omega
/-- brought to a scale that is not greater -/
theorem mulR_down {a s to : Int} (ha : InW a) (hs : rgt s = true) (h0 : 0 ≤ to) (h1 : to ≤ s) : mulR a s 1 0 to = [Dc (rnd a (s - to).toNat) to, .sc (.int .i64 0)] := by
  obtain ⟨s0, s18⟩ := rgt_iff.1 hs
  have r0 : rgt 0 = true := rfl
  have rt : rgt to = true := rgt_iff.2 (by omega)
  unfold mulR
  rw [if_pos ⟨hs, r0, rt⟩, Int.mul_one, Int.add_zero]
  obtain ⟨k, hk⟩ := Int.eq_ofNat_of_zero_le (show 0 ≤ s - to by omega)
  rw [hk, rndI_of]
  exact okD_in (rnd_in ha k)
/-- brought to a scale that is not less -/
theorem mulR_up {a s to : Int} (hs : rgt s = true) (h1 : s ≤ to) (h2 : to ≤ 18) : mulR a s 1 0 to = okD (fin a (to - s)) to := by
  obtain ⟨s0, s18⟩ := rgt_iff.1 hs
  have r0 : rgt 0 = true := rfl
  have rt : rgt to = true := rgt_iff.2 (by omega)
  unfold mulR
  rw [if_pos ⟨hs, r0, rt⟩, Int.mul_one, Int.add_zero, rndI_fin (by omega)]
  congr 2
  omega
end Go.Proofs.Ytdodhmidhcpnnaa
