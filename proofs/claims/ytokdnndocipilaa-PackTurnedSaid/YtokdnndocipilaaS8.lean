/- Chapter 1: a sum tells of one byte that is another. -/
import Derived.Test.YtokdnndocipilaaS5
set_option linter.unusedVariables false
namespace Go.Proofs.Ytokdnndocipilaa

theorem xor_cr {a b c : Nat} (h : a ^^^ c = b ^^^ c) : a = b := by
  have := congrArg (· ^^^ c) h
  simpa [Nat.xor_assoc] using this
theorem xor_cl {a b c : Nat} (h : c ^^^ a = c ^^^ b) : a = b := by rw [Nat.xor_comm c a, Nat.xor_comm c b] at h; exact xor_cr h

theorem top_set {x : Nat} (h : x < 2147483648) : 2147483648 ≤ x ^^^ 2197175160 := by
  have : (x ^^^ 2197175160).testBit 31 = true := by
    rw [Nat.testBit_xor, Nat.testBit_lt_two_pow (i := 31) h]
    decide
  exact Nat.ge_two_pow_of_testBit this
theorem bitStep_inj {a b : Nat} (ha : a < 4294967296) (hb : b < 4294967296) (h : bitStep a = bitStep b) : a = b := by
  unfold bitStep at h
  have ta := top_set (x := a / 2) (by omega)
  have tb := top_set (x := b / 2) (by omega)
  split at h <;> split at h
  · have : a / 2 = b / 2 := xor_cr h
    omega
  · omega
  · omega
  · omega
theorem iter_inj : ∀ (n : Nat) {a b : Nat}, a < 4294967296 → b < 4294967296 → iter n a = iter n b → a = b
  | 0, a, b, _, _, h => h
  | n + 1, a, b, ha, hb, h => bitStep_inj ha hb (iter_inj n (bitStep_lt ha) (bitStep_lt hb) h)
theorem crc_inj : ∀ (l : List UInt8) {a b : Nat}, a < 4294967296 → b < 4294967296 → crc l a = crc l b → a = b
  | [], a, b, _, _, h => h
  | x :: l, a, b, ha, hb, h => xor_cr (iter_inj 8 (xor_byte_lt ha x) (xor_byte_lt hb x) (crc_inj l (iter_lt 8 (xor_byte_lt ha x)) (iter_lt 8 (xor_byte_lt hb x)) h))
theorem crc_set : ∀ (l : List UInt8) (k : Nat) (y : UInt8) {c : Nat}, c < 4294967296 → (∀ x, l[k]? = some x → y ≠ x) → k < l.length → crc (l.set k y) c ≠ crc l c
  | [], k, y, c, _, _, hk => by simp at hk
  | x :: l, 0, y, c, hc, hy, _ => fun h => by
    have h1 := crc_inj l (iter_lt 8 (xor_byte_lt hc y)) (iter_lt 8 (xor_byte_lt hc x)) h
    have h2 := iter_inj 8 (xor_byte_lt hc y) (xor_byte_lt hc x) h1
    exact hy x rfl (UInt8.toNat_inj.1 (xor_cl h2))
  | x :: l, k + 1, y, c, hc, hy, hk => crc_set l k y (iter_lt 8 (xor_byte_lt hc x)) (fun z hz => hy z (by simpa using hz)) (by simpa using hk)
theorem sumB_set (l : List UInt8) (k : Nat) (y : UInt8) (hy : ∀ x, l[k]? = some x → y ≠ x) (hk : k < l.length) : sumB (l.set k y) ≠ sumB l := fun h => crc_set l k y (c := 4294967295) (by omega) hy hk (xor_cl h)

theorem le4_inj {a b : Nat} (ha : a < 4294967296) (hb : b < 4294967296) (h : le4 a = le4 b) : a = b := by
  simp only [le4, List.cons.injEq, and_true] at h
  obtain ⟨h0, h1, h2, h3⟩ := h
  have g0 := congrArg UInt8.toNat h0
  have g1 := congrArg UInt8.toNat h1
  have g2 := congrArg UInt8.toNat h2
  have g3 := congrArg UInt8.toNat h3
  simp only [UInt8.toNat_ofNat'] at g0 g1 g2 g3
  omega

/-- a sealed text of which one byte is another is not unsealed -/
theorem un_turned (l : List UInt8) (k : Nat) (y : UInt8) (hk : k < l.length + 4) (hy : ∀ x, (sealB l)[k]? = some x → y ≠ x) : unE ((sealB l).set k y) = 13 := by
  have hlen : ((sealB l).set k y).length - 4 = l.length := by rw [List.length_set, sealB_length]; omega
  unfold unE
  rw [if_neg (by rw [List.length_set, sealB_length]; omega), hlen, if_neg]
  by_cases hkl : k < l.length
  · have h1 : ((sealB l).set k y).take l.length = l.set k y := by
      unfold sealB
      rw [List.set_append_left _ _ hkl, List.take_left' (by simp)]
    have h2 : ((sealB l).set k y).drop l.length = le4 (sumB l) := by
      unfold sealB
      rw [List.set_append_left _ _ hkl, List.drop_left' (by simp)]
    rw [h1, h2]
    intro h
    have := le4_inj (sumB_lt _) (sumB_lt _) h
    refine sumB_set l k y (fun x hx => hy x ?_) hkl this.symm
    unfold sealB
    rw [List.getElem?_append_left hkl]
    exact hx
  · have h1 : ((sealB l).set k y).take l.length = l := by
      unfold sealB
      rw [List.set_append_right _ _ (by omega), List.take_left' rfl]
    have h2 : ((sealB l).set k y).drop l.length = (le4 (sumB l)).set (k - l.length) y := by
      unfold sealB
      rw [List.set_append_right _ _ (by omega), List.drop_left' rfl]
    rw [h1, h2]
    intro h
    have hlt : k - l.length < (le4 (sumB l)).length := by simp [le4]; omega
    have h3 := congrArg (fun z => z[k - l.length]?) h
    simp only [List.getElem?_set_self hlt] at h3
    refine hy y ?_ rfl
    unfold sealB
    rw [List.getElem?_append_right (by omega)]
    exact h3.symm
end Go.Proofs.Ytokdnndocipilaa
