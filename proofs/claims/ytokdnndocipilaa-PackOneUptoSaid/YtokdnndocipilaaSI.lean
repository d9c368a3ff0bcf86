/- Chapter 1: what was laid, read again: lists alone. -/
import Derived.Test.YtokdnndocipilaaSH
import Derived.Test.YtokdnndocipilaaSG
set_option linter.unusedVariables false
set_option linter.unusedSimpArgs false
set_option maxRecDepth 100000
namespace Go.Proofs.Ytokdnndocipilaa
open Go.Abs

/-- a number's bytes, cut off nowhere, are its digits -/
theorem numD_numB : ∀ (n k m : Nat) (t : List UInt8), k ≤ 9 → n * 2 ^ (7 * k) < 18446744073709551616 → (0 < k → 0 < n) → numD (numB n ++ t) k m = (m + n * 2 ^ (7 * k), 0, k + (numB n).length) := by
  intro n
  induction n using Nat.strongRecOn with
  | _ n ih =>
    intro k m t hk hn hpos
    by_cases hb : n < 128
    · rw [numB_small hb]
      have hx : (UInt8.ofNat n).toNat = n := by rw [UInt8.toNat_ofNat']; omega
      have h9 : ¬ (k = 9 ∧ 1 < n) := by
        rintro ⟨rfl, h⟩
        have : 2 * 2 ^ (7 * 9) ≤ n * 2 ^ (7 * 9) := Nat.mul_le_mul_right _ h
        simp at this hn
        omega
      have h0 : ¬ (n = 0 ∧ 0 < k) := fun ⟨h, h'⟩ => by have := hpos h'; omega
      rw [List.singleton_append, numD, hx, if_neg h9, if_neg (by omega), if_neg h0, Nat.mod_eq_of_lt hb]
      rfl
    · rw [numB_big (by omega)]
      have hx : (UInt8.ofNat (n % 128 + 128)).toNat = n % 128 + 128 := by rw [UInt8.toNat_ofNat']; omega
      have h128 : 128 * 2 ^ (7 * k) ≤ n * 2 ^ (7 * k) := Nat.mul_le_mul_right _ (by omega)
      have h9 : k ≠ 9 := by
        rintro rfl
        simp at h128 hn
        omega
      have hp : 2 ^ (7 * (k + 1)) = 128 * 2 ^ (7 * k) := by rw [Nat.mul_add, Nat.pow_add, Nat.mul_comm]
      have hsplit : n * 2 ^ (7 * k) = n % 128 * 2 ^ (7 * k) + n / 128 * 2 ^ (7 * (k + 1)) := by
        rw [hp, ← Nat.mul_assoc, ← Nat.add_mul]
        congr 1
        omega
      rw [List.cons_append, numD, hx, if_neg (by omega), if_pos (by omega), ih (n / 128) (by omega) (k + 1) _ t (by omega) (by omega) (by omega)]
      have e1 : (n % 128 + 128) % 128 = n % 128 := by omega
      rw [e1, List.length_cons, hsplit]
      simp only [Prod.mk.injEq, true_and]
      omega

theorem numD_laid {n : Nat} (hn : n < 18446744073709551616) (t : List UInt8) : numD (numB n ++ t) 0 0 = (n, 0, (numB n).length) := by
  have := numD_numB n 0 0 t (by omega) (by simpa using hn) (by omega)
  simpa using this

/-- a number's bytes cut off are too few -/
theorem numD_cut : ∀ (n k m : Nat) (c : Nat), k ≤ 9 → n * 2 ^ (7 * k) < 18446744073709551616 → c < (numB n).length → numD ((numB n).take c) k m = (0, 10, 0) := by
  intro n
  induction n using Nat.strongRecOn with
  | _ n ih =>
    intro k m c hk hn hc
    by_cases hb : n < 128
    · rw [numB_small hb] at hc ⊢
      have : c = 0 := by simpa using hc
      subst this
      rfl
    · rw [numB_big (by omega)] at hc ⊢
      cases c with
      | zero => rfl
      | succ c =>
        have hx : (UInt8.ofNat (n % 128 + 128)).toNat = n % 128 + 128 := by rw [UInt8.toNat_ofNat']; omega
        have h128 : 128 * 2 ^ (7 * k) ≤ n * 2 ^ (7 * k) := Nat.mul_le_mul_right _ (by omega)
        have h9 : k ≠ 9 := by
          rintro rfl
          simp at h128 hn
          omega
        have hp : 2 ^ (7 * (k + 1)) = 128 * 2 ^ (7 * k) := by rw [Nat.mul_add, Nat.pow_add, Nat.mul_comm]
        have hle : n / 128 * 2 ^ (7 * (k + 1)) ≤ n * 2 ^ (7 * k) := by
          rw [hp, ← Nat.mul_assoc]
          exact Nat.mul_le_mul_right _ (Nat.div_mul_le_self n 128)
        rw [List.take_succ_cons, numD, hx, if_neg (by omega), if_pos (by omega)]
        exact ih (n / 128) (by omega) (k + 1) _ c (by omega) (by omega) (by simpa using hc)

theorem zz_unzz {n : Int} : unzz (zz n) = n := by
  unfold unzz zz
  split <;> split <;> omega

/-- reading at a place where such bytes stand -/
theorem rNum_laid {l : List UInt8} {a n most : Nat} {t : List UInt8} (hd : l.drop a = numB n ++ t) (hn : n < 18446744073709551616) (hm : n ≤ most) : rNum l a 0 most = (n, a + (numB n).length, 0) := by
  unfold rNum rN
  rw [hd, numD_laid hn]
  simp
  omega
theorem rNum_short {l : List UInt8} {a n most c : Nat} (hd : l.drop a = (numB n).take c) (hn : n < 18446744073709551616) (hc : c < (numB n).length) : rNum l a 0 most = (0, a, 10) := by
  unfold rNum rN
  rw [hd, numD_cut n 0 0 c (by omega) (by simpa using hn) hc]
  simp
theorem rByte_laid {l : List UInt8} {a most : Nat} {b : UInt8} {t : List UInt8} (hd : l.drop a = b :: t) (hm : b.toNat ≤ most) : rByte l a 0 most = (b.toNat, a + 1, 0) := by
  have : l[a]? = some b := by have := congrArg (fun z => z[0]?) hd; simpa using this
  unfold rByte
  rw [this]
  simp
  omega
theorem rByte_short {l : List UInt8} {a most : Nat} (hd : l.drop a = []) : rByte l a 0 most = (0, a, 10) := by
  have : l[a]? = none := by
    have := congrArg List.length hd
    simp at this
    rw [List.getElem?_eq_none (by omega)]
  unfold rByte
  rw [this]
  simp
theorem rText_laid {l : List UInt8} {a : Nat} {s t : List UInt8} {most : Int} (ha : a ≤ l.length) (hd : l.drop a = numB s.length ++ s ++ t) (hs : s.length < 18446744073709551616) (hm : (s.length : Int) ≤ most) : rText l a 0 most = (s, a + (numB s.length ++ s).length, 0) := by
  unfold rText
  rw [rNum_laid (t := s ++ t) (by rw [hd, List.append_assoc]) hs (by omega)]
  have hl := congrArg List.length hd
  simp only [List.length_drop, List.length_append] at hl
  have hd2 : l.drop (a + (numB s.length).length) = s ++ t := by rw [← List.drop_drop, hd, List.append_assoc, List.drop_left]
  simp only [ne_eq, not_true_eq_false, if_false]
  rw [if_neg (by omega), hd2, List.take_left]
  simp
  omega
end Go.Proofs.Ytokdnndocipilaa
