/- Chapter 5: what was laid as a reply, read again. -/
import Derived.Test.YtoghoddofokekaaC4
set_option linter.unusedVariables false
set_option linter.unusedSimpArgs false
set_option maxRecDepth 100000
namespace Go.Proofs.Ytoghoddofokekaa
open Go.Abs

/-- a number's bytes, cut off nowhere, are its digits -/
theorem numD_numB : ∀ (n k m : Nat) (t : List UInt8), k ≤ 9 → n * 2 ^ (7 * k) < 18446744073709551616 → (0 < k → 0 < n) → numD (numB n ++ t) k m = (m + n * 2 ^ (7 * k), 0, k + (numB n).length) := by
  intro n
  induction n using Nat.strongRecOn with
  | _ n ih =>
    intro k m t hk hn hpos
    by_cases hb : n < 128
    · rw [numB_small hb]
      have hx : (UInt8.ofNat n).toNat = n := by rw [UInt8.toNat_ofNat']; omega
      have h9 : ¬ (k = 9 ∧ 1 < n) := by
        rintro ⟨rfl, h⟩
        have : 2 * 2 ^ (7 * 9) ≤ n * 2 ^ (7 * 9) := Nat.mul_le_mul_right _ h
        simp at this hn
        omega
      have h0 : ¬ (n = 0 ∧ 0 < k) := fun ⟨h, h'⟩ => by have := hpos h'; omega
      rw [List.singleton_append, numD, hx, if_neg h9, if_neg (by omega), if_neg h0, Nat.mod_eq_of_lt hb]
      rfl
    · rw [numB_big (by omega)]
      have hx : (UInt8.ofNat (n % 128 + 128)).toNat = n % 128 + 128 := by rw [UInt8.toNat_ofNat']; omega
      have h128 : 128 * 2 ^ (7 * k) ≤ n * 2 ^ (7 * k) := Nat.mul_le_mul_right _ (by omega)
      have h9 : k ≠ 9 := by
        rintro rfl
        simp at h128 hn
        omega
      have hp : 2 ^ (7 * (k + 1)) = 128 * 2 ^ (7 * k) := by rw [Nat.mul_add, Nat.pow_add, Nat.mul_comm]
      have hsplit : n * 2 ^ (7 * k) = n % 128 * 2 ^ (7 * k) + n / 128 * 2 ^ (7 * (k + 1)) := by
        rw [hp, ← Nat.mul_assoc, ← Nat.add_mul]
        congr 1
        omega
      rw [List.cons_append, numD, hx, if_neg (by omega), if_pos (by omega), ih (n / 128) (by omega) (k + 1) _ t (by omega) (by omega) (by omega)]
      have e1 : (n % 128 + 128) % 128 = n % 128 := by omega
      rw [e1, List.length_cons, hsplit]
      simp only [Prod.mk.injEq, true_and]
      omega

theorem numD_laid {n : Nat} (hn : n < 18446744073709551616) (t : List UInt8) : numD (numB n ++ t) 0 0 = (n, 0, (numB n).length) := by
  have := numD_numB n 0 0 t (by omega) (by simpa using hn) (by omega)
  simpa using this

theorem zz_unzz {n : Int} : unzz (zz n) = n := by
  unfold unzz zz
  split <;> split <;> omega

/-- reading at a place where such bytes stand -/
theorem rNum_laid {l : List UInt8} {a n most : Nat} {t : List UInt8} (hd : l.drop a = numB n ++ t) (hn : n < 18446744073709551616) (hm : n ≤ most) : rNum l a 0 most = (n, a + (numB n).length, 0) := by
  unfold rNum rN
  rw [hd, numD_laid hn]
  simp
  omega
theorem rByte_laid {l : List UInt8} {a most : Nat} {b : UInt8} {t : List UInt8} (hd : l.drop a = b :: t) (hm : b.toNat ≤ most) : rByte l a 0 most = (b.toNat, a + 1, 0) := by
  have : l[a]? = some b := by have := congrArg (fun z => z[0]?) hd; simpa using this
  unfold rByte
  rw [this]
  simp
  omega

theorem ofNat_small {c : Int} (h0 : 0 ≤ c) (h1 : c < 256) : ((UInt8.ofNat (c % 256).toNat).toNat : Int) = c := by rw [UInt8.toNat_ofNat']; omega

theorem rDec_laid {l : List UInt8} {a : Nat} {hi s : Int} {lo : Nat} {t : List UInt8} (hd : l.drop a = decB hi lo s ++ t) (h1 : -9223372036854775808 ≤ hi) (h2 : hi < 9223372036854775808) (hlo : lo < 18446744073709551616) (s0 : 0 ≤ s) (s1 : s ≤ 18) :
    rDec l a 0 = ((hi, lo, s.toNat), a + (decB hi lo s).length, 0) := by
  have hb := ofNat_small s0 (by omega)
  unfold decB at hd ⊢
  obtain ⟨b, hbd⟩ : ∃ b, b = UInt8.ofNat (s % 256).toNat := ⟨_, rfl⟩
  rw [← hbd] at hb hd ⊢
  have e1 := rByte_laid (most := 18) (by rw [hd]; rfl) (by omega)
  have d1 : l.drop (a + 1) = numB (zz hi) ++ (numB lo ++ t) := by rw [← List.drop_drop, hd]; simp
  have e2 := rNum_laid (most := 18446744073709551615) d1 (zz_lt h1 h2) (by have := zz_lt h1 h2; omega)
  have d2 : l.drop (a + 1 + (numB (zz hi)).length) = numB lo ++ t := by rw [← List.drop_drop, d1, List.drop_left]
  have e3 := rNum_laid (most := 18446744073709551615) d2 hlo (by omega)
  unfold rDec
  simp only [e1, e2, e3, zz_unzz]
  have : b.toNat = s.toNat := by omega
  simp only [this, List.length_cons, List.length_append]
  congr 2
  omega

theorem rRep_laid {code hi s : Int} {v lo : Nat} (hc : repOk code s) (h1 : -9223372036854775808 ≤ hi) (h2 : hi < 9223372036854775808) (hlo : lo < 18446744073709551616) (hv : v < 18446744073709551616) :
    rRep (repB code v hi lo s) = ([.int .i64 code, .int .u64 v, .int .i64 hi, .int .u64 lo, .int .i64 s], 0) := by
  obtain ⟨⟨c1, c2⟩, c3, c4⟩ := hc
  have hb := ofNat_small c1 (by omega)
  unfold repB
  obtain ⟨b, hbd⟩ : ∃ b, b = UInt8.ofNat (code % 256).toNat := ⟨_, rfl⟩
  rw [← hbd] at hb ⊢
  have e1 := rByte_laid (l := b :: (numB v ++ decB hi lo s)) (a := 0) (most := 99) rfl (by omega)
  have d1 : (b :: (numB v ++ decB hi lo s)).drop (0 + 1) = numB v ++ decB hi lo s := rfl
  have e2 := rNum_laid (most := 18446744073709551615) d1 hv (by omega)
  have d2 : (b :: (numB v ++ decB hi lo s)).drop (0 + 1 + (numB v).length) = decB hi lo s ++ [] := by rw [← List.drop_drop, d1, List.drop_left, List.append_nil]
  have e3 := rDec_laid d2 h1 h2 hlo c3 c4
  have e4 : rEnd (b :: (numB v ++ decB hi lo s)) (0 + 1 + (numB v).length + (decB hi lo s).length) 0 = 0 := by
    unfold rEnd
    rw [if_neg]
    rintro ⟨_, hlt⟩
    simp at hlt
    omega
  unfold rRep
  simp only [e1, e2, e3, e4, if_true]
  have q1 : (b.toNat : Int) = code := hb
  have q2 : ((s.toNat : Nat) : Int) = s := by omega
  rw [q1, q2]

theorem rRep_ints (l : List UInt8) : ∃ (a b c d e : Int), (rRep l).1 = [.int .i64 a, .int .u64 b, .int .i64 c, .int .u64 d, .int .i64 e] := by
  unfold rRep
  simp only
  split
  · exact ⟨_, _, _, _, _, rfl⟩
  · exact ⟨0, 0, 0, 0, 0, rfl⟩
end Go.Proofs.Ytoghoddofokekaa
