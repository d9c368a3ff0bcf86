/- Chapter 6: an entry that was laid is read again. -/
import Derived.Test.YtoghoddofokekaaD3
import Derived.Test.YtoghoddofokekaaC5
set_option linter.unusedVariables false
set_option linter.unusedSimpArgs false
set_option maxRecDepth 100000
namespace Go.Proofs.Ytoghoddofokekaa
open Go.Abs

theorem rText_laid {l T t : List UInt8} {a : Nat} {most : Int} (hd : l.drop a = (numB T.length ++ T) ++ t) (hT : T.length < 18446744073709551616) (hm : (T.length : Int) ≤ most) : rText l a 0 most = (T, a + (numB T.length ++ T).length, 0) := by
  have e1 := rNum_laid (most := (max most 0).toNat) (by rw [hd, List.append_assoc]) hT (by omega)
  have d1 : l.drop (a + (numB T.length).length) = T ++ t := by rw [← List.drop_drop, hd, List.append_assoc, List.drop_left]
  unfold rText
  rw [e1]
  have hl : ¬ l.length - (a + (numB T.length).length) < T.length := by
    have := congrArg List.length d1
    simp at this
    omega
  simp only [ne_eq, not_true_eq_false, if_false, hl, d1]
  simp
  omega

theorem entB_le {kind conf : Int} {term index : Nat} {T : List UInt8} (h : rightE kind term index T.length conf = true) (ht : term < 18446744073709551616) (hi : index < 18446744073709551616) : (entB kind term index T conf).length ≤ 160 := by
  obtain ⟨hk, hT⟩ := right_kind h
  have := numB_le ht
  have := numB_le hi
  have := numB_le (n := T.length) (by omega)
  unfold entB
  split
  · simp; omega
  · split <;> simp <;> omega

theorem rEnt_laid {kind conf : Int} {term index : Nat} {T : List UInt8} (h : rightE kind term index T.length conf = true) (ht : term < 18446744073709551616) (hi : index < 18446744073709551616) : rEnt (entB kind term index T conf) = (⟨kind, term, index, T, conf⟩, 0) := by
  have hle := entB_le h ht hi
  have hR := h
  obtain ⟨hk, hT⟩ := right_kind h
  unfold rightE at h
  simp only [Bool.and_eq_true, numOk, decide_eq_true_eq] at h
  obtain ⟨⟨hK, _, ht2⟩, _, hi2⟩ := h
  unfold rEnt
  rw [if_neg (by omega)]
  obtain ⟨b, hbd⟩ : ∃ b, b = UInt8.ofNat (kind % 256).toNat := ⟨_, rfl⟩
  have hb := ofNat_small (c := kind) (by omega) (by omega)
  rw [← hbd] at hb
  obtain ⟨R, hRd⟩ : ∃ R, R = (if kind = 1 then numB T.length ++ T else if kind = 2 then [UInt8.ofNat (conf % 256).toNat] else [] : List UInt8) := ⟨_, rfl⟩
  have hE : entB kind term index T conf = b :: (numB term ++ (numB index ++ R)) := by unfold entB; rw [← hbd, ← hRd]
  rw [hE]
  have e1 := rByte_laid (l := b :: (numB term ++ (numB index ++ R))) (a := 0) (most := 2) rfl (by omega)
  have d1 : (b :: (numB term ++ (numB index ++ R))).drop (0 + 1) = numB term ++ (numB index ++ R) := rfl
  have e2 := rNum_laid (most := 72057594037927935) d1 ht ht2
  have d2 : (b :: (numB term ++ (numB index ++ R))).drop (0 + 1 + (numB term).length) = numB index ++ R := by rw [← List.drop_drop, d1, List.drop_left]
  have e3 := rNum_laid (most := 72057594037927935) d2 hi hi2
  have d3 : (b :: (numB term ++ (numB index ++ R))).drop (0 + 1 + (numB term).length + (numB index).length) = R := by rw [← List.drop_drop, d2, List.drop_left]
  simp only [e1, e2, e3]
  have tail : entTail (b :: (numB term ++ (numB index ++ R))) b.toNat (0 + 1 + (numB term).length + (numB index).length) 0 = (T, conf.toNat, 0 + 1 + (numB term).length + (numB index).length + R.length, 0) ∧ 0 ≤ conf := by
    unfold kindE at hK
    unfold entTail
    rcases hk with rfl | rfl | rfl
    · have : ¬ b.toNat = 1 := by omega
      have h2 : ¬ b.toNat = 2 := by omega
      simp at hK
      rw [if_neg this, if_neg h2, hRd]
      simp [hK]
    · have : b.toNat = 1 := by omega
      simp at hK
      rw [if_pos this, rText_laid (T := T) (t := []) (by rw [d3, hRd]; simp) (by omega) (by omega), hRd]
      simp [hK]
    · have : ¬ b.toNat = 1 := by omega
      have h2 : b.toNat = 2 := by omega
      simp [setB] at hK
      rw [if_neg this, if_pos h2]
      have hc := ofNat_small (c := conf) (by omega) (by omega)
      have e4 := rByte_laid (most := 254) (t := []) (by rw [d3, hRd]; rfl) (b := UInt8.ofNat (conf % 256).toNat) (by omega)
      rw [e4, hRd]
      refine ⟨?_, by omega⟩
      simp [hK]
      omega
  obtain ⟨tail, hc0⟩ := tail
  rw [tail]
  have q1 : (b.toNat : Int) = kind := hb
  have q2 : ((conf.toNat : Nat) : Int) = conf := by omega
  have e4 : rEnd (b :: (numB term ++ (numB index ++ R))) (0 + 1 + (numB term).length + (numB index).length + R.length) 0 = 0 := by
    unfold rEnd
    rw [if_neg]
    rintro ⟨_, hlt⟩
    simp at hlt
    omega
  simp only [q1, q2, e4]
  have hr : En.right ⟨kind, term, index, T, conf⟩ = true := hR
  simp [hr]
end Go.Proofs.Ytoghoddofokekaa
