/- A command that may be: what is laid is read again. -/
import Derived.Test.YtoghoddofokekaaDoorE3
import Derived.Test.YtoghoddofokekaaDoorC5
set_option linter.unusedVariables false
set_option linter.unusedSimpArgs false
set_option maxRecDepth 100000
namespace Go.Proofs.YtoghoddofokekaaDoor
open Go.Abs

/-- a field of another command, set -/
def setC (c : Cm) (j : Nat) (s : Cm) : Cm :=
  match j with
  | 0 => { s with s := c.s }
  | 1 => { s with q := c.q }
  | 2 => { s with a := c.a }
  | 3 => { s with b := c.b }
  | 4 => { s with hi := c.hi, lo := c.lo, sc := c.sc }
  | 5 => { s with x := c.x }
  | _ => { s with y := c.y }
def setFromC (c : Cm) : Nat → Nat → Cm → Cm
  | 0, _, s => s
  | n + 1, j, s => setFromC c n (j + 1) (if fl c.k j then setC c j s else s)

theorem numOk_le {n : Nat} (h : numOk n = true) : n ≤ 72057594037927935 := by
  unfold numOk at h
  simp at h
  exact h.2

theorem rName_laid {l s t : List UInt8} {a : Nat} (hn : nameB s = true) (hd : l.drop a = s ++ t) : rName l a 0 = (s, a + s.length, 0) := by
  unfold nameB at hn
  simp only [Bool.and_eq_true, decide_eq_true_eq] at hn
  obtain ⟨h3, hu⟩ := hn
  match s, h3, hu, hd with
  | [b0, b1, b2], _, hu, hd =>
    simp [up] at hu
    have e0 := rByte_laid (most := 90) (show l.drop a = b0 :: (b1 :: b2 :: t) from hd) (by omega)
    have d1 : l.drop (a + 1) = b1 :: (b2 :: t) := by rw [← List.drop_drop, hd]; rfl
    have e1 := rByte_laid (most := 90) d1 (by omega)
    have d2 : l.drop (a + 1 + 1) = b2 :: t := by rw [← List.drop_drop, d1]; rfl
    have e2 := rByte_laid (most := 90) d2 (by omega)
    unfold rName
    simp only [e0, e1, e2, UInt8.ofNat_toNat]
    rfl

theorem rField_laid {l : List UInt8} {c s : Cm} {a : Nat} {t : List UInt8} (ok : c.Ok) {j : Nat} (hj : j < 7) (hf : fitsB c j = true) (hd : l.drop a = layB c j ++ t) : rField l j (s, a, 0) = (setC c j s, a + (layB c j).length, 0) := by
  rcases (by omega : j = 0 ∨ j = 1 ∨ j = 2 ∨ j = 3 ∨ j = 4 ∨ j = 5 ∨ j = 6) with rfl | rfl | rfl | rfl | rfl | rfl | rfl
  · have e := rNum_laid (most := 72057594037927935) hd ok.s (numOk_le hf)
    simp only [rField, e]; rfl
  · have e := rNum_laid (most := 72057594037927935) hd ok.q (numOk_le hf)
    simp only [rField, e]; rfl
  · have := ok.a
    have e := rNum_laid (most := 18446744073709551615) hd ok.a (by omega)
    simp only [rField, e]; rfl
  · have := ok.b
    have e := rNum_laid (most := 18446744073709551615) hd ok.b (by omega)
    simp only [rField, e]; rfl
  · have hs : 0 ≤ c.sc ∧ c.sc ≤ 18 := by simpa [fitsB, scOk] using hf
    have e := rDec_laid hd ok.h1 ok.h2 ok.lo hs.1 hs.2
    have q : ((c.sc.toNat : Nat) : Int) = c.sc := by omega
    simp only [rField, e, q]; rfl
  · have e := rName_laid hf hd
    simp only [rField, e]; rfl
  · have e := rName_laid hf hd
    simp only [rField, e]; rfl

theorem rFrom_laid {l : List UInt8} {c : Cm} (ok : c.Ok) (fit : ∀ j, j < 7 → fl c.k j = true → fitsB c j = true) : ∀ (n j : Nat) (s : Cm) (a : Nat), j + n = 7 → l.drop a = layFrom c n j → rFrom l c.k n j (s, a, 0) = (setFromC c n j s, a + (layFrom c n j).length, 0)
  | 0, j, s, a, hj, hd => by simp [rFrom, setFromC, layFrom]
  | n + 1, j, s, a, hj, hd => by
    unfold rFrom setFromC
    unfold layFrom at hd ⊢
    cases hf : fl c.k j
    · rw [hf] at hd
      simp only [Bool.false_eq_true, if_false, List.nil_append] at hd ⊢
      exact rFrom_laid ok fit n (j + 1) s a (by omega) hd
    · rw [hf] at hd
      simp only [if_true] at hd ⊢
      rw [rField_laid ok (by omega) (fit j (by omega) hf) hd]
      have d1 : l.drop (a + (layB c j).length) = layFrom c n (j + 1) := by rw [← List.drop_drop, hd, List.drop_left]
      rw [rFrom_laid ok fit n (j + 1) _ _ (by omega) d1]
      simp
      omega

theorem mask_k {k : Int} (h : mask k ≠ 0) : 1 ≤ k ∧ k ≤ 11 := by
  rcases kinds k with rfl | rfl | rfl | rfl | rfl | rfl | rfl | rfl | rfl | rfl | rfl | hk
  case inr.inr.inr.inr.inr.inr.inr.inr.inr.inr.inr => exact absurd (mask_none hk) h
  all_goals omega

theorem setFrom_all {c : Cm} (hr : rightC c = true) : setFromC c 7 0 { Cm.zero with k := c.k } = c := by
  unfold rightC at hr
  simp only [Bool.and_eq_true, decide_eq_true_eq] at hr
  obtain ⟨hm, hf⟩ := hr
  have h0 := fl0 hm
  have b1 := fromOk_fld (i := 1) hf (by omega) (by omega)
  have b2 := fromOk_fld (i := 2) hf (by omega) (by omega)
  have b3 := fromOk_fld (i := 3) hf (by omega) (by omega)
  have b4 := fromOk_fld (i := 4) hf (by omega) (by omega)
  have b5 := fromOk_fld (i := 5) hf (by omega) (by omega)
  have b6 := fromOk_fld (i := 6) hf (by omega) (by omega)
  unfold fldOk at b1 b2 b3 b4 b5 b6
  obtain ⟨k, s, q, a, b, hi, lo, sc, x, y⟩ := c
  simp only at *
  have z : ({ Cm.zero with k := k } : Cm) = (⟨k, 0, 0, 0, 0, 0, 0, 0, [], []⟩ : Cm) := rfl
  have s0 : (if fl k 0 = true then setC (⟨k, s, q, a, b, hi, lo, sc, x, y⟩ : Cm) 0 (⟨k, 0, 0, 0, 0, 0, 0, 0, [], []⟩ : Cm) else (⟨k, 0, 0, 0, 0, 0, 0, 0, [], []⟩ : Cm)) = (⟨k, s, 0, 0, 0, 0, 0, 0, [], []⟩ : Cm) := by rw [h0]; rfl
  have s1 : (if fl k 1 = true then setC (⟨k, s, q, a, b, hi, lo, sc, x, y⟩ : Cm) 1 (⟨k, s, 0, 0, 0, 0, 0, 0, [], []⟩ : Cm) else (⟨k, s, 0, 0, 0, 0, 0, 0, [], []⟩ : Cm)) = (⟨k, s, q, 0, 0, 0, 0, 0, [], []⟩ : Cm) := by
    split
    · rfl
    · rename_i h
      rw [if_neg h] at b1
      simp [bareB] at b1
      simp [b1]
  have s2 : (if fl k 2 = true then setC (⟨k, s, q, a, b, hi, lo, sc, x, y⟩ : Cm) 2 (⟨k, s, q, 0, 0, 0, 0, 0, [], []⟩ : Cm) else (⟨k, s, q, 0, 0, 0, 0, 0, [], []⟩ : Cm)) = (⟨k, s, q, a, 0, 0, 0, 0, [], []⟩ : Cm) := by
    split
    · rfl
    · rename_i h
      rw [if_neg h] at b2
      simp [bareB] at b2
      simp [b2]
  have s3 : (if fl k 3 = true then setC (⟨k, s, q, a, b, hi, lo, sc, x, y⟩ : Cm) 3 (⟨k, s, q, a, 0, 0, 0, 0, [], []⟩ : Cm) else (⟨k, s, q, a, 0, 0, 0, 0, [], []⟩ : Cm)) = (⟨k, s, q, a, b, 0, 0, 0, [], []⟩ : Cm) := by
    split
    · rfl
    · rename_i h
      rw [if_neg h] at b3
      simp [bareB] at b3
      simp [b3]
  have s4 : (if fl k 4 = true then setC (⟨k, s, q, a, b, hi, lo, sc, x, y⟩ : Cm) 4 (⟨k, s, q, a, b, 0, 0, 0, [], []⟩ : Cm) else (⟨k, s, q, a, b, 0, 0, 0, [], []⟩ : Cm)) = (⟨k, s, q, a, b, hi, lo, sc, [], []⟩ : Cm) := by
    split
    · rfl
    · rename_i h
      rw [if_neg h] at b4
      simp [bareB] at b4
      simp [b4]
  have s5 : (if fl k 5 = true then setC (⟨k, s, q, a, b, hi, lo, sc, x, y⟩ : Cm) 5 (⟨k, s, q, a, b, hi, lo, sc, [], []⟩ : Cm) else (⟨k, s, q, a, b, hi, lo, sc, [], []⟩ : Cm)) = (⟨k, s, q, a, b, hi, lo, sc, x, []⟩ : Cm) := by
    split
    · rfl
    · rename_i h
      rw [if_neg h] at b5
      simp [bareB] at b5
      simp [b5]
  have s6 : (if fl k 6 = true then setC (⟨k, s, q, a, b, hi, lo, sc, x, y⟩ : Cm) 6 (⟨k, s, q, a, b, hi, lo, sc, x, []⟩ : Cm) else (⟨k, s, q, a, b, hi, lo, sc, x, []⟩ : Cm)) = (⟨k, s, q, a, b, hi, lo, sc, x, y⟩ : Cm) := by
    split
    · rfl
    · rename_i h
      rw [if_neg h] at b6
      simp [bareB] at b6
      simp [b6]
  rw [z]
  simp only [setFromC, s0, s1, s2, s3, s4, s5, s6]

theorem encB_le {c : Cm} (ok : c.Ok) (hr : rightC c = true) : (encB c).length ≤ 128 := by
  obtain ⟨hx, hy⟩ := right_len hr
  rw [← encB_same hr]
  have n0 := numB_le ok.s
  have n1 : (optC c 1).length ≤ 10 := by have := numB_le ok.q; unfold optC; split <;> simp [layB]; omega
  have n2 : (optC c 2).length ≤ 10 := by have := numB_le ok.a; unfold optC; split <;> simp [layB]; omega
  have n3 : (optC c 3).length ≤ 10 := by have := numB_le ok.b; unfold optC; split <;> simp [layB]; omega
  have n4 : (optC c 4).length ≤ 21 := by have := decB_le (s := c.sc) ok.h1 ok.h2 ok.lo; unfold optC; split <;> simp [layB]; omega
  simp
  omega

/-- what is laid is read again -/
theorem rCmd_laid {c : Cm} (hr : rightC c = true) (ok : c.Ok) : rCmd (encB c) = (c, 0) := by
  have hle := encB_le ok hr
  have hm : mask c.k ≠ 0 := by
    unfold rightC at hr
    simp only [Bool.and_eq_true, decide_eq_true_eq] at hr
    exact hr.1
  obtain ⟨k1, k2⟩ := mask_k hm
  have fit : ∀ j, j < 7 → fl c.k j = true → fitsB c j = true := fun j hj hf => by
    have hr' := hr
    unfold rightC at hr'
    simp only [Bool.and_eq_true, decide_eq_true_eq] at hr'
    have := fromOk_fld (i := j) hr'.2 (by omega) (by omega)
    unfold fldOk at this
    rw [if_pos hf] at this
    exact this
  obtain ⟨b, hb⟩ : ∃ b, b = UInt8.ofNat (c.k % 256).toNat := ⟨_, rfl⟩
  have hbn : b.toNat = c.k.toNat := by rw [hb, UInt8.toNat_ofNat']; omega
  have d0 : (encB c).drop 0 = b :: layFrom c 7 0 := by rw [hb]; rfl
  have e1 := rByte_laid (most := 11) d0 (by omega)
  have d1 : (encB c).drop (0 + 1) = layFrom c 7 0 := rfl
  have kk : ((b.toNat : Nat) : Int) = c.k := by omega
  have e2 := rFrom_laid ok fit 7 0 { Cm.zero with k := c.k } (0 + 1) (by omega) d1
  rw [setFrom_all hr] at e2
  unfold rCmd
  rw [if_neg (by omega)]
  simp only [e1, kk, e2]
  have hl : (encB c).length = 1 + (layFrom c 7 0).length := by simp [encB]; omega
  have e3 : rEnd (encB c) (0 + 1 + (layFrom c 7 0).length) 0 = 0 := by
    unfold rEnd
    rw [if_neg (by omega)]
  rw [e3]
  simp [hr]
end Go.Proofs.YtoghoddofokekaaDoor
