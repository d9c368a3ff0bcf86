/- Chapter 6: what is laid is read again, and only that. -/
import Derived.Test.YtoghoddofokekaaJ4
set_option linter.unusedVariables false
set_option linter.unusedSimpArgs false
set_option maxRecDepth 100000
namespace Go.Proofs.Ytoghoddofokekaa
open Go.Abs

theorem sealed_back (l : List UInt8) : unE (sealB l) = 0 ∧ unB (sealB l) = l := by
  have hl : (sealB l).length - 4 = l.length := by rw [sealB_length]; omega
  have ht : (sealB l).take l.length = l := by simp [sealB]
  have hd : (sealB l).drop l.length = le4 (sumB l) := by simp [sealB]
  have hE : unE (sealB l) = 0 := by
    unfold unE
    rw [if_neg (by rw [sealB_length]; omega), hl, hd, ht, if_pos rfl]
  exact ⟨hE, by unfold unB; rw [hE, if_pos rfl, hl, ht]⟩
theorem seal_only {l : List UInt8} (h : unE l = 0) : sealB (unB l) = l := by
  unfold unB
  rw [if_pos h]
  unfold unE at h
  split at h
  · omega
  · split at h
    · rename_i h4 hd
      unfold sealB
      rw [← hd, List.take_append_drop]
    · omega

/-- a field of another message, set -/
def setF (m : Ms) (j : Nat) (s : Ms) : Ms :=
  match j with
  | 0 => { s with term := m.term }
  | 1 => { s with index := m.index }
  | 2 => { s with lt := m.lt }
  | 3 => { s with cm := m.cm }
  | 4 => { s with rf := m.rf }
  | 5 => { s with bi := m.bi, bt := m.bt, bc := m.bc }
  | 6 => { s with off := m.off }
  | 7 => { s with la := m.la }
  | 8 => { s with D := m.D }
  | _ => s.wes (pl m.ents)
def setFrom (m : Ms) : Nat → Nat → Ms → Ms
  | 0, _, s => s
  | n + 1, j, s => setFrom m n (j + 1) (if flM m.k j then setF m j s else s)

theorem flag_le (b : Bool) : (flagB b).toNat ≤ 1 ∧ decide ((flagB b).toNat = 1) = b := by cases b <;> decide

def eB (e : En) : List UInt8 := entL e.kind e.term e.index e.T e.conf
theorem layE_eq (e : En) : layE e = numB (eB e).length ++ eB e := rfl
theorem rEnt_eB {e : En} (hr : e.right = true) (ht : e.term < 18446744073709551616) (hi : e.index < 18446744073709551616) : rEnt (eB e) = (e, 0) := by
  have h1' : rightE e.kind e.term e.index e.T.length e.conf = true := hr
  have hL : eB e = entB e.kind e.term e.index e.T e.conf := by unfold eB entL; rw [h1']; rfl
  rw [hL, rEnt_laid (kind := e.kind) (conf := e.conf) h1' ht hi]
theorem rEnts_laid {l : List UInt8} : ∀ (es : List En) (a : Nat) (t : List UInt8), l.drop a = layEs es ++ t → (∀ e ∈ es, e.right = true ∧ e.term < 18446744073709551616 ∧ e.index < 18446744073709551616) → rEnts l es.length a 0 = (es, a + (layEs es).length, 0, 0)
  | [], a, t, hd, h => by simp [rEnts, layEs]
  | e :: es, a, t, hd, h => by
    obtain ⟨h1, h2, h3⟩ := h e (by simp)
    have hle := (entL_le h1 h2 h3).1
    have hle : (eB e).length ≤ 160 := hle
    have re := rEnt_eB h1 h2 h3
    have d0 : l.drop a = (numB (eB e).length ++ eB e) ++ (layEs es ++ t) := by rw [hd, layEs, layE_eq]; simp
    have rt := rText_laid (most := 160) d0 (by omega) (by omega)
    have d1 : l.drop (a + (numB (eB e).length ++ eB e).length) = layEs es ++ t := by rw [← List.drop_drop, d0, List.drop_left]
    have ih := rEnts_laid es _ t d1 fun x hx => h x (List.mem_cons_of_mem _ hx)
    rw [List.length_cons]
    unfold rEnts
    rw [rt]
    simp only [ne_eq, not_true_eq_false, if_false, re, ih, layEs, layE_eq]
    simp
    omega

theorem numOk_le {n : Nat} (h : numOk n = true) : n ≤ 72057594037927935 := by
  unfold numOk at h
  simp at h
  exact h.2
theorem rFld_laid {l : List UInt8} {m s : Ms} {a : Nat} {t : List UInt8} (N : MsN m) (ok : LayOk m) (trm : ∀ z ∈ m.es, z.1.term < 18446744073709551616 ∧ z.1.index < 18446744073709551616) {j : Nat} (hj : j < 10) (hf : fitsM m j = true) (hd : l.drop a = layF m j ++ t) (hes : j = 9 → s.es = []) :
    rFld l j ⟨s, a, 0, 0⟩ = ⟨setF m j s, a + (layF m j).length, 0, 0⟩ := by
  rcases j10 hj with rfl | rfl | rfl | rfl | rfl | rfl | rfl | rfl | rfl | rfl
  · have e := rNum_laid (most := 72057594037927935) hd N.term (numOk_le hf)
    simp only [rFld, e]; rfl
  · have e := rNum_laid (most := 72057594037927935) hd N.index (by simpa [fitsM, mostB] using hf)
    simp only [rFld, e]; rfl
  · have e := rNum_laid (most := 72057594037927935) hd N.lt (by simpa [fitsM, mostB] using hf)
    simp only [rFld, e]; rfl
  · have e := rNum_laid (most := 72057594037927935) hd N.cm (by simpa [fitsM, mostB] using hf)
    simp only [rFld, e]; rfl
  · obtain ⟨f1, f2⟩ := flag_le m.rf
    have e := rByte_laid (most := 1) (t := t) (b := flagB m.rf) (by rw [hd]; rfl) f1
    simp only [rFld, e, f2]; rfl
  · unfold fitsM baseB at hf
    simp only [Bool.and_eq_true] at hf
    obtain ⟨⟨h1, h2⟩, h3⟩ := hf
    unfold setB at h3
    simp at h3
    obtain ⟨b, hb⟩ : ∃ b, b = UInt8.ofNat (m.bc % 256).toNat := ⟨_, rfl⟩
    have hbc := ofNat_small (c := m.bc) (by omega) (by omega)
    rw [← hb] at hbc
    have d0 : l.drop a = numB m.bi ++ (numB m.bt ++ (b :: t)) := by rw [hd]; simp [layF, hb]
    have e1 := rNum_laid (most := 72057594037927935) d0 N.bi (numOk_le h1)
    have d1 : l.drop (a + (numB m.bi).length) = numB m.bt ++ (b :: t) := by rw [← List.drop_drop, d0, List.drop_left]
    have e2 := rNum_laid (most := 72057594037927935) d1 N.bt (numOk_le h2)
    have d2 : l.drop (a + (numB m.bi).length + (numB m.bt).length) = b :: t := by rw [← List.drop_drop, d1, List.drop_left]
    have e3 := rByte_laid (most := 254) d2 (by omega)
    simp only [rFld, e1, e2, e3, layF, setF, hbc]
    simp
    omega
  · have ho := ok.off
    obtain ⟨n, hn⟩ : ∃ n : Nat, m.off = n := ⟨m.off.toNat, by omega⟩
    have hd' : l.drop a = numB n ++ t := by rw [hd]; simp [layF, hn]
    have e := rNum_laid (most := 32768) hd' (by omega) (by omega)
    simp only [rFld, e, layF, setF, hn]
    simp
  · obtain ⟨f1, f2⟩ := flag_le m.la
    have e := rByte_laid (most := 1) (t := t) (b := flagB m.la) (by rw [hd]; rfl) f1
    simp only [rFld, e, f2]; rfl
  · have hdl := ok.d
    have e := rText_laid (most := 256) (T := m.D) hd (by omega) (by omega)
    simp only [rFld, e]; rfl
  · have h4 := ok.es4
    have d0 : l.drop a = numB m.es.length ++ (layEs m.ents ++ t) := by rw [hd]; simp [layF]
    have e := rNum_laid (most := 4) d0 (by omega) h4
    have d1 : l.drop (a + (numB m.es.length).length) = layEs m.ents ++ t := by rw [← List.drop_drop, d0, List.drop_left]
    have e2 := rEnts_laid m.ents _ t d1 fun x hx => by
      obtain ⟨z, hz, rfl⟩ := List.mem_map.1 hx
      exact ⟨ok.right z hz, trm z hz⟩
    rw [← Ms.len_ents] at e2
    simp only [rFld, e, e2, layF, setF, hes rfl]
    simp
    omega

theorem setF_es {m s : Ms} {j : Nat} (hj : j < 9) : (setF m j s).es = s.es := by
  rcases j10 (by omega : j < 10) with rfl | rfl | rfl | rfl | rfl | rfl | rfl | rfl | rfl | rfl
  all_goals first | rfl | omega

theorem rFromM_laid {l : List UInt8} {m : Ms} (N : MsN m) (ok : LayOk m) (trm : ∀ z ∈ m.es, z.1.term < 18446744073709551616 ∧ z.1.index < 18446744073709551616) (fit : ∀ j, j < 10 → flM m.k j = true → fitsM m j = true) : ∀ (n j : Nat) (s : Ms) (a : Nat), j + n = 10 → l.drop a = layFromM m n j → (0 < n → s.es = []) →
    rFromM l m.k n j ⟨s, a, 0, 0⟩ = ⟨setFrom m n j s, a + (layFromM m n j).length, 0, 0⟩
  | 0, j, s, a, hj, hd, hes => by simp [rFromM, setFrom, layFromM]
  | n + 1, j, s, a, hj, hd, hes => by
    unfold rFromM setFrom optR
    unfold layFromM at hd ⊢
    cases hf : flM m.k j
    · rw [hf] at hd
      simp only [Bool.false_eq_true, if_false, List.nil_append] at hd ⊢
      exact rFromM_laid N ok trm fit n (j + 1) s a (by omega) hd fun _ => hes (by omega)
    · rw [hf] at hd
      simp only [if_true] at hd ⊢
      rw [rFld_laid N ok trm (by omega) (fit j (by omega) hf) hd fun _ => hes (by omega)]
      have d1 : l.drop (a + (layF m j).length) = layFromM m n (j + 1) := by rw [← List.drop_drop, hd, List.drop_left]
      rw [rFromM_laid N ok trm fit n (j + 1) _ _ (by omega) d1 fun hn => by rw [setF_es (by omega)]; exact hes (by omega)]
      simp
      omega

theorem fromOkM_fld {m : Ms} : ∀ {n j i : Nat}, fromOkM m n j = true → j ≤ i → i < j + n → fldOkM m i = true
  | 0, j, i, h, h1, h2 => by omega
  | n + 1, j, i, h, h1, h2 => by
    unfold fromOkM at h
    simp at h
    by_cases hi : i = j
    · rw [hi]; exact h.1
    · exact fromOkM_fld (n := n) (j := j + 1) h.2 (by omega) (by omega)

theorem setO_eq {m s : Ms} {j : Nat} (hj : j < 10) (h : fldOkM m j = true) (hz : bareM s j = true) : (if flM m.k j then setF m j s else s) = setF m j s := by
  unfold fldOkM at h
  cases hf : flM m.k j
  · rw [hf] at h
    simp only [Bool.false_eq_true, if_false] at h ⊢
    cases s
    rcases j10 hj with rfl | rfl | rfl | rfl | rfl | rfl | rfl | rfl | rfl | rfl
    case inr.inr.inr.inr.inr.inr.inr.inr.inr =>
      simp [bareM] at h hz
      simp [setF, Ms.wes, Ms.ents, pl, h, hz]
    all_goals
      simp [bareM] at h hz
      simp [setF, h, hz]
  · rfl

theorem set_all {m : Ms} (h : ∀ j, j < 10 → fldOkM m j = true) : setFrom m 10 0 { Ms.zero with k := m.k, f := m.f, t := m.t } = m.plain := by
  have step : ∀ (n j : Nat) (s : Ms), j < 10 → bareM s j = true → setFrom m (n + 1) j s = setFrom m n (j + 1) (setF m j s) := fun n j s hj hz => by
    show setFrom m n (j + 1) (if flM m.k j then setF m j s else s) = _
    rw [setO_eq hj (h j hj) hz]
  have s0 : ({ Ms.zero with k := m.k, f := m.f, t := m.t } : Ms) = ⟨m.k, m.f, m.t, 0, 0, 0, [], 0, false, 0, 0, 0, 0, [], false⟩ := rfl
  rw [s0]
  have e0 : setFrom m 10 0 ⟨m.k, m.f, m.t, 0, 0, 0, [], 0, false, 0, 0, 0, 0, [], false⟩ = setFrom m 9 1 ⟨m.k, m.f, m.t, m.term, 0, 0, [], 0, false, 0, 0, 0, 0, [], false⟩ := step 9 0 ⟨m.k, m.f, m.t, 0, 0, 0, [], 0, false, 0, 0, 0, 0, [], false⟩ (by omega) rfl
  have e1 : setFrom m 9 1 ⟨m.k, m.f, m.t, m.term, 0, 0, [], 0, false, 0, 0, 0, 0, [], false⟩ = setFrom m 8 2 ⟨m.k, m.f, m.t, m.term, m.index, 0, [], 0, false, 0, 0, 0, 0, [], false⟩ := step 8 1 ⟨m.k, m.f, m.t, m.term, 0, 0, [], 0, false, 0, 0, 0, 0, [], false⟩ (by omega) rfl
  have e2 : setFrom m 8 2 ⟨m.k, m.f, m.t, m.term, m.index, 0, [], 0, false, 0, 0, 0, 0, [], false⟩ = setFrom m 7 3 ⟨m.k, m.f, m.t, m.term, m.index, m.lt, [], 0, false, 0, 0, 0, 0, [], false⟩ := step 7 2 ⟨m.k, m.f, m.t, m.term, m.index, 0, [], 0, false, 0, 0, 0, 0, [], false⟩ (by omega) rfl
  have e3 : setFrom m 7 3 ⟨m.k, m.f, m.t, m.term, m.index, m.lt, [], 0, false, 0, 0, 0, 0, [], false⟩ = setFrom m 6 4 ⟨m.k, m.f, m.t, m.term, m.index, m.lt, [], m.cm, false, 0, 0, 0, 0, [], false⟩ := step 6 3 ⟨m.k, m.f, m.t, m.term, m.index, m.lt, [], 0, false, 0, 0, 0, 0, [], false⟩ (by omega) rfl
  have e4 : setFrom m 6 4 ⟨m.k, m.f, m.t, m.term, m.index, m.lt, [], m.cm, false, 0, 0, 0, 0, [], false⟩ = setFrom m 5 5 ⟨m.k, m.f, m.t, m.term, m.index, m.lt, [], m.cm, m.rf, 0, 0, 0, 0, [], false⟩ := step 5 4 ⟨m.k, m.f, m.t, m.term, m.index, m.lt, [], m.cm, false, 0, 0, 0, 0, [], false⟩ (by omega) rfl
  have e5 : setFrom m 5 5 ⟨m.k, m.f, m.t, m.term, m.index, m.lt, [], m.cm, m.rf, 0, 0, 0, 0, [], false⟩ = setFrom m 4 6 ⟨m.k, m.f, m.t, m.term, m.index, m.lt, [], m.cm, m.rf, m.bi, m.bt, m.bc, 0, [], false⟩ := step 4 5 ⟨m.k, m.f, m.t, m.term, m.index, m.lt, [], m.cm, m.rf, 0, 0, 0, 0, [], false⟩ (by omega) rfl
  have e6 : setFrom m 4 6 ⟨m.k, m.f, m.t, m.term, m.index, m.lt, [], m.cm, m.rf, m.bi, m.bt, m.bc, 0, [], false⟩ = setFrom m 3 7 ⟨m.k, m.f, m.t, m.term, m.index, m.lt, [], m.cm, m.rf, m.bi, m.bt, m.bc, m.off, [], false⟩ := step 3 6 ⟨m.k, m.f, m.t, m.term, m.index, m.lt, [], m.cm, m.rf, m.bi, m.bt, m.bc, 0, [], false⟩ (by omega) rfl
  have e7 : setFrom m 3 7 ⟨m.k, m.f, m.t, m.term, m.index, m.lt, [], m.cm, m.rf, m.bi, m.bt, m.bc, m.off, [], false⟩ = setFrom m 2 8 ⟨m.k, m.f, m.t, m.term, m.index, m.lt, [], m.cm, m.rf, m.bi, m.bt, m.bc, m.off, [], m.la⟩ := step 2 7 ⟨m.k, m.f, m.t, m.term, m.index, m.lt, [], m.cm, m.rf, m.bi, m.bt, m.bc, m.off, [], false⟩ (by omega) rfl
  have e8 : setFrom m 2 8 ⟨m.k, m.f, m.t, m.term, m.index, m.lt, [], m.cm, m.rf, m.bi, m.bt, m.bc, m.off, [], m.la⟩ = setFrom m 1 9 ⟨m.k, m.f, m.t, m.term, m.index, m.lt, [], m.cm, m.rf, m.bi, m.bt, m.bc, m.off, m.D, m.la⟩ := step 1 8 ⟨m.k, m.f, m.t, m.term, m.index, m.lt, [], m.cm, m.rf, m.bi, m.bt, m.bc, m.off, [], m.la⟩ (by omega) rfl
  have e9 : setFrom m 1 9 ⟨m.k, m.f, m.t, m.term, m.index, m.lt, [], m.cm, m.rf, m.bi, m.bt, m.bc, m.off, m.D, m.la⟩ = setFrom m 0 10 ⟨m.k, m.f, m.t, m.term, m.index, m.lt, pl m.ents, m.cm, m.rf, m.bi, m.bt, m.bc, m.off, m.D, m.la⟩ := step 0 9 ⟨m.k, m.f, m.t, m.term, m.index, m.lt, [], m.cm, m.rf, m.bi, m.bt, m.bc, m.off, m.D, m.la⟩ (by omega) rfl
  rw [e0, e1, e2, e3, e4, e5, e6, e7, e8, e9]
  rfl

/-- what is laid, sealed, is read as it was -/
theorem rMsg_laid {m : Ms} (hr : rightM m = true) (N : MsN m) (trm : ∀ z ∈ m.es, z.1.term < 18446744073709551616 ∧ z.1.index < 18446744073709551616) : rMsg (sealB (bodyM m)) = (m.plain, 0) := by
  have ok := right_ok hr
  have hk := ask1_mask hr
  obtain ⟨hle, h3⟩ := bodyM_le hr N trm
  obtain ⟨hE, hB⟩ := sealed_back (bodyM m)
  have hR := hr
  unfold rightM headM at hr
  simp only [Bool.and_eq_true] at hr
  obtain ⟨⟨⟨⟨_, hf⟩, ht⟩, _⟩, hall⟩ := hr
  unfold nodeB at hf ht
  simp at hf ht
  have fld : ∀ j, j < 10 → fldOkM m j = true := fun j hj => fromOkM_fld hall (by omega) (by omega)
  have fit : ∀ j, j < 10 → flM m.k j = true → fitsM m j = true := fun j hj hf => by
    have := fld j hj
    unfold fldOkM at this
    rw [hf] at this
    simpa using this
  have hkk : 1 ≤ m.k ∧ m.k ≤ 6 := by
    rcases kindsM m.k with hk' | hk' | hk' | hk' | hk' | hk' | hk'
    case inr.inr.inr.inr.inr.inr => exact absurd (maskM_none hk') hk
    all_goals omega
  unfold rMsg
  rw [if_neg (by rw [sealB_length]; omega), if_neg (by simp [hE]), hB]
  obtain ⟨b0, hb0⟩ : ∃ b, b = UInt8.ofNat (m.k % 256).toNat := ⟨_, rfl⟩
  obtain ⟨b1, hb1⟩ : ∃ b, b = UInt8.ofNat (m.f % 256).toNat := ⟨_, rfl⟩
  obtain ⟨b2, hb2⟩ : ∃ b, b = UInt8.ofNat (m.t % 256).toNat := ⟨_, rfl⟩
  have w0 := ofNat_small (c := m.k) (by omega) (by omega)
  have w1 := ofNat_small (c := m.f) (by omega) (by omega)
  have w2 := ofNat_small (c := m.t) (by omega) (by omega)
  rw [← hb0] at w0
  rw [← hb1] at w1
  rw [← hb2] at w2
  obtain ⟨B, hBd⟩ : ∃ B, B = bodyM m := ⟨_, rfl⟩
  have hBe : B = b0 :: b1 :: b2 :: layFromM m 10 0 := by rw [hBd, hb0, hb1, hb2]; rfl
  rw [← hBd] at hle ⊢
  have e0 := rByte_laid (l := B) (a := 0) (most := 6) (b := b0) (t := b1 :: b2 :: layFromM m 10 0) (by rw [hBe]; rfl) (by omega)
  have e1 := rByte_laid (l := B) (a := 0 + 1) (most := 7) (b := b1) (t := b2 :: layFromM m 10 0) (by rw [hBe]; rfl) (by omega)
  have e2 := rByte_laid (l := B) (a := 0 + 1 + 1) (most := 7) (b := b2) (t := layFromM m 10 0) (by rw [hBe]; rfl) (by omega)
  have hhead : rHead B = ⟨{ Ms.zero with k := m.k, f := m.f, t := m.t }, 0 + 1 + 1 + 1, 0, 0⟩ := by
    unfold rHead
    simp only [e0, e1, e2, w0, w1, w2]
    rw [if_neg (by omega)]
  have hbody : rBody B = ⟨m.plain, B.length, 0, 0⟩ := by
    unfold rBody
    rw [hhead]
    simp only
    rw [rFromM_laid N ok trm fit 10 0 _ _ (by omega) (by rw [hBe]; rfl) (fun _ => rfl), set_all fld]
    have : B.length = (layFromM m 10 0).length + 3 := by rw [hBe]; simp
    rw [this]
    congr 1
    omega
  simp only [hbody]
  have hrp : rightM m.plain = true := by rw [rightM_plain (m := m) (Ms.plain_plain m)]; exact hR
  have he : errS B ⟨m.plain, B.length, 0, 0⟩ = 0 := by
    unfold errS rEnd
    simp
  rw [he, hrp]
  rfl
end Go.Proofs.Ytoghoddofokekaa
