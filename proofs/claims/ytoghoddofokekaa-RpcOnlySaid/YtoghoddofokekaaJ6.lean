/- Chapter 6: what is read is laid as the same bytes. -/
import Derived.Test.YtoghoddofokekaaJ5
set_option linter.unusedVariables false
set_option linter.unusedSimpArgs false
set_option maxRecDepth 100000
namespace Go.Proofs.Ytoghoddofokekaa
open Go.Abs

theorem rText_bad {l : List UInt8} {a bad most : Nat} (h : (rText l a bad most).2.2 = 0) : bad = 0 := by
  unfold rText at h
  simp only at h
  split at h
  · rename_i h1
    exact absurd h h1
  · rename_i h1
    exact rNum_bad (Classical.not_not.1 h1)
theorem rText_eq {l : List UInt8} {a bad most : Nat} (ha : a ≤ l.length) (h : (rText l a bad most).2.2 = 0) : bad = 0 ∧ l.take (rText l a bad most).2.1 = l.take a ++ (numB (rText l a bad most).1.length ++ (rText l a bad most).1) := by
  have hb := rText_bad h
  subst hb
  generalize hr : rText l a 0 most = r at *
  obtain ⟨T, a', e⟩ := r
  simp only at h
  subst h
  exact ⟨rfl, text_canon ha hr⟩
theorem rText_le {l : List UInt8} {a bad : Nat} {most : Int} (ha : a ≤ l.length) : (rText l a bad most).2.1 ≤ l.length := by
  have := (rNum_lt l a bad (max most 0).toNat).2.1 ha
  unfold rText
  simp only
  split
  · exact this
  · split
    · exact ha
    · simp
      omega

theorem rEnt_only {l : List UInt8} (h : (rEnt l).2 = 0) : eB (rEnt l).1 = l ∧ (rEnt l).1.right = true := by
  unfold rEnt at h ⊢
  split at h
  · simp at h
  · rename_i hbig
    rw [if_neg hbig]
    simp only at h ⊢
    obtain ⟨r1, hr1⟩ : ∃ r1, rByte l 0 0 2 = r1 := ⟨_, rfl⟩
    have hq1 : (rByte l 0 0 2).2.2 = 0 → l.take (rByte l 0 0 2).2.1 = l.take 0 ++ [UInt8.ofNat (rByte l 0 0 2).1] := fun h => (rByte_eq h).2
    have hm1 := rByte_most l 0 0 2
    have hl1 := (rByte_lt l 0 0 2).1 (by omega)
    rw [hr1] at h hq1 hm1 hl1 ⊢
    obtain ⟨n1, a1, b1⟩ := r1
    simp only at h hq1 hm1 hl1 ⊢
    obtain ⟨r2, hr2⟩ : ∃ r2, rNum l a1 b1 72057594037927935 = r2 := ⟨_, rfl⟩
    have hq2 : (rNum l a1 b1 72057594037927935).2.2 = 0 → _ := fun h => rNum_eq h
    have hl2 := (rNum_lt l a1 b1 72057594037927935).2.1 hl1
    rw [hr2] at h hq2 hl2 ⊢
    obtain ⟨n2, a2, b2⟩ := r2
    simp only at h hq2 hl2 ⊢
    obtain ⟨r3, hr3⟩ : ∃ r3, rNum l a2 b2 72057594037927935 = r3 := ⟨_, rfl⟩
    have hq3 : (rNum l a2 b2 72057594037927935).2.2 = 0 → _ := fun h => rNum_eq h
    have hl3 := (rNum_lt l a2 b2 72057594037927935).2.1 hl2
    rw [hr3] at h hq3 hl3 ⊢
    obtain ⟨n3, a3, b3⟩ := r3
    simp only at h hq3 hl3 ⊢
    have tail : (entTail l n1 a3 b3).2.2.2 = 0 → b3 = 0 ∧ l.take (entTail l n1 a3 b3).2.2.1 = l.take a3 ++ (if (n1 : Int) = 1 then numB (entTail l n1 a3 b3).1.length ++ (entTail l n1 a3 b3).1 else if (n1 : Int) = 2 then [UInt8.ofNat ((((entTail l n1 a3 b3).2.1 : Nat) : Int) % 256).toNat] else []) := fun ht => by
      unfold entTail at ht ⊢
      by_cases k1 : n1 = 1
      · have k1' : (n1 : Int) = 1 := by omega
        rw [if_pos k1] at ht ⊢
        rw [if_pos k1']
        exact rText_eq (most := 128) hl3 ht
      · have k1' : ¬ (n1 : Int) = 1 := by omega
        rw [if_neg k1] at ht ⊢
        rw [if_neg k1']
        by_cases k2 : n1 = 2
        · have k2' : (n1 : Int) = 2 := by omega
          rw [if_pos k2] at ht ⊢
          rw [if_pos k2']
          have hlt := (rByte_lt l a3 b3 254).2.2
          obtain ⟨e1, e2⟩ := rByte_eq ht
          have : ((((rByte l a3 b3 254).1 : Nat) : Int) % 256).toNat = (rByte l a3 b3 254).1 := by omega
          simp only at ht ⊢
          rw [this]
          exact ⟨e1, e2⟩
        · have k2' : ¬ (n1 : Int) = 2 := by omega
          rw [if_neg k2] at ht ⊢
          rw [if_neg k2']
          simp only at ht ⊢
          exact ⟨ht, by simp⟩
    generalize entTail l n1 a3 b3 = t at *
    obtain ⟨T, cf, a4, b4⟩ := t
    simp only at h tail ⊢
    by_cases he : rEnd l a4 b4 = 0
    · cases hr : En.right ⟨(n1 : Int), n2, n3, T, (cf : Int)⟩
      · rw [hr] at h
        simp [he] at h
      · have h1 : (if rEnd l a4 b4 = 0 ∧ true = false then 11 else rEnd l a4 b4) = 0 := by rw [if_neg (by simp)]; exact he
        rw [h1, if_pos rfl]
        refine ⟨?_, hr⟩
        unfold rEnd at he
        have hb4 : b4 = 0 := by
          split at he
          · omega
          · exact he
        have ha4 : ¬ a4 < l.length := fun hlt => by
          rw [if_pos ⟨hb4, hlt⟩] at he
          omega
        obtain ⟨hb3, t4⟩ := tail hb4
        obtain ⟨hb2, t3⟩ := hq3 hb3
        obtain ⟨hb1, t2⟩ := hq2 hb2
        have t1 := hq1 hb1
        rw [List.take_of_length_le (by omega), t3, t2, t1] at t4
        have hr' : rightE (n1 : Int) n2 n3 T.length (cf : Int) = true := hr
        unfold eB entL
        simp only
        rw [hr', if_pos rfl]
        unfold entB
        have e : ((n1 : Int) % 256).toNat = n1 := by omega
        rw [e, t4]
        simp
    · have h1 : (if rEnd l a4 b4 = 0 ∧ En.right ⟨(n1 : Int), n2, n3, T, (cf : Int)⟩ = false then 11 else rEnd l a4 b4) = rEnd l a4 b4 := if_neg fun h => he h.1
      rw [h1, if_neg he] at h
      exact absurd h he

theorem rEnts_eq {l : List UInt8} : ∀ (n a bad : Nat), a ≤ l.length → (rEnts l n a bad).2.2.1 = 0 → (rEnts l n a bad).2.2.2 = 0 → bad = 0 ∧ l.take (rEnts l n a bad).2.1 = l.take a ++ layEs (rEnts l n a bad).1 ∧ (rEnts l n a bad).1.length = n
  | 0, a, bad, ha, h1, h2 => ⟨h1, by simp [rEnts, layEs], rfl⟩
  | n + 1, a, bad, ha, h1, h2 => by
    unfold rEnts at h1 h2 ⊢
    by_cases ht : (rText l a bad 160).2.2 = 0
    · rw [if_neg (by simp [ht])] at h1 h2 ⊢
      by_cases he : (rEnt (rText l a bad 160).1).2 = 0
      · rw [if_neg (by simp [he])] at h1 h2 ⊢
        obtain ⟨hb, t1⟩ := rText_eq (most := 160) ha ht
        obtain ⟨_, t2, t3⟩ := rEnts_eq n (rText l a bad 160).2.1 0 (rText_le ha) h1 h2
        obtain ⟨e1, _⟩ := rEnt_only he
        refine ⟨hb, ?_, by simp [t3]⟩
        simp only [layEs, layE_eq, e1]
        rw [t2]
        have t1 : l.take (rText l a bad 160).2.1 = _ := t1
        rw [t1]
        simp
      · rw [if_pos (by simpa using he)] at h2
        exact absurd h2 he
    · rw [if_pos (by simpa using ht)] at h1
      exact absurd h1 ht
theorem rEnts_le {l : List UInt8} : ∀ (n a bad : Nat), a ≤ l.length → (rEnts l n a bad).2.1 ≤ l.length
  | 0, a, bad, ha => ha
  | n + 1, a, bad, ha => by
    have := rText_le (bad := bad) (most := 160) ha
    unfold rEnts
    split
    · exact this
    · split
      · exact this
      · exact rEnts_le n _ 0 this

theorem rFld_le {l : List UInt8} {j : Nat} (hj : j < 10) {s : Sm} (ha : s.a ≤ l.length) : (rFld l j s).a ≤ l.length := by
  rcases j10 hj with rfl | rfl | rfl | rfl | rfl | rfl | rfl | rfl | rfl | rfl
  · exact (rNum_lt _ _ _ _).2.1 ha
  · exact (rNum_lt _ _ _ _).2.1 ha
  · exact (rNum_lt _ _ _ _).2.1 ha
  · exact (rNum_lt _ _ _ _).2.1 ha
  · exact (rByte_lt _ _ _ _).1 ha
  · exact (rByte_lt _ _ _ _).1 ((rNum_lt _ _ _ _).2.1 ((rNum_lt _ _ _ _).2.1 ha))
  · exact (rNum_lt _ _ _ _).2.1 ha
  · exact (rByte_lt _ _ _ _).1 ha
  · exact rText_le ha
  · exact rEnts_le _ _ _ ((rNum_lt _ _ _ _).2.1 ha)
theorem flag_of {n : Nat} (h : n ≤ 1) : UInt8.ofNat n = flagB (decide (n = 1)) := by
  rcases (by omega : n = 0 ∨ n = 1) with rfl | rfl <;> rfl
theorem rFld_eq {l : List UInt8} {j : Nat} (hj : j < 10) {s : Sm} (ha : s.a ≤ l.length) (hes : j = 9 → s.m.es = []) (hb : (rFld l j s).bad = 0) (he : (rFld l j s).err = 0) : s.bad = 0 ∧ l.take (rFld l j s).a = l.take s.a ++ layF (rFld l j s).m j := by
  rcases j10 hj with rfl | rfl | rfl | rfl | rfl | rfl | rfl | rfl | rfl | rfl
  · exact rNum_eq hb
  · exact rNum_eq hb
  · exact rNum_eq hb
  · exact rNum_eq hb
  · obtain ⟨h1, h2⟩ := rByte_eq hb
    rw [flag_of (rByte_most l s.a s.bad 1)] at h2
    exact ⟨h1, h2⟩
  · obtain ⟨h3, t3⟩ := rByte_eq hb
    obtain ⟨h2, t2⟩ := rNum_eq h3
    obtain ⟨h1, t1⟩ := rNum_eq h2
    refine ⟨h1, ?_⟩
    have hlt := (rByte_lt l (rNum l (rNum l s.a s.bad 72057594037927935).2.1 (rNum l s.a s.bad 72057594037927935).2.2 72057594037927935).2.1 (rNum l (rNum l s.a s.bad 72057594037927935).2.1 (rNum l s.a s.bad 72057594037927935).2.2 72057594037927935).2.2 254).2.2
    simp only [rFld, layF]
    rw [t3, t2, t1]
    generalize rByte l (rNum l (rNum l s.a s.bad 72057594037927935).2.1 (rNum l s.a s.bad 72057594037927935).2.2 72057594037927935).2.1 (rNum l (rNum l s.a s.bad 72057594037927935).2.1 (rNum l s.a s.bad 72057594037927935).2.2 72057594037927935).2.2 254 = D at *
    have : ((D.1 : Int) % 256).toNat = D.1 := by omega
    rw [this]
    simp
  · exact rNum_eq hb
  · obtain ⟨h1, h2⟩ := rByte_eq hb
    rw [flag_of (rByte_most l s.a s.bad 1)] at h2
    exact ⟨h1, h2⟩
  · exact rText_eq (most := 256) ha hb
  · have hn := (rNum_lt l s.a s.bad 4).2.1 ha
    obtain ⟨h2, t2, t3⟩ := rEnts_eq _ _ _ hn hb he
    obtain ⟨h1, t1⟩ := rNum_eq h2
    refine ⟨h1, ?_⟩
    have hm : (rFld l 9 s).m = s.m.wes (pl (rEnts l (rNum l s.a s.bad 4).1 (rNum l s.a s.bad 4).2.1 (rNum l s.a s.bad 4).2.2).1) := by
      simp only [rFld, hes rfl, List.nil_append]
    rw [hm]
    show l.take (rEnts l (rNum l s.a s.bad 4).1 (rNum l s.a s.bad 4).2.1 (rNum l s.a s.bad 4).2.2).2.1 = _
    rw [t2, t1]
    generalize (rEnts l (rNum l s.a s.bad 4).1 (rNum l s.a s.bad 4).2.1 (rNum l s.a s.bad 4).2.2).1 = q at *
    have e1 : (s.m.wes (pl q)).es.length = (rNum l s.a s.bad 4).1 := by rw [← t3]; simp [Ms.wes, pl]
    have e2 : (s.m.wes (pl q)).ents = q := by simp [Ms.wes, pl, Ms.ents, Function.comp_def]
    simp only [layF, e1, e2]
    simp

theorem rFld_keep {l : List UInt8} {i j : Nat} (hi : i < j) (hj : j < 10) (s : Sm) : layF (rFld l j s).m i = layF s.m i := by
  rcases j10 hj with rfl | rfl | rfl | rfl | rfl | rfl | rfl | rfl | rfl | rfl <;>
  rcases j10 (by omega : i < 10) with rfl | rfl | rfl | rfl | rfl | rfl | rfl | rfl | rfl | rfl <;> first | exact absurd hi (by omega) | rfl
theorem rFromM_keep {l : List UInt8} {k : Int} : ∀ (n j i : Nat) (s : Sm), j + n = 10 → i < j → layF (rFromM l k n j s).m i = layF s.m i
  | 0, j, i, s, hj, hi => rfl
  | n + 1, j, i, s, hj, hi => by
    unfold rFromM
    rw [rFromM_keep n (j + 1) i _ (by omega) (by omega)]
    unfold optR
    split
    · exact rFld_keep hi (by omega) s
    · rfl
theorem rFld_es {l : List UInt8} {j : Nat} (hj : j < 9) (s : Sm) : (rFld l j s).m.es = s.m.es := by
  rcases j10 (by omega : j < 10) with rfl | rfl | rfl | rfl | rfl | rfl | rfl | rfl | rfl | rfl
  all_goals first | rfl | omega

theorem rFromM_eq {l : List UInt8} {k : Int} : ∀ (n j : Nat) (s : Sm), j + n = 10 → s.m.k = k → s.a ≤ l.length → (0 < n → s.m.es = [] ∧ s.err = 0) → (rFromM l k n j s).bad = 0 → (rFromM l k n j s).err = 0 → s.bad = 0 ∧ l.take (rFromM l k n j s).a = l.take s.a ++ layFromM (rFromM l k n j s).m n j
  | 0, j, s, hj, hk, ha, hes, hb, he => ⟨hb, by simp [layFromM, rFromM]⟩
  | n + 1, j, s, hj, hk, ha, hes, hb, he => by
    obtain ⟨hes1, hes2⟩ := hes (by omega)
    have kk := rFromM_k l k (n + 1) j s
    unfold rFromM at hb he kk ⊢
    unfold layFromM
    rw [kk, hk]
    unfold optR at hb he ⊢
    cases hf : flM k j
    · rw [hf] at hb he
      simp only [Bool.false_eq_true, if_false] at hb he ⊢
      simpa using rFromM_eq n (j + 1) s (by omega) hk ha (fun _ => ⟨hes1, hes2⟩) hb he
    · rw [hf] at hb he
      simp only [if_true] at hb he ⊢
      have hk1 : (rFld l j s).m.k = k := by
        rw [← hk]
        rcases j10 (by omega : j < 10) with rfl | rfl | rfl | rfl | rfl | rfl | rfl | rfl | rfl | rfl <;> rfl
      obtain ⟨h1, t1⟩ := rFromM_eq n (j + 1) (rFld l j s) (by omega) hk1 (rFld_le (by omega) ha) (fun hn => ⟨by rw [rFld_es (by omega)]; exact hes1, rFld_err l (by omega) s⟩) hb he
      have he1 : (rFld l j s).err = 0 := by
        by_cases h9 : j < 9
        · exact rFld_err l h9 s
        · have : n = 0 := by omega
          subst this
          exact he
      obtain ⟨h2, t2⟩ := rFld_eq (by omega) ha (fun _ => hes1) h1 he1
      refine ⟨h2, ?_⟩
      rw [t1, t2, rFromM_keep n (j + 1) j _ (by omega) (by omega), List.append_assoc]

/-- what is read whole may be, and is laid as the same bytes -/
theorem rMsg_only {l : List UInt8} (h : (rMsg l).2 = 0) : rightM (rMsg l).1 = true ∧ encM (rMsg l).1 = l := by
  unfold rMsg at h ⊢
  split at h
  · simp at h
  · rename_i hbig
    rw [if_neg hbig]
    split at h
    · rename_i hu
      exact absurd h hu
    · rename_i hu
      rw [if_neg hu]
      have hu : unE l = 0 := by omega
      have hs := seal_only hu
      generalize unB l = b at *
      simp only at h ⊢
      have hz : ∀ e : Nat, ((if e = 0 then ((rBody b).m, 0) else (Ms.zero, e)) : Ms × Nat).2 = 0 → e = 0 := fun e he => by
        split at he
        · assumption
        · exact he
      have he := hz _ h
      rw [he, if_pos rfl]
      have h0 : errS b (rBody b) = 0 := by
        by_cases h0 : errS b (rBody b) = 0
        · exact h0
        · rw [if_neg (fun h => h0 h.1)] at he
          exact he
      have hr : rightM (rBody b).m = true := by
        cases hr : rightM (rBody b).m
        · rw [if_pos ⟨h0, hr⟩] at he
          omega
        · rfl
      refine ⟨hr, ?_⟩
      unfold encM
      rw [hr, if_pos rfl]
      have hk := ask1_mask hr
      unfold errS at h0
      have herr : (rBody b).err = 0 := by
        by_cases he : (rBody b).err = 0
        · exact he
        · rw [if_pos he] at h0
          exact h0
      rw [if_neg (by simp [herr])] at h0
      unfold rEnd at h0
      have hbad : (rBody b).bad = 0 := by
        split at h0
        · omega
        · exact h0
      have hend : ¬ (rBody b).a < b.length := fun hlt => by
        rw [if_pos ⟨hbad, hlt⟩] at h0
        omega
      have hkb : (rBody b).m.k = (rHead b).m.k := rFromM_k b _ 10 0 (rHead b)
      have hA : (rHead b).a ≤ b.length := by
        unfold rHead
        simp only
        split
        · exact (rByte_lt _ _ _ _).1 (by omega)
        · exact (rByte_lt _ _ _ _).1 ((rByte_lt _ _ _ _).1 ((rByte_lt _ _ _ _).1 (by omega)))
      obtain ⟨hp1, hp2, hp3⟩ := rHead_plain b
      obtain ⟨hb0, t0⟩ := rFromM_eq (l := b) (k := (rHead b).m.k) 10 0 (rHead b) (by omega) rfl hA (fun _ => ⟨hp3, hp2⟩) hbad herr
      have t0 : b.take (rBody b).a = b.take (rHead b).a ++ layFromM (rBody b).m 10 0 := t0
      rw [List.take_of_length_le (by omega)] at t0
      have hhead : b.take (rHead b).a = [UInt8.ofNat ((rBody b).m.k % 256).toNat, UInt8.ofNat ((rBody b).m.f % 256).toNat, UInt8.ofNat ((rBody b).m.t % 256).toNat] := by
        have kf : ∀ (n j : Nat) (s : Sm), (rFromM b (rHead b).m.k n j s).m.f = s.m.f ∧ (rFromM b (rHead b).m.k n j s).m.t = s.m.t := by
          intro n
          induction n with
          | zero => intro j s; exact ⟨rfl, rfl⟩
          | succ n ih =>
            intro j s
            unfold rFromM
            rw [(ih (j + 1) _).1, (ih (j + 1) _).2]
            unfold optR
            split
            · unfold rFld
              split <;> exact ⟨rfl, rfl⟩
            · exact ⟨rfl, rfl⟩
        have h1 : (rBody b).m.f = (rHead b).m.f := (kf 10 0 (rHead b)).1
        have h2 : (rBody b).m.t = (rHead b).m.t := (kf 10 0 (rHead b)).2
        rw [hkb] at hk
        rw [hkb, h1, h2]
        clear t0 kf h1 h2
        unfold rHead at hb0 hk ⊢
        simp only at hb0 hk ⊢
        by_cases hn : (rByte b 0 0 6).1 = 0
        · rw [if_pos hn] at hk
          simp only [hn] at hk
          exact absurd (by decide) hk
        · rw [if_neg hn] at hb0 ⊢
          simp only at hb0 ⊢
          obtain ⟨h3, t3⟩ := rByte_eq hb0
          obtain ⟨h2, t2⟩ := rByte_eq h3
          obtain ⟨h1, t1⟩ := rByte_eq h2
          have l1 := (rByte_lt b 0 0 6).2.2
          have l2 := (rByte_lt b (rByte b 0 0 6).2.1 (rByte b 0 0 6).2.2 7).2.2
          have l3 := (rByte_lt b (rByte b (rByte b 0 0 6).2.1 (rByte b 0 0 6).2.2 7).2.1 (rByte b (rByte b 0 0 6).2.1 (rByte b 0 0 6).2.2 7).2.2 7).2.2
          rw [t3, t2, t1]
          have e : ∀ n : Nat, n < 256 → ((n : Int) % 256).toNat = n := fun n hn => by omega
          rw [e _ l1, e _ l2, e _ l3]
          simp
      rw [hhead] at t0
      have : bodyM (rBody b).m = b := t0.symm
      rw [this, hs]
end Go.Proofs.Ytoghoddofokekaa
