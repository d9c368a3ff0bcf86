/- Chapter 3: a decimal's text, both ways. -/
import Derived.Test.YtdodhmidhcpnnaaD8
set_option linter.unusedVariables false
set_option linter.unusedSimpArgs false
set_option maxRecDepth 100000
namespace Go.Proofs.Ytdodhmidhcpnnaa
open Go.Abs

/-- a decimal's text, and what is wrong -/
def textR (n s : Int) : TV := if rgt s = true then [.sc (.str (dtxt n s)), .sc (.int .i64 0)] else [.sc (.str []), .sc (.int .i64 21)]

theorem rep_snoc (m : Nat) (t : List UInt8) : List.replicate (m + 1) (48 : UInt8) ++ t = List.replicate m 48 ++ (48 :: t) := by
  rw [List.replicate_succ', List.append_assoc]; rfl

theorem pad_loop {hh : Heap} {j k : Nat} {n : Int} {t5 : TV} (hj : hh[j]? = some ⟨.var, dC n k⟩) (hk : k ≤ 18) : ∀ (m : Nat) (t : List UInt8) (e : Env), m = k + 1 - t.length → t.length ≤ 1000 → e.get 1 = [.sc (.ptr j 0 3)] → e.get 4 = [.sc (.str t)] → e.get 5 = t5 →
    loopE F O (.loop [1, 4, 5] M.b48_0) e hh = some (.exit 0, [(1, [.sc (.ptr j 0 3)]), (4, [.sc (.str (List.replicate m 48 ++ t))]), (5, t5), (28, [.sc (.bool false)])], hh)
  | 0, t, e, hm, hl, e1, e4, e5 => by
    have c1 : ¬ (t.length : Int) ≤ k := by omega
    have c2 : ¬ t.length ≤ k := by omega
    exact exitM fun R RO RD RT E => by simp [M.b48_0, E.eqs, e1, e4, e5, hj, fldA, freshB, loadA, c1, c2]
  | m + 1, t, e, hm, hl, e1, e4, e5 => by
    have c1 : (t.length : Int) ≤ k := by omega
    have c2 : t.length ≤ k := by omega
    have l1 : 1 + t.length ≤ lim := by simp [lim]; omega
    rw [rep_snoc]
    have ih := pad_loop (t5 := t5) hj hk m (48 :: t) [(1, [.sc (.ptr j 0 3)]), (4, [.sc (.str (48 :: t))]), (5, t5)] (by simp only [List.length_cons]; omega) (by simp only [List.length_cons]; omega) rfl rfl rfl
    exact stepM (fun R RO RD RT E => by simp [M.b48_0, E.eqs, e1, e4, e5, hj, fldA, freshB, loadA, c1, c2, l1]) ih
theorem rpad_loop {hh : Heap} {j k : Nat} {n : Int} {t4 : TV} (hj : hh[j]? = some ⟨.var, dC n k⟩) (hk : k ≤ 18) : ∀ (m : Nat) (t : List UInt8) (e : Env), m = k + 1 - t.length → t.length ≤ 1000 → e.get 1 = [.sc (.ptr j 0 3)] → e.get 4 = t4 → e.get 5 = [.sc (.str t)] →
    loopE F O (.loop [1, 4, 5] M.b49_0) e hh = some (.exit 0, [(1, [.sc (.ptr j 0 3)]), (4, t4), (5, [.sc (.str (List.replicate m 48 ++ t))]), (19, [.sc (.bool false)])], hh)
  | 0, t, e, hm, hl, e1, e4, e5 => by
    have c1 : ¬ (t.length : Int) ≤ k := by omega
    have c2 : ¬ t.length ≤ k := by omega
    exact exitM fun R RO RD RT E => by simp [M.b49_0, E.eqs, e1, e4, e5, hj, fldA, freshB, loadA, c1, c2]
  | m + 1, t, e, hm, hl, e1, e4, e5 => by
    have c1 : (t.length : Int) ≤ k := by omega
    have c2 : t.length ≤ k := by omega
    have l1 : 1 + t.length ≤ lim := by simp [lim]; omega
    rw [rep_snoc]
    have ih := rpad_loop (t4 := t4) hj hk m (48 :: t) [(1, [.sc (.ptr j 0 3)]), (4, t4), (5, [.sc (.str (48 :: t))])] (by simp only [List.length_cons]; omega) (by simp only [List.length_cons]; omega) rfl rfl rfl
    exact stepM (fun R RO RD RT E => by simp [M.b49_0, E.eqs, e1, e4, e5, hj, fldA, freshB, loadA, c1, c2, l1]) ih

theorem txt_head (N : Nat) : ∃ c r, txt N = c :: r ∧ ¬ (c.toNat : Int) = 45 := by
  cases h : txt N with
  | nil => exact absurd h (txt_ne N)
  | cons c r =>
    refine ⟨c, r, rfl, ?_⟩
    have hd := txt_dig N
    rw [h] at hd
    simp only [List.all_cons, Bool.and_eq_true] at hd
    have := hd.1
    unfold isDig at this
    simp at this
    omega
theorem cut_all {p : List UInt8} {i : Nat} : List.take (p.length - i) (p.drop i) = p.drop i := List.take_of_length_le (by simp)

set_option maxHeartbeats 2000000 in
theorem spec48 (h : Heap) {n s : Int} (hn : InW n) : call 48 [[Dc n s]] h = some (textR n s, h) := by
  have r1 := fun h => spec29 h n s
  have s1 := fun h => spec72 h hn
  unfold textR
  refine callX rfl (by rfl : F 48 = some M.a48) (fun R RO RD RT E => ?_)
  by_cases c1 : rgt s = true
  · rw [if_pos c1]
    rw [c1] at r1
    obtain ⟨s0, s18⟩ := rgt_iff.1 c1
    obtain ⟨k, rfl⟩ := Int.eq_ofNat_of_zero_le s0
    have hk : k ≤ 18 := by omega
    have e0 : (k : Int).toNat = k := by omega
    have hl := txt_length hn.abs60 (by decide)
    have hpl := pad_length k (txt n.natAbs)
    obtain ⟨c, r, ht, hc⟩ := txt_head n.natAbs
    -- behind the sign
    have lp := fun t5 => E.run (loop_run (pad_loop (hh := h ++ [⟨.var, dC n k⟩]) (j := h.length) (k := k) (n := n) (t5 := t5) (by simp) hk (k + 1 - (txt n.natAbs).length) (txt n.natAbs) [(1, [.sc (.ptr h.length 0 3)]), (4, [.sc (.str (txt n.natAbs))]), (5, t5), (20, [.sc (.bool false)])] rfl (by omega) rfl rfl rfl))
    have hp : List.replicate (k + 1 - (txt n.natAbs).length) 48 ++ txt n.natAbs = padT k (txt n.natAbs) := rfl
    rw [hp] at lp
    obtain ⟨i, hi⟩ : ∃ i, i = (padT k (txt n.natAbs)).length - k := ⟨_, rfl⟩
    have w1 : IntKind.i64.wrap (((padT k (txt n.natAbs)).length : Int) - k) = (i : Int) := by rw [wi64 (by omega) (by omega)]; omega
    have il : i ≤ (padT k (txt n.natAbs)).length := by omega
    have ca := cut_all (p := padT k (txt n.natAbs)) (i := i)
    obtain ⟨x1, hx1⟩ : ∃ x1, x1 = (padT k (txt n.natAbs)).take i := ⟨_, rfl⟩
    obtain ⟨x2, hx2⟩ : ∃ x2, x2 = (padT k (txt n.natAbs)).drop i := ⟨_, rfl⟩
    have lx1 : x1.length ≤ 100 := by rw [hx1, List.length_take]; omega
    have lx2 : x2.length ≤ 100 := by rw [hx2, List.length_drop]; omega
    have tk := hx1.symm
    have ca := ca.trans hx2.symm
    have bq : x1.length + 1 + ((padT k (txt n.natAbs)).length - i) ≤ lim := by simp [lim]; omega
    have bq2 : x1.length + 1 + 1 + ((padT k (txt n.natAbs)).length - i) ≤ lim := by simp [lim]; omega
    have b1 : 1 + x1.length ≤ lim := by simp [lim]; omega
    have b2 : x1.length + 1 + 1 ≤ lim := by simp [lim]; omega
    have b3 : x1.length + 1 + 1 + x2.length ≤ lim := by simp [lim]; omega
    have b4 : x1.length ≤ lim := by omega
    have b5 : x1.length + 1 ≤ lim := by omega
    have b6 : x1.length + 1 + x2.length ≤ lim := by omega
    have b7 : 1 + (r.length + 1) ≤ lim := by rw [ht] at hl; simp only [List.length_cons] at hl; simp [lim]; omega
    have b8 : r.length + 1 ≤ lim := by omega
    by_cases hneg : n < 0
    · have hw : wtxt n = 45 :: txt n.natAbs := by unfold wtxt; rw [if_pos hneg]
      rw [hw] at s1
      by_cases hk0 : k = 0
      · subst hk0
        have hd : dtxt n ((0 : Nat) : Int) = 45 :: txt n.natAbs := by
          unfold dtxt
          rw [if_pos hneg]
          unfold ptT padT
          have : 0 + 1 - (txt n.natAbs).length = 0 := by rw [ht]; simp
          rw [e0, if_pos rfl, this]
          rfl
        rw [hd]
        clear lp hx1 hx2 ca tk hp hd
        have z : ((0 : Nat) : Int) = 0 := rfl
        rw [z] at r1 ⊢
        rw [ht] at s1 ⊢
        simp [M.a48, E.eqs, r1, s1, b7, b8, fldA, freshB, loadA, storeA, trim_pure, pureT, pureV, pureS]
      · have hd : dtxt n (k : Int) = 45 :: (x1 ++ 46 :: x2) := by
          unfold dtxt ptT
          rw [if_pos hneg, e0, if_neg hk0, ← hi, ← hx1, ← hx2]
        rw [hd]
        have hkI : ¬ (k : Int) = 0 := by omega
        clear hx1 hx2 hp hd hpl hi
        generalize padT k (txt n.natAbs) = p at *
        rw [ht] at s1 lp
        simp [M.a48, E.eqs, r1, s1, hk0, hkI, lp, w1, il, tk, ca, bq, bq2, b1, b2, b3, fldA, freshB, loadA, storeA, trim_pure, pureT, pureV, pureS]
    · have hw : wtxt n = txt n.natAbs := by unfold wtxt; rw [if_neg hneg]
      rw [hw] at s1
      by_cases hk0 : k = 0
      · subst hk0
        have hd : dtxt n ((0 : Nat) : Int) = txt n.natAbs := by
          unfold dtxt
          rw [if_neg hneg]
          unfold ptT padT
          have : 0 + 1 - (txt n.natAbs).length = 0 := by rw [ht]; simp
          rw [e0, if_pos rfl, this]
          rfl
        rw [hd]
        clear lp hx1 hx2 ca tk hp hd
        have z : ((0 : Nat) : Int) = 0 := rfl
        rw [z] at r1 ⊢
        rw [ht] at s1 ⊢
        simp [M.a48, E.eqs, r1, s1, hc, b7, b8, fldA, freshB, loadA, storeA, trim_pure, pureT, pureV, pureS]
      · have hd : dtxt n (k : Int) = x1 ++ 46 :: x2 := by
          unfold dtxt ptT
          rw [if_neg hneg, e0, if_neg hk0, ← hi, ← hx1, ← hx2]
        rw [hd]
        have hkI : ¬ (k : Int) = 0 := by omega
        clear hx1 hx2 hp hd hpl hi
        generalize padT k (txt n.natAbs) = p at *
        rw [ht] at s1 lp
        simp [M.a48, E.eqs, r1, s1, hc, hk0, hkI, lp, w1, il, tk, ca, bq, bq2, b4, b5, b6, fldA, freshB, loadA, storeA, trim_pure, pureT, pureV, pureS]
  · rw [if_neg c1]
    have c1 : rgt s = false := by simpa using c1
    rw [c1] at r1
    simp [M.a48, E.eqs, r1, fldA, freshB, loadA, storeA, trim_pure, pureT, pureV, pureS]

set_option maxHeartbeats 2000000 in
theorem spec49 (h : Heap) {n s : Int} (hn : InW n) : call 49 [[Dc n s]] h = some (textR n s, h) := by
  have r1 := fun h => spec30 h n s
  have s1 := fun h => spec59 h hn
  have s2 := fun h => spec73 h hn.abs60
  unfold textR
  refine callX rfl (by rfl : F 49 = some M.a49) (fun R RO RD RT E => ?_)
  by_cases c1 : rgt s = true
  · rw [if_pos c1]
    rw [c1] at r1
    obtain ⟨s0, s18⟩ := rgt_iff.1 c1
    obtain ⟨k, rfl⟩ := Int.eq_ofNat_of_zero_le s0
    have hk : k ≤ 18 := by omega
    have e0 : (k : Int).toNat = k := by omega
    have hl := txt_length hn.abs60 (by decide)
    have hpl := pad_length k (txt n.natAbs)
    have lp := E.run (loop_run (rpad_loop (hh := h ++ [⟨.var, dC n k⟩, ⟨.var, bigC n⟩]) (j := h.length) (k := k) (n := n) (t4 := [.sc (.ptr (h.length + 1) 0 17)]) (by simp) hk (k + 1 - (txt n.natAbs).length) (txt n.natAbs) [(1, [.sc (.ptr h.length 0 3)]), (4, [.sc (.ptr (h.length + 1) 0 17)]), (5, [.sc (.str (txt n.natAbs))])] rfl (by omega) rfl rfl rfl))
    have hp : List.replicate (k + 1 - (txt n.natAbs).length) 48 ++ txt n.natAbs = padT k (txt n.natAbs) := rfl
    rw [hp] at lp
    obtain ⟨i, hi⟩ : ∃ i, i = (padT k (txt n.natAbs)).length - k := ⟨_, rfl⟩
    have w1 : IntKind.i64.wrap (((padT k (txt n.natAbs)).length : Int) - k) = (i : Int) := by rw [wi64 (by omega) (by omega)]; omega
    have il : i ≤ (padT k (txt n.natAbs)).length := by omega
    have ca := cut_all (p := padT k (txt n.natAbs)) (i := i)
    obtain ⟨x1, hx1⟩ : ∃ x1, x1 = (padT k (txt n.natAbs)).take i := ⟨_, rfl⟩
    obtain ⟨x2, hx2⟩ : ∃ x2, x2 = (padT k (txt n.natAbs)).drop i := ⟨_, rfl⟩
    have lx1 : x1.length ≤ 100 := by rw [hx1, List.length_take]; omega
    have lx2 : x2.length ≤ 100 := by rw [hx2, List.length_drop]; omega
    have tk := hx1.symm
    have ca := ca.trans hx2.symm
    have bq : x1.length + 1 + ((padT k (txt n.natAbs)).length - i) ≤ lim := by simp [lim]; omega
    have bq2 : x1.length + 1 + 1 + ((padT k (txt n.natAbs)).length - i) ≤ lim := by simp [lim]; omega
    have b5 : x1.length + 1 ≤ lim := by simp [lim]; omega
    have b6 : x1.length + 1 + x2.length ≤ lim := by simp [lim]; omega
    have b9 : x1.length + (x2.length + 1) ≤ lim := by omega
    have b10 : 1 + (x1.length + (x2.length + 1)) ≤ lim := by simp [lim]; omega
    have bp : 1 + (padT k (txt n.natAbs)).length ≤ lim := by simp [lim]; omega
    by_cases hk0 : k = 0
    · subst hk0
      have hd : dtxt n ((0 : Nat) : Int) = if n < 0 then 45 :: padT 0 (txt n.natAbs) else padT 0 (txt n.natAbs) := by
        unfold dtxt ptT
        rw [e0, if_pos rfl]
      rw [hd]
      clear hx1 hx2 ca tk hp hd hpl hi
      have z : ((0 : Nat) : Int) = 0 := rfl
      generalize padT 0 (txt n.natAbs) = p at *
      rw [z] at lp r1 ⊢
      by_cases hneg : n < 0
      · rw [if_pos hneg]
        simp [M.a49, E.eqs, zeros_big, r1, s1, s2, lp, hneg, bp, fldA, freshB, loadA, storeA, trim_pure, pureT, pureV, pureS]
      · rw [if_neg hneg]
        simp [M.a49, E.eqs, zeros_big, r1, s1, s2, lp, hneg, bp, fldA, freshB, loadA, storeA, trim_pure, pureT, pureV, pureS]
    · have hd : dtxt n (k : Int) = if n < 0 then 45 :: (x1 ++ 46 :: x2) else x1 ++ 46 :: x2 := by
        unfold dtxt ptT
        rw [e0, if_neg hk0, ← hi, ← hx1, ← hx2]
      rw [hd]
      have hkI : (0 : Int) < (k : Int) := by omega
      have hkN : 0 < k := by omega
      clear hx1 hx2 hp hd hpl hi
      generalize padT k (txt n.natAbs) = p at *
      by_cases hneg : n < 0
      · rw [if_pos hneg]
        simp [M.a49, E.eqs, zeros_big, r1, s1, s2, lp, hneg, hkI, hkN, w1, il, tk, ca, bq, b5, b6, b9, b10, fldA, freshB, loadA, storeA, trim_pure, pureT, pureV, pureS]
      · rw [if_neg hneg]
        simp [M.a49, E.eqs, zeros_big, r1, s1, s2, lp, hneg, hkI, hkN, w1, il, tk, ca, bq, b5, b6, b9, b10, fldA, freshB, loadA, storeA, trim_pure, pureT, pureV, pureS]
  · rw [if_neg c1]
    have c1 : rgt s = false := by simpa using c1
    rw [c1] at r1
    simp [M.a49, E.eqs, r1, fldA, freshB, loadA, storeA, trim_pure, pureT, pureV, pureS]
end Go.Proofs.Ytdodhmidhcpnnaa
