/- Chapter 3: decimals as texts: plain laws. -/
import Derived.Test.YtdodhmidhcpnnaaP1
import Derived.Test.YtdodhmidhcpnnaaT6
set_option linter.unusedVariables false
set_option linter.unusedSimpArgs false
set_option maxRecDepth 100000
namespace Go.Proofs.Ytdodhmidhcpnnaa
open Go.Abs

/-- noughts ahead, so that one digit stands ahead of the point -/
def padT (k : Nat) (t : List UInt8) : List UInt8 := List.replicate (k + 1 - t.length) 48 ++ t
/-- a point ahead of the last k -/
def ptT (k : Nat) (t : List UInt8) : List UInt8 := if k = 0 then t else t.take (t.length - k) ++ 46 :: t.drop (t.length - k)
/-- a decimal's text -/
def dtxt (n s : Int) : List UInt8 := if n < 0 then 45 :: ptT s.toNat (padT s.toNat (txt n.natAbs)) else ptT s.toNat (padT s.toNat (txt n.natAbs))

def wholeT (t : List UInt8) : List UInt8 := t.takeWhile (fun c => c != 46)
def restT (t : List UInt8) : List UInt8 := t.dropWhile (fun c => c != 46)
def partT (t : List UInt8) : List UInt8 := (restT t).tail
def stripT : List UInt8 → List UInt8
  | [] => []
  | [a] => [a]
  | a :: b :: l => if a = 48 then stripT (b :: l) else a :: b :: l
/-- its digits, without the point and without noughts ahead -/
def allT (t : List UInt8) : List UInt8 := stripT (wholeT t ++ partT t)
/-- is it a decimal's text? -/
def decOk (s : List UInt8) : Prop := okT (wholeT (bareT s)) = true ∧ (restT (bareT s) = [] ∨ (partT (bareT s) ≠ [] ∧ (partT (bareT s)).all isDig = true ∧ (partT (bareT s)).length ≤ 18)) ∧ ¬ (negT s = true ∧ allT (bareT s) = [48])
instance (s : List UInt8) : Decidable (decOk s) := inferInstanceAs (Decidable (_ ∧ _))
/-- what it is parsed as, and what is wrong -/
def dparseR (s : List UInt8) : TV := if decOk s then okD (sg (negT s) (valT (allT (bareT s)))) (partT (bareT s)).length else [Dc 0 0, .sc (.int .i64 23)]
theorem dparseR_form (s : List UInt8) : ∃ n m e : Int, InW n ∧ dparseR s = [Dc n m, .sc (.int .i64 e)] := by
  unfold dparseR
  split
  · exact ⟨_, _, _, inW_okC _, rfl⟩
  · exact ⟨0, 0, 23, inW_zero, rfl⟩

theorem strip_eq : ∀ l : List UInt8, (stripT l).length ≤ l.length ∧ l = List.replicate (l.length - (stripT l).length) 48 ++ stripT l ∧ (l ≠ [] → stripT l ≠ []) ∧ (l.all isDig = true → (stripT l).all isDig = true)
  | [] => ⟨Nat.le_refl _, rfl, fun h => absurd rfl h, fun h => h⟩
  | [a] => ⟨Nat.le_refl _, by simp [stripT], fun _ => by simp [stripT], fun h => h⟩
  | a :: b :: l => by
    by_cases ha : a = 48
    · subst ha
      obtain ⟨h1, h2, h3, h4⟩ := strip_eq (b :: l)
      have e : stripT (48 :: b :: l) = stripT (b :: l) := by rw [stripT, if_pos rfl]
      rw [e]
      refine ⟨by simp only [List.length_cons] at h1 ⊢; omega, ?_, fun _ => h3 (by simp), fun h => h4 (by simp only [List.all_cons, Bool.and_eq_true] at h ⊢; exact h.2)⟩
      have e2 : (48 :: b :: l).length - (stripT (b :: l)).length = (b :: l).length - (stripT (b :: l)).length + 1 := by simp only [List.length_cons] at h1 ⊢; omega
      rw [e2, List.replicate_succ, List.cons_append, ← h2]
    · have e : stripT (a :: b :: l) = a :: b :: l := by rw [stripT, if_neg ha]
      rw [e]
      exact ⟨Nat.le_refl _, by simp, fun h => h, fun h => h⟩
theorem strip_noNought : ∀ l : List UInt8, l ≠ [] → noNought (stripT l)
  | [], h => absurd rfl h
  | [a], _ => ⟨by simp [stripT], fun _ => rfl⟩
  | a :: b :: l, _ => by
    by_cases ha : a = 48
    · rw [stripT, if_pos ha]
      exact strip_noNought (b :: l) (by simp)
    · rw [stripT, if_neg ha]
      exact ⟨by simp, fun h => by simp at h; exact absurd h ha⟩
theorem strip_id : ∀ {l : List UInt8}, noNought l → stripT l = l
  | [], _ => rfl
  | [a], _ => rfl
  | a :: b :: l, h => by
    rw [stripT, if_neg]
    intro ha
    have := h.2 (by rw [ha]; rfl)
    simp at this
theorem strip_pad {l : List UInt8} (h : noNought l) : ∀ m : Nat, stripT (List.replicate m 48 ++ l) = l
  | 0 => strip_id h
  | m + 1 => by
    rw [List.replicate_succ, List.cons_append]
    have ih := strip_pad h m
    have hne : List.replicate m 48 ++ l ≠ [] := by
      intro e
      have := (List.append_eq_nil_iff.1 e).2
      exact h.1 this
    match hq : List.replicate m 48 ++ l, hne with
    | x :: r, _ =>
      rw [stripT, if_pos rfl, ← hq]
      exact ih

theorem dig_ne {c : UInt8} (h : isDig c = true) : (c != 46) = true := by
  simp only [bne_iff_ne, ne_eq]
  intro e
  subst e
  contradiction
theorem whole_dig : ∀ {w : List UInt8}, w.all isDig = true → wholeT w = w ∧ restT w = []
  | [], _ => ⟨rfl, rfl⟩
  | c :: w, h => by
    simp only [List.all_cons, Bool.and_eq_true] at h
    obtain ⟨h1, h2⟩ := whole_dig h.2
    unfold wholeT restT at *
    rw [List.takeWhile_cons_of_pos (p := fun c => c != 46) (dig_ne h.1), List.dropWhile_cons_of_pos (p := fun c => c != 46) (dig_ne h.1), h1, h2]
    exact ⟨rfl, rfl⟩
theorem whole_point : ∀ {w : List UInt8} (p : List UInt8), w.all isDig = true → wholeT (w ++ 46 :: p) = w ∧ restT (w ++ 46 :: p) = 46 :: p
  | [], p, _ => ⟨rfl, rfl⟩
  | c :: w, p, h => by
    simp only [List.all_cons, Bool.and_eq_true] at h
    obtain ⟨h1, h2⟩ := whole_point p h.2
    unfold wholeT restT at *
    rw [List.cons_append, List.takeWhile_cons_of_pos (p := fun c => c != 46) (dig_ne h.1), List.dropWhile_cons_of_pos (p := fun c => c != 46) (dig_ne h.1), h1, h2]
    exact ⟨rfl, rfl⟩
theorem rest_form (t : List UInt8) : restT t = [] ∧ wholeT t = t ∨ restT t = 46 :: partT t ∧ t = wholeT t ++ 46 :: partT t := by
  induction t with
  | nil => exact .inl ⟨rfl, rfl⟩
  | cons c t ih =>
    unfold restT wholeT partT at *
    unfold restT at *
    by_cases hc : (c != 46) = true
    · rw [List.takeWhile_cons_of_pos (p := fun c => c != 46) hc, List.dropWhile_cons_of_pos (p := fun c => c != 46) hc]
      rcases ih with ⟨h1, h2⟩ | ⟨h1, h2⟩
      · exact .inl ⟨h1, by rw [h2]⟩
      · refine .inr ⟨h1, ?_⟩
        rw [List.cons_append, ← h2]
    · have hc' : c = 46 := by simpa using hc
      subst hc'
      exact .inr ⟨rfl, rfl⟩

theorem pad_dig (k : Nat) (n : Nat) : (padT k (txt n)).all isDig = true := by
  unfold padT
  rw [List.all_append, txt_dig, Bool.and_true, List.all_eq_true]
  intro c hc
  rw [(List.mem_replicate.1 hc).2]
  decide
theorem pad_length (k : Nat) (t : List UInt8) : (padT k t).length = max (k + 1) t.length := by unfold padT; simp; omega
theorem all_take {l : List UInt8} (h : l.all isDig = true) (k : Nat) : (l.take k).all isDig = true := take_dig h k
theorem all_drop {l : List UInt8} (h : l.all isDig = true) (k : Nat) : (l.drop k).all isDig = true := by
  rw [List.all_eq_true] at h ⊢
  exact fun c hc => h c (List.mem_of_mem_drop hc)
/-- what stands ahead of the point has no nought ahead -/
theorem pad_noNought (k n : Nat) : noNought ((padT k (txt n)).take ((padT k (txt n)).length - k)) := by
  have hl := pad_length k (txt n)
  have hn := txt_noNought n
  by_cases h : (txt n).length ≤ k
  · have e : (padT k (txt n)).length - k = 1 := by rw [hl]; omega
    rw [e]
    unfold padT
    have e2 : k + 1 - (txt n).length = (k - (txt n).length) + 1 := by omega
    rw [e2, List.replicate_succ, List.cons_append]
    exact ⟨by simp, fun _ => rfl⟩
  · have e2 : k + 1 - (txt n).length = 0 := by omega
    have e3 : padT k (txt n) = txt n := by unfold padT; rw [e2]; rfl
    rw [e3]
    generalize txt n = t at *
    match t, hn with
    | [], hn => exact absurd rfl hn.1
    | c :: r, hn =>
      obtain ⟨j, hj⟩ : ∃ j, (c :: r).length - k = j + 1 := ⟨(c :: r).length - k - 1, by omega⟩
      rw [hj, List.take_succ_cons]
      refine ⟨by simp, fun h => ?_⟩
      have := hn.2 (by simpa using h)
      simp at this
      subst this
      simp

theorem bare_cases (s : List UInt8) : (negT s = true ∧ s = 45 :: bareT s) ∨ (negT s = false ∧ s = bareT s) := by
  cases s with
  | nil => exact .inr ⟨rfl, rfl⟩
  | cons c r =>
    by_cases h : c = 45
    · subst h
      obtain ⟨b1, b2⟩ := bare_neg r
      exact .inl ⟨b2, by rw [b1]⟩
    · obtain ⟨b1, b2⟩ := bare_pos r h
      exact .inr ⟨b2, b1.symm⟩

theorem pt_parts (k n : Nat) : wholeT (ptT k (padT k (txt n))) = (padT k (txt n)).take ((padT k (txt n)).length - k) ∧ partT (ptT k (padT k (txt n))) = (padT k (txt n)).drop ((padT k (txt n)).length - k) ∧ (k = 0 ∧ restT (ptT k (padT k (txt n))) = [] ∨ 0 < k ∧ restT (ptT k (padT k (txt n))) = 46 :: (padT k (txt n)).drop ((padT k (txt n)).length - k)) := by
  have hd := pad_dig k n
  unfold ptT
  by_cases hk : k = 0
  · rw [if_pos hk]
    obtain ⟨h1, h2⟩ := whole_dig hd
    subst hk
    rw [Nat.sub_zero, List.take_length, List.drop_length]
    exact ⟨h1, by unfold partT; rw [h2]; rfl, .inl ⟨rfl, h2⟩⟩
  · rw [if_neg hk]
    obtain ⟨h1, h2⟩ := whole_point ((padT k (txt n)).drop ((padT k (txt n)).length - k)) (all_take hd ((padT k (txt n)).length - k))
    exact ⟨h1, by unfold partT; rw [h2]; rfl, .inr ⟨by omega, h2⟩⟩

/-- a decimal's text is parsed to it -/
theorem parse_dtxt {n s : Int} (hn : InW n) (h0 : 0 ≤ s) (h18 : s ≤ 18) : dparseR (dtxt n s) = [Dc n s, .sc (.int .i64 0)] := by
  obtain ⟨k, rfl⟩ := Int.eq_ofNat_of_zero_le h0
  have hk : k ≤ 18 := by omega
  have e0 : (k : Int).toNat = k := by omega
  obtain ⟨p1, p2, p3⟩ := pt_parts k n.natAbs
  have hd := pad_dig k n.natAbs
  have hl := pad_length k (txt n.natAbs)
  have hw := pad_noNought k n.natAbs
  have hall : allT (ptT k (padT k (txt n.natAbs))) = txt n.natAbs := by
    unfold allT
    rw [p1, p2, List.take_append_drop]
    unfold padT
    exact strip_pad (txt_noNought _) _
  have hpl : (partT (ptT k (padT k (txt n.natAbs)))).length = k := by rw [p2, List.length_drop]; omega
  have hb : (negT (dtxt n k) = decide (n < 0)) ∧ bareT (dtxt n k) = ptT k (padT k (txt n.natAbs)) := by
    unfold dtxt
    rw [e0]
    by_cases hneg : n < 0
    · rw [if_pos hneg, decide_eq_true hneg]
      obtain ⟨b1, b2⟩ := bare_neg (ptT k (padT k (txt n.natAbs)))
      exact ⟨b2, b1⟩
    · rw [if_neg hneg, decide_eq_false hneg]
      generalize hq : ptT k (padT k (txt n.natAbs)) = t at *
      match t with
      | [] =>
        exfalso
        have hq2 := p1
        rw [show wholeT [] = [] from rfl] at hq2
        exact hw.1 hq2.symm
      | c :: r =>
        have hc : ¬ c = 45 := by
          intro e
          subst e
          have h1 : wholeT (45 :: r) = 45 :: wholeT r := rfl
          rw [h1] at p1
          have := all_take hd ((padT k (txt n.natAbs)).length - k)
          rw [← p1] at this
          simp [isDig] at this
        obtain ⟨b1, b2⟩ := bare_pos r hc
        exact ⟨b2, b1⟩
  have hok : decOk (dtxt n k) := by
    unfold decOk
    rw [hb.1, hb.2, hall, hpl]
    refine ⟨?_, ?_, ?_⟩
    · unfold okT
      rw [p1, decide_eq_true hw, all_take hd]
      rfl
    · rcases p3 with ⟨_, h2⟩ | ⟨h1, h2⟩
      · exact .inl h2
      · refine .inr ⟨?_, by rw [p2]; exact all_drop hd _, hk⟩
        intro e
        rw [e] at hpl
        simp at hpl
        omega
    · rintro ⟨h1, h2⟩
      have := (txt_zero_iff _).1 h2
      simp at h1
      omega
  unfold dparseR
  rw [if_pos hok, hb.1, hb.2, hall, hpl, valT_txt]
  have hs : sg (decide (n < 0)) n.natAbs = n := by unfold sg; by_cases c : n < 0 <;> simp [c] <;> omega
  rw [hs]
  exact okD_in hn

/-- what is parsed is printed as it -/
theorem dtxt_parse {x : List UInt8} {n s : Int} (h : dparseR x = [Dc n s, .sc (.int .i64 0)]) (hn : InW n) : dtxt n s = x ∧ rgt s = true := by
  unfold dparseR at h
  by_cases hok : decOk x
  · rw [if_pos hok] at h
    obtain ⟨h1, h2, h3⟩ := hok
    have hin : InW (sg (negT x) (valT (allT (bareT x)))) := by
      by_cases c : InW (sg (negT x) (valT (allT (bareT x))))
      · exact c
      · rw [okD_out c] at h
        simp at h
    rw [okD_in hin] at h
    have h4 := List.cons.inj h
    obtain ⟨rfl, rfl⟩ := dC_inj hin hn (AV.agg.inj h4.1)
    have hwd : noNought (wholeT (bareT x)) ∧ (wholeT (bareT x)).all isDig = true := by
      unfold okT at h1
      simpa using h1
    have hpd : (partT (bareT x)).all isDig = true ∧ (partT (bareT x)).length ≤ 18 := by
      rcases h2 with h2 | h2
      · unfold partT
        rw [h2]
        exact ⟨rfl, by decide⟩
      · exact h2.2
    have hne : wholeT (bareT x) ++ partT (bareT x) ≠ [] := fun e => hwd.1.1 (List.append_eq_nil_iff.1 e).1
    have hdig : (wholeT (bareT x) ++ partT (bareT x)).all isDig = true := by rw [List.all_append, hwd.2, hpd.1]; rfl
    obtain ⟨q1, q2, q3, q4⟩ := strip_eq (wholeT (bareT x) ++ partT (bareT x))
    have htx : txt (valT (allT (bareT x))) = allT (bareT x) := txt_valT _ (q4 hdig) (strip_noNought _ hne)
    have hpad : padT (partT (bareT x)).length (allT (bareT x)) = wholeT (bareT x) ++ partT (bareT x) := by
      unfold padT
      have hcase : (wholeT (bareT x)).length = 1 ∨ allT (bareT x) = wholeT (bareT x) ++ partT (bareT x) := by
        by_cases c : (wholeT (bareT x)).head? = some 48
        · exact .inl (hwd.1.2 c)
        · right
          refine strip_id ⟨hne, fun e => ?_⟩
          exfalso
          have hw0 := hwd.1.1
          generalize wholeT (bareT x) = w at *
          match w, hw0 with
          | a :: l, _ => exact c (by simpa using e)
      rcases hcase with c | c
      · conv => rhs; rw [q2]
        congr 2
        have : (wholeT (bareT x) ++ partT (bareT x)).length = (partT (bareT x)).length + 1 := by rw [List.length_append, c]; omega
        rw [this]
        rfl
      · rw [c]
        have hwl : 0 < (wholeT (bareT x)).length := List.length_pos_iff.2 hwd.1.1
        have : (partT (bareT x)).length + 1 - (wholeT (bareT x) ++ partT (bareT x)).length = 0 := by rw [List.length_append]; omega
        rw [this]
        rfl
    have hpt : ptT (partT (bareT x)).length (padT (partT (bareT x)).length (allT (bareT x))) = bareT x := by
      rw [hpad]
      unfold ptT
      have hl2 : (wholeT (bareT x) ++ partT (bareT x)).length - (partT (bareT x)).length = (wholeT (bareT x)).length := by rw [List.length_append]; omega
      rw [hl2, List.take_left' rfl, List.drop_left' rfl]
      rcases rest_form (bareT x) with ⟨r1, r2⟩ | ⟨r1, r2⟩
      · have hp0 : partT (bareT x) = [] := by unfold partT; rw [r1]; rfl
        rw [hp0, if_pos (show ([] : List UInt8).length = 0 from rfl), List.append_nil, r2]
      · rw [if_neg, ← r2]
        intro e
        rcases h2 with h2 | h2
        · rw [h2] at r1; simp at r1
        · exact h2.1 (List.length_eq_zero_iff.1 e)
    have hsn : ((partT (bareT x)).length : Int).toNat = (partT (bareT x)).length := by omega
    refine ⟨?_, rgt_iff.2 ⟨by omega, by omega⟩⟩
    unfold dtxt
    rw [hsn, ← sg_abs, htx, hpt]
    rcases bare_cases x with ⟨hng, hx⟩ | ⟨hng, hx⟩
    · have hv : valT (allT (bareT x)) ≠ 0 := fun e => h3 ⟨hng, by rw [← htx, e]; exact (txt_zero_iff 0).2 rfl⟩
      have hlt : sg (negT x) (valT (allT (bareT x))) < 0 := by rw [hng]; unfold sg; rw [if_pos rfl]; omega
      rw [if_pos hlt, ← hx]
    · have hlt : ¬ sg (negT x) (valT (allT (bareT x))) < 0 := by rw [hng]; unfold sg; rw [if_neg (by decide)]; omega
      rw [if_neg hlt, ← hx]
  · rw [if_neg hok] at h
    simp at h
end Go.Proofs.Ytdodhmidhcpnnaa
