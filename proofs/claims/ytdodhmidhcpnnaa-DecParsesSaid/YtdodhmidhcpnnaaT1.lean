/- Numbers as texts of digits: plain laws. -/
import Derived.Test.YtdodhmidhcpnnaaK0
set_option linter.unusedVariables false
set_option linter.unusedSimpArgs false
namespace Go.Proofs.Ytdodhmidhcpnnaa
open Go.Abs

/-- a number's digits, the lowest first -/
def digs (n : Nat) : List UInt8 := if n < 10 then [UInt8.ofNat (48 + n)] else UInt8.ofNat (48 + n % 10) :: digs (n / 10)
termination_by n
/-- its text -/
def txt (n : Nat) : List UInt8 := (digs n).reverse
/-- the number that digits are -/
def valT (l : List UInt8) : Nat := l.foldl (fun v c => v * 10 + (c.toNat - 48)) 0
def isDig (c : UInt8) : Bool := decide (48 ≤ c.toNat) && decide (c.toNat ≤ 57)

theorem digs_small {n : Nat} (h : n < 10) : digs n = [UInt8.ofNat (48 + n)] := by rw [digs, if_pos h]
theorem digs_big {n : Nat} (h : ¬ n < 10) : digs n = UInt8.ofNat (48 + n % 10) :: digs (n / 10) := by rw [digs, if_neg h]
theorem digs_ne (n : Nat) : digs n ≠ [] := by
  by_cases h : n < 10
  · rw [digs_small h]; simp
  · rw [digs_big h]; simp
theorem txt_ne (n : Nat) : txt n ≠ [] := by
  unfold txt
  intro h
  exact digs_ne n (by simpa using h)
theorem dig_nat {d : Nat} (h : d < 10) : (UInt8.ofNat (48 + d)).toNat = 48 + d := by rw [UInt8.toNat_ofNat']; omega
theorem isDig_ofNat {d : Nat} (h : d < 10) : isDig (UInt8.ofNat (48 + d)) = true := by unfold isDig; rw [dig_nat h]; simp; omega
theorem digs_dig (n : Nat) : ∀ c ∈ digs n, isDig c = true := by
  induction n using Nat.strongRecOn with
  | _ n ih =>
    intro c hc
    by_cases h : n < 10
    · rw [digs_small h] at hc
      have hc : c = UInt8.ofNat (48 + n) := by simpa only [List.mem_singleton] using hc
      subst hc
      exact isDig_ofNat h
    · rw [digs_big h] at hc
      rcases List.mem_cons.1 hc with rfl | hc
      · exact isDig_ofNat (Nat.mod_lt _ (by decide))
      · exact ih _ (by omega) c hc
theorem txt_dig (n : Nat) : (txt n).all isDig = true := by
  rw [List.all_eq_true]
  intro c hc
  exact digs_dig n c (by simpa [txt] using hc)
theorem valT_snoc (l : List UInt8) (c : UInt8) : valT (l ++ [c]) = valT l * 10 + (c.toNat - 48) := by simp [valT]
theorem txt_big {n : Nat} (h : ¬ n < 10) : txt n = txt (n / 10) ++ [UInt8.ofNat (48 + n % 10)] := by unfold txt; rw [digs_big h]; simp
theorem valT_txt (n : Nat) : valT (txt n) = n := by
  induction n using Nat.strongRecOn with
  | _ n ih =>
    by_cases h : n < 10
    · unfold txt
      rw [digs_small h]
      have := dig_nat h
      simp only [List.reverse_singleton, valT, List.foldl_cons, List.foldl_nil, this]
      omega
    · rw [txt_big h, valT_snoc, ih _ (by omega), dig_nat (Nat.mod_lt _ (by decide))]
      omega
/-- no nought ahead -/
def noNought (l : List UInt8) : Prop := l ≠ [] ∧ (l.head? = some 48 → l.length = 1)
instance (l : List UInt8) : Decidable (noNought l) := inferInstanceAs (Decidable (_ ∧ _))
theorem val_pos {l : List UInt8} (hd : l.all isDig = true) : ∀ {c : UInt8}, l.head? = some c → c ≠ 48 → 0 < valT l := by
  suffices H : ∀ (l : List UInt8) (v : Nat), 0 < v → 0 < l.foldl (fun v (c : UInt8) => v * 10 + (c.toNat - 48)) v by
    intro c hc hne
    match l, hc with
    | x :: l, hc =>
      simp at hc
      subst hc
      simp only [List.all_cons, Bool.and_eq_true] at hd
      unfold valT
      rw [List.foldl_cons]
      refine H l _ ?_
      have h1 := hd.1
      unfold isDig at h1
      simp only [Bool.and_eq_true, decide_eq_true_eq] at h1
      have : x.toNat ≠ 48 := fun h => hne (UInt8.toNat_inj.1 (by simpa using h))
      omega
  intro l
  induction l with
  | nil => intro v hv; simpa using hv
  | cons c l ih => intro v hv; rw [List.foldl_cons]; exact ih _ (by omega)
theorem isDig_iff {c : UInt8} (h : isDig c = true) : ∃ d, d < 10 ∧ c = UInt8.ofNat (48 + d) ∧ c.toNat - 48 = d := by
  unfold isDig at h
  simp only [Bool.and_eq_true, decide_eq_true_eq] at h
  refine ⟨c.toNat - 48, by omega, ?_, rfl⟩
  apply UInt8.toNat_inj.1
  rw [dig_nat (by omega)]
  omega
theorem txt_valT (l : List UInt8) : l.all isDig = true → noNought l → txt (valT l) = l := by
  rw [← List.reverse_reverse l]
  generalize l.reverse = m
  induction m with
  | nil => intro _ h; exact absurd rfl h.1
  | cons c m ih =>
    intro hd hn
    rw [List.reverse_cons] at hd hn ⊢
    rw [List.all_append, Bool.and_eq_true] at hd
    obtain ⟨d, hd1, hd2, hd3⟩ := isDig_iff (c := c) (by simpa using hd.2)
    rw [valT_snoc, hd3]
    by_cases hm : m = []
    · subst hm
      simp only [List.reverse_nil, List.nil_append]
      have : valT [] = 0 := rfl
      rw [this, Nat.zero_mul, Nat.zero_add]
      unfold txt
      rw [digs_small hd1, hd2]
      rfl
    · have hm' : m.reverse ≠ [] := by simpa using hm
      obtain ⟨x, hx⟩ : ∃ x, m.reverse.head? = some x := by
        cases h : m.reverse with
        | nil => exact absurd h hm'
        | cons x t => exact ⟨x, rfl⟩
      have hx48 : x ≠ 48 := by
        intro e
        subst e
        have h1 : (m.reverse ++ [c]).head? = some 48 := by
          rw [List.head?_append, hx]; rfl
        have := hn.2 h1
        simp at this
        exact hm this
      have hpos := val_pos hd.1 hx hx48
      have ih' := ih hd.1 ⟨hm', fun h => by rw [hx] at h; injection h with h; exact absurd h hx48⟩
      have h10 : ¬ valT m.reverse * 10 + d < 10 := by omega
      have e1 : (valT m.reverse * 10 + d) / 10 = valT m.reverse := by omega
      have e2 : (valT m.reverse * 10 + d) % 10 = d := by omega
      rw [txt_big h10, e1, e2, ih', hd2]
theorem txt_noNought (n : Nat) : noNought (txt n) := by
  refine ⟨txt_ne n, ?_⟩
  induction n using Nat.strongRecOn with
  | _ n ih =>
    by_cases h : n < 10
    · intro _; unfold txt; rw [digs_small h]; rfl
    · rw [txt_big h]
      intro hh
      have hne := txt_ne (n / 10)
      have h1 : (txt (n / 10)).head? = some 48 := by
        rw [List.head?_append] at hh
        cases hc : (txt (n / 10)).head? with
        | none => rw [List.head?_eq_none_iff] at hc; exact absurd hc hne
        | some x => rw [hc] at hh; simpa using hh
      have h2 := ih _ (by omega) h1
      have key : ∀ z : List UInt8, z.length = 1 → z.head? = some 48 → z = [48] := fun z h2 h1 => by
        match z, h2, h1 with
        | [x], _, h1 => simp at h1; rw [h1]
      have h3 := key _ h2 h1
      have h4 := valT_txt (n / 10)
      rw [h3] at h4
      have : valT [48] = 0 := by decide
      omega
theorem txt_zero_iff (n : Nat) : txt n = [48] ↔ n = 0 := by
  constructor
  · intro h
    have := valT_txt n
    rw [h] at this
    have h0 : valT [48] = 0 := by decide
    omega
  · intro h
    subst h
    unfold txt
    rw [digs_small (by decide)]
    rfl
theorem foldl_ge : ∀ (l : List UInt8) (v : Nat), v * 10 ^ l.length ≤ l.foldl (fun v (c : UInt8) => v * 10 + (c.toNat - 48)) v
  | [], v => by simp
  | c :: l, v => by
    rw [List.foldl_cons, List.length_cons, Nat.pow_succ]
    refine Nat.le_trans ?_ (foldl_ge l _)
    rw [Nat.mul_comm (10 ^ l.length) 10, ← Nat.mul_assoc]
    exact Nat.mul_le_mul_right _ (by omega)
theorem valT_prefix (l m : List UInt8) : valT l ≤ valT (l ++ m) := by
  unfold valT
  rw [List.foldl_append]
  refine Nat.le_trans ?_ (foldl_ge m _)
  exact Nat.le_mul_of_pos_right _ (Nat.pow_pos (by decide))
theorem valT_long {l : List UInt8} (hd : l.all isDig = true) (hn : noNought l) (h1 : 1 < l.length) : 10 ^ (l.length - 1) ≤ valT l := by
  match l, hn, h1 with
  | c :: l, hn, h1 =>
    have hc : c ≠ 48 := fun e => by
      have := hn.2 (by rw [e]; rfl)
      omega
    simp only [List.all_cons, Bool.and_eq_true] at hd
    have h2 := hd.1
    unfold isDig at h2
    simp only [Bool.and_eq_true, decide_eq_true_eq] at h2
    have : c.toNat ≠ 48 := fun h => hc (UInt8.toNat_inj.1 (by simpa using h))
    unfold valT
    rw [List.foldl_cons]
    have := foldl_ge l (0 * 10 + (c.toNat - 48))
    refine Nat.le_trans ?_ this
    simp only [List.length_cons, Nat.add_sub_cancel]
    exact Nat.le_mul_of_pos_left _ (by omega)

theorem digs_length : ∀ (k n : Nat), n < 10 ^ k → 0 < k → (digs n).length ≤ k := by
  intro k
  induction k with
  | zero => intro n _ h; omega
  | succ k ih =>
    intro n hn _
    by_cases h : n < 10
    · rw [digs_small h]; simp
    · rw [digs_big h, List.length_cons]
      have h0 : 0 < k := by
        rcases Nat.eq_zero_or_pos k with rfl | h0
        · simp at hn; omega
        · exact h0
      have := ih (n / 10) (by rw [Nat.div_lt_iff_lt_mul (by decide)]; rw [Nat.pow_succ] at hn; exact hn) h0
      omega
theorem txt_length {k n : Nat} (h : n < 10 ^ k) (h0 : 0 < k) : (txt n).length ≤ k := by
  unfold txt
  rw [List.length_reverse]
  exact digs_length k n h h0
end Go.Proofs.Ytdodhmidhcpnnaa
