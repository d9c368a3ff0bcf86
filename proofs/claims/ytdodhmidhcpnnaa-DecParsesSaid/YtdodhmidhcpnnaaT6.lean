/- Chapter 2, the document's: a text parsed. -/
import Derived.Test.YtdodhmidhcpnnaaT5
import Derived.Test.YtdodhmidhcpnnaaP0
set_option linter.unusedVariables false
set_option linter.unusedSimpArgs false
set_option maxRecDepth 100000
namespace Go.Proofs.Ytdodhmidhcpnnaa
open Go.Abs

theorem foldl_lt : ∀ (l : List UInt8) (v : Nat), l.all isDig = true → l.foldl (fun v (c : UInt8) => v * 10 + (c.toNat - 48)) v < (v + 1) * 10 ^ l.length
  | [], v, _ => by simp
  | c :: l, v, h => by
    simp only [List.all_cons, Bool.and_eq_true] at h
    obtain ⟨d, hd, _, hc⟩ := isDig_iff h.1
    rw [List.foldl_cons, List.length_cons, Nat.pow_succ, hc]
    refine Nat.lt_of_lt_of_le (foldl_lt l _ h.2) ?_
    rw [Nat.mul_comm (10 ^ l.length) 10, ← Nat.mul_assoc]
    exact Nat.mul_le_mul_right _ (by omega)
theorem valT_lt {l : List UInt8} (h : l.all isDig = true) : valT l < 10 ^ l.length := by
  have := foldl_lt l 0 h
  simpa [valT] using this
theorem take_dig {t : List UInt8} (h : t.all isDig = true) (k : Nat) : (t.take k).all isDig = true := by
  rw [List.all_eq_true] at h ⊢
  exact fun c hc => h c (List.mem_of_mem_take hc)

/-- the heap of the document's digits -/
abbrev dgH (h : Heap) (V y : Nat) : Heap := h ++ [⟨.var, digC 0⟩, ⟨.var, digC V⟩, ⟨.var, digC 10⟩, ⟨.var, digC y⟩]

theorem rcheck_loop {l : List UInt8} {h : Heap} (hl : l.length < 9223372036854775808) : ∀ (m k : Nat) (e : Env), k + m = l.length → e.get 0 = [.sc (.str l)] → e.get 2 = [.sc (.ptr h.length 0 16)] → e.get 4 = [.sc (.ptr (h.length + 1) 0 16)] → e.get 5 = [.sc (.ptr (h.length + 2) 0 16)] → e.get 6 = [.sc (.ptr (h.length + 3) 0 16)] → e.get 7 = [.sc (.int .i64 k)] →
    loopE F O (.loop [0, 2, 4, 5, 6, 7] M.b76_1) e (dgH h 0 0) = some (if (l.drop k).all isDig then (.exit 0, [(0, [.sc (.str l)]), (2, [.sc (.ptr h.length 0 16)]), (4, [.sc (.ptr (h.length + 1) 0 16)]), (5, [.sc (.ptr (h.length + 2) 0 16)]), (6, [.sc (.ptr (h.length + 3) 0 16)]), (7, [.sc (.int .i64 l.length)]), (26, [.sc (.bool false)])], dgH h 0 0) else (.ret, [(2, [.sc (.ptr h.length 0 16)]), (3, [.sc (.bool false)])], dgH h 0 0))
  | 0, k, e, hk, e0, e2, e4, e5, e6, e7 => by
    have : k = l.length := by omega
    subst this
    rw [List.drop_length]
    exact exitM fun R RO RD RT E => by simp [M.b76_1, E.eqs, e0, e2, e4, e5, e6, e7]
  | m + 1, k, e, hk, e0, e2, e4, e5, e6, e7 => by
    have hlt : k < l.length := by omega
    obtain ⟨b, hb, hd, _⟩ := drop_at hlt
    have c1 : (k : Int) < l.length := by omega
    have w1 : IntKind.i64.wrap ((k : Int) + 1) = (k : Int) + 1 := wi64 (by omega) (by omega)
    rw [hd, List.all_cons]
    rcases dig_cases b with ⟨u, u1, u2⟩ | ⟨u, u1⟩ | ⟨u, u1, u2⟩
    · rw [u, Bool.true_and]
      have ih := rcheck_loop (l := l) (h := h) hl m (k + 1) [(0, [.sc (.str l)]), (2, [.sc (.ptr h.length 0 16)]), (4, [.sc (.ptr (h.length + 1) 0 16)]), (5, [.sc (.ptr (h.length + 2) 0 16)]), (6, [.sc (.ptr (h.length + 3) 0 16)]), (7, [.sc (.int .i64 ((k + 1 : Nat) : Int))])] (by omega) rfl rfl rfl rfl rfl rfl
      refine stepM (fun R RO RD RT E => ?_) ih
      clear ih
      simp [M.b76_1, E.eqs, e0, e2, e4, e5, e6, e7, c1, hb, u1, u2, w1]
    · rw [u, Bool.false_and, if_neg (by simp)]
      exact retM fun R RO RD RT E => by simp [M.b76_1, E.eqs, e0, e2, e4, e5, e6, e7, c1, hb, u1, loadA, storeA]
    · rw [u, Bool.false_and, if_neg (by simp)]
      exact retM fun R RO RD RT E => by simp [M.b76_1, E.eqs, e0, e2, e4, e5, e6, e7, c1, hb, u1, u2, loadA, storeA]

theorem digit_only {y d : Nat} (hy : y < 10) (hd : d < 10) : (digC y).set 0 (.int .u64 (d : Int)) = digC d :=
  digC_put (by decide) (by omega) (by rw [Nat.pow_zero, Nat.div_one, Nat.one_mul, Nat.one_mul]; omega)

theorem racc_loop {t : List UInt8} {h : Heap} (hd : t.all isDig = true) (hl : t.length ≤ 60) : ∀ (n k y : Nat) (e : Env), k + n = t.length → y < 10 → e.get 0 = [.sc (.str t)] → e.get 2 = [.sc (.ptr h.length 0 16)] → e.get 4 = [.sc (.ptr (h.length + 1) 0 16)] → e.get 5 = [.sc (.ptr (h.length + 2) 0 16)] → e.get 6 = [.sc (.ptr (h.length + 3) 0 16)] → e.get 8 = [.sc (.int .i64 k)] →
    ∃ y', loopE F O (.loop [0, 2, 4, 5, 6, 8] M.b76_0) e (dgH h (valT (t.take k)) y) = some (.exit 2, [(0, [.sc (.str t)]), (2, [.sc (.ptr h.length 0 16)]), (4, [.sc (.ptr (h.length + 1) 0 16)]), (5, [.sc (.ptr (h.length + 2) 0 16)]), (6, [.sc (.ptr (h.length + 3) 0 16)]), (8, [.sc (.int .i64 t.length)]), (48, [.sc (.bool false)])], dgH h (valT t) y')
  | 0, k, y, e, hk, hy, e0, e2, e4, e5, e6, e8 => by
    have : k = t.length := by omega
    subst this
    rw [List.take_length]
    exact ⟨y, exitM fun R RO RD RT E => by simp [M.b76_0, E.eqs, e0, e2, e4, e5, e6, e8]⟩
  | n + 1, k, y, e, hk, hy, e0, e2, e4, e5, e6, e8 => by
    have hlt : k < t.length := by omega
    obtain ⟨b, hbk, _, htk⟩ := drop_at hlt
    have hbd : isDig b = true := List.all_eq_true.1 hd b (List.mem_of_getElem? hbk)
    obtain ⟨d, hd10, _, hbd2⟩ := isDig_iff hbd
    have hb48 : 48 ≤ b.toNat := by unfold isDig at hbd; simp at hbd; omega
    have hv : valT (t.take (k + 1)) = valT (t.take k) * 10 + d := by rw [htk, valT_snoc, hbd2]
    have hvl : valT (t.take k) < 4294967296 ^ 8 := Nat.lt_of_lt_of_le (valT_lt (take_dig hd k)) (Nat.le_trans (Nat.pow_le_pow_right (by decide) (by rw [List.length_take]; omega : (t.take k).length ≤ 60)) (by decide))
    have c1 : (k : Int) < t.length := by omega
    have w1 : IntKind.i64.wrap ((k : Int) + 1) = (k : Int) + 1 := wi64 (by omega) (by omega)
    have w2 : IntKind.u8.wrap ((b.toNat : Int) - 48) = (d : Int) := by rw [wu8']; omega
    have w3 : IntKind.u64.wrap (d : Int) = (d : Int) := wn64 (by omega)
    have dp := digit_only hy hd10
    have s1 := fun h => spec84 h (A := valT (t.take k)) (B := 10) hvl (by decide)
    have s2 := fun h => spec83 h (valT (t.take k) * 10) d
    rw [← hv] at s2
    obtain ⟨y', ih⟩ := racc_loop (t := t) (h := h) hd hl n (k + 1) d [(0, [.sc (.str t)]), (2, [.sc (.ptr h.length 0 16)]), (4, [.sc (.ptr (h.length + 1) 0 16)]), (5, [.sc (.ptr (h.length + 2) 0 16)]), (6, [.sc (.ptr (h.length + 3) 0 16)]), (8, [.sc (.int .i64 ((k + 1 : Nat) : Int))])] (by omega) hd10 rfl rfl rfl rfl rfl rfl
    refine ⟨y', stepM (fun R RO RD RT E => ?_) ih⟩
    clear ih hv hvl htk
    generalize valT (t.take (k + 1)) = V2 at *
    generalize valT (t.take k) * 10 = V3 at *
    generalize valT (t.take k) = V1 at *
    simp [M.b76_0, E.eqs, e0, e2, e4, e5, e6, e8, c1, hbk, w1, w2, w3, dp, s1, s2, freshB, loadA, storeA]

/-- digits without noughts ahead -/
def okT (t : List UInt8) : Bool := decide (noNought t) && t.all isDig
/-- the number that they are (too large a one counts as 2^128) -/
def digT (t : List UInt8) : Nat := if okT t = true then (if 60 < t.length then 340282366920938463463374607431768211456 else valT t) else 0
theorem big_put : (digC 0).set 4 (.int .u64 1) = digC 340282366920938463463374607431768211456 := rfl

theorem digits_pre {h : Heap} {t : List UInt8} (hpre : noNought t) (hl : t.length < 9223372036854775808) : call 76 [[.sc (.str t)]] h = some ([.agg (digC (digT t)), .sc (.bool (okT t))], h) := by
  obtain ⟨hne, h48⟩ := hpre
  obtain ⟨x, r, rfl⟩ : ∃ x r, t = x :: r := by
    cases t with
    | nil => exact absurd rfl hne
    | cons x r => exact ⟨x, r, rfl⟩
  have hok : okT (x :: r) = (x :: r).all isDig := by unfold okT; rw [decide_eq_true (show noNought (x :: r) from ⟨hne, h48⟩), Bool.true_and]
  have pre : (¬ (x.toNat : Int) = 48) ∨ ((x.toNat : Int) = 48 ∧ r = []) := by
    by_cases hx : x = 48
    · right
      subst hx
      have := h48 rfl
      simp at this
      exact ⟨rfl, this⟩
    · left
      have := neq_nat hx
      have z : (48 : UInt8).toNat = 48 := rfl
      rw [z] at this
      omega
  have lo1 := loop_run (rcheck_loop (l := x :: r) (h := h) (by omega) (x :: r).length 0 [(0, [.sc (.str (x :: r))]), (2, [.sc (.ptr h.length 0 16)]), (4, [.sc (.ptr (h.length + 1) 0 16)]), (5, [.sc (.ptr (h.length + 2) 0 16)]), (6, [.sc (.ptr (h.length + 3) 0 16)]), (7, [.sc (.int .i64 0)])] (by omega) rfl rfl rfl rfl rfl rfl)
  rw [List.drop_zero] at lo1
  have lc : ((x :: r).length : Int) = (r.length : Int) + 1 := by simp
  rw [lc] at lo1
  unfold digT
  rw [hok]
  refine callX rfl (by rfl : F 76 = some M.a76) (fun R RO RD RT E => ?_)
  have lo1 := E.run lo1
  by_cases hall : (x :: r).all isDig = true
  · rw [if_pos hall] at lo1
    rw [hall, if_pos rfl]
    by_cases h60 : 60 < (x :: r).length
    · rw [if_pos h60]
      have g1 : (60 : Int) < (r.length : Int) + 1 := by simp at h60; omega
      have g2 : ¬ r = [] := by rintro rfl; simp at h60
      have g3 : (1 : Int) < (r.length : Int) + 1 := by omega
      have g4 : 0 < r.length := by omega
      rcases pre with n48 | ⟨_, hr⟩
      · clear hall hok h48
        simp [M.a76, E.eqs, zeros_digC, ten_put, n48, g1, g3, g4, lo1, big_put, freshB, loadA, storeA, trim_pure, pureT, pureV, pureS]
      · exact absurd hr g2
    · rw [if_neg h60]
      have g1 : ¬ (60 : Int) < (r.length : Int) + 1 := by simp at h60; omega
      obtain ⟨y', lo2⟩ := racc_loop (t := x :: r) (h := h) hall (by omega) (x :: r).length 0 0 [(0, [.sc (.str (x :: r))]), (2, [.sc (.ptr h.length 0 16)]), (4, [.sc (.ptr (h.length + 1) 0 16)]), (5, [.sc (.ptr (h.length + 2) 0 16)]), (6, [.sc (.ptr (h.length + 3) 0 16)]), (8, [.sc (.int .i64 0)])] (by omega) (by omega) rfl rfl rfl rfl rfl rfl
      rw [List.take_zero, show valT [] = 0 from rfl, lc] at lo2
      have lo2 := E.run (loop_run lo2)
      generalize valT (x :: r) = V at *
      clear hall hok h48
      rcases pre with n48 | ⟨n48, rfl⟩
      · by_cases g3 : (1 : Int) < (r.length : Int) + 1
        · simp [M.a76, E.eqs, zeros_digC, ten_put, n48, g1, g3, lo1, lo2, freshB, loadA, storeA, trim_pure, pureT, pureV, pureS]
        · simp [M.a76, E.eqs, zeros_digC, ten_put, n48, g1, g3, lo1, lo2, freshB, loadA, storeA, trim_pure, pureT, pureV, pureS]
      · try simp at lo1
        try simp at lo2
        simp [M.a76, E.eqs, zeros_digC, ten_put, n48, lo1, lo2, freshB, loadA, storeA, trim_pure, pureT, pureV, pureS]
  · have hf : (x :: r).all isDig = false := by simpa using hall
    rw [if_neg hall] at lo1
    rw [hf, if_neg (by simp)]
    clear hall hf hok h48
    rcases pre with n48 | ⟨n48, rfl⟩
    · by_cases g3 : (1 : Int) < (r.length : Int) + 1
      · simp [M.a76, E.eqs, zeros_digC, ten_put, n48, g3, lo1, freshB, loadA, storeA, trim_pure, pureT, pureV, pureS]
      · simp [M.a76, E.eqs, zeros_digC, ten_put, n48, g3, lo1, freshB, loadA, storeA, trim_pure, pureT, pureV, pureS]
    · try simp at lo1
      simp [M.a76, E.eqs, zeros_digC, ten_put, n48, lo1, freshB, loadA, storeA, trim_pure, pureT, pureV, pureS]

theorem spec76 (h : Heap) {t : List UInt8} (hl : t.length < 9223372036854775808) : call 76 [[.sc (.str t)]] h = some ([.agg (digC (digT t)), .sc (.bool (okT t))], h) := by
  by_cases hpre : noNought t
  · exact digits_pre hpre hl
  · have hok : okT t = false := by unfold okT; rw [decide_eq_false hpre]; rfl
    unfold digT
    rw [hok, if_neg (by simp)]
    refine callX rfl (by rfl : F 76 = some M.a76) (fun R RO RD RT E => ?_)
    match t, hpre with
    | [], _ => simp [M.a76, E.eqs, zeros_digC, ten_put, freshB, loadA, storeA, trim_pure, pureT, pureV, pureS]
    | x :: r, hpre =>
      have hx : x = 48 ∧ 0 < r.length := by
        unfold noNought at hpre
        simp at hpre
        exact ⟨hpre.1, List.length_pos_iff.2 hpre.2⟩
      obtain ⟨rfl, hr⟩ := hx
      have g3 : (1 : Int) < (r.length : Int) + 1 := by omega
      simp [M.a76, E.eqs, zeros_digC, ten_put, g3, hr, freshB, loadA, storeA, trim_pure, pureT, pureV, pureS]

theorem digT_zero {t : List UInt8} (hok : okT t = true) : (digT t = 0) ↔ t = [48] := by
  unfold okT at hok
  simp only [Bool.and_eq_true, decide_eq_true_eq] at hok
  have h0 : okT t = true := by unfold okT; simp only [Bool.and_eq_true, decide_eq_true_eq]; exact hok
  unfold digT
  rw [if_pos h0]
  by_cases h60 : 60 < t.length
  · rw [if_pos h60]
    constructor
    · intro h; omega
    · intro h; rw [h] at h60; simp at h60
  · rw [if_neg h60]
    constructor
    · intro h
      have := txt_valT t hok.2 hok.1
      rw [h] at this
      rw [← this]
      exact (txt_zero_iff 0).2 rfl
    · intro h; rw [h]; decide
theorem digT_big (t : List UInt8) : digT t < 4294967296 ^ 15 := by
  unfold digT
  split
  · rename_i hok
    split
    · decide
    · rename_i h60
      unfold okT at hok
      simp only [Bool.and_eq_true, decide_eq_true_eq] at hok
      exact Nat.lt_of_lt_of_le (valT_lt hok.2) (Nat.le_trans (Nat.pow_le_pow_right (by decide) (by omega : t.length ≤ 60)) (by decide))
  · decide
theorem okW_digT {t : List UInt8} (hok : okT t = true) (neg : Bool) : okW (sg neg (digT t)) = okW (sg neg (valT t)) := by
  have h0 := hok
  unfold okT at hok
  simp only [Bool.and_eq_true, decide_eq_true_eq] at hok
  unfold digT
  rw [if_pos h0]
  by_cases h60 : 60 < t.length
  · rw [if_pos h60]
    have hv := valT_long hok.2 hok.1 (by omega)
    have h10 : 10 ^ 60 ≤ valT t := Nat.le_trans (Nat.pow_le_pow_right (by decide) (by omega)) hv
    have e10 : (10 : Nat) ^ 60 = 1000000000000000000000000000000000000000000000000000000000000 := by decide
    rw [e10] at h10
    generalize valT t = v at *
    rw [okW_out'' (by unfold sg InW; cases neg <;> simp), okW_out'' (by unfold sg InW; cases neg <;> simp <;> omega)]
  · rw [if_neg h60]

theorem parse_ref {s : List UInt8} : parseR s = if okT (bareT s) = true ∧ ¬ (negT s = true ∧ digT (bareT s) = 0) then okW (sg (negT s) (digT (bareT s))) else [W 0, .sc (.int .i64 23)] := by
  unfold parseR
  by_cases hok : okT (bareT s) = true
  · have h1 := hok
    unfold okT at h1
    simp only [Bool.and_eq_true, decide_eq_true_eq] at h1
    rw [okW_digT hok]
    have hz := digT_zero hok
    by_cases hn : negT s = true ∧ bareT s = [48]
    · rw [if_neg (show ¬ numT s from fun c => c.2.2 hn), if_neg (show ¬ (okT (bareT s) = true ∧ ¬ (negT s = true ∧ digT (bareT s) = 0)) from fun c => c.2 ⟨hn.1, hz.2 hn.2⟩)]
    · rw [if_pos (show numT s from ⟨h1.1, h1.2, hn⟩), if_pos (show okT (bareT s) = true ∧ ¬ (negT s = true ∧ digT (bareT s) = 0) from ⟨hok, fun c => hn ⟨c.1, hz.1 c.2⟩⟩)]
  · rw [if_neg (show ¬ numT s from fun c => hok (by unfold okT; simp only [Bool.and_eq_true, decide_eq_true_eq]; exact ⟨c.1, c.2.1⟩)), if_neg (show ¬ (okT (bareT s) = true ∧ ¬ (negT s = true ∧ digT (bareT s) = 0)) from fun c => hok c.1)]

end Go.Proofs.Ytdodhmidhcpnnaa
