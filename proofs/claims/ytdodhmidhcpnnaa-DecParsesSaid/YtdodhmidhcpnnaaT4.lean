/- Chapter 2: a text parsed. -/
import Derived.Test.YtdodhmidhcpnnaaT3
import Derived.Test.YtdodhmidhcpnnaaN6
set_option linter.unusedVariables false
set_option linter.unusedSimpArgs false
set_option maxRecDepth 100000
namespace Go.Proofs.Ytdodhmidhcpnnaa
open Go.Abs

/-- a text without its sign -/
def bareT (s : List UInt8) : List UInt8 := if s.head? = some 45 then s.tail else s
def negT (s : List UInt8) : Bool := decide (s.head? = some 45)
/-- is it a number's text? -/
def numT (s : List UInt8) : Prop := noNought (bareT s) ∧ (bareT s).all isDig = true ∧ ¬ (negT s = true ∧ bareT s = [48])
instance (s : List UInt8) : Decidable (numT s) := inferInstanceAs (Decidable (_ ∧ _))
/-- what it is parsed as, and what is wrong -/
def parseR (s : List UInt8) : TV := if numT s then okW (sg (negT s) (valT (bareT s))) else [W 0, .sc (.int .i64 23)]
theorem parseR_form (s : List UInt8) : ∃ n e : Int, InW n ∧ parseR s = [W n, .sc (.int .i64 e)] := by
  unfold parseR
  split
  · exact ⟨_, _, inW_okC _, rfl⟩
  · exact ⟨0, 23, inW_zero, rfl⟩

theorem dig_cases (b : UInt8) : (isDig b = true ∧ ¬ (b.toNat : Int) < 48 ∧ ¬ 57 < (b.toNat : Int)) ∨ (isDig b = false ∧ (b.toNat : Int) < 48) ∨ (isDig b = false ∧ ¬ (b.toNat : Int) < 48 ∧ 57 < (b.toNat : Int)) := by
  unfold isDig
  by_cases h1 : (b.toNat : Int) < 48
  · exact .inr (.inl ⟨by simp; omega, h1⟩)
  · by_cases h2 : 57 < (b.toNat : Int)
    · exact .inr (.inr ⟨by simp; omega, h1, h2⟩)
    · exact .inl ⟨by simp; omega, h1, h2⟩
theorem drop_at {l : List UInt8} {k : Nat} (h : k < l.length) : ∃ b, l[k]? = some b ∧ l.drop k = b :: l.drop (k + 1) ∧ l.take (k + 1) = l.take k ++ [b] := by
  refine ⟨l[k], List.getElem?_eq_getElem h, List.drop_eq_getElem_cons h, ?_⟩
  rw [List.take_add_one, List.getElem?_eq_getElem h]
  rfl

theorem check_loop {l : List UInt8} {h : Heap} {t4 : TV} (hl : l.length < 9223372036854775808) : ∀ (m k : Nat) (e : Env), k + m = l.length → e.get 0 = [.sc (.str l)] → e.get 2 = [.sc (.ptr h.length 0 2)] → e.get 4 = t4 → e.get 5 = [.sc (.int .i64 k)] →
    loopE F O (.loop [0, 2, 4, 5] M.b75_1) e (h ++ [⟨.var, wC 0⟩]) = some (if (l.drop k).all isDig then (.exit 0, [(0, [.sc (.str l)]), (2, [.sc (.ptr h.length 0 2)]), (4, t4), (5, [.sc (.int .i64 l.length)]), (44, [.sc (.bool false)])], h ++ [⟨.var, wC 0⟩]) else (.ret, [(2, [.sc (.ptr h.length 0 2)]), (3, [.sc (.int .i64 23)])], h ++ [⟨.var, wC 0⟩]))
  | 0, k, e, hk, e0, e2, e4, e5 => by
    have : k = l.length := by omega
    subst this
    rw [List.drop_length]
    exact exitM fun R RO RD RT E => by simp [M.b75_1, E.eqs, e0, e2, e4, e5]
  | m + 1, k, e, hk, e0, e2, e4, e5 => by
    have hlt : k < l.length := by omega
    obtain ⟨b, hb, hd, _⟩ := drop_at hlt
    have c1 : (k : Int) < l.length := by omega
    have w1 : IntKind.i64.wrap ((k : Int) + 1) = (k : Int) + 1 := wi64 (by omega) (by omega)
    rw [hd, List.all_cons]
    rcases dig_cases b with ⟨u, u1, u2⟩ | ⟨u, u1⟩ | ⟨u, u1, u2⟩
    · rw [u, Bool.true_and]
      have ih := check_loop (l := l) (h := h) (t4 := t4) hl m (k + 1) [(0, [.sc (.str l)]), (2, [.sc (.ptr h.length 0 2)]), (4, t4), (5, [.sc (.int .i64 ((k + 1 : Nat) : Int))])] (by omega) rfl rfl rfl rfl
      refine stepM (fun R RO RD RT E => ?_) ih
      clear ih
      simp [M.b75_1, E.eqs, e0, e2, e4, e5, c1, hb, u1, u2, w1]
    · rw [u, Bool.false_and, if_neg (by simp)]
      exact retM fun R RO RD RT E => by simp [M.b75_1, E.eqs, e0, e2, e4, e5, c1, hb, u1, wC_zero, storeA]
    · rw [u, Bool.false_and, if_neg (by simp)]
      exact retM fun R RO RD RT E => by simp [M.b75_1, E.eqs, e0, e2, e4, e5, c1, hb, u1, u2, wC_zero, storeA]

/-- ten times a number of two digits, and one digit more -/
theorem ten_round {V hi lo d c m h l l2 k1 h2 k2 : Nat} (hV : V = hi * 18446744073709551616 + lo) (e1 : lo * 10 = h * 18446744073709551616 + l) (e2 : hi * 10 = c * 18446744073709551616 + m) (e3 : l + d + 0 = l2 + 18446744073709551616 * k1) (e4 : m + h + k1 = h2 + 18446744073709551616 * k2) (hl2 : l2 < 18446744073709551616) (hh2 : h2 < 18446744073709551616) :
    V * 10 + d = ((c + k2) * 18446744073709551616 + h2) * 18446744073709551616 + l2 := by omega

theorem sum_loop {t : List UInt8} {h : Heap} {t4 : TV} (hd : t.all isDig = true) (hl : t.length < 9223372036854775808) : ∀ (n k : Nat) (e : Env), k + n = t.length → valT (t.take k) / 18446744073709551616 ≤ 9223372036854775808 → e.get 0 = [.sc (.str t)] → e.get 2 = [.sc (.ptr h.length 0 2)] → e.get 4 = t4 →
    e.get 6 = [.sc (.int .u64 (valT (t.take k) / 18446744073709551616 : Nat))] → e.get 7 = [.sc (.int .u64 (valT (t.take k) % 18446744073709551616 : Nat))] → e.get 8 = [.sc (.int .i64 k)] →
    loopE F O (.loop [0, 2, 4, 6, 7, 8] M.b75_0) e (h ++ [⟨.var, wC 0⟩]) = some (if valT t / 18446744073709551616 ≤ 9223372036854775808 then (.exit 2, [(0, [.sc (.str t)]), (2, [.sc (.ptr h.length 0 2)]), (4, t4), (6, [.sc (.int .u64 (valT t / 18446744073709551616 : Nat))]), (7, [.sc (.int .u64 (valT t % 18446744073709551616 : Nat))]), (8, [.sc (.int .i64 t.length)]), (61, [.sc (.bool false)])], h ++ [⟨.var, wC 0⟩]) else (.ret, [(2, [.sc (.ptr h.length 0 2)]), (3, [.sc (.int .i64 20)])], h ++ [⟨.var, wC 0⟩]))
  | 0, k, e, hk, hb, e0, e2, e4, e6, e7, e8 => by
    have : k = t.length := by omega
    subst this
    rw [List.take_length] at hb e6 e7
    rw [if_pos hb]
    clear hb hd
    generalize valT t / 18446744073709551616 = x at *
    generalize valT t % 18446744073709551616 = y at *
    exact exitM fun R RO RD RT E => by simp [M.b75_0, E.eqs, e0, e2, e4, e6, e7, e8]
  | n + 1, k, e, hk, hb, e0, e2, e4, e6, e7, e8 => by
    have hlt : k < t.length := by omega
    obtain ⟨b, hbk, _, htk⟩ := drop_at hlt
    have hbd : isDig b = true := by
      have := List.all_eq_true.1 hd b (List.mem_of_getElem? hbk)
      exact this
    obtain ⟨d, hd10, _, hbd2⟩ := isDig_iff hbd
    have hb48 : 48 ≤ b.toNat := by unfold isDig at hbd; simp at hbd; omega
    have hv : valT (t.take (k + 1)) = valT (t.take k) * 10 + d := by rw [htk, valT_snoc, hbd2]
    have hmono : valT (t.take (k + 1)) ≤ valT t := by
      have := valT_prefix (t.take (k + 1)) (t.drop (k + 1))
      rw [List.take_append_drop] at this
      exact this
    have c1 : (k : Int) < t.length := by omega
    have w1 : IntKind.i64.wrap ((k : Int) + 1) = (k : Int) + 1 := wi64 (by omega) (by omega)
    have w2 : IntKind.u8.wrap ((b.toNat : Int) - 48) = (d : Int) := by rw [wu8']; omega
    have w3 : IntKind.u64.wrap (d : Int) = (d : Int) := wn64 (by omega)
    obtain ⟨V, hV⟩ : ∃ V, V = valT (t.take k) := ⟨_, rfl⟩
    rw [← hV] at hv hb e6 e7
    obtain ⟨hi, hhi⟩ : ∃ hi, hi = V / 18446744073709551616 := ⟨_, rfl⟩
    obtain ⟨lo, hlo⟩ : ∃ lo, lo = V % 18446744073709551616 := ⟨_, rfl⟩
    rw [← hhi] at hb e6
    rw [← hlo] at e7
    have s1 := fun h => spec88 h (x := lo) (y := 10) (by omega) (by decide)
    have s2 := fun h => spec88 h (x := hi) (y := 10) (by omega) (by decide)
    have z10 : ((10 : Nat) : Int) = 10 := rfl
    rw [z10] at s1 s2
    obtain ⟨ch, hch⟩ : ∃ ch, ch = lo * 10 / 18446744073709551616 := ⟨_, rfl⟩
    obtain ⟨l, hll⟩ : ∃ l, l = lo * 10 % 18446744073709551616 := ⟨_, rfl⟩
    obtain ⟨c, hc⟩ : ∃ c, c = hi * 10 / 18446744073709551616 := ⟨_, rfl⟩
    obtain ⟨m, hm⟩ : ∃ m, m = hi * 10 % 18446744073709551616 := ⟨_, rfl⟩
    rw [← hch, ← hll] at s1
    rw [← hc, ← hm] at s2
    have ce1 := carryE l d 0
    have cl1 := carryL l d 0
    have ch1 := carryH (a := l) (b := d) (d := 0) (by omega) (by omega) (by omega)
    have ce2 := carryE m ch (cHi false l d 0)
    have cl2 := carryL m ch (cHi false l d 0)
    have ch2 := carryH (a := m) (b := ch) (d := cHi false l d 0) (by omega) (by omega) ch1
    generalize g1 : cLo false l d 0 = l2 at *
    generalize g2 : cHi false l d 0 = k1 at *
    generalize g3 : cLo false m ch k1 = h2 at *
    generalize g4 : cHi false m ch k1 = k2 at *
    have key := ten_round (V := V) (hi := hi) (lo := lo) (d := d) (c := c) (m := m) (h := ch) (l := l) (by omega) (by omega) (by omega) ce1 ce2 cl1 cl2
    rw [← hv] at key
    obtain ⟨V', hV'⟩ : ∃ V', V' = valT (t.take (k + 1)) := ⟨_, rfl⟩
    rw [← hV'] at key hmono
    by_cases hover : c = 0 ∧ k2 = 0 ∧ h2 ≤ 9223372036854775808
    · obtain ⟨rfl, rfl, h3⟩ := hover
      have q1 : V' / 18446744073709551616 = h2 := by omega
      have q2 : V' % 18446744073709551616 = l2 := by omega
      have ih := sum_loop (t := t) (h := h) (t4 := t4) hd hl n (k + 1) [(0, [.sc (.str t)]), (2, [.sc (.ptr h.length 0 2)]), (4, t4), (6, [.sc (.int .u64 h2)]), (7, [.sc (.int .u64 l2)]), (8, [.sc (.int .i64 ((k + 1 : Nat) : Int))])] (by omega) (by rw [← hV', q1]; exact h3) rfl rfl rfl (by rw [← hV', q1]; rfl) (by rw [← hV', q2]; rfl) rfl
      refine stepM (fun R RO RD RT E => ?_) ih
      clear ih key hmono hv hV hV' q1 q2 ce1 ce2 hm hc hll hch hlo hhi hd htk hb
      have c3 : ¬ (9223372036854775808 : Int) < h2 := by omega
      have c3' : ¬ 9223372036854775808 < h2 := by omega
      simp [M.b75_0, E.eqs, e0, e2, e4, e6, e7, e8, c1, hbk, w1, w2, w3, s1, s2, g1, g2, g3, g4, ch1, c3, c3']
    · have hbig : ¬ valT t / 18446744073709551616 ≤ 9223372036854775808 := by
        intro hle
        apply hover
        have : V' / 18446744073709551616 ≤ 9223372036854775808 := Nat.le_trans (Nat.div_le_div_right hmono) hle
        have q1 : V' / 18446744073709551616 = (c + k2) * 18446744073709551616 + h2 := by omega
        omega
      rw [if_neg hbig]
      refine retM fun R RO RD RT E => ?_
      clear hbig key hmono hv hV hV' ce1 ce2 hm hc hll hch hlo hhi hd htk hb
      by_cases d1 : c = 0
      · by_cases d2 : k2 = 0
        · have c3 : (9223372036854775808 : Int) < h2 := by omega
          have c3' : 9223372036854775808 < h2 := by omega
          subst d1 d2
          simp [M.b75_0, E.eqs, e0, e2, e4, e6, e7, e8, c1, hbk, w1, w2, w3, s1, s2, g1, g2, g3, g4, ch1, c3, c3', wC_zero, storeA]
        · subst d1
          simp [M.b75_0, E.eqs, e0, e2, e4, e6, e7, e8, c1, hbk, w1, w2, w3, s1, s2, g1, g2, g3, g4, ch1, d2, wC_zero, storeA]
      · simp [M.b75_0, E.eqs, e0, e2, e4, e6, e7, e8, c1, hbk, w1, w2, w3, s1, s2, g1, g2, g3, g4, ch1, d1, wC_zero, storeA]
end Go.Proofs.Ytdodhmidhcpnnaa
