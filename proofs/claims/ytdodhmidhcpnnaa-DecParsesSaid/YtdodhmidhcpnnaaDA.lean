/- Chapter 3: a decimal's text parsed. -/
import Derived.Test.YtdodhmidhcpnnaaD9
set_option linter.unusedVariables false
set_option linter.unusedSimpArgs false
set_option maxRecDepth 100000
namespace Go.Proofs.Ytdodhmidhcpnnaa
open Go.Abs

theorem digits_loop {l : List UInt8} {h : Heap} (hl : l.length < 9223372036854775808) : ∀ (m k : Nat) (e : Env), k + m = l.length → e.get 0 = [.sc (.str l)] → e.get 3 = [.sc (.int .i64 k)] →
    loopE F O (.loop [0, 3] M.b74_0) e h = some (if (l.drop k).all isDig then (.exit 0, [(0, [.sc (.str l)]), (3, [.sc (.int .i64 l.length)]), (7, [.sc (.bool false)])], h) else (.ret, [(2, [.sc (.bool false)])], h))
  | 0, k, e, hk, e0, e2 => by
    have : k = l.length := by omega
    subst this
    rw [List.drop_length]
    exact exitM fun R RO RD RT E => by simp [M.b74_0, E.eqs, e0, e2]
  | m + 1, k, e, hk, e0, e2 => by
    have hlt : k < l.length := by omega
    obtain ⟨b, hb, hd, _⟩ := drop_at hlt
    have c1 : (k : Int) < l.length := by omega
    have w1 : IntKind.i64.wrap ((k : Int) + 1) = (k : Int) + 1 := wi64 (by omega) (by omega)
    rw [hd, List.all_cons]
    rcases dig_cases b with ⟨u, u1, u2⟩ | ⟨u, u1⟩ | ⟨u, u1, u2⟩
    · rw [u, Bool.true_and]
      have ih := digits_loop (l := l) (h := h) hl m (k + 1) [(0, [.sc (.str l)]), (3, [.sc (.int .i64 ((k + 1 : Nat) : Int))])] (by omega) rfl rfl
      refine stepM (fun R RO RD RT E => ?_) ih
      clear ih
      simp [M.b74_0, E.eqs, e0, e2, c1, hb, u1, u2, w1]
    · rw [u, Bool.false_and, if_neg (by simp)]
      exact retM fun R RO RD RT E => by simp [M.b74_0, E.eqs, e0, e2, c1, hb, u1]
    · rw [u, Bool.false_and, if_neg (by simp)]
      exact retM fun R RO RD RT E => by simp [M.b74_0, E.eqs, e0, e2, c1, hb, u1, u2]

/-- are there digits, and nothing else? -/
def digsB (l : List UInt8) : Bool := l.all isDig && !l.isEmpty
theorem spec74 (h : Heap) {l : List UInt8} (hl : l.length < 9223372036854775808) : call 74 [[.sc (.str l)]] h = some ([.sc (.bool (digsB l))], h) := by
  have lo := digits_loop (h := h) hl l.length 0 [(0, [.sc (.str l)]), (3, [.sc (.int .i64 0)])] (by omega) rfl rfl
  rw [List.drop_zero] at lo
  have lo := loop_run lo
  refine callX rfl (by rfl : F 74 = some M.a74) (fun R RO RD RT E => ?_)
  have lo := E.run lo
  unfold digsB
  by_cases ha : l.all isDig = true
  · rw [if_pos ha] at lo
    rw [ha]
    simp [M.a74, E.eqs, lo]
  · have ha : l.all isDig = false := by simpa using ha
    rw [ha, if_neg (by simp)] at lo
    rw [ha, Bool.false_and]
    simp [M.a74, E.eqs, lo]

theorem point_loop {t : List UInt8} {hh : Heap} {t2 t4 : TV} (hl : t.length < 9223372036854775808) : ∀ (m k : Nat) (e : Env), k + m = t.length → e.get 2 = t2 → e.get 4 = t4 → e.get 5 = [.sc (.str t)] → e.get 6 = [.sc (.int .i64 t.length)] → e.get 7 = [.sc (.int .i64 k)] →
    ∃ e', loopE F O (.loop [2, 4, 5, 6, 7] M.b50_1) e hh = some (.exit 0, e', hh) ∧ e'.get 2 = t2 ∧ e'.get 4 = t4 ∧ e'.get 5 = [.sc (.str t)] ∧ e'.get 6 = [.sc (.int .i64 (k + (wholeT (t.drop k)).length : Nat))]
  | 0, k, e, hk, e2, e4, e5, e6, e7 => by
    have : k = t.length := by omega
    subst this
    rw [List.drop_length]
    exact ⟨[(2, t2), (4, t4), (5, [.sc (.str t)]), (6, [.sc (.int .i64 t.length)]), (7, [.sc (.int .i64 t.length)]), (29, [.sc (.bool false)])], exitM fun R RO RD RT E => by simp [M.b50_1, E.eqs, e2, e4, e5, e6, e7], rfl, rfl, rfl, rfl⟩
  | m + 1, k, e, hk, e2, e4, e5, e6, e7 => by
    have hlt : k < t.length := by omega
    obtain ⟨b, hb, hd, _⟩ := drop_at hlt
    have c1 : (k : Int) < t.length := by omega
    have w1 : IntKind.i64.wrap ((k : Int) + 1) = (k : Int) + 1 := wi64 (by omega) (by omega)
    rw [hd]
    by_cases h46 : b = 46
    · subst h46
      have z : wholeT (46 :: t.drop (k + 1)) = [] := rfl
      have z46 : (((46 : UInt8).toNat : Nat) : Int) = 46 := rfl
      rw [z]
      exact ⟨[(2, t2), (4, t4), (5, [.sc (.str t)]), (6, [.sc (.int .i64 k)])], exitM fun R RO RD RT E => by simp [M.b50_1, E.eqs, e2, e4, e5, e6, e7, c1, hb], rfl, rfl, rfl, rfl⟩
    · have hbI : ¬ (b.toNat : Int) = 46 := by
        have := neq_nat h46
        have z : (46 : UInt8).toNat = 46 := rfl
        rw [z] at this
        omega
      have hw : wholeT (b :: t.drop (k + 1)) = b :: wholeT (t.drop (k + 1)) := by
        unfold wholeT
        rw [List.takeWhile_cons_of_pos (p := fun c => c != 46) (by simpa using h46)]
      obtain ⟨e', ih, r2, r4, r5, r6⟩ := point_loop (t := t) (hh := hh) (t2 := t2) (t4 := t4) hl m (k + 1) [(2, t2), (4, t4), (5, [.sc (.str t)]), (6, [.sc (.int .i64 t.length)]), (7, [.sc (.int .i64 ((k + 1 : Nat) : Int))])] (by omega) rfl rfl rfl rfl rfl
      refine ⟨e', stepM (fun R RO RD RT E => ?_) ih, r2, r4, r5, ?_⟩
      · clear ih r2 r4 r5 r6
        simp [M.b50_1, E.eqs, e2, e4, e5, e6, e7, c1, hb, hbI, w1]
      · rw [r6, hw, List.length_cons]
        congr 4
        omega

theorem strip_loop {hh : Heap} {t2 t4 t9 : TV} : ∀ (l : List UInt8) (e : Env), e.get 2 = t2 → e.get 4 = t4 → e.get 9 = t9 → e.get 10 = [.sc (.str l)] →
    loopE F O (.loop [2, 4, 9, 10] M.b50_0) e hh = some (.exit 2, [(2, t2), (4, t4), (9, t9), (10, [.sc (.str (stripT l))]), (81, [.sc (.bool false)])], hh)
  | [], e, e2, e4, e9, e10 => exitM fun R RO RD RT E => by simp [M.b50_0, E.eqs, e2, e4, e9, e10, stripT]
  | [a], e, e2, e4, e9, e10 => exitM fun R RO RD RT E => by simp [M.b50_0, E.eqs, e2, e4, e9, e10, stripT]
  | a :: b :: l, e, e2, e4, e9, e10 => by
    have c1 : (1 : Int) < (l.length : Int) + 1 + 1 := by omega
    by_cases ha : a = 48
    · subst ha
      have e1 : stripT (48 :: b :: l) = stripT (b :: l) := by rw [stripT, if_pos rfl]
      rw [e1]
      have ih := strip_loop (hh := hh) (t2 := t2) (t4 := t4) (t9 := t9) (b :: l) [(2, t2), (4, t4), (9, t9), (10, [.sc (.str (b :: l))])] rfl rfl rfl rfl
      exact stepM (fun R RO RD RT E => by simp [M.b50_0, E.eqs, e2, e4, e9, e10, c1]) ih
    · have e1 : stripT (a :: b :: l) = a :: b :: l := by rw [stripT, if_neg ha]
      have haI : ¬ (a.toNat : Int) = 48 := by
        have := neq_nat ha
        have z : (48 : UInt8).toNat = 48 := rfl
        rw [z] at this
        omega
      rw [e1]
      exact exitM fun R RO RD RT E => by simp [M.b50_0, E.eqs, e2, e4, e9, e10, c1, haI]

theorem okT_iff (w : List UInt8) : okT w = true ↔ noNought w ∧ w.all isDig = true := by unfold okT; simp
theorem digsB_iff (w : List UInt8) : digsB w = true ↔ w ≠ [] ∧ w.all isDig = true := by
  unfold digsB
  cases w <;> simp

/-- what Parse of wide numbers makes of digits with a sign -/
theorem parse_signed {neg : Bool} {l : List UInt8} (h1 : noNought l) (h2 : l.all isDig = true) (h3 : ¬ (neg = true ∧ l = [48])) : parseR ((if neg then [45] else []) ++ l) = okW (sg neg (valT l)) := by
  cases neg
  · obtain ⟨c, r, rfl⟩ : ∃ c r, l = c :: r := by
      cases l with
      | nil => exact absurd rfl h1.1
      | cons c r => exact ⟨c, r, rfl⟩
    have hc : ¬ c = 45 := by
      intro e
      subst e
      simp [isDig] at h2
    obtain ⟨b1, b2⟩ := bare_pos r hc
    simp only [Bool.false_eq_true, if_false, List.nil_append]
    rw [parse_tail (by rw [b1]; exact h1) (by rw [b2]; rintro ⟨e, _⟩; contradiction), b1, b2]
    unfold tailR
    rw [if_pos h2]
  · obtain ⟨b1, b2⟩ := bare_neg l
    simp only [if_true, List.singleton_append]
    rw [parse_tail (by rw [b1]; exact h1) (by rw [b1]; exact fun c => h3 ⟨rfl, c.2⟩), b1, b2]
    unfold tailR
    rw [if_pos h2]

theorem first_dig {w : List UInt8} (w1 : noNought w) : ∃ c0, w[0]? = some c0 ∧ (¬ (c0.toNat : Int) = 48 ∨ (c0.toNat : Int) = 48 ∧ ¬ (1 : Int) < w.length) := by
  match w, w1 with
  | [], w1 => exact absurd rfl w1.1
  | a :: r, w1 =>
    refine ⟨a, rfl, ?_⟩
    by_cases ha : a = 48
    · have := w1.2 (by rw [ha]; rfl)
      exact .inr ⟨by rw [ha]; rfl, by omega⟩
    · have := neq_nat ha
      have z : (48 : UInt8).toNat = 48 := rfl
      rw [z] at this
      exact .inl (by omega)
theorem first_nought {w : List UInt8} (w1 : w ≠ []) (hno : ¬ noNought w) : ∃ c0, w[0]? = some c0 ∧ (c0.toNat : Int) = 48 ∧ (1 : Int) < w.length := by
  match w, w1 with
  | a :: r, w1 =>
    unfold noNought at hno
    simp at hno
    refine ⟨a, rfl, by rw [hno.1]; rfl, ?_⟩
    have := List.length_pos_iff.2 hno.2
    simp only [List.length_cons]
    omega

/-- a text that is none: why -/
theorem dparse_bad {s : List UInt8} (h : ¬ decOk s) : dparseR s = [Dc 0 0, .sc (.int .i64 23)] := by unfold dparseR; rw [if_neg h]
theorem dparse_good {s : List UInt8} (h : decOk s) : dparseR s = okD (sg (negT s) (valT (allT (bareT s)))) (partT (bareT s)).length := by unfold dparseR; rw [if_pos h]

set_option maxHeartbeats 4000000 in
theorem dparse_neg (h : Heap) {s t : List UInt8} {c : UInt8} (hs : s[0]? = some c) (hc : (c.toNat : Int) = 45) (ht : s.tail = t) (hl : t.length < 140737488353280) (hneg : negT s = true) (hbare : bareT s = t) : call 50 [[.sc (.str s)]] h = some (dparseR s, h) := by
  have f1 : 0 < s.length := (List.getElem?_eq_some_iff.1 hs).1
  have f2 : 1 ≤ s.length := f1
  have f0 : ∀ hh, s[0]'hh = c := fun hh => by rw [List.getElem?_eq_getElem hh] at hs; injection hs
  have f3 : List.take (s.length - 1) t = t := by rw [← ht, ← List.length_tail, List.take_length]
  have f4 : (0 : Int) < s.length := by omega
  obtain ⟨e', lp, g2, g4, g5, g6⟩ := point_loop (t := t) (hh := h ++ [⟨.var, dC 0 0⟩]) (t2 := [.sc (.ptr h.length 0 3)]) (t4 := [.sc (.str [45])]) (by omega) t.length 0 [(2, [.sc (.ptr h.length 0 3)]), (4, [.sc (.str [45])]), (5, [.sc (.str t)]), (6, [.sc (.int .i64 t.length)]), (7, [.sc (.int .i64 0)])] (by omega) rfl rfl rfl rfl rfl
  rw [List.drop_zero, Nat.zero_add] at g6
  have lp := loop_run lp
  obtain ⟨w, hw⟩ : ∃ w, w = wholeT t := ⟨_, rfl⟩
  obtain ⟨p, hp⟩ : ∃ p, p = partT t := ⟨_, rfl⟩
  have rf := rest_form t
  rw [← hw] at g6 rf
  rw [← hp] at rf
  have dokI : decOk s ↔ okT w = true ∧ (restT t = [] ∨ (p ≠ [] ∧ p.all isDig = true ∧ p.length ≤ 18)) ∧ ¬ (true = true ∧ stripT (w ++ p) = [48]) := by
    unfold decOk allT
    rw [hneg, hbare, ← hw, ← hp]
  have good : decOk s → dparseR s = okD (sg true (valT (stripT (w ++ p)))) p.length := fun hh => by
    rw [dparse_good hh, hneg, hbare]
    unfold allT
    rw [← hw, ← hp]
  have bad : ¬ decOk s → dparseR s = [Dc 0 0, .sc (.int .i64 23)] := dparse_bad
  have hwl : w.length ≤ t.length := by rw [hw]; exact List.Sublist.length_le (List.takeWhile_sublist _)
  have hpl : p.length ≤ t.length := by
    rw [hp]
    unfold partT restT
    rw [List.length_tail]
    have := List.Sublist.length_le (List.dropWhile_sublist (l := t) (fun c : UInt8 => c != 46))
    omega
  have hwp : w.length + p.length ≤ t.length := by
    have h1 := congrArg List.length (List.takeWhile_append_dropWhile (p := fun c : UInt8 => c != 46) (l := t))
    rw [List.length_append] at h1
    rw [hw, hp]
    unfold wholeT partT restT
    rw [List.length_tail]
    omega
  have dw := fun h => spec74 h (l := w) (by omega)
  have dp := fun h => spec74 h (l := p) (by omega)
  have sl := fun t9 => loop_run (strip_loop (hh := h ++ [⟨.var, dC 0 0⟩]) (t2 := [.sc (.ptr h.length 0 3)]) (t4 := [.sc (.str [45])]) (t9 := t9) (w ++ p) [(2, [.sc (.ptr h.length 0 3)]), (4, [.sc (.str [45])]), (9, t9), (10, [.sc (.str (w ++ p))])] rfl rfl rfl rfl)
  have lim1 : w.length + p.length ≤ lim := by simp [lim]; omega
  obtain ⟨sq1, sq2, sq3, sq4⟩ := strip_eq (w ++ p)
  have sno := strip_noNought (w ++ p)
  have stl : (stripT (w ++ p)).length ≤ w.length + p.length := by rw [List.length_append] at sq1; exact sq1
  have lim2 : 1 + (stripT (w ++ p)).length ≤ lim := by simp [lim]; omega
  have lim3 : (stripT (w ++ p)).length ≤ lim := by omega
  have lim4 : w.length ≤ lim := by omega
  have lim5 : 1 ≤ lim := by simp [lim]
  have ql : ([45] ++ stripT (w ++ p)).length < 9223372036854775808 := by simp; omega
  have pw := fun h => spec75 h (s := [45] ++ stripT (w ++ p)) ql
  have hp' := hp
  clear hw hp sq1 sq2 stl
  refine callX rfl (by rfl : F 50 = some M.a50) (fun R RO RD RT E => ?_)
  have lp := E.run lp
  have sl := fun t9 => E.run (sl t9)
  rcases rf with ⟨r1, r2⟩ | ⟨r1, r2⟩
  · subst r2
    have hp0 : p = [] := by rw [hp']; unfold partT; rw [r1]; rfl
    have c1 : ¬ (w.length : Int) < w.length := by omega
    have tkA : List.take w.length w = w := List.take_length
    have pd : p.all isDig = true := by rw [hp0]; rfl
    have pok : restT w = [] ∨ (p ≠ [] ∧ p.all isDig = true ∧ p.length ≤ 18) := .inl r1
    subst hp0
    have e0 : w ++ [] = w := List.append_nil w
    rw [e0] at dokI good sq3 sq4 sno lim2 lim3 pw sl
    by_cases okw : okT w = true
    · obtain ⟨w1, w2⟩ := (okT_iff w).1 okw
      have dwv : digsB w = true := (digsB_iff w).2 ⟨w1.1, w2⟩
      rw [dwv] at dw
      have hne : w ≠ [] := w1.1
      have hdig : w.all isDig = true := w2
      have sno := sno hne
      have sdg := sq4 hdig
      obtain ⟨c0, hc0, hpre⟩ := first_dig w1
      have wf1 : 0 < w.length := (List.getElem?_eq_some_iff.1 hc0).1
      have wf0 : ∀ hh, w[0]'hh = c0 := fun hh => by rw [List.getElem?_eq_getElem hh] at hc0; injection hc0
      by_cases hz : true = true ∧ stripT w = [48]
      · rw [bad (fun hh => (dokI.1 hh).2.2 hz)]
        have hz2 := hz.2
        rcases hpre with hpre | ⟨hpre, hpre2⟩
        · simp [M.a50, E.eqs, zero_dC, hs, hc, f0, f1, f2, f3, f4, ht, lp, g2, g4, g5, g6, c1, tkA, dw, hc0, wf0, wf1, hpre, sl, hz2, lim1, lim4, fldA, freshB, loadA, storeA, trim_pure, pureT, pureV, pureS]
        · simp [M.a50, E.eqs, zero_dC, hs, hc, f0, f1, f2, f3, f4, ht, lp, g2, g4, g5, g6, c1, tkA, dw, hc0, wf0, wf1, hpre, hpre2, sl, hz2, lim1, lim4, fldA, freshB, loadA, storeA, trim_pure, pureT, pureV, pureS]
      · rw [good (dokI.2 ⟨okw, pok, hz⟩)]
        have pp := parse_signed (neg := true) sno sdg hz
        simp only [if_true, Bool.false_eq_true, if_false] at pp
        rw [pp] at pw
        generalize sg true (valT (stripT w)) = res at *
        clear pp sno sdg hne hdig sq3 sq4 dokI good bad
        generalize stripT w = q at *
        simp only [List.singleton_append, List.nil_append] at pw
        by_cases hr : InW res
        · rw [okW_in' hr] at pw
          rw [okD_in hr]
          rcases hpre with hpre | ⟨hpre, hpre2⟩
          · by_cases hq : q = [48]
            · exact absurd ⟨rfl, hq⟩ hz
            · have hqb : (q == [48]) = false := by simpa using hq
              simp [M.a50, E.eqs, zero_dC, wC_zero, hs, hc, f0, f1, f2, f3, f4, ht, lp, g2, g4, g5, g6, c1, tkA, dw, hc0, wf0, wf1, hpre, sl, hq, lim1, lim2, lim3, lim4, pw, lim5, hqb, fldA, freshB, loadA, storeA, trim_pure, pureT, pureV, pureS]
          · by_cases hq : q = [48]
            · exact absurd ⟨rfl, hq⟩ hz
            · have hqb : (q == [48]) = false := by simpa using hq
              simp [M.a50, E.eqs, zero_dC, wC_zero, hs, hc, f0, f1, f2, f3, f4, ht, lp, g2, g4, g5, g6, c1, tkA, dw, hc0, wf0, wf1, hpre, hpre2, sl, hq, lim1, lim2, lim3, lim4, pw, lim5, hqb, fldA, freshB, loadA, storeA, trim_pure, pureT, pureV, pureS]
        · rw [okW_out' hr] at pw
          rw [okD_out hr]
          rcases hpre with hpre | ⟨hpre, hpre2⟩
          · by_cases hq : q = [48]
            · exact absurd ⟨rfl, hq⟩ hz
            · have hqb : (q == [48]) = false := by simpa using hq
              simp [M.a50, E.eqs, zero_dC, wC_zero, hs, hc, f0, f1, f2, f3, f4, ht, lp, g2, g4, g5, g6, c1, tkA, dw, hc0, wf0, wf1, hpre, sl, hq, lim1, lim2, lim3, lim4, pw, lim5, hqb, fldA, freshB, loadA, storeA, trim_pure, pureT, pureV, pureS]
          · by_cases hq : q = [48]
            · exact absurd ⟨rfl, hq⟩ hz
            · have hqb : (q == [48]) = false := by simpa using hq
              simp [M.a50, E.eqs, zero_dC, wC_zero, hs, hc, f0, f1, f2, f3, f4, ht, lp, g2, g4, g5, g6, c1, tkA, dw, hc0, wf0, wf1, hpre, hpre2, sl, hq, lim1, lim2, lim3, lim4, pw, lim5, hqb, fldA, freshB, loadA, storeA, trim_pure, pureT, pureV, pureS]
    · rw [bad (fun hh => okw (dokI.1 hh).1)]
      by_cases dv : digsB w = true
      · rw [dv] at dw
        obtain ⟨w1, w2⟩ := (digsB_iff w).1 dv
        obtain ⟨c0, hc0, hc48, hlen⟩ := first_nought w1 (fun hh => okw ((okT_iff _).2 ⟨hh, w2⟩))
        have wf1 : 0 < w.length := (List.getElem?_eq_some_iff.1 hc0).1
        have wf0 : ∀ hh, w[0]'hh = c0 := fun hh => by rw [List.getElem?_eq_getElem hh] at hc0; injection hc0
        simp [M.a50, E.eqs, zero_dC, hs, hc, f0, f1, f2, f3, f4, ht, lp, g2, g4, g5, g6, c1, tkA, dw, hc0, wf0, wf1, hc48, hlen, fldA, freshB, loadA, storeA, trim_pure, pureT, pureV, pureS]
      · have dv : digsB w = false := by simpa using dv
        rw [dv] at dw
        simp [M.a50, E.eqs, zero_dC, hs, hc, f0, f1, f2, f3, f4, ht, lp, g2, g4, g5, g6, c1, tkA, dw, fldA, freshB, loadA, storeA, trim_pure, pureT, pureV, pureS]

  · have at1 : ∃ a1, a1 = w.length + 1 := ⟨_, rfl⟩
    obtain ⟨a1, ha1⟩ := at1
    have htl : t.length = w.length + (p.length + 1) := by rw [r2, List.length_append, List.length_cons]
    have c1 : (w.length : Int) < t.length := by omega
    have c2 : w.length < t.length := by omega
    have c3 : w.length ≤ t.length := by omega
    have tkB : List.take w.length t = w := by rw [r2]; exact List.take_left' rfl
    have w1B : IntKind.i64.wrap ((w.length : Int) + 1) = (a1 : Int) := by rw [wi64 (by omega) (by omega)]; omega
    have a1l : a1 ≤ t.length := by omega
    have drB : List.take (t.length - a1) (List.drop a1 t) = p := by
      have e1 : t.length - a1 = p.length := by omega
      have e2 : List.drop a1 t = p := by
        rw [ha1, r2, ← List.drop_drop, List.drop_left' rfl]
        rfl
      rw [e1, e2, List.take_length]
    have rne : ¬ restT t = [] := by rw [r1]; simp
    by_cases hpp : p ≠ [] ∧ p.all isDig = true
    · have dpv : digsB p = true := (digsB_iff p).2 hpp
      rw [dpv] at dp
      have pd := hpp.2
      by_cases h18 : p.length ≤ 18
      · have c18 : ¬ (18 : Int) < p.length := by omega
        have pok : restT t = [] ∨ (p ≠ [] ∧ p.all isDig = true ∧ p.length ≤ 18) := .inr ⟨hpp.1, hpp.2, h18⟩
        by_cases okw : okT w = true
        · obtain ⟨w1, w2⟩ := (okT_iff w).1 okw
          have dwv : digsB w = true := (digsB_iff w).2 ⟨w1.1, w2⟩
          rw [dwv] at dw
          have hne : (w ++ p) ≠ [] := fun e => w1.1 (List.append_eq_nil_iff.1 e).1
          have hdig : (w ++ p).all isDig = true := by rw [List.all_append, w2, pd]; rfl
          have sno := sno hne
          have sdg := sq4 hdig
          obtain ⟨c0, hc0, hpre⟩ := first_dig w1
          have wf1 : 0 < w.length := (List.getElem?_eq_some_iff.1 hc0).1
          have wf0 : ∀ hh, w[0]'hh = c0 := fun hh => by rw [List.getElem?_eq_getElem hh] at hc0; injection hc0
          by_cases hz : true = true ∧ stripT (w ++ p) = [48]
          · rw [bad (fun hh => (dokI.1 hh).2.2 hz)]
            have hz2 := hz.2
            rcases hpre with hpre | ⟨hpre, hpre2⟩
            · simp [M.a50, E.eqs, zero_dC, hs, hc, f0, f1, f2, f3, f4, ht, lp, g2, g4, g5, g6, c1, c2, c3, tkB, w1B, a1l, drB, dp, c18, dw, hc0, wf0, wf1, hpre, sl, hz2, lim1, lim4, fldA, freshB, loadA, storeA, trim_pure, pureT, pureV, pureS]
            · simp [M.a50, E.eqs, zero_dC, hs, hc, f0, f1, f2, f3, f4, ht, lp, g2, g4, g5, g6, c1, c2, c3, tkB, w1B, a1l, drB, dp, c18, dw, hc0, wf0, wf1, hpre, hpre2, sl, hz2, lim1, lim4, fldA, freshB, loadA, storeA, trim_pure, pureT, pureV, pureS]
          · rw [good (dokI.2 ⟨okw, pok, hz⟩)]
            have pp := parse_signed (neg := true) sno sdg hz
            simp only [if_true, Bool.false_eq_true, if_false] at pp
            rw [pp] at pw
            generalize sg true (valT (stripT (w ++ p))) = res at *
            clear pp sno sdg hne hdig sq3 sq4 dokI good bad
            generalize stripT (w ++ p) = q at *
            simp only [List.singleton_append, List.nil_append] at pw
            by_cases hr : InW res
            · rw [okW_in' hr] at pw
              rw [okD_in hr]
              rcases hpre with hpre | ⟨hpre, hpre2⟩
              · by_cases hq : q = [48]
                · exact absurd ⟨rfl, hq⟩ hz
                · have hqb : (q == [48]) = false := by simpa using hq
                  simp [M.a50, E.eqs, zero_dC, wC_zero, hs, hc, f0, f1, f2, f3, f4, ht, lp, g2, g4, g5, g6, c1, c2, c3, tkB, w1B, a1l, drB, dp, c18, dw, hc0, wf0, wf1, hpre, sl, hq, lim1, lim2, lim3, lim4, pw, lim5, hqb, fldA, freshB, loadA, storeA, trim_pure, pureT, pureV, pureS]
              · by_cases hq : q = [48]
                · exact absurd ⟨rfl, hq⟩ hz
                · have hqb : (q == [48]) = false := by simpa using hq
                  simp [M.a50, E.eqs, zero_dC, wC_zero, hs, hc, f0, f1, f2, f3, f4, ht, lp, g2, g4, g5, g6, c1, c2, c3, tkB, w1B, a1l, drB, dp, c18, dw, hc0, wf0, wf1, hpre, hpre2, sl, hq, lim1, lim2, lim3, lim4, pw, lim5, hqb, fldA, freshB, loadA, storeA, trim_pure, pureT, pureV, pureS]
            · rw [okW_out' hr] at pw
              rw [okD_out hr]
              rcases hpre with hpre | ⟨hpre, hpre2⟩
              · by_cases hq : q = [48]
                · exact absurd ⟨rfl, hq⟩ hz
                · have hqb : (q == [48]) = false := by simpa using hq
                  simp [M.a50, E.eqs, zero_dC, wC_zero, hs, hc, f0, f1, f2, f3, f4, ht, lp, g2, g4, g5, g6, c1, c2, c3, tkB, w1B, a1l, drB, dp, c18, dw, hc0, wf0, wf1, hpre, sl, hq, lim1, lim2, lim3, lim4, pw, lim5, hqb, fldA, freshB, loadA, storeA, trim_pure, pureT, pureV, pureS]
              · by_cases hq : q = [48]
                · exact absurd ⟨rfl, hq⟩ hz
                · have hqb : (q == [48]) = false := by simpa using hq
                  simp [M.a50, E.eqs, zero_dC, wC_zero, hs, hc, f0, f1, f2, f3, f4, ht, lp, g2, g4, g5, g6, c1, c2, c3, tkB, w1B, a1l, drB, dp, c18, dw, hc0, wf0, wf1, hpre, hpre2, sl, hq, lim1, lim2, lim3, lim4, pw, lim5, hqb, fldA, freshB, loadA, storeA, trim_pure, pureT, pureV, pureS]
        · rw [bad (fun hh => okw (dokI.1 hh).1)]
          by_cases dv : digsB w = true
          · rw [dv] at dw
            obtain ⟨w1, w2⟩ := (digsB_iff w).1 dv
            obtain ⟨c0, hc0, hc48, hlen⟩ := first_nought w1 (fun hh => okw ((okT_iff _).2 ⟨hh, w2⟩))
            have wf1 : 0 < w.length := (List.getElem?_eq_some_iff.1 hc0).1
            have wf0 : ∀ hh, w[0]'hh = c0 := fun hh => by rw [List.getElem?_eq_getElem hh] at hc0; injection hc0
            simp [M.a50, E.eqs, zero_dC, hs, hc, f0, f1, f2, f3, f4, ht, lp, g2, g4, g5, g6, c1, c2, c3, tkB, w1B, a1l, drB, dp, c18, dw, hc0, wf0, wf1, hc48, hlen, fldA, freshB, loadA, storeA, trim_pure, pureT, pureV, pureS]
          · have dv : digsB w = false := by simpa using dv
            rw [dv] at dw
            simp [M.a50, E.eqs, zero_dC, hs, hc, f0, f1, f2, f3, f4, ht, lp, g2, g4, g5, g6, c1, c2, c3, tkB, w1B, a1l, drB, dp, c18, dw, fldA, freshB, loadA, storeA, trim_pure, pureT, pureV, pureS]

      · have c18 : (18 : Int) < p.length := by omega
        rw [bad (fun hh => (dokI.1 hh).2.1.elim rne fun q => h18 q.2.2)]
        simp [M.a50, E.eqs, zero_dC, hs, hc, f0, f1, f2, f3, f4, ht, lp, g2, g4, g5, g6, c1, c2, c3, tkB, w1B, a1l, drB, dp, c18, fldA, freshB, loadA, storeA, trim_pure, pureT, pureV, pureS]
    · have dpv : digsB p = false := by
        by_cases c : digsB p = true
        · exact absurd ((digsB_iff p).1 c) hpp
        · simpa using c
      rw [dpv] at dp
      rw [bad (fun hh => (dokI.1 hh).2.1.elim rne fun q => hpp ⟨q.1, q.2.1⟩)]
      simp [M.a50, E.eqs, zero_dC, hs, hc, f0, f1, f2, f3, f4, ht, lp, g2, g4, g5, g6, c1, c2, c3, tkB, w1B, a1l, drB, dp, fldA, freshB, loadA, storeA, trim_pure, pureT, pureV, pureS]

set_option maxHeartbeats 4000000 in
theorem dparse_pos (h : Heap) {t : List UInt8} {c : UInt8} (hs : t[0]? = some c) (hc : ¬ (c.toNat : Int) = 45) (hl : t.length < 140737488353280) (hneg : negT t = false) (hbare : bareT t = t) : call 50 [[.sc (.str t)]] h = some (dparseR t, h) := by
  have f1 : 0 < t.length := (List.getElem?_eq_some_iff.1 hs).1
  have f0 : ∀ hh, t[0]'hh = c := fun hh => by rw [List.getElem?_eq_getElem hh] at hs; injection hs
  have f4 : (0 : Int) < t.length := by omega
  obtain ⟨e', lp, g2, g4, g5, g6⟩ := point_loop (t := t) (hh := h ++ [⟨.var, dC 0 0⟩]) (t2 := [.sc (.ptr h.length 0 3)]) (t4 := [.sc (.str [])]) (by omega) t.length 0 [(2, [.sc (.ptr h.length 0 3)]), (4, [.sc (.str [])]), (5, [.sc (.str t)]), (6, [.sc (.int .i64 t.length)]), (7, [.sc (.int .i64 0)])] (by omega) rfl rfl rfl rfl rfl
  rw [List.drop_zero, Nat.zero_add] at g6
  have lp := loop_run lp
  obtain ⟨w, hw⟩ : ∃ w, w = wholeT t := ⟨_, rfl⟩
  obtain ⟨p, hp⟩ : ∃ p, p = partT t := ⟨_, rfl⟩
  have rf := rest_form t
  rw [← hw] at g6 rf
  rw [← hp] at rf
  have dokI : decOk t ↔ okT w = true ∧ (restT t = [] ∨ (p ≠ [] ∧ p.all isDig = true ∧ p.length ≤ 18)) ∧ ¬ (false = true ∧ stripT (w ++ p) = [48]) := by
    unfold decOk allT
    rw [hneg, hbare, ← hw, ← hp]
  have good : decOk t → dparseR t = okD (sg false (valT (stripT (w ++ p)))) p.length := fun hh => by
    rw [dparse_good hh, hneg, hbare]
    unfold allT
    rw [← hw, ← hp]
  have bad : ¬ decOk t → dparseR t = [Dc 0 0, .sc (.int .i64 23)] := dparse_bad
  have hwl : w.length ≤ t.length := by rw [hw]; exact List.Sublist.length_le (List.takeWhile_sublist _)
  have hpl : p.length ≤ t.length := by
    rw [hp]
    unfold partT restT
    rw [List.length_tail]
    have := List.Sublist.length_le (List.dropWhile_sublist (l := t) (fun c : UInt8 => c != 46))
    omega
  have hwp : w.length + p.length ≤ t.length := by
    have h1 := congrArg List.length (List.takeWhile_append_dropWhile (p := fun c : UInt8 => c != 46) (l := t))
    rw [List.length_append] at h1
    rw [hw, hp]
    unfold wholeT partT restT
    rw [List.length_tail]
    omega
  have dw := fun h => spec74 h (l := w) (by omega)
  have dp := fun h => spec74 h (l := p) (by omega)
  have sl := fun t9 => loop_run (strip_loop (hh := h ++ [⟨.var, dC 0 0⟩]) (t2 := [.sc (.ptr h.length 0 3)]) (t4 := [.sc (.str [])]) (t9 := t9) (w ++ p) [(2, [.sc (.ptr h.length 0 3)]), (4, [.sc (.str [])]), (9, t9), (10, [.sc (.str (w ++ p))])] rfl rfl rfl rfl)
  have lim1 : w.length + p.length ≤ lim := by simp [lim]; omega
  obtain ⟨sq1, sq2, sq3, sq4⟩ := strip_eq (w ++ p)
  have sno := strip_noNought (w ++ p)
  have stl : (stripT (w ++ p)).length ≤ w.length + p.length := by rw [List.length_append] at sq1; exact sq1
  have lim2 : 1 + (stripT (w ++ p)).length ≤ lim := by simp [lim]; omega
  have lim3 : (stripT (w ++ p)).length ≤ lim := by omega
  have lim4 : w.length ≤ lim := by omega
  have lim5 : 1 ≤ lim := by simp [lim]
  have ql : ([] ++ stripT (w ++ p)).length < 9223372036854775808 := by simp; omega
  have pw := fun h => spec75 h (s := [] ++ stripT (w ++ p)) ql
  have hp' := hp
  clear hw hp sq1 sq2 stl
  refine callX rfl (by rfl : F 50 = some M.a50) (fun R RO RD RT E => ?_)
  have lp := E.run lp
  have sl := fun t9 => E.run (sl t9)
  rcases rf with ⟨r1, r2⟩ | ⟨r1, r2⟩
  · subst r2
    have hp0 : p = [] := by rw [hp']; unfold partT; rw [r1]; rfl
    have c1 : ¬ (w.length : Int) < w.length := by omega
    have tkA : List.take w.length w = w := List.take_length
    have pd : p.all isDig = true := by rw [hp0]; rfl
    have pok : restT w = [] ∨ (p ≠ [] ∧ p.all isDig = true ∧ p.length ≤ 18) := .inl r1
    subst hp0
    have e0 : w ++ [] = w := List.append_nil w
    rw [e0] at dokI good sq3 sq4 sno lim2 lim3 pw sl
    by_cases okw : okT w = true
    · obtain ⟨w1, w2⟩ := (okT_iff w).1 okw
      have dwv : digsB w = true := (digsB_iff w).2 ⟨w1.1, w2⟩
      rw [dwv] at dw
      have hne : w ≠ [] := w1.1
      have hdig : w.all isDig = true := w2
      have sno := sno hne
      have sdg := sq4 hdig
      obtain ⟨c0, hc0, hpre⟩ := first_dig w1
      obtain rfl : c0 = c := by rw [hs] at hc0; injection hc0 with e; exact e.symm
      have wf1 : 0 < w.length := (List.getElem?_eq_some_iff.1 hc0).1
      have wf0 : ∀ hh, w[0]'hh = c0 := fun hh => by rw [List.getElem?_eq_getElem hh] at hc0; injection hc0
      by_cases hz : false = true ∧ stripT w = [48]
      · skip
        exact absurd hz.1 (by decide)
      · rw [good (dokI.2 ⟨okw, pok, hz⟩)]
        have pp := parse_signed (neg := false) sno sdg hz
        simp only [if_true, Bool.false_eq_true, if_false] at pp
        rw [pp] at pw
        generalize sg false (valT (stripT w)) = res at *
        clear pp sno sdg hne hdig sq3 sq4 dokI good bad
        generalize stripT w = q at *
        simp only [List.singleton_append, List.nil_append] at pw
        by_cases hr : InW res
        · rw [okW_in' hr] at pw
          rw [okD_in hr]
          rcases hpre with hpre | ⟨hpre, hpre2⟩
          · by_cases hq : q = [48]
            · simp [hq] at pw
              simp [M.a50, E.eqs, zero_dC, wC_zero, hs, hc, f0, f1, f4, lp, g2, g4, g5, g6, c1, tkA, dw, hc0, wf0, wf1, hpre, sl, hq, lim1, lim2, lim3, lim4, pw, lim5, fldA, freshB, loadA, storeA, trim_pure, pureT, pureV, pureS]
            · have hqb : (q == [48]) = false := by simpa using hq
              simp [M.a50, E.eqs, zero_dC, wC_zero, hs, hc, f0, f1, f4, lp, g2, g4, g5, g6, c1, tkA, dw, hc0, wf0, wf1, hpre, sl, hq, lim1, lim2, lim3, lim4, pw, lim5, hqb, fldA, freshB, loadA, storeA, trim_pure, pureT, pureV, pureS]
          · by_cases hq : q = [48]
            · simp [hq] at pw
              simp [M.a50, E.eqs, zero_dC, wC_zero, hs, hc, f0, f1, f4, lp, g2, g4, g5, g6, c1, tkA, dw, hc0, wf0, wf1, hpre, hpre2, sl, hq, lim1, lim2, lim3, lim4, pw, lim5, fldA, freshB, loadA, storeA, trim_pure, pureT, pureV, pureS]
            · have hqb : (q == [48]) = false := by simpa using hq
              simp [M.a50, E.eqs, zero_dC, wC_zero, hs, hc, f0, f1, f4, lp, g2, g4, g5, g6, c1, tkA, dw, hc0, wf0, wf1, hpre, hpre2, sl, hq, lim1, lim2, lim3, lim4, pw, lim5, hqb, fldA, freshB, loadA, storeA, trim_pure, pureT, pureV, pureS]
        · rw [okW_out' hr] at pw
          rw [okD_out hr]
          rcases hpre with hpre | ⟨hpre, hpre2⟩
          · by_cases hq : q = [48]
            · simp [hq] at pw
              simp [M.a50, E.eqs, zero_dC, wC_zero, hs, hc, f0, f1, f4, lp, g2, g4, g5, g6, c1, tkA, dw, hc0, wf0, wf1, hpre, sl, hq, lim1, lim2, lim3, lim4, pw, lim5, fldA, freshB, loadA, storeA, trim_pure, pureT, pureV, pureS]
            · have hqb : (q == [48]) = false := by simpa using hq
              simp [M.a50, E.eqs, zero_dC, wC_zero, hs, hc, f0, f1, f4, lp, g2, g4, g5, g6, c1, tkA, dw, hc0, wf0, wf1, hpre, sl, hq, lim1, lim2, lim3, lim4, pw, lim5, hqb, fldA, freshB, loadA, storeA, trim_pure, pureT, pureV, pureS]
          · by_cases hq : q = [48]
            · simp [hq] at pw
              simp [M.a50, E.eqs, zero_dC, wC_zero, hs, hc, f0, f1, f4, lp, g2, g4, g5, g6, c1, tkA, dw, hc0, wf0, wf1, hpre, hpre2, sl, hq, lim1, lim2, lim3, lim4, pw, lim5, fldA, freshB, loadA, storeA, trim_pure, pureT, pureV, pureS]
            · have hqb : (q == [48]) = false := by simpa using hq
              simp [M.a50, E.eqs, zero_dC, wC_zero, hs, hc, f0, f1, f4, lp, g2, g4, g5, g6, c1, tkA, dw, hc0, wf0, wf1, hpre, hpre2, sl, hq, lim1, lim2, lim3, lim4, pw, lim5, hqb, fldA, freshB, loadA, storeA, trim_pure, pureT, pureV, pureS]
    · rw [bad (fun hh => okw (dokI.1 hh).1)]
      by_cases dv : digsB w = true
      · rw [dv] at dw
        obtain ⟨w1, w2⟩ := (digsB_iff w).1 dv
        obtain ⟨c0, hc0, hc48, hlen⟩ := first_nought w1 (fun hh => okw ((okT_iff _).2 ⟨hh, w2⟩))
        obtain rfl : c0 = c := by rw [hs] at hc0; injection hc0 with e; exact e.symm
        have wf1 : 0 < w.length := (List.getElem?_eq_some_iff.1 hc0).1
        have wf0 : ∀ hh, w[0]'hh = c0 := fun hh => by rw [List.getElem?_eq_getElem hh] at hc0; injection hc0
        simp [M.a50, E.eqs, zero_dC, hs, hc, f0, f1, f4, lp, g2, g4, g5, g6, c1, tkA, dw, hc0, wf0, wf1, hc48, hlen, fldA, freshB, loadA, storeA, trim_pure, pureT, pureV, pureS]
      · have dv : digsB w = false := by simpa using dv
        rw [dv] at dw
        simp [M.a50, E.eqs, zero_dC, hs, hc, f0, f1, f4, lp, g2, g4, g5, g6, c1, tkA, dw, fldA, freshB, loadA, storeA, trim_pure, pureT, pureV, pureS]

  · have at1 : ∃ a1, a1 = w.length + 1 := ⟨_, rfl⟩
    obtain ⟨a1, ha1⟩ := at1
    have htl : t.length = w.length + (p.length + 1) := by rw [r2, List.length_append, List.length_cons]
    have c1 : (w.length : Int) < t.length := by omega
    have c2 : w.length < t.length := by omega
    have c3 : w.length ≤ t.length := by omega
    have tkB : List.take w.length t = w := by rw [r2]; exact List.take_left' rfl
    have w1B : IntKind.i64.wrap ((w.length : Int) + 1) = (a1 : Int) := by rw [wi64 (by omega) (by omega)]; omega
    have a1l : a1 ≤ t.length := by omega
    have drB : List.take (t.length - a1) (List.drop a1 t) = p := by
      have e1 : t.length - a1 = p.length := by omega
      have e2 : List.drop a1 t = p := by
        rw [ha1, r2, ← List.drop_drop, List.drop_left' rfl]
        rfl
      rw [e1, e2, List.take_length]
    have rne : ¬ restT t = [] := by rw [r1]; simp
    by_cases hpp : p ≠ [] ∧ p.all isDig = true
    · have dpv : digsB p = true := (digsB_iff p).2 hpp
      rw [dpv] at dp
      have pd := hpp.2
      by_cases h18 : p.length ≤ 18
      · have c18 : ¬ (18 : Int) < p.length := by omega
        have pok : restT t = [] ∨ (p ≠ [] ∧ p.all isDig = true ∧ p.length ≤ 18) := .inr ⟨hpp.1, hpp.2, h18⟩
        by_cases okw : okT w = true
        · obtain ⟨w1, w2⟩ := (okT_iff w).1 okw
          have dwv : digsB w = true := (digsB_iff w).2 ⟨w1.1, w2⟩
          rw [dwv] at dw
          have hne : (w ++ p) ≠ [] := fun e => w1.1 (List.append_eq_nil_iff.1 e).1
          have hdig : (w ++ p).all isDig = true := by rw [List.all_append, w2, pd]; rfl
          have sno := sno hne
          have sdg := sq4 hdig
          obtain ⟨c0, hc0, hpre⟩ := first_dig w1
          have wf1 : 0 < w.length := (List.getElem?_eq_some_iff.1 hc0).1
          have wf0 : ∀ hh, w[0]'hh = c0 := fun hh => by rw [List.getElem?_eq_getElem hh] at hc0; injection hc0
          by_cases hz : false = true ∧ stripT (w ++ p) = [48]
          · skip
            exact absurd hz.1 (by decide)
          · rw [good (dokI.2 ⟨okw, pok, hz⟩)]
            have pp := parse_signed (neg := false) sno sdg hz
            simp only [if_true, Bool.false_eq_true, if_false] at pp
            rw [pp] at pw
            generalize sg false (valT (stripT (w ++ p))) = res at *
            clear pp sno sdg hne hdig sq3 sq4 dokI good bad
            generalize stripT (w ++ p) = q at *
            simp only [List.singleton_append, List.nil_append] at pw
            by_cases hr : InW res
            · rw [okW_in' hr] at pw
              rw [okD_in hr]
              rcases hpre with hpre | ⟨hpre, hpre2⟩
              · by_cases hq : q = [48]
                · simp [hq] at pw
                  simp [M.a50, E.eqs, zero_dC, wC_zero, hs, hc, f0, f1, f4, lp, g2, g4, g5, g6, c1, c2, c3, tkB, w1B, a1l, drB, dp, c18, dw, hc0, wf0, wf1, hpre, sl, hq, lim1, lim2, lim3, lim4, pw, lim5, fldA, freshB, loadA, storeA, trim_pure, pureT, pureV, pureS]
                · have hqb : (q == [48]) = false := by simpa using hq
                  simp [M.a50, E.eqs, zero_dC, wC_zero, hs, hc, f0, f1, f4, lp, g2, g4, g5, g6, c1, c2, c3, tkB, w1B, a1l, drB, dp, c18, dw, hc0, wf0, wf1, hpre, sl, hq, lim1, lim2, lim3, lim4, pw, lim5, hqb, fldA, freshB, loadA, storeA, trim_pure, pureT, pureV, pureS]
              · by_cases hq : q = [48]
                · simp [hq] at pw
                  simp [M.a50, E.eqs, zero_dC, wC_zero, hs, hc, f0, f1, f4, lp, g2, g4, g5, g6, c1, c2, c3, tkB, w1B, a1l, drB, dp, c18, dw, hc0, wf0, wf1, hpre, hpre2, sl, hq, lim1, lim2, lim3, lim4, pw, lim5, fldA, freshB, loadA, storeA, trim_pure, pureT, pureV, pureS]
                · have hqb : (q == [48]) = false := by simpa using hq
                  simp [M.a50, E.eqs, zero_dC, wC_zero, hs, hc, f0, f1, f4, lp, g2, g4, g5, g6, c1, c2, c3, tkB, w1B, a1l, drB, dp, c18, dw, hc0, wf0, wf1, hpre, hpre2, sl, hq, lim1, lim2, lim3, lim4, pw, lim5, hqb, fldA, freshB, loadA, storeA, trim_pure, pureT, pureV, pureS]
            · rw [okW_out' hr] at pw
              rw [okD_out hr]
              rcases hpre with hpre | ⟨hpre, hpre2⟩
              · by_cases hq : q = [48]
                · simp [hq] at pw
                  simp [M.a50, E.eqs, zero_dC, wC_zero, hs, hc, f0, f1, f4, lp, g2, g4, g5, g6, c1, c2, c3, tkB, w1B, a1l, drB, dp, c18, dw, hc0, wf0, wf1, hpre, sl, hq, lim1, lim2, lim3, lim4, pw, lim5, fldA, freshB, loadA, storeA, trim_pure, pureT, pureV, pureS]
                · have hqb : (q == [48]) = false := by simpa using hq
                  simp [M.a50, E.eqs, zero_dC, wC_zero, hs, hc, f0, f1, f4, lp, g2, g4, g5, g6, c1, c2, c3, tkB, w1B, a1l, drB, dp, c18, dw, hc0, wf0, wf1, hpre, sl, hq, lim1, lim2, lim3, lim4, pw, lim5, hqb, fldA, freshB, loadA, storeA, trim_pure, pureT, pureV, pureS]
              · by_cases hq : q = [48]
                · simp [hq] at pw
                  simp [M.a50, E.eqs, zero_dC, wC_zero, hs, hc, f0, f1, f4, lp, g2, g4, g5, g6, c1, c2, c3, tkB, w1B, a1l, drB, dp, c18, dw, hc0, wf0, wf1, hpre, hpre2, sl, hq, lim1, lim2, lim3, lim4, pw, lim5, fldA, freshB, loadA, storeA, trim_pure, pureT, pureV, pureS]
                · have hqb : (q == [48]) = false := by simpa using hq
                  simp [M.a50, E.eqs, zero_dC, wC_zero, hs, hc, f0, f1, f4, lp, g2, g4, g5, g6, c1, c2, c3, tkB, w1B, a1l, drB, dp, c18, dw, hc0, wf0, wf1, hpre, hpre2, sl, hq, lim1, lim2, lim3, lim4, pw, lim5, hqb, fldA, freshB, loadA, storeA, trim_pure, pureT, pureV, pureS]
        · rw [bad (fun hh => okw (dokI.1 hh).1)]
          by_cases dv : digsB w = true
          · rw [dv] at dw
            obtain ⟨w1, w2⟩ := (digsB_iff w).1 dv
            obtain ⟨c0, hc0, hc48, hlen⟩ := first_nought w1 (fun hh => okw ((okT_iff _).2 ⟨hh, w2⟩))
            have wf1 : 0 < w.length := (List.getElem?_eq_some_iff.1 hc0).1
            have wf0 : ∀ hh, w[0]'hh = c0 := fun hh => by rw [List.getElem?_eq_getElem hh] at hc0; injection hc0
            simp [M.a50, E.eqs, zero_dC, hs, hc, f0, f1, f4, lp, g2, g4, g5, g6, c1, c2, c3, tkB, w1B, a1l, drB, dp, c18, dw, hc0, wf0, wf1, hc48, hlen, fldA, freshB, loadA, storeA, trim_pure, pureT, pureV, pureS]
          · have dv : digsB w = false := by simpa using dv
            rw [dv] at dw
            simp [M.a50, E.eqs, zero_dC, hs, hc, f0, f1, f4, lp, g2, g4, g5, g6, c1, c2, c3, tkB, w1B, a1l, drB, dp, c18, dw, fldA, freshB, loadA, storeA, trim_pure, pureT, pureV, pureS]

      · have c18 : (18 : Int) < p.length := by omega
        rw [bad (fun hh => (dokI.1 hh).2.1.elim rne fun q => h18 q.2.2)]
        simp [M.a50, E.eqs, zero_dC, hs, hc, f0, f1, f4, lp, g2, g4, g5, g6, c1, c2, c3, tkB, w1B, a1l, drB, dp, c18, fldA, freshB, loadA, storeA, trim_pure, pureT, pureV, pureS]
    · have dpv : digsB p = false := by
        by_cases c : digsB p = true
        · exact absurd ((digsB_iff p).1 c) hpp
        · simpa using c
      rw [dpv] at dp
      rw [bad (fun hh => (dokI.1 hh).2.1.elim rne fun q => hpp ⟨q.1, q.2.1⟩)]
      simp [M.a50, E.eqs, zero_dC, hs, hc, f0, f1, f4, lp, g2, g4, g5, g6, c1, c2, c3, tkB, w1B, a1l, drB, dp, fldA, freshB, loadA, storeA, trim_pure, pureT, pureV, pureS]

end Go.Proofs.Ytdodhmidhcpnnaa
