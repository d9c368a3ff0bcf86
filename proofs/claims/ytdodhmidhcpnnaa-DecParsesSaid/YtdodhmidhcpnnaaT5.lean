/- Chapter 2: Parse. -/
import Derived.Test.YtdodhmidhcpnnaaT4
set_option linter.unusedVariables false
set_option linter.unusedSimpArgs false
set_option maxRecDepth 100000
namespace Go.Proofs.Ytdodhmidhcpnnaa
open Go.Abs

/-- digits without noughts ahead, with a sign -/
def tailR (neg : Bool) (t : List UInt8) : TV := if t.all isDig = true then okW (sg neg (valT t)) else [W 0, .sc (.int .i64 23)]
theorem okW_out'' {n : Int} (h : ¬ InW n) : okW n = [W 0, .sc (.int .i64 20)] := by unfold okW okC okE; rw [if_neg h, if_neg h]
theorem tail_out {neg : Bool} {t : List UInt8} (h : ¬ valT t / 18446744073709551616 ≤ 9223372036854775808) : okW (sg neg (valT t)) = [W 0, .sc (.int .i64 20)] := by
  refine okW_out'' ?_
  unfold sg InW
  generalize valT t = v at *
  cases neg <;> simp <;> omega

theorem neq_nat {x c : UInt8} (h : ¬ x = c) : ¬ x.toNat = c.toNat := fun e => h (UInt8.toNat_inj.1 e)

theorem parse_nil : parseR [] = [W 0, .sc (.int .i64 23)] := by unfold parseR; rw [if_neg (by decide)]
theorem parse_bad {s : List UInt8} (h : ¬ noNought (bareT s) ∨ (negT s = true ∧ bareT s = [48])) : parseR s = [W 0, .sc (.int .i64 23)] := by
  unfold parseR
  rw [if_neg]
  rintro ⟨h1, _, h3⟩
  rcases h with h | h
  · exact h h1
  · exact h3 h
theorem parse_tail {s : List UInt8} (h1 : noNought (bareT s)) (h2 : ¬ (negT s = true ∧ bareT s = [48])) : parseR s = tailR (negT s) (bareT s) := by
  unfold parseR tailR
  by_cases hd : (bareT s).all isDig = true
  · rw [if_pos ⟨h1, hd, h2⟩, if_pos hd]
  · rw [if_neg (fun c => hd c.2.1), if_neg hd]
theorem bare_neg (r : List UInt8) : bareT (45 :: r) = r ∧ negT (45 :: r) = true := by simp [bareT, negT]
theorem bare_pos {c : UInt8} (r : List UInt8) (h : ¬ c = 45) : bareT (c :: r) = c :: r ∧ negT (c :: r) = false := by simp [bareT, negT, h]

theorem loops (h : Heap) (neg : Bool) {t : List UInt8} (hl : t.length < 9223372036854775808) :
    runE F O (.loop [0, 2, 4, 5] M.b75_1) [(0, [.sc (.str t)]), (2, [.sc (.ptr h.length 0 2)]), (4, [.sc (.bool neg)]), (5, [.sc (.int .i64 0)])] (h ++ [⟨.var, wC 0⟩]) = some (if t.all isDig then (.exit 0, [(0, [.sc (.str t)]), (2, [.sc (.ptr h.length 0 2)]), (4, [.sc (.bool neg)]), (5, [.sc (.int .i64 t.length)]), (44, [.sc (.bool false)])], h ++ [⟨.var, wC 0⟩]) else (.ret, [(2, [.sc (.ptr h.length 0 2)]), (3, [.sc (.int .i64 23)])], h ++ [⟨.var, wC 0⟩])) ∧
    (t.all isDig = true → runE F O (.loop [0, 2, 4, 6, 7, 8] M.b75_0) [(0, [.sc (.str t)]), (2, [.sc (.ptr h.length 0 2)]), (4, [.sc (.bool neg)]), (6, [.sc (.int .u64 0)]), (7, [.sc (.int .u64 0)]), (8, [.sc (.int .i64 0)])] (h ++ [⟨.var, wC 0⟩]) = some (if valT t / 18446744073709551616 ≤ 9223372036854775808 then (.exit 2, [(0, [.sc (.str t)]), (2, [.sc (.ptr h.length 0 2)]), (4, [.sc (.bool neg)]), (6, [.sc (.int .u64 (valT t / 18446744073709551616 : Nat))]), (7, [.sc (.int .u64 (valT t % 18446744073709551616 : Nat))]), (8, [.sc (.int .i64 t.length)]), (61, [.sc (.bool false)])], h ++ [⟨.var, wC 0⟩]) else (.ret, [(2, [.sc (.ptr h.length 0 2)]), (3, [.sc (.int .i64 20)])], h ++ [⟨.var, wC 0⟩]))) := by
  refine ⟨loop_run (check_loop (t4 := [.sc (.bool neg)]) hl t.length 0 _ (by omega) rfl rfl rfl rfl), fun hd => ?_⟩
  exact loop_run (sum_loop (t4 := [.sc (.bool neg)]) hd hl t.length 0 _ (by omega) (by rw [List.take_zero]; decide) rfl rfl rfl (by rw [List.take_zero]; rfl) (by rw [List.take_zero]; rfl) rfl)

set_option maxHeartbeats 1000000 in
theorem parse_neg (h : Heap) {s r : List UInt8} {c x : UInt8} (hs : s[0]? = some c) (hc : c.toNat = 45) (ht : s.tail = x :: r) (hx : ¬ x.toNat = 48) (hl : r.length < 9223372036854775807) : call 75 [[.sc (.str s)]] h = some (tailR true (x :: r), h) := by
  have f1 : 0 < s.length := (List.getElem?_eq_some_iff.1 hs).1
  have f2 : 1 ≤ s.length := f1
  have f0 : ∀ hh, s[0]'hh = c := fun hh => by rw [List.getElem?_eq_getElem hh] at hs; injection hs
  have f3 : List.take (s.length - 1) (x :: r) = x :: r := by rw [← ht, ← List.length_tail, List.take_length]
  have f4 : (0 : Int) < s.length := by omega
  have hxI : ¬ (x.toNat : Int) = 48 := by omega
  have hcI : (c.toNat : Int) = 45 := by omega
  obtain ⟨lo1, lo2⟩ := loops h true (t := x :: r) (by simp; omega)
  unfold tailR
  refine callX rfl (by rfl : F 75 = some M.a75) (fun R RO RD RT E => ?_)
  have lo1 := E.run lo1
  by_cases hall : (x :: r).all isDig = true
  · rw [if_pos hall] at lo1
    have lo2 := E.run (lo2 hall)
    rw [if_pos hall]
    by_cases hv : valT (x :: r) / 18446744073709551616 ≤ 9223372036854775808
    · rw [if_pos hv] at lo2
      have s3 := fun h => spec86 h true (u := valT (x :: r) / 18446744073709551616) (l := valT (x :: r) % 18446744073709551616) (by omega) (by omega)
      have e3 : (if true = true then -((valT (x :: r) / 18446744073709551616 * 18446744073709551616 + valT (x :: r) % 18446744073709551616 : Nat) : Int) else ((valT (x :: r) / 18446744073709551616 * 18446744073709551616 + valT (x :: r) % 18446744073709551616 : Nat) : Int)) = sg true (valT (x :: r)) := by
        unfold sg
        have : valT (x :: r) / 18446744073709551616 * 18446744073709551616 + valT (x :: r) % 18446744073709551616 = valT (x :: r) := by omega
        rw [this]
      rw [e3] at s3
      generalize sg true (valT (x :: r)) = res at *
      generalize valT (x :: r) / 18446744073709551616 = v1 at *
      generalize valT (x :: r) % 18446744073709551616 = v2 at *
      clear hall e3 hv
      simp [M.a75, E.eqs, wC_zero, hs, hc, hcI, hx, hxI, f0, f1, f2, f3, f4, ht, lo1, lo2, s3, freshB, loadA, storeA, trim_pure, pureT, pureV, pureS]
      try simp [lo1, lo2, s3, freshB, loadA, storeA, trim_pure, pureT, pureV, pureS]
    · rw [if_neg hv] at lo2
      rw [tail_out hv]
      clear hall hv
      simp [M.a75, E.eqs, wC_zero, hs, hc, hcI, hx, hxI, f0, f1, f2, f3, f4, ht, lo1, lo2, freshB, loadA, storeA, trim_pure, pureT, pureV, pureS]
      try simp [lo1, lo2, freshB, loadA, storeA, trim_pure, pureT, pureV, pureS]
  · rw [if_neg hall] at lo1 ⊢
    clear hall lo2
    simp [M.a75, E.eqs, wC_zero, hs, hc, hcI, hx, hxI, f0, f1, f2, f3, f4, ht, lo1, freshB, loadA, storeA, trim_pure, pureT, pureV, pureS]
    try simp [lo1, freshB, loadA, storeA, trim_pure, pureT, pureV, pureS]
set_option maxHeartbeats 1000000 in
theorem parse_pos (h : Heap) {r : List UInt8} {x : UInt8} (hx : ¬ x.toNat = 45) (hok : ¬ x.toNat = 48) (hl : r.length < 9223372036854775807) : call 75 [[.sc (.str (x :: r))]] h = some (tailR false (x :: r), h) := by
  have g1 : (0 : Int) < (r.length : Int) + 1 := by omega
  have hxI : ¬ (x.toNat : Int) = 45 := by omega
  have hokI : ¬ (x.toNat : Int) = 48 := by omega
  obtain ⟨lo1, lo2⟩ := loops h false (t := x :: r) (by simp; omega)
  unfold tailR
  refine callX rfl (by rfl : F 75 = some M.a75) (fun R RO RD RT E => ?_)
  have lo1 := E.run lo1
  by_cases hall : (x :: r).all isDig = true
  · rw [if_pos hall] at lo1
    have lo2 := E.run (lo2 hall)
    rw [if_pos hall]
    by_cases hv : valT (x :: r) / 18446744073709551616 ≤ 9223372036854775808
    · rw [if_pos hv] at lo2
      have s3 := fun h => spec86 h false (u := valT (x :: r) / 18446744073709551616) (l := valT (x :: r) % 18446744073709551616) (by omega) (by omega)
      have e3 : (if false = true then -((valT (x :: r) / 18446744073709551616 * 18446744073709551616 + valT (x :: r) % 18446744073709551616 : Nat) : Int) else ((valT (x :: r) / 18446744073709551616 * 18446744073709551616 + valT (x :: r) % 18446744073709551616 : Nat) : Int)) = sg false (valT (x :: r)) := by
        unfold sg
        have : valT (x :: r) / 18446744073709551616 * 18446744073709551616 + valT (x :: r) % 18446744073709551616 = valT (x :: r) := by omega
        rw [this]
      rw [e3] at s3
      generalize sg false (valT (x :: r)) = res at *
      generalize valT (x :: r) / 18446744073709551616 = v1 at *
      generalize valT (x :: r) % 18446744073709551616 = v2 at *
      clear hall e3 hv
      simp [M.a75, E.eqs, wC_zero, hx, hok, hxI, hokI, g1, lo1, lo2, s3, freshB, loadA, storeA, trim_pure, pureT, pureV, pureS]
      try simp [lo1, lo2, s3, freshB, loadA, storeA, trim_pure, pureT, pureV, pureS]
    · rw [if_neg hv] at lo2
      rw [tail_out hv]
      clear hall hv
      simp [M.a75, E.eqs, wC_zero, hx, hok, hxI, hokI, g1, lo1, lo2, freshB, loadA, storeA, trim_pure, pureT, pureV, pureS]
      try simp [lo1, lo2, freshB, loadA, storeA, trim_pure, pureT, pureV, pureS]
  · rw [if_neg hall] at lo1 ⊢
    clear hall lo2
    simp [M.a75, E.eqs, wC_zero, hx, hok, hxI, hokI, g1, lo1, freshB, loadA, storeA, trim_pure, pureT, pureV, pureS]
    try simp [lo1, freshB, loadA, storeA, trim_pure, pureT, pureV, pureS]
set_option maxHeartbeats 1000000 in
theorem parse_zero (h : Heap) : call 75 [[.sc (.str [48])]] h = some (tailR false [48], h) := by
  obtain ⟨lo1, lo2⟩ := loops h false (t := [48]) (by decide)
  have hall : [(48 : UInt8)].all isDig = true := by decide
  have hv : valT [48] / 18446744073709551616 ≤ 9223372036854775808 := by decide
  rw [if_pos hall] at lo1
  have lo2 := lo2 hall
  rw [if_pos hv] at lo2
  have v1 : valT [48] / 18446744073709551616 = 0 := by decide
  have v2 : valT [48] % 18446744073709551616 = 0 := by decide
  rw [v1, v2] at lo2
  have z : ((0 : Nat) : Int) = 0 := rfl
  have z1 : (([48] : List UInt8).length : Int) = 1 := rfl
  rw [z, z1] at lo2
  rw [z1] at lo1
  have s3 := fun h => spec86 h false (u := 0) (l := 0) (by omega) (by omega)
  unfold tailR
  rw [if_pos hall]
  have e3 : sg false (valT [48]) = 0 := by decide
  rw [e3]
  simp only [Bool.false_eq_true, if_false, Nat.zero_mul, Nat.add_zero, z] at s3
  refine callX rfl (by rfl : F 75 = some M.a75) (fun R RO RD RT E => ?_)
  have lo1 := E.run lo1
  have lo2 := E.run lo2
  simp [M.a75, E.eqs, wC_zero, lo1, lo2, s3, freshB, loadA, storeA, trim_pure, pureT, pureV, pureS]
theorem parse_nought (h : Heap) {s r : List UInt8} {c : UInt8} (hs : s[0]? = some c) (hc : c.toNat = 45) (ht : s.tail = 48 :: r) : call 75 [[.sc (.str s)]] h = some ([W 0, .sc (.int .i64 23)], h) := by
  have f1 : 0 < s.length := (List.getElem?_eq_some_iff.1 hs).1
  have f2 : 1 ≤ s.length := f1
  have f0 : ∀ hh, s[0]'hh = c := fun hh => by rw [List.getElem?_eq_getElem hh] at hs; injection hs
  have f3 : List.take (s.length - 1) (48 :: r) = 48 :: r := by rw [← ht, ← List.length_tail, List.take_length]
  have f4 : (0 : Int) < s.length := by omega
  have hcI : (c.toNat : Int) = 45 := by omega
  refine callX rfl (by rfl : F 75 = some M.a75) (fun R RO RD RT E => ?_)
  by_cases hr : 0 < r.length
  · have g2 : (1 : Int) < (r.length : Int) + 1 := by omega
    simp [M.a75, E.eqs, wC_zero, hs, hc, hcI, f0, f1, f2, f3, f4, ht, hr, g2, freshB, loadA, storeA, trim_pure, pureT, pureV, pureS]
  · have hr' : r.length = 0 := by omega
    have g2 : ¬ (1 : Int) < (r.length : Int) + 1 := by omega
    simp [M.a75, E.eqs, wC_zero, hs, hc, hcI, f0, f1, f2, f3, f4, ht, hr, hr', g2, freshB, loadA, storeA, trim_pure, pureT, pureV, pureS]
theorem parse_empty (h : Heap) {s : List UInt8} {c : UInt8} (hs : s[0]? = some c) (hc : c.toNat = 45) (ht : s.tail = []) : call 75 [[.sc (.str s)]] h = some ([W 0, .sc (.int .i64 23)], h) := by
  have f1 : 0 < s.length := (List.getElem?_eq_some_iff.1 hs).1
  have f2 : 1 ≤ s.length := f1
  have f0 : ∀ hh, s[0]'hh = c := fun hh => by rw [List.getElem?_eq_getElem hh] at hs; injection hs
  have f3 : List.take (s.length - 1) s.tail = [] := by rw [← List.length_tail, List.take_length, ht]
  have f4 : (0 : Int) < s.length := by omega
  have hcI : (c.toNat : Int) = 45 := by omega
  refine callX rfl (by rfl : F 75 = some M.a75) (fun R RO RD RT E => ?_)
  simp [M.a75, E.eqs, wC_zero, hs, hc, hcI, f0, f1, f2, f3, f4, ht, freshB, loadA, storeA, trim_pure, pureT, pureV, pureS]
theorem parse_ahead (h : Heap) {r : List UInt8} (hr : 0 < r.length) : call 75 [[.sc (.str (48 :: r))]] h = some ([W 0, .sc (.int .i64 23)], h) := by
  have g1 : (0 : Int) < (r.length : Int) + 1 := by omega
  have g2 : (1 : Int) < (r.length : Int) + 1 := by omega
  refine callX rfl (by rfl : F 75 = some M.a75) (fun R RO RD RT E => ?_)
  simp [M.a75, E.eqs, wC_zero, hr, g1, g2, freshB, loadA, storeA, trim_pure, pureT, pureV, pureS]
theorem parse_none (h : Heap) : call 75 [[.sc (.str [])]] h = some ([W 0, .sc (.int .i64 23)], h) := by
  refine callX rfl (by rfl : F 75 = some M.a75) (fun R RO RD RT E => ?_)
  simp [M.a75, E.eqs, wC_zero, freshB, loadA, storeA, trim_pure, pureT, pureV, pureS]

theorem spec75 (h : Heap) {s : List UInt8} (hs : s.length < 9223372036854775808) : call 75 [[.sc (.str s)]] h = some (parseR s, h) := by
  match s, hs with
  | [], _ => rw [parse_nil]; exact parse_none h
  | c :: r, hs =>
    simp only [List.length_cons] at hs
    by_cases h45 : c = 45
    · subst h45
      obtain ⟨b1, b2⟩ := bare_neg r
      match r, hs with
      | [], _ =>
        rw [parse_bad (.inl (by rw [b1]; exact fun h => h.1 rfl))]
        exact parse_empty h (c := 45) rfl rfl rfl
      | x :: r, hs =>
        simp only [List.length_cons] at hs
        by_cases h48 : x = 48
        · subst h48
          have hbad : ¬ noNought (bareT (45 :: 48 :: r)) ∨ (negT (45 :: 48 :: r) = true ∧ bareT (45 :: 48 :: r) = [48]) := by
            rw [b1, b2]
            by_cases hr0 : r = []
            · right; rw [hr0]; exact ⟨rfl, rfl⟩
            · left
              intro h
              have := h.2 rfl
              simp at this
              exact hr0 this
          rw [parse_bad hbad]
          exact parse_nought h (c := 45) (r := r) rfl rfl rfl
        · rw [parse_tail (by rw [b1]; exact ⟨by simp, fun h => by simp at h; exact absurd h h48⟩) (by rw [b1]; rintro ⟨_, e⟩; simp at e; exact h48 e.1), b1, b2]
          exact parse_neg h (c := 45) rfl rfl rfl (neq_nat h48) (by omega)
    · obtain ⟨b1, b2⟩ := bare_pos r h45
      by_cases h48 : c = 48
      · subst h48
        by_cases hr0 : r = []
        · subst hr0
          rw [parse_tail (by rw [b1]; exact ⟨by simp, fun _ => rfl⟩) (by rw [b2]; rintro ⟨e, _⟩; contradiction), b1, b2]
          exact parse_zero h
        · rw [parse_bad (.inl (by
            rw [b1]
            intro h
            have := h.2 rfl
            simp at this
            exact hr0 this))]
          exact parse_ahead h (List.length_pos_iff.2 hr0)
      · rw [parse_tail (by rw [b1]; exact ⟨by simp, fun h => by simp at h; exact absurd h h48⟩) (by rw [b2]; rintro ⟨e, _⟩; contradiction), b1, b2]
        exact parse_pos h (neq_nat h45) (neq_nat h48) (by omega)
end Go.Proofs.Ytdodhmidhcpnnaa
